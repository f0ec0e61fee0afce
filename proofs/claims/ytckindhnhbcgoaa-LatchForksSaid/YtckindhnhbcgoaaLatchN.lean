/- Rows appended to a new slice; and the law LatchForks. -/
import Derived.Test.YtckindhnhbcgoaaLatchL
import Derived.Test.YtckindhnhbcgoaaLatchM
import Derived.Test.YtckindhnhbcgoaaApp
namespace Go.Proofs.Ytckindhnhbcgoaa
open Go.RowKit
namespace La
open Sm
/-- All cells of n rows, in order. -/
def flat (n : Nat) (X : Nat → Nat → Int) (Y : Nat → Nat → Bool) : List Value := (List.range (n * 16)).map fun p => ((rcells (X (p / 16)) (Y (p / 16)))[p % 16]?).getD undef
theorem flat_len (n : Nat) (X : Nat → Nat → Int) (Y : Nat → Nat → Bool) : (flat n X Y).length = n * 16 := by simp [flat]
theorem arr_get (a : Array Value) (j : Nat) (h : j < a.size) : some ((a[j]?).getD undef) = a.toList[j]? := by
  rw [Array.getElem?_toList, Array.getElem?_eq_getElem h]; rfl
theorem flat_get (n : Nat) (X : Nat → Nat → Int) (Y : Nat → Nat → Bool) (i j : Nat) (hi : i < n) (hj : j < 16) : (flat n X Y)[i * 16 + j]? = (rcells (X i) (Y i)).toList[j]? := by
  unfold flat
  rw [List.getElem?_map, List.getElem?_range (by omega)]
  simp only [Option.map_some]
  rw [show (i * 16 + j) / 16 = i from by omega, show (i * 16 + j) % 16 = j from by omega]
  exact arr_get _ j hj
theorem one_of (x : Nat → Int) (y : Nat → Bool) (j : Nat) (u : Value) (h : (rcells x y).toList[j]? = some u) : u.oneCell' = true := by
  have := Array.all_eq_true_iff_forall_mem.1 (rc_one x y) u (by simpa using List.mem_of_getElem? h)
  exact this
theorem flat_one (n : Nat) (X : Nat → Nat → Int) (Y : Nat → Nat → Bool) : ∀ u ∈ flat n X Y, u.oneCell' = true := fun u hu => by
  obtain ⟨p, hp⟩ := List.mem_iff_getElem?.1 hu
  have hlt : p < n * 16 := by
    have := (List.getElem?_eq_some_iff.1 hp).1
    rwa [flat_len] at this
  have := flat_get n X Y (p / 16) (p % 16) (by omega) (by omega)
  rw [show p / 16 * 16 + p % 16 = p from by omega, hp] at this
  exact one_of _ _ _ _ this.symm
theorem rows_reads {w : World} {g n : Nat} {X : Nat → Nat → Int} {Y : Nat → Nat → Bool} (h : Rows w g n X Y) : Reads w w.heap.size 16 (some ⟨g, 0, none⟩) n (flat n X Y) := by
  refine ⟨flat_len n X Y, fun _ => ⟨⟨g, 0, none⟩, rfl, h.lt, fun p u hu => ?_⟩⟩
  have hlt : p < n * 16 := by
    have := (List.getElem?_eq_some_iff.1 hu).1
    rwa [flat_len] at this
  have h1 := flat_get n X Y (p / 16) (p % 16) (by omega) (by omega)
  rw [show p / 16 * 16 + p % 16 = p from by omega, hu] at h1
  have h2 := h.at_ (p / 16) (by omega) (p % 16) u h1.symm
  rw [show p / 16 * 16 + p % 16 = p from by omega] at h2
  have : (⟨g, 0, none⟩ : Addr).add p = ⟨g, p, none⟩ := by unfold Addr.add; split <;> simp_all
  rw [this]
  exact h2
theorem own_rows {w : World} {base n : Nat} {v : Value} {X : Nat → Nat → Int} {Y : Nat → Nat → Bool} (h : w.ownsRow base 46 16 v n (flat n X Y)) (hv : ∃ g, v.ownBlock = some g) :
    ∃ g c, v = .slice (some ⟨g, 0, none⟩) n c ∧ base ≤ g ∧ Rows w g n X Y := by
  rcases h.2 with ⟨rfl, _⟩ | ⟨g, cap, cur, rfl, hb, hg, _⟩
  · obtain ⟨g, hg⟩ := hv; cases hg
  · refine ⟨g, cap, rfl, hb, fun i hi j u hu => ?_, fun i hi j hj => h.frozenAt _, ?_⟩
    · have hj : j < 16 := (List.getElem?_eq_some_iff.1 hu).1
      rw [h.cellAt (i * 16 + j) (by omega), flat_get n X Y i j hi hj, hu]
    · rcases Nat.lt_or_ge g w.heap.size with h1 | h1
      · exact h1
      · rw [Array.getElem?_eq_none h1] at hg; cases hg
attribute [local irreducible] Both Bd
/-- The deed that stands at place k. -/
theorem deed_at {w wr : World} {a : Option Addr} {len cap : Nat} {R : Nat → Nat → Value} (hR : Recs w a len cap deedK R) (hk : Keeps [] w wr) (k : Nat) (h : k < len) :
    ∃ b off d p x, a = some ⟨b, off, none⟩ ∧ wr.cell? ⟨b, off + k * 3, none⟩ = some (.int .i64 d) ∧ wr.cell? ⟨b, off + k * 3 + 1, none⟩ = some (.int .i64 p) ∧ wr.cell? ⟨b, off + k * 3 + 2, none⟩ = some (.int .i64 x) := by
  obtain ⟨b, off, rfl, hbl, hcells⟩ := hR.at_ (by omega) (by decide)
  obtain ⟨hc0, d, hd, _⟩ := hcells k h 0 _ rfl
  obtain ⟨hc1, p, hp, _⟩ := hcells k h 1 _ rfl
  obtain ⟨hc2, x, hx, _⟩ := hcells k h 2 _ rfl
  rw [hd] at hc0
  rw [hp] at hc1
  rw [hx] at hc2
  exact ⟨b, off, d, p, x, rfl, (hk.cell (p := ⟨b, off + (k * 3 + 0), none⟩) hbl (by simp)).trans hc0, (hk.cell (p := ⟨b, off + (k * 3 + 1), none⟩) hbl (by simp)).trans hc1, (hk.cell (p := ⟨b, off + (k * 3 + 2), none⟩) hbl (by simp)).trans hc2⟩
theorem row_parts : ∃ i, Try.prog.info? 46 = some i ∧ i.zero = some (.agg zrow) ∧ i.size = 16 ∧ i.bytes = 72 := info_parts row_all
theorem both_fork {w wr : World} {gb gr n : Nat} {m : Int} (h : Both w gb gr n m wr) : ∃ L D X Y, Bd wr gb L D n ∧ Rows wr gr n X Y ∧ Sync n m L D X Y ∧ Keeps [] w wr := by
  unfold Both at h; exact h
theorem both_mk {w wr : World} {gb gr n : Nat} {m : Int} {L D : Nat → Int} {X : Nat → Nat → Int} {Y : Nat → Nat → Bool} (h1 : Bd wr gb L D n) (h2 : Rows wr gr n X Y) (h3 : Sync n m L D X Y) (h4 : Keeps [] w wr) : Both w gb gr n m wr := by
  unfold Both; exact ⟨L, D, X, Y, h1, h2, h3, h4⟩
theorem bd_keeps {w w' : World} {S : List Nat} {g : Nat} {L D : Nat → Int} {n : Int} (h : Bd w g L D n) (hk : Keeps S w w') (hg : g ∉ S) : Bd w' g L D n := Bd.keeps h hk hg
theorem Both.more {w wr wx : World} {gb gr n : Nat} {m : Int} (h : Both w gb gr n m wr) (hk : Keeps [] wr wx) : Both w gb gr n m wx := by
  obtain ⟨L, D, X, Y, h1, h2, h3, h4⟩ := both_fork h
  exact both_mk (bd_keeps h1 hk (by simp)) (h2.keeps hk (by simp)) h3 (h4.trans hk)
theorem bd_lt {w : World} {g : Nat} {L D : Nat → Int} {n : Int} (h : Bd w g L D n) : g < w.heap.size := Bd.lt h
set_option maxRecDepth 100000 in
set_option maxHeartbeats 4000000 in
theorem forks_law (o : Int) (a : Option Addr) (len cap : Nat) (R : Nat → Nat → Value) (a2 : Option Addr) (len2 cap2 : Nat) (R2 : Nat → Nat → Value) (w : World) (_ : (Lit.int .i64 o).wf = true) (hR : Recs w a len cap deedK R) (hR2 : Recs w a2 len2 cap2 deedK R2) :
    Calls Try.prog 5 #[.int .i64 o, .slice a len cap, .slice a2 len2 cap2] w fun e w' => e = .returned (.bool true) ∧ Below w.heap.size w w' := by
  obtain ⟨hlen, hcap⟩ := hR.len
  obtain ⟨hlen2, hcap2⟩ := hR2.len
  have HR := Lib.hid hR
  have HR2 := Lib.hid hR2
  clear hR hR2
  obtain ⟨n, hl, hn, hc⟩ := lim_nat o
  have HN := Lib.hid (fun V => new_any o V)
  rw [hl] at HN
  clear hl
  rcases hc with ⟨ho, hn0⟩ | ⟨ho, hn0⟩ | rfl
  case' inl => have hmk := fun V => mk_any 0 n (by omega) hn V
  case' inl => clear hn0
  case' inr.inl => have hmk := fun V => mk_any 8 n (by omega) hn V
  case' inr.inl => clear hn0
  case' inr.inr => have hmk := fun V => mk_any n n rfl hn V
  all_goals
    go_enter Try.func5, Try.ntmps5
    go_wp2_with fail
    refine (HN.out _).mono ?_
    clear HN
    rintro e w1 ⟨rfl, hA, hK⟩
    obtain ⟨hb, hlt⟩ := start_both w w1 n hA hK
    clear hA hK
    generalize hgb : w.heap.size = gb at *
    have HGB := Lib.hid hgb
    have hs0 : w.heap.size ≤ gb := by rw [hgb]; exact Nat.le_refl _
    clear hgb
    go_wp2_with fail
    clear hmk
    generalize hgr : w1.heap.size = gr at *
    have hs1 : w.heap.size ≤ gr := by omega
    clear hgr
    have hne : gb ≠ gr := by omega
    clear hlt
    generalize w1.alloc (.cells (madeCells zrow (n * 16)) 46) = w2 at *
    go_loopw [9] (fun i wr => ∃ k : Nat, k ≤ len ∧ k ≤ 60 ∧ i = .int .i64 k ∧ Both w gb gr n ((k : Int)) wr) (fun i _ => 60 - (intOf i).toNat)
    case atStart => exact ⟨0, by omega, by omega, rfl, hb⟩
    case round =>
      clear hb
      obtain ⟨k, hkl, hk60, rfl, hb⟩ := hrel
      by_cases hlt : k < len ∧ k < 60
      · obtain ⟨hkl', hk60'⟩ := hlt
        obtain ⟨b, off, d, p, x, rfl, g0, g1, g2⟩ := deed_at HR.out hb.keep k hkl'
        clear HR HR2
        have HC := Lib.hid (hb.step (c := n) d p x hn hne ⟨hs0, hs1⟩ (by omega) (by omega))
        clear hb
        go_wp2_with fail
        refine HC.out.mono ?_
        clear HC g0 g1 g2
        rintro e v1 ⟨rfl, hb1⟩
        go_wp2
        go_roundw
        case rel => exact ⟨k + 1, by omega, by omega, by go_num, by rw [show (((k + 1 : Nat)) : Int) = (k : Int) + 1 from by omega]; exact hb1⟩
        case measure => simp [intOf]; omega
      · have hlt' : len ≤ k ∨ 60 ≤ k := by omega
        clear hlt HR
        obtain ⟨L, D, X, Y, hA, hR, hS, hK⟩ := both_fork hb
        clear hb
        have hz : w.heap.size ≤ wr.heap.size := hK.size
        have hgb := bd_lt hA
        have hgr := hR.lt
        have HF := Lib.hid (fork_any gb n L D wr hA)
        obtain ⟨i0, hi0, hz0, hz1, hz2⟩ := row_parts
        have HI := Lib.hid (And.intro hi0 (And.intro hz0 (And.intro hz1 hz2)))
        clear hi0 hz0 hz1 hz2
        have HA := Lib.hid hA
        have HRR := Lib.hid hR
        have HS := Lib.hid hS
        have HK := Lib.hid hK
        clear hA hR hS hK
        by_cases hc : k < len
        all_goals
          go_wp2_with fail
          refine HF.out.mono ?_
          clear HF
          rintro e v1 ⟨rfl, hF, j1⟩
          have hlt1 : wr.heap.size < v1.heap.size := bd_lt hF
          have hrd := rows_reads ((HRR.out.keeps j1 (by simp)).alloc (.cells #[] 46))
          have hown := World.ownsRow_lit (base := v1.heap.size) (size := 16) (e := 46) v1 #[] 0 (Nat.le_refl _) (by decide) rfl
          have HJ := Lib.hid j1
          have HFF := Lib.hid hF
          clear j1 hF
          go_wp2_with (at_builtin; refine wpList_append_any _ rfl (.tmp 41) (.tmp 42) _ rfl v1.heap.size 46 i0 _ 16 72 Try.underlying25 HI.out.1 HI.out.2.1 HI.out.2.2.1 HI.out.2.2.2 rfl (by decide) (.slice (some ⟨v1.heap.size, 0, none⟩) 0 0) 0 _ rfl hown _ (some ⟨gr, 0, none⟩) n n (flat n X Y) rfl hrd (flat_one n X Y) (by simp only [maxLen]; omega) (by omega) (by simp) ?_; intro vo w3 hown3 hgrow3 hblk3; rw [Nat.zero_add, List.nil_append] at hown3; obtain ⟨g3, c3, rfl, hg3, hRo⟩ := own_rows hown3 (hblk3.elim (fun h => ⟨_, h⟩) (fun h => ⟨_, h⟩)))
          have HK3 : Hid (Keeps [] wr w3) := Lib.hid ((HJ.out.alloc (.cells #[] 46)).grown hgrow3 (fun b hb => .inr (by have hb' : some v1.heap.size = some b := hb; injection hb' with hb'; omega)))
          have HK4 : Hid (Keeps [] v1 w3) := Lib.hid (((Keeps.refl [] v1).alloc (.cells #[] 46)).grown hgrow3 (fun b hb => .inr (by have hb' : some v1.heap.size = some b := hb; injection hb' with hb'; omega)))
          have hb := both_mk (bd_keeps HFF.out HK4.out (by simp)) hRo HS.out HK3.out
          generalize hgf : wr.heap.size = gf at *
          have hgf' : wr.heap.size ≤ gf := by omega
          have hg3' : wr.heap.size ≤ g3 := by omega
          have hne2 : gf ≠ g3 := by omega
          clear hgf hgrow3 hblk3 hown3 hrd hown hRo hlt1 hg3 HI HJ HFF HK3 HK4 hc hlt'
          go_loopw [12] (fun i wx => ∃ k2 : Nat, k2 ≤ len2 ∧ k2 ≤ 60 ∧ i = .int .i64 k2 ∧ Both wr gf g3 n ((k : Int) + (k2 : Int)) wx) (fun i _ => 60 - (intOf i).toNat)
          case atStart => exact ⟨0, by omega, by omega, rfl, by rw [show (k : Int) + ((0 : Nat) : Int) = (k : Int) from by omega]; exact hb⟩
          case round =>
            rename_i wx
            clear hb
            obtain ⟨k2, hkl2, hk602, rfl, hb⟩ := hrel
            by_cases hlt : k2 < len2 ∧ k2 < 60
            · obtain ⟨hkl2', hk602'⟩ := hlt
              obtain ⟨b, off, d, p, x, rfl, g0, g1, g2⟩ := deed_at HR2.out (HK.out.trans hb.keep) k2 hkl2'
              clear HR2
              have HC := Lib.hid (hb.step (c := c3) d p x hn hne2 ⟨hgf', hg3'⟩ (by omega) (by omega))
              clear hb
              go_wp2_with fail
              refine HC.out.mono ?_
              clear HC g0 g1 g2
              rintro e v2 ⟨rfl, hb1⟩
              go_wp2
              go_roundw
              case rel => exact ⟨k2 + 1, by omega, by omega, by go_num, by rw [show (k : Int) + (((k2 + 1 : Nat)) : Int) = (k : Int) + (k2 : Int) + 1 from by omega]; exact hb1⟩
              case measure => simp [intOf]; omega
            · have hlt2 : len2 ≤ k2 ∨ 60 ≤ k2 := by omega
              clear hlt HR2
              by_cases hc2 : k2 < len2
              all_goals
                go_wp2_with fail
                refine (live_any _).mono ?_
                rintro e v2 ⟨rfl, j2⟩
                have hk2 := (hb.keep).trans j2
                have HT := Lib.hid (told_any gb gr n n (k : Int) L D X Y v2 (bd_keeps HA.out hk2 (by simp)) (HRR.out.keeps hk2 (by simp)) HS.out hn)
                have hb2 := hb.more j2
                clear hb j2 hk2
                go_wp2_with fail
                refine HT.out.mono ?_
                clear HT
                rintro e v3 ⟨rfl, j3⟩
                have HT := Lib.hid ((hb2.more (Keeps.of_below j3 [])).told (c := c3) hn)
                clear hb2 j3
                go_wp2_with fail
                refine HT.out.mono ?_
                clear HT
                rintro e v4 ⟨rfl, hb4⟩
                have HKK := Lib.hid (HK.out.trans hb4.keep)
                clear hb4
                go_wp2_with fail
                refine (raise_nil _ _ _).mono ?_
                rintro e v5 ⟨rfl, rfl⟩
                go_wp2_with fail
                refine (open_nil _ _).mono ?_
                rintro e v5 ⟨rfl, rfl⟩
                go_wp2_with fail
                refine (take_nil _ _).mono ?_
                rintro e v5 ⟨rfl, rfl⟩
                go_wp2_with fail
                refine (latched_nil _ _).mono ?_
                rintro e v5 ⟨rfl, rfl⟩
                go_wp2_with fail
                refine (delivered_nil _ _).mono ?_
                rintro e v5 ⟨rfl, rfl⟩
                go_wp2_with fail
                refine (fork_nil _).mono ?_
                rintro e v5 ⟨rfl, rfl⟩
                go_wp2
                go_ret
                exact ⟨rfl, HKK.out.all⟩
end La
end Go.Proofs.Ytckindhnhbcgoaa
