/- The document's Print: its walk. -/
import Derived.Test.YtjdhkpafbejodaaImQ
namespace Go.Proofs.Ytjdhkpafbejodaa
open Go.RowKit
namespace Im
open Sm Bi
theorem zip_w {sh : List Nat} (hs : ∀ x ∈ sh, x = 1 ∨ x = 2) (r : List Int) : ∀ p ∈ rowN sh r, p.2 = 1 ∨ p.2 = 2 := fun p hp => hs p.2 (List.of_mem_zip (a := p.1) (b := p.2) hp).2
theorem rows_w {sh : List Nat} (hs : ∀ x ∈ sh, x = 1 ∨ x = 2) (l : List (List Int)) : ∀ p ∈ rowsN sh l, p.2 = 1 ∨ p.2 = 2 := by
  intro p hp
  obtain ⟨r, _, hr⟩ := List.mem_flatMap.1 hp
  exact zip_w hs r p hr
theorem nums_w (c : Cfg) : ∀ p ∈ nums c, p.2 = 1 ∨ p.2 = 2 := by
  have h1 : ∀ x ∈ wsh, x = 1 ∨ x = 2 := by simp [wsh]
  have h2 : ∀ x ∈ csh, x = 1 ∨ x = 2 := by simp [csh]
  intro p hp
  unfold nums at hp
  simp only [List.mem_append, List.mem_cons, List.not_mem_nil, or_false] at hp
  rcases hp with ((((h | h) | h) | h) | h) | h
  · rcases h with rfl | rfl | rfl | rfl <;> simp
  · exact rows_w h1 _ p h
  · subst h; simp
  · exact rows_w h1 _ p h
  · subst h; simp
  · exact rows_w h2 _ p h
theorem take_nx {l : List Nm} {k : Nat} {x : Nm} (h : l[k]? = some x) : l.take (k + 1) = l.take k ++ [x] := by
  obtain ⟨l1, e1⟩ := List.getElem?_eq_some_iff.1 h
  rw [List.take_succ_eq_append_getElem l1, e1]
/-- What Print has so far. -/
def Pre (l : List Nm) (k : Nat) (r : ByteArray) : Prop := r.data.toList = encN (l.take k) ∧ (l.take k).all okN = true
theorem pre_0 (l : List Nm) : Pre l 0 ⟨#[]⟩ := ⟨by simp [encN], by simp⟩
theorem Pre.size {l : List Nm} {k : Nat} {r : ByteArray} (h : Pre l k r) : r.size ≤ 2 * k := by
  have h1 := size_of r _ h.1
  have h2 : (encN (l.take k)).length ≤ 2 * (l.take k).length := enc_bound _
  rw [List.length_take] at h2
  omega
theorem Pre.next {l : List Nm} {k : Nat} {r t : ByteArray} {x : Nm} (h : Pre l k r) (hx : l[k]? = some x) (ho : okN x = true) (ht : t.data.toList = bytesN x) : Pre l (k + 1) (r ++ t) := by
  refine ⟨?_, ?_⟩
  · rw [take_nx hx, encN_app, ← h.1, show encN [x] = bytesN x by simp [encN], ← ht]
    simp
  · rw [take_nx hx, List.all_append, h.2]
    simpa using ho
theorem all_bad {l : List Nm} {k : Nat} {x : Nm} (hx : l[k]? = some x) (ho : okN x = false) : ¬ l.all okN = true := by
  intro h
  have := List.all_eq_true.1 h x (List.mem_of_getElem? hx)
  rw [ho] at this
  cases this
theorem put_t1 {r : ByteArray} {x : Int} (h : r.data.toList = putL x) : (r.extract 0 1).data.toList = bytesN (x, 1) := by
  unfold bytesN
  rw [← h]; simp
theorem put_t2 {r : ByteArray} {x : Int} (h : r.data.toList = putL x) : (r.extract 0 2).data.toList = bytesN (x, 2) := by
  unfold bytesN
  rw [← h]; simp
theorem put_sz {r : ByteArray} {x : Int} (h : r.data.toList = putL x) : r.size = 2 := size_of r _ h
theorem ex_sz {r : ByteArray} {x : Int} (h : r.data.toList = putL x) : (r.extract 0 1).size = 1 ∧ (r.extract 0 2).size = 2 := by
  have := put_sz h
  simp
  omega
/-- How a number is bad. -/
theorem bad_of {x : Int} {y : Nat} (h : x < 0 ∨ (y = 1 ∧ 255 < x) ∨ 65535 < x) : okN (x, y) = false := by
  unfold okN
  rw [decide_eq_false_iff_not]
  simp only
  split <;> omega
theorem good_of {x : Int} {y : Nat} (hy : y = 1 ∨ y = 2) (h0 : ¬ x < 0) (h1 : y = 1 → x ≤ 255) (h2 : x ≤ 65535) : okN (x, y) = true := by
  unfold okN
  rw [decide_eq_true_eq]
  simp only
  rcases hy with rfl | rfl
  · simp; exact ⟨by omega, h1 rfl⟩
  · simp; omega
theorem rput_sz (x : Int) (V : World) : Calls Try.prog 32 #[.int .i64 x] V fun e V' => ∃ r : ByteArray, e = .returned (.string r) ∧ r.size = 2 ∧ (r.extract 0 1).size = 1 ∧ (r.extract 0 2).size = 2 ∧ r.data.toList = putL x ∧ Below V.heap.size V V' := by
  refine (rput_any x V).mono ?_
  rintro e V' ⟨r, rfl, h1, h2⟩
  exact ⟨r, rfl, put_sz h1, (ex_sz h1).1, (ex_sz h1).2, h1, h2⟩
theorem all_take {c : Cfg} {n : Nat} {r : ByteArray} (h : Pre (nums c) n r) (hn : (nums c).length = n) : r.data.toList = encN (nums c) ∧ (nums c).all okN = true := by
  unfold Pre at h
  rw [List.take_of_length_le (by omega)] at h
  exact h
attribute [local irreducible] nums NmR Pre okN
set_option maxRecDepth 100000 in
set_option maxHeartbeats 4000000 in
theorem rprint_any (c : Cfg) (a1 : Option Addr) (c1 : Nat) (a2 : Option Addr) (c2 : Nat) (a3 : Option Addr) (c3 : Nat) (W : World) (hr : CfR W c a1 a2 a3) (h1 : c.ws.length ≤ 255) (h2 : c.ss.length ≤ 255) (h3 : c.cs.length ≤ 255) (hN : (nums c).length ≤ 4100) :
    Calls Try.prog 12 #[cv c a1 c1 a2 c2 a3 c3] W (IsPr (pOut c) (pErr c) W) := by
  have hB0 := (Below.refl W.heap.size W).alloc (Nat.le_refl _) (.cells #[.int .i64 c.fr, .slice a1 c.ws.length c1, .slice a2 c.ss.length c2, .slice a3 c.cs.length c3] 28)
  have HC := Lib.hid (nums_any c a1 c1 a2 c2 a3 c3 _ (hr.keep hB0) h1 h2 h3 hN)
  have HB := Lib.hid hB0
  have HNN := Lib.hid hN
  have g1 : ¬ (255 : Int) < (c.ws.length : Int) := by omega
  have g2 : ¬ (255 : Int) < (c.ss.length : Int) := by omega
  have g3 : ¬ (255 : Int) < (c.cs.length : Int) := by omega
  unfold cv at HC ⊢
  clear hr hB0 h1 h2 h3 hN
  generalize c.ws.length = n1 at *
  generalize c.ss.length = n2 at *
  generalize c.cs.length = n3 at *
  generalize c.fr = fr at *
  go_enter Try.func12, Try.ntmps12
  go_wp2_with fail
  generalize W.alloc _ = w1 at *
  refine HC.out.mono ?_
  clear HC
  rintro e V2 ⟨n, a, cc, rfl, hln, hown, hkp⟩
  have HR := Lib.hid (nmR_of hown hln)
  have HK := Lib.hid (HB.out.trans (hkp.all.mono HB.out.size))
  have HL := Lib.hid hln
  have hn1900 : n ≤ 4100 := by have := HNN.out; omega
  clear hln hown hkp HNN HB
  go_wp2_with fail
  go_loopw [5, 6] (fun o i wr => ∃ (k : Nat) (r : ByteArray), k ≤ n ∧ i = .int .i64 k ∧ o = .string r ∧ Pre (nums c) k r ∧ Below V2.heap.size V2 wr) (fun _ i _ => n - (intOf i).toNat)
  case atStart => exact ⟨0, _, by omega, rfl, rfl, pre_0 _, Below.refl _ _⟩
  case round =>
    obtain ⟨k, r, hk, rfl, rfl, hp, hb⟩ := hrel
    have HP := Lib.hid hp
    have HBB := Lib.hid hb
    have hrs := hp.size
    by_cases hlt : k < n
    · have hat := (HR.out.keep hb).at_ hlt
      obtain ⟨g, x, y, rfl, hg, hx, p0, p1⟩ := hat
      have hy := nums_w c (x, y) (List.mem_of_getElem? hx)
      have HX := Lib.hid hx
      have hki0 : (0 : Int) ≤ (k : Int) := by omega
      have hki1 : (k : Int) < (n : Int) := by omega
      clear hx hp hb
      by_cases e0 : x < 0
      · have HO := Lib.hid (p_bad (all_bad HX.out (bad_of (.inl e0))))
        clear hy
        go_wp2
        go_ret2
        exact ⟨⟨#[]⟩, by rw [HO.out.2]; rfl, by rw [HO.out.1], HK.out.trans (HBB.out.mono HK.out.size)⟩
      · rcases hy with hy | hy
        · simp only at hy
          subst hy
          by_cases e1 : 255 < x
          · have HO := Lib.hid (p_bad (all_bad HX.out (bad_of (.inr (.inl ⟨rfl, e1⟩)))))
            go_wp2
            go_ret2
            exact ⟨⟨#[]⟩, by rw [HO.out.2]; rfl, by rw [HO.out.1], HK.out.trans (HBB.out.mono HK.out.size)⟩
          · have e2 : ¬ 65535 < x := by omega
            have HG := Lib.hid (good_of (x := x) (y := 1) (.inl rfl) e0 (fun _ => by omega) (by omega))
            have HQ := Lib.hid (rput_sz x wr)
            go_wp2_with fail
            refine HQ.out.mono ?_
            clear HQ
            rintro e w3 ⟨t, rfl, hsz, hz1, hz2, ht, hb3⟩
            have HN := Lib.hid (HP.out.next HX.out HG.out (put_t1 ht))
            have HB3 := Lib.hid (HBB.out.trans (hb3.mono HBB.out.size))
            have p1' : w3.cell? ⟨g, k * 2 + 1, none⟩ = some (.int .i64 1) := (hb3.cell (p := ⟨g, k * 2 + 1, none⟩) hg).trans p1
            have hsum : r.size + (t.extract 0 1).size ≤ 9223372036854775807 := by omega
            clear p0 p1 hb3 ht HG
            go_wp2
            go_roundw
            case rel => exact ⟨k + 1, _, by omega, by go_num, rfl, HN.out, HB3.out⟩
            case measure => simp [intOf]; omega
        · simp only at hy
          subst hy
          by_cases e1 : 65535 < x
          · have HO := Lib.hid (p_bad (all_bad HX.out (bad_of (.inr (.inr e1)))))
            go_wp2
            go_ret2
            exact ⟨⟨#[]⟩, by rw [HO.out.2]; rfl, by rw [HO.out.1], HK.out.trans (HBB.out.mono HK.out.size)⟩
          · have HG := Lib.hid (good_of (x := x) (y := 2) (.inr rfl) e0 (fun h => by cases h) (by omega))
            have HQ := Lib.hid (rput_sz x wr)
            go_wp2_with fail
            refine HQ.out.mono ?_
            clear HQ
            rintro e w3 ⟨t, rfl, hsz, hz1, hz2, ht, hb3⟩
            have HN := Lib.hid (HP.out.next HX.out HG.out (put_t2 ht))
            have HB3 := Lib.hid (HBB.out.trans (hb3.mono HBB.out.size))
            have p1' : w3.cell? ⟨g, k * 2 + 1, none⟩ = some (.int .i64 2) := (hb3.cell (p := ⟨g, k * 2 + 1, none⟩) hg).trans p1
            have hsum : r.size + (t.extract 0 2).size ≤ 9223372036854775807 := by omega
            clear p0 p1 hb3 ht HG
            go_wp2
            go_roundw
            case rel => exact ⟨k + 1, _, by omega, by go_num, rfl, HN.out, HB3.out⟩
            case measure => simp [intOf]; omega
    · obtain rfl : n = k := by omega
      have hal := all_take hp HL.out
      have HO := Lib.hid (p_ok hal.2)
      have HS := Lib.hid (Cw.rseal_any r wr (by omega))
      rw [hal.1] at HS
      clear hp hal
      go_wp2_with fail
      refine HS.out.mono ?_
      clear HS
      rintro e w9 ⟨q, rfl, hq, hb9⟩
      have HQ9 := Lib.hid (And.intro hq hb9)
      clear hq hb9
      go_wp2
      go_ret2
      exact ⟨q, by rw [HO.out.2]; rfl, by rw [HO.out.1]; exact HQ9.out.1, (HK.out.trans (HBB.out.mono HK.out.size)).trans (HQ9.out.2.mono (Nat.le_trans HK.out.size HBB.out.size))⟩
end Im
end Go.Proofs.Ytjdhkpafbejodaa
