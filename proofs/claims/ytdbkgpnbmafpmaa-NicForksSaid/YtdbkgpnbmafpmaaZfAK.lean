/- The law NicApart. -/
import Derived.Test.YtdbkgpnbmafpmaaZfAJ
import Derived.Deep.Strs
namespace Go.Proofs.Ytdbkgpnbmafpmaa
open Go.RowKit Go.Maps
namespace Nc
open Sm Fr
open PlainAid (bt)
/-- A slice of strings: nil; or a row. -/
def Strs (w : World) (a : Option Addr) (len cap : Nat) (Sx : Nat → ByteArray) : Prop :=
  (a = none ∧ len = 0 ∧ cap = 0) ∨ ∃ x, a = some x ∧ len ≤ cap ∧ cap ≤ maxLen ∧ ∀ i, i < len → w.cell? (x.add i) = some (.string (Sx i)) ∧ (Sx i).size ≤ maxLen
theorem Strs.at_ {w : World} {a : Option Addr} {len cap : Nat} {Sx : Nat → ByteArray} (h : Strs w a len cap Sx) (h0 : 0 < len) :
    ∃ b off, a = some ⟨b, off, none⟩ ∧ b < w.heap.size ∧ ∀ i, i < len → w.cell? ⟨b, off + i, none⟩ = some (.string (Sx i)) ∧ (Sx i).size ≤ maxLen := by
  rcases h with ⟨_, rfl, _⟩ | ⟨x, rfl, _, _, hc⟩
  · omega
  · obtain ⟨b, off, spot⟩ := x
    have hc0 := (hc 0 h0).1
    have hspot : spot = none := by simpa [Addr.add] using World.cell?_spot hc0
    subst hspot
    have hadd : ∀ n, (⟨b, off, none⟩ : Addr).add n = ⟨b, off + n, none⟩ := fun n => by unfold Addr.add; split <;> simp_all
    rw [hadd] at hc0
    exact ⟨b, off, rfl, cell_lt hc0, fun i hi => by have := hc i hi; rwa [hadd] at this⟩
/-- What the rounds of texts keep. -/
def ARel (w0 : World) (xs : List Pr) (k li : Int) (d m d2 m2 n : Nat) (i : Value) (wr : World) : Prop :=
  ∃ (j : Nat) (ws : List FiF.It) (dr : Int), j ≤ 30 ∧ j ≤ n ∧ i = .int .i64 j ∧ PInv w0 wr xs k (2 * j) li d m ws dr d2 m2 ws dr
/-- What the rounds of takes keep. -/
def TRel (w0 : World) (xs : List Pr) (k li : Int) (d m d2 m2 : Nat) (i : Value) (wr : World) : Prop :=
  ∃ (j : Int) (ws : List FiF.It) (dr : Int) (n : Nat), i = .int .i64 (n : Int) ∧ ws.length = n ∧ PInv w0 wr xs k j li d m ws dr d2 m2 ws dr
attribute [local irreducible] Two prs PInv
set_option maxRecDepth 100000 in
set_option maxHeartbeats 4000000 in
theorem apart_law (a : Option Addr) (len cap : Nat) (R : Nat → Nat → Value) (ta : Option Addr) (tl tc : Nat) (Sx : Nat → ByteArray) (own_ : Int) (w : World) (hR : Recs w a len cap portK R) (hT : Strs w ta tl tc Sx) (_wf1 : (Lit.int .i64 own_).wf = true) :
    Calls Try.prog 3 #[.slice a len cap, .slice ta tl tc, .int .i64 own_] w fun e w' => e = .returned (.bool true) ∧ Below w.heap.size w w' := by
  obtain ⟨n, hn8, hnl, hmn⟩ : ∃ n, n ≤ 8 ∧ n ≤ len ∧ (n = len ∨ (n = 8 ∧ 8 < len)) := by
    by_cases h : len ≤ 8
    · exact ⟨len, h, Nat.le_refl _, .inl rfl⟩
    · exact ⟨8, by omega, by omega, .inr ⟨rfl, by omega⟩⟩
  have hrows := rows_of hR hnl
  have hxl := prs_len R n
  generalize prs R n = xs at *
  have hlc := hR.len
  have HP := Lib.hid (ports_any a len n cap xs w hrows hn8 hlc.1 hlc.2 hmn (by
    intro e; rcases hR with ⟨_, _, h⟩ | ⟨x, h, _⟩
    · exact h
    · rw [e] at h; cases h))
  have HR := Lib.hid hrows
  have HT := Lib.hid hT
  clear hR hrows hmn hlc hT
  go_enter Try.func3, Try.ntmps3
  go_wp2_with fail
  refine HP.out.mono ?_
  clear HP
  rintro e w1 ⟨a', c', rfl, hk1, hown⟩
  have hrr := rr_own hown (by rw [rps_len, hxl])
  have HO1 := Lib.hid (rowner_any a' n c' _ own_ w1 hrr hn8)
  have HC := Lib.hid (rcheck_any a' n c' _ w1 hrr hn8)
  rw [rps_key] at HC
  have HK := Lib.hid (And.intro hk1 hrr)
  have hpl : (rps xs).length = n := by rw [rps_len, hxl]
  clear hk1 hown hrr
  go_wp2_with fail
  refine HO1.out.mono ?_
  rintro e v ⟨rfl, rfl⟩
  go_wp2_with fail
  refine HC.out.mono ?_
  clear HO1 HC
  rintro e w2 ⟨rfl, hk2⟩
  have HK2 := Lib.hid (And.intro (HK.out.1.trans hk2) (HK.out.2.kp hk2))
  clear hk2 HK
  by_cases hc : chk xs = 0
  · rw [hc]
    rcases oi_cases (rps xs) own_ with ho | ⟨i, px, hpx, hpo, ho, hil⟩
    · rw [ho]
      clear ho hc
      go_wp2_with fail
      refine (live_any _).mono ?_
      rintro e w3 ⟨rfl, hk3⟩
      have HZ := Lib.hid (HK2.out.1.trans hk3)
      clear hk3
      go_wp2
      go_ret
      exact ⟨rfl, HZ.out.all⟩
    · have HOI := Lib.hid ho
      rw [ho]
      rw [hpl] at hil
      have hi0 : (0 : Int) ≤ (i : Int) := by omega
      have HN := Lib.hid (new_dev a n cap xs w2 (HR.out.kp HK2.out.1) hn8)
      have HL := Lib.hid (And.intro hpx (And.intro hpo hc))
      clear hpx hpo hc ho
      go_wp2_with fail
      refine HN.out.mono ?_
      clear HN
      rintro e w3 (⟨_, d1, m1, L1, rfl, hN1⟩ | ⟨h9, _⟩)
      case inr => exact absurd HL.out.2.2 h9
      have HN := Lib.hid (new_dev a n cap xs w3 ((HR.out.kp HK2.out.1).kp hN1.kp) hn8)
      have HN1 := Lib.hid hN1
      clear hN1
      go_wp2_with fail
      refine HN.out.mono ?_
      clear HN
      rintro e w4 (⟨_, d2, m2, L2, rfl, hN2⟩ | ⟨h9, _⟩)
      case inr => exact absurd HL.out.2.2 h9
      have HI := Lib.hid (p_new HN1.out hN2 HL.out.1 HL.out.2.1)
      clear hN2 HN1
      generalize px.li = li at *
      go_wp2
      go_loopw [13] (fun i wr => ARel w2 xs own_ li d1 m1 d2 m2 tl i wr) (fun i _ => 30 - (intOf i).toNat)
      case atStart => exact ⟨0, [], 0, by omega, by omega, rfl, HI.out⟩
      case round =>
        obtain ⟨j, ws, dr, hj, hjt, rfl, hinv⟩ := hrel
        have HP := Lib.hid hinv
        clear hinv HI
        by_cases hlt : j < tl ∧ j < 30
        · have hj0 : (0 : Int) ≤ (j : Int) := by omega
          have hj1 : (j : Int) < (tl : Int) := by omega
          have hj2 : (j : Int) < 30 := by omega
          obtain ⟨b, off, rfl, hb, hcell⟩ := HT.out.at_ (by omega)
          obtain ⟨hcj, hsz⟩ := hcell j hlt.1
          have hcw : wr.cell? ⟨b, off + j, none⟩ = some (.string (Sx j)) := ((HK2.out.1.trans HP.out.keeps).cell (p := ⟨b, off + j, none⟩) hb (by simp)).trans hcj
          have hbw : b < w.heap.size := hb
          unfold maxLen at hsz
          clear hcell
          by_cases h100 : (Sx j).size ≤ 100
          · have h100' : ((Sx j).size : Int) ≤ 100 := by omega
            have HC := Lib.hid (p_come (s := Sx j) HP.out (by omega) hsz)
            go_wp2_with fail
            refine HC.out.mono ?_
            clear HC
            rintro e w5 ⟨b1, b2, rfl, hyes, hno⟩
            have hrk : Keeps [] w2 w5 := by
              by_cases he : fi (rps xs) (Sx j) = oi (rps xs) own_
              · exact (hyes he).keeps
              · exact (hno he).keeps
            have hcw5 : w5.cell? ⟨b, off + j, none⟩ = some (.string (Sx j)) := ((HK2.out.1.trans hrk).cell (p := ⟨b, off + j, none⟩) hb (by simp)).trans hcj
            have HF := Lib.hid (rfor_any a' n c' _ (Sx j) w5 (HK2.out.2.kp hrk) hn8 hsz)
            have HY := Lib.hid (And.intro hyes hno)
            clear hyes hno hrk hcw
            go_wp2_with fail
            refine HF.out.mono ?_
            clear HF
            rintro e w6 ⟨rfl, hk6⟩
            by_cases he : fi (rps xs) (Sx j) = oi (rps xs) own_
            · have hp6 := (HY.out.1 he).kp hk6
              have hcw6 : w6.cell? ⟨b, off + j, none⟩ = some (.string (Sx j)) := ((HK2.out.1.trans hp6.keeps).cell (p := ⟨b, off + j, none⟩) hb (by simp)).trans hcj
              have HC := Lib.hid (p_come (s := Sx j) hp6.swap (by omega) hsz)
              have HE := Lib.hid he
              rw [he, HOI.out]
              clear hp6 hk6 HY he hcw5
              go_wp2_with fail
              refine HC.out.mono ?_
              clear HC
              rintro e w7 ⟨b3, b4, rfl, hyes, hno⟩
              have HF := Lib.hid (hyes HE.out).swap
              clear hyes hno
              go_wp2
              go_roundw
              case rel => exact ⟨j + 1, _, _, by omega, by omega, by go_num, by have := HF.out; rwa [show (2 * (j : Int) + 1 + 1) = 2 * ((j + 1 : Nat) : Int) by omega] at this⟩
              case measure => simp [intOf]; omega
            · have hp6 := (HY.out.2 he).kp hk6
              have HF := Lib.hid hp6
              rw [HOI.out] at he
              have hne : (fi (rps xs) (Sx j) == (i : Int)) = false := by simpa using he
              generalize fi (rps xs) (Sx j) = fv9 at *
              clear hp6 hk6 HY he hcw5
              go_wp2
              go_roundw
              case rel =>
                refine ⟨j + 1, ws, dr, by omega, by omega, by go_num, ?_⟩
                obtain ⟨od, L, od2, L2, x, x2, h1, h2, h3, h⟩ := (by have := HF.out; unfold PInv at this; exact this)
                unfold PInv
                exact ⟨od, L, od2, L2, x, x2, h1, h2.more (by omega), h3.more (by omega), h⟩
              case measure => simp [intOf]; omega
          · have h100' : ¬ ((Sx j).size : Int) ≤ 100 := by omega
            go_wp2_with fail
            refine (live_any _).mono ?_
            rintro e w5 ⟨rfl, hk5⟩
            have HZ := Lib.hid ((HK2.out.1.trans HP.out.keeps).trans hk5)
            clear hk5
            go_wp2
            go_ret
            exact ⟨rfl, HZ.out.all⟩
        · have hcond : ¬ ((j : Int) < (tl : Int)) ∨ ((j : Int) < (tl : Int) ∧ ¬ ((j : Int) < 30)) := by omega
          have HW1 := Lib.hid (p_waits HP.out)
          have HW2 := Lib.hid (p_waits HP.out.swap)
          have HD1 := Lib.hid (p_drops HP.out)
          have HD2 := Lib.hid (p_drops HP.out.swap)
          obtain ⟨n9, hn9⟩ : ∃ n9, ws.length = n9 := ⟨_, rfl⟩
          rw [hn9] at HW1 HW2
          rcases hcond with hq | hq <;> (
            go_wp2_with fail
            refine HW1.out.mono ?_
            rintro e v ⟨rfl, rfl⟩
            go_wp2_with fail
            refine HW2.out.mono ?_
            rintro e v ⟨rfl, rfl⟩
            go_wp2_with fail
            refine HD1.out.mono ?_
            rintro e v ⟨rfl, rfl⟩
            go_wp2_with fail
            refine HD2.out.mono ?_
            rintro e v ⟨rfl, rfl⟩
            go_wp2_with fail
            refine HW1.out.mono ?_
            rintro e v ⟨rfl, rfl⟩
            clear HW1 HW2 HD1 HD2
            go_wp2
            go_loopw [14] (fun u wr => TRel w2 xs own_ li d1 m1 d2 m2 u wr) (fun u _ => (intOf u).toNat)
            case atStart => exact ⟨_, ws, dr, n9, rfl, hn9, HP.out⟩
            case round =>
              obtain ⟨j2, ws2, dr2, n2, rfl, hn2, hinv⟩ := hrel
              have HQ := Lib.hid hinv
              clear hinv HP hq hn9
              by_cases h0 : n2 = 0
              · subst h0
                go_wp2_with fail
                refine (live_any _).mono ?_
                rintro e w5 ⟨rfl, hk5⟩
                have HZ := Lib.hid ((HK2.out.1.trans HQ.out.keeps).trans hk5)
                clear hk5
                go_wp2
                go_ret
                exact ⟨rfl, HZ.out.all⟩
              · have hpos : (0 : Int) < (n2 : Int) := by omega
                rcases ws2 with _ | ⟨f, t⟩
                case nil => exact absurd hn2.symm h0
                have htl : t.length = n2 - 1 := by simp at hn2; omega
                have hb2 : n2 ≤ 16 := by have := HQ.out.wf.2.2; rw [hn2] at this; omega
                have HC := Lib.hid (p_take HQ.out (Keeps.refl [] _))
                clear hn2
                go_wp2_with fail
                refine HC.out.mono ?_
                clear HC
                rintro e w5 ⟨rfl, hp5, _⟩
                simp only [fv]
                have hB5 := Blk.new w5 39 #[.int .i64 f.to, .int .i64 f.fr, .string f.data]
                have HC := Lib.hid (p_take hp5.swap ((Keeps.refl [] w5).alloc (.cells #[.int .i64 f.to, .int .i64 f.fr, .string f.data] 39)))
                clear hp5 HQ
                go_wp2_with fail
                refine HC.out.mono ?_
                clear HC
                rintro e w6 ⟨rfl, hp6, F, hkF, hFl⟩
                simp only [fv]
                have hB6 := hB5.keeps hkF (fun hm => by have := hFl _ hm; omega)
                have hB7 := (hB6.alloc (.cells #[.int .i64 f.to, .int .i64 f.fr, .string f.data] 39))
                have hB8 := Blk.new w6 39 #[.int .i64 f.to, .int .i64 f.fr, .string f.data]
                have s0 : (w6.alloc (.cells #[.int .i64 f.to, .int .i64 f.fr, .string f.data] 39)).cell? ⟨w5.heap.size, 0, none⟩ = some (.int .i64 f.to) := hB7.cell 0
                have s1 : (w6.alloc (.cells #[.int .i64 f.to, .int .i64 f.fr, .string f.data] 39)).cell? ⟨w5.heap.size, 1, none⟩ = some (.int .i64 f.fr) := hB7.cell 1
                have s2 : (w6.alloc (.cells #[.int .i64 f.to, .int .i64 f.fr, .string f.data] 39)).cell? ⟨w5.heap.size, 2, none⟩ = some (.string f.data) := hB7.cell 2
                have t0 : (w6.alloc (.cells #[.int .i64 f.to, .int .i64 f.fr, .string f.data] 39)).cell? ⟨w6.heap.size, 0, none⟩ = some (.int .i64 f.to) := hB8.cell 0
                have t1 : (w6.alloc (.cells #[.int .i64 f.to, .int .i64 f.fr, .string f.data] 39)).cell? ⟨w6.heap.size, 1, none⟩ = some (.int .i64 f.fr) := hB8.cell 1
                have t2 : (w6.alloc (.cells #[.int .i64 f.to, .int .i64 f.fr, .string f.data] 39)).cell? ⟨w6.heap.size, 2, none⟩ = some (.string f.data) := hB8.cell 2
                have HE := Lib.hid (hp6.kp ((Keeps.refl [] w6).alloc (.cells #[.int .i64 f.to, .int .i64 f.fr, .string f.data] 39))).swap
                have hl5 := hB7.lt
                have hl6 := hB8.lt
                clear hB5 hB6 hB7 hB8 hp6 hkF hFl
                go_wp2
                go_roundw
                case rel => exact ⟨_, t, _, n2 - 1, by rw [show ((n2 - 1 : Nat) : Int) = (n2 : Int) - 1 by omega], htl, HE.out⟩
                case measure => simp [intOf]; omega)
  · have hcb : (chk xs != 0) = true := by simpa using hc
    generalize chk xs = ce at *
    clear hc
    generalize oi (rps xs) own_ = o1 at *
    go_wp2_with fail
    refine (live_any _).mono ?_
    rintro e w3 ⟨rfl, hk3⟩
    have HZ := Lib.hid (HK2.out.1.trans hk3)
    clear hk3
    go_wp2
    go_ret
    exact ⟨rfl, HZ.out.all⟩
end Nc
end Go.Proofs.Ytdbkgpnbmafpmaa
