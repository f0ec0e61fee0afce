/- The law BeatShifts: its walk. -/
import Derived.Test.YtbkljphhgghjdaaBeatO
import Derived.Deep.DeepCutAuto
namespace Go.Proofs.Ytbkljphhgghjdaa
open Go.RowKit
namespace Be
open Sm Ph Fl
def ints (l : List Int) : List Value := l.map (Value.int .i64)
theorem int_info : (Try.prog.info? 3).map (fun i => (i.zero, i.size, i.bytes)) = some (some (.int .i64 0), 1, 8) := by kernel_rfl
theorem one_ints (l : List Int) : ∀ u ∈ ints l, u.oneCell' = true := by
  intro u hu
  simp only [ints, List.mem_map] at hu
  obtain ⟨x, _, rfl⟩ := hu
  rfl
theorem readsI (w : World) (x : Int) : Reads (w.alloc (.cells #[.int .i64 x] 3)) (w.heap.size + 1) 1 (some ⟨w.heap.size, 0, none⟩) 1 (ints [x]) := by
  refine ⟨rfl, fun _ => ⟨_, rfl, by simp, fun j u hu => ?_⟩⟩
  have hj : j = 0 := by
    rcases Nat.eq_zero_or_pos j with h | h
    · exact h
    · rw [List.getElem?_eq_none (by simp [ints]; omega)] at hu; cases hu
  subst hj
  simp [ints] at hu
  rw [add_off, ← hu]
  simp
/-- Ticks as an append reads them. -/
theorem Ticks.reads {w : World} {a : Option Addr} {len : Nat} {zs : List Int} (h : Ticks w a len zs) : Reads w w.heap.size 1 a len (ints zs) := by
  refine ⟨by simp [ints, h.len_], fun h0 => ?_⟩
  obtain ⟨b, off, rfl, hb, _⟩ := h.cell 0 h0
  refine ⟨_, rfl, hb, fun j u hu => ?_⟩
  have hj : j < len := by
    have := (List.getElem?_eq_some_iff.1 hu).1
    simp [ints] at this
    have := h.len_
    omega
  obtain ⟨b', off', e, _, hc⟩ := h.cell j hj
  injection e with e
  injection e with e1 e2
  subst e1 e2
  have hadd : (⟨b, off, none⟩ : Addr).add j = ⟨b, off + j, none⟩ := by unfold Addr.add; split <;> simp_all
  rw [hadd, hc, ← hu]
  simp [ints, List.getD_eq_getElem?_getD, List.getElem?_eq_getElem (show j < zs.length by have := h.len_; omega)]
/-- A row of the call's own as ticks. -/
theorem ticks_own {w : World} {base : Nat} {a : Option Addr} {n c : Nat} {l : List Int} (h : w.ownsRow base 3 1 (.slice a n c) n (ints l)) (hn : n ≤ 500) : Ticks w a n l := by
  have hl : l.length = n := by have := h.1; simp [ints] at this; omega
  refine ⟨hl, hn, fun k hk => ?_⟩
  obtain ⟨g, cap, hv, _, hg⟩ := h.form (by omega)
  injection hv with e1 e2 e3
  subst e1
  refine ⟨g, 0, rfl, hg, ?_⟩
  rw [Nat.zero_add, ← add_off]
  refine h.cells (g := g) rfl k _ ?_
  simp [ints, List.getD_eq_getElem?_getD, List.getElem?_eq_getElem (show k < l.length by omega)]
theorem own_empty (w : World) (base : Nat) (hb : base ≤ w.heap.size) (e : TypeId) (size : Nat) : (w.alloc (.cells #[] e)).ownsRow base e size (.slice (some ⟨w.heap.size, 0, none⟩) 0 0) 0 [] := by
  refine ⟨by simp, .inr ⟨w.heap.size, 0, #[], rfl, hb, heap_alloc_new w _, Nat.le_refl _, by decide, by simp, by simp⟩⟩
structure LT (w wr : World) (ts : List Int) (d : Int) (k : Nat) (v : Value) : Prop where
  own : wr.ownsRow w.heap.size 3 1 v k (ints ((ts.take k).map (· + d)))
  k_ : Keeps [] w wr
  pos : ∀ t ∈ ts.take k, 0 ≤ t
theorem keep9 {V V' W0 : World} {b c : Nat} {u0 u1 u2 u3 v0 v1 v2 v3 : Value} (h : V.cell? ⟨b, 0, none⟩ = some u0 ∧ V.cell? ⟨b, 1, none⟩ = some u1 ∧ V.cell? ⟨b, 2, none⟩ = some u2 ∧ V.cell? ⟨b, 3, none⟩ = some u3 ∧ V.cell? ⟨c, 0, none⟩ = some v0 ∧ V.cell? ⟨c, 1, none⟩ = some v1 ∧ V.cell? ⟨c, 2, none⟩ = some v2 ∧ V.cell? ⟨c, 3, none⟩ = some v3 ∧ Keeps [] W0 V) (k : Keeps [] V V') (hb : b < W0.heap.size) (hc : c < W0.heap.size) :
    V'.cell? ⟨b, 0, none⟩ = some u0 ∧ V'.cell? ⟨b, 1, none⟩ = some u1 ∧ V'.cell? ⟨b, 2, none⟩ = some u2 ∧ V'.cell? ⟨b, 3, none⟩ = some u3 ∧ V'.cell? ⟨c, 0, none⟩ = some v0 ∧ V'.cell? ⟨c, 1, none⟩ = some v1 ∧ V'.cell? ⟨c, 2, none⟩ = some v2 ∧ V'.cell? ⟨c, 3, none⟩ = some v3 ∧ Keeps [] W0 V' := by
  obtain ⟨h0, h1, h2, h3, g0, g1, g2, g3, hK⟩ := h
  have hl : b < V.heap.size := Nat.lt_of_lt_of_le hb hK.size
  have hl2 : c < V.heap.size := Nat.lt_of_lt_of_le hc hK.size
  exact ⟨(k.cell (p := ⟨b, 0, none⟩) hl (by simp)).trans h0, (k.cell (p := ⟨b, 1, none⟩) hl (by simp)).trans h1, (k.cell (p := ⟨b, 2, none⟩) hl (by simp)).trans h2, (k.cell (p := ⟨b, 3, none⟩) hl (by simp)).trans h3,
    (k.cell (p := ⟨c, 0, none⟩) hl2 (by simp)).trans g0, (k.cell (p := ⟨c, 1, none⟩) hl2 (by simp)).trans g1, (k.cell (p := ⟨c, 2, none⟩) hl2 (by simp)).trans g2, (k.cell (p := ⟨c, 3, none⟩) hl2 (by simp)).trans g3, hK.trans k⟩
/-- The numbers of two spectra joined. -/
def Joined (q : Nat → Nat × Nat) (l r : List Int) : Prop := ∀ j : Nat, j < 4 → wIs (q j).1 (q j).2 (rP (j : Int) l + rP (j : Int) r) (iP (j : Int) l + iP (j : Int) r)
theorem joined_of {q : Nat → Nat × Nat} {l r : List Int} (h : ∀ j : Nat, j < 4 → wIs (q j).1 (q j).2 ((fun j : Nat => rP (j : Int) l + rP (j : Int) r) j) ((fun j : Nat => iP (j : Int) l + iP (j : Int) r) j)) : Joined q l r := h
theorem stored4 {V V2 : World} {g d : Nat} {T : TypeId} {cs ds : Array Value} {v0 v1 v2 v3 : Value} (h : Blk V g T cs ∧ Blk V (g + 1) T ds ∧ Keeps [] V2 V) (hd : V2.heap.size ≤ d) (hg : g + 1 < V2.heap.size) :
    Blk ((((V.setCell ⟨d, 0, none⟩ v0).setCell ⟨d, 1, none⟩ v1).setCell ⟨d, 2, none⟩ v2).setCell ⟨d, 3, none⟩ v3) g T cs ∧ Blk ((((V.setCell ⟨d, 0, none⟩ v0).setCell ⟨d, 1, none⟩ v1).setCell ⟨d, 2, none⟩ v2).setCell ⟨d, 3, none⟩ v3) (g + 1) T ds ∧ Keeps [] V2 ((((V.setCell ⟨d, 0, none⟩ v0).setCell ⟨d, 1, none⟩ v1).setCell ⟨d, 2, none⟩ v2).setCell ⟨d, 3, none⟩ v3) := by
  have e1 : g ≠ d := by omega
  have e2 : g + 1 ≠ d := by omega
  exact ⟨(((h.1.far e1 _).far e1 _).far e1 _).far e1 _, (((h.2.1.far e2 _).far e2 _).far e2 _).far e2 _, (((h.2.2.setCell (.inr hd) _).setCell (.inr hd) _).setCell (.inr hd) _).setCell (.inr hd) _⟩
theorem joined_at {q : Nat → Nat × Nat} {l r : List Int} (h : Joined q l r) : ∀ j : Nat, j < 4 → wIs (q j).1 (q j).2 (rP (j : Int) l + rP (j : Int) r) (iP (j : Int) l + iP (j : Int) r) := h
/-- The shifted numbers are those of later ticks. -/
theorem shf_isW (f : Nat → Nat × Nat) (d : Int) (j : Nat) (l : List Int) (h : isW (f j, (rP (j : Int) l, iP (j : Int) l))) : wIs (shf f d j).1 (shf f d j).2 (rP (j : Int) (l.map (· + d))) (iP (j : Int) (l.map (· + d))) := by
  have h1 := wh_tn (ph (j : Int) d) (ph_lt _ _) (f j).1 (f j).2 _ _ ⟨h.1, h.2.1⟩ h.2.2.1 h.2.2.2
  have h2 := later_all (j : Int) d l
  have e1 := congrArg Prod.fst h2
  have e2 := congrArg Prod.snd h2
  simp only [] at e1 e2
  rw [e1, e2]
  exact ⟨h1.1, h1.2.1⟩
attribute [local irreducible] rP iP shf evenB Joined
attribute [local go_sem] run_store_float run_store_complex
set_option maxRecDepth 100000 in
set_option maxHeartbeats 2000000 in
theorem shifts_law (a b : Option Addr) (la ca lb cb : Nat) (zs ys : List Int) (by_ : Int) (w : World) (h1 : la ≤ ca) (h2 : ca ≤ 9223372036854775807) (h3 : lb ≤ cb) (h4 : cb ≤ 9223372036854775807)
    (hT : Ticks w a (min la 200) (zs.take (min la 200))) (hS : Ticks w b (min lb 200) (ys.take (min lb 200))) :
    Calls Try.prog 4 #[.slice a la ca, .slice b lb cb, .int .i64 by_] w fun e w' => e = .returned (.bool true) ∧ Keeps [] w w' := by
  have HT := Lib.hid hT
  have HS := Lib.hid hS
  clear hT hS
  obtain ⟨m, hm⟩ : ∃ m, min la 200 = m := ⟨_, rfl⟩
  obtain ⟨n, hn⟩ : ∃ n, min lb 200 = n := ⟨_, rfl⟩
  generalize zs.take (min la 200) = ts at *
  generalize ys.take (min lb 200) = us at *
  rw [hm] at HT
  rw [hn] at HS
  have hmin : (if (200 : Int) < (la : Int) then (200 : Int) else (la : Int)) = (m : Int) := by split <;> omega
  have hnin : (if (200 : Int) < (lb : Int) then (200 : Int) else (lb : Int)) = (n : Int) := by split <;> omega
  have hml : m ≤ ca := by omega
  have hnl : n ≤ cb := by omega
  have hm2 : m ≤ 200 := by omega
  have hn2 : n ≤ 200 := by omega
  clear hm hn
  go_enter Try.func4, Try.ntmps4
  go_wp2_with fail
  go_quiet (fail)

  by_cases hb0 : by_ < 0
  · go_wp2_with fail
    refine (live_any _).mono ?_
    rintro e w1 ⟨rfl, k1⟩
    go_wp2_with fail
    go_ret
    exact ⟨rfl, ((Keeps.refl [] w).drewN _).trans k1⟩
  by_cases hb1 : 2147483647 < by_
  · go_wp2_with fail
    refine (live_any _).mono ?_
    rintro e w1 ⟨rfl, k1⟩
    go_wp2_with fail
    go_ret
    exact ⟨rfl, ((Keeps.refl [] w).drewN _).trans k1⟩
  obtain ⟨i0, hi0, hz0, hz1, hz2⟩ := info_parts int_info
  have HI := Lib.hid (And.intro hi0 (And.intro hz0 (And.intro hz1 hz2)))
  clear hi0 hz0 hz1 hz2
  have HE := Lib.hid (own_empty (w.drewN nq) w.heap.size (Nat.le_refl _) 3 1)
  have HKE := Lib.hid (((Keeps.refl [] w).drewN nq).alloc (.cells #[] 3))
  go_wp2_with fail
  have h0 : LT w ((w.drewN nq).alloc (.cells #[] 3)) ts by_ 0 (.slice (some ⟨w.heap.size, 0, none⟩) 0 0) := ⟨HE.out, HKE.out, by simp⟩
  clear HE HKE
  generalize (w.drewN nq).alloc (.cells #[] 3) = W0 at *
  go_loopw [7, 8] (fun v i wr => ∃ (k : Nat) (p : Option Addr) (c : Nat), k ≤ m ∧ i = .int .i64 k ∧ v = .slice p k c ∧ LT w wr ts by_ k (.slice p k c)) (fun _ i _ => m - (intOf i).toNat)
  case atStart => exact ⟨0, _, 0, by omega, rfl, rfl, h0⟩
  case round =>
    clear h0
    obtain ⟨k, p, c, hk, rfl, rfl, hL⟩ := hrel
    have HL := Lib.hid hL
    clear hL
    by_cases hlt : k < m
    · obtain ⟨b', off, ha, hcell⟩ := HT.out.at_ HL.out.k_ hlt
      subst ha
      have hsn := take_nth ts k (by rw [HT.out.len_]; exact hlt)
      generalize ts.getD k 0 = t at *
      have HSN := Lib.hid hsn
      clear hsn
      by_cases ht0 : t < 0
      · go_wp2_with fail
        refine (live_any _).mono ?_
        rintro e w1 ⟨rfl, k1⟩
        go_wp2_with fail
        go_ret
        exact ⟨rfl, HL.out.k_.trans k1⟩
      by_cases ht1 : 2147483647 < t
      · go_wp2_with fail
        refine (live_any _).mono ?_
        rintro e w1 ⟨rfl, k1⟩
        go_wp2_with fail
        go_ret
        exact ⟨rfl, HL.out.k_.trans k1⟩
      have hown2 := HL.out.own.alloc (.cells #[.int .i64 (t + by_)] 3)
      have hrd := readsI wr (t + by_)
      have hz := HL.out.k_.size
      have HXS : Hid (ints ((ts.take (k + 1)).map (· + by_)) = ints ((ts.take k).map (· + by_)) ++ ints [t + by_]) := Lib.hid (by rw [HSN.out]; simp [ints])
      go_wp2_with (at_builtin; refine wpList_append_any _ rfl (.tmp 53) (.tmp 60) _ rfl w.heap.size 3 i0 _ 1 8 Try.underlying22 HI.out.1 HI.out.2.1 HI.out.2.2.1 HI.out.2.2.2 rfl (by decide) (.slice p k c) k _ rfl hown2 _ _ 1 1 (ints [t + by_]) rfl hrd (one_ints _) (by simp only [maxLen]; omega) (by omega) (by simp; omega) ?_; intro v2 w2 hown3 hg3 hat3; obtain ⟨p2, c2, hv2⟩ := own_form hown3; subst hv2; rw [← HXS.out] at hown3)
      have hlt2 : ∀ b, (Value.slice p k c).ownBlock = some b → w.heap.size ≤ b := fun b hb => (hown2.lt b hb).1
      have HN : Hid (LT w w2 ts by_ (k + 1) (.slice p2 (k + 1) c2)) := Lib.hid ⟨hown3, HL.out.k_.next (((Keeps.refl _ wr).alloc _).grown hg3 (fun b hb => .inl (by rw [hb]; simp : b ∈ (Value.slice p k c).ownBlock.toList))) (fun b hb => .inr (hlt2 b (by simpa using hb))), by
        intro x hx
        rw [HSN.out] at hx
        rcases List.mem_append.1 hx with h | h
        · exact HL.out.pos x h
        · simp at h; omega⟩
      clear hown3 hg3 hat3 hlt2 hown2 hrd
      go_roundw
      case rel => exact ⟨k + 1, p2, c2, by omega, by go_num, rfl, HN.out⟩
      case measure => simp [intOf]; omega
    · obtain rfl : k = m := by omega
      have hall : ts.take k = ts := List.take_of_length_le (by rw [HT.out.len_]; exact Nat.le_refl _)
      have hown := HL.out.own
      rw [hall] at hown
      have HPO : Hid (∀ t ∈ ts, 0 ≤ t) := Lib.hid (by have := HL.out.pos; rwa [hall] at this)
      have HO := Lib.hid hown
      have HK0 := Lib.hid HL.out.k_
      have HT0 := Lib.hid (HT.out.keeps HL.out.k_)
      have HS0 := Lib.hid (HS.out.keeps HL.out.k_)
      clear hown hall HL HT HS
      go_wp2_with fail
      refine (spectrum_any _ _ _ _ _ HT0.out).mono ?_
      rintro e w1 ⟨f, rfl, hf, k1⟩
      have HF := Lib.hid hf
      have HT1 := Lib.hid (HT0.out.keeps k1)
      have HS1 := Lib.hid (HS0.out.keeps k1)
      have HO1 := Lib.hid (ownsRow_keeps HO.out k1 (by simp))
      have HK1 := Lib.hid (HK0.out.trans k1)
      clear hf k1 HO HK0 HT0 HS0
      go_wp2_with fail
      refine (spectrum_any _ _ _ _ _ HS1.out).mono ?_
      rintro e w2 ⟨h, rfl, hh, k2⟩
      have HH := Lib.hid hh
      have HT2 := Lib.hid (HT1.out.keeps k2)
      have HS2 := Lib.hid (HS1.out.keeps k2)
      have HO2 := Lib.hid (ownsRow_keeps HO1.out k2 (by simp))
      have HK2 := Lib.hid (HK1.out.trans k2)
      clear hh k2 HO1 HK1 HT1 HS1
      go_wp2_with fail
      have hB1 := (Blk.new w2 30 #[cx (f 0), cx (f 1), cx (f 2), cx (f 3)]).alloc (.cells #[cx (h 0), cx (h 1), cx (h 2), cx (h 3)] 30)
      have hB2 := Blk.new (w2.alloc (.cells #[cx (f 0), cx (f 1), cx (f 2), cx (f 3)] 30)) 30 #[cx (h 0), cx (h 1), cx (h 2), cx (h 3)]
      rw [World.size_alloc] at hB2
      have hK3 : Keeps [] w2 ((w2.alloc (.cells #[cx (f 0), cx (f 1), cx (f 2), cx (f 3)] 30)).alloc (.cells #[cx (h 0), cx (h 1), cx (h 2), cx (h 3)] 30)) := ((Keeps.refl _ _).alloc _).alloc _
      have HT3 := Lib.hid (HT2.out.keeps hK3)
      have HS3 := Lib.hid (HS2.out.keeps hK3)
      have HO3 := Lib.hid (ownsRow_keeps HO2.out hK3 (by simp))
      have HK3 := Lib.hid (HK2.out.trans hK3)
      clear HT2 HS2 HO2 HK2 hK3
      generalize ((w2.alloc (.cells #[.complex .f64 (f 0).1 (f 0).2, .complex .f64 (f 1).1 (f 1).2, .complex .f64 (f 2).1 (f 2).2, .complex .f64 (f 3).1 (f 3).2] 30)).alloc (.cells #[.complex .f64 (h 0).1 (h 0).2, .complex .f64 (h 1).1 (h 1).2, .complex .f64 (h 2).1 (h 2).2, .complex .f64 (h 3).1 (h 3).2] 30)) = V2 at *
      generalize w2.heap.size = g at *
      have hfl := nn_few HT3.out
      have hsl := nn_few HS3.out
      have HFW : Hid (∀ j : Nat, j < 4 → isW (f j, (rP (j : Int) (nn ts), iP (j : Int) (nn ts)))) := Lib.hid (fun j hj => by
        have q := HF.out j hj
        have q1 := rP_bd (j : Int) (nn ts)
        have q2 := iP_bd (j : Int) (nn ts)
        exact ⟨q.1, q.2, by show (rP (j : Int) (nn ts)).natAbs ≤ _; omega, by show (iP (j : Int) (nn ts)).natAbs ≤ _; omega⟩)
      have HHW : Hid (∀ j : Nat, j < 4 → isW (h j, (rP (j : Int) (nn us), iP (j : Int) (nn us)))) := Lib.hid (fun j hj => by
        have q := HH.out j hj
        have q1 := rP_bd (j : Int) (nn us)
        have q2 := iP_bd (j : Int) (nn us)
        exact ⟨q.1, q.2, by show (rP (j : Int) (nn us)).natAbs ≤ _; omega, by show (iP (j : Int) (nn us)).natAbs ≤ _; omega⟩)
      have HSH := Lib.hid (fun V => shift_any f by_ V)
      have HJO := Lib.hid (fun V => join_any f h (fun j => rP (j : Int) (nn ts)) (fun j => iP (j : Int) (nn ts)) (fun j => rP (j : Int) (nn us)) (fun j => iP (j : Int) (nn us)) HFW.out HHW.out V)
      have hgl := hB2.lt
      have hBB := And.intro hB1 (And.intro hB2 (Keeps.refl [] V2))
      clear hB1 hB2
      go_upto_region 12 with fail
      go_cut [11, 12] (fun s t wx => ∃ (g1 g2 : Nat) (q : Nat → Nat × Nat), s = .pointer (some ⟨g1, 0, none⟩) ∧ t = .pointer (some ⟨g2, 0, none⟩) ∧ Blk wx g1 30 #[.complex .f64 (shf f by_ 0).1 (shf f by_ 0).2, .complex .f64 (shf f by_ 1).1 (shf f by_ 1).2, .complex .f64 (shf f by_ 2).1 (shf f by_ 2).2, .complex .f64 (shf f by_ 3).1 (shf f by_ 3).2] ∧ Blk wx g2 30 #[.complex .f64 (q 0).1 (q 0).2, .complex .f64 (q 1).1 (q 1).2, .complex .f64 (q 2).1 (q 2).2, .complex .f64 (q 3).1 (q 3).2] ∧ Keeps [] V2 wx ∧ Joined q (nn ts) (nn us))
      case first =>
        refine wp_region_held_drew (S := (fun V => Blk V g 30 #[.complex .f64 (f 0).1 (f 0).2, .complex .f64 (f 1).1 (f 1).2, .complex .f64 (f 2).1 (f 2).2, .complex .f64 (f 3).1 (f 3).2] ∧ Blk V (g + 1) 30 #[.complex .f64 (h 0).1 (h 0).2, .complex .f64 (h 1).1 (h 1).2, .complex .f64 (h 2).1 (h 2).2, .complex .f64 (h 3).1 (h 3).2] ∧ Keeps [] V2 V)) (by kernel_rfl) ⟨hBB.1.drew, hBB.2.1.drew, hBB.2.2.drew⟩ (fun hHeld => ?_)
        clear hBB
        generalize V2.drew = D0 at *
        refine' wpAnyH_take (i := 0) (oi := _) (v := _) ?hS0 (by kernel_rfl) (by kernel_rfl) (by kernel_rfl) ?hQS0 (Or.inl ⟨?hwS0, ?hyS0⟩) hHeld ?restS0
        case hS0 => (simp only [List.getElem?_toArray, List.getElem?_cons_zero]; rfl)
        case hQS0 => exact fun _ _ _ h => h
        case hwS0 => rfl
        case hyS0 => (intro w hSw; (try dsimp only at hSw); have c0 : w.cell? ⟨g, 0, none⟩ = some (.complex .f64 (f 0).1 (f 0).2) := hSw.1.cell 0; have c1 : w.cell? ⟨g, 1, none⟩ = some (.complex .f64 (f 1).1 (f 1).2) := hSw.1.cell 1; have c2 : w.cell? ⟨g, 2, none⟩ = some (.complex .f64 (f 2).1 (f 2).2) := hSw.1.cell 2; have c3 : w.cell? ⟨g, 3, none⟩ = some (.complex .f64 (f 3).1 (f 3).2) := hSw.1.cell 3; go_simp; try with_reducible rfl)
        try simp only [Act.put, List.setIfInBounds_toArray, List.set_cons_zero, List.set_cons_succ]
        refine' wpAnyH_take (i := 1) (oi := _) (v := _) ?hS1 (by kernel_rfl) (by kernel_rfl) (by kernel_rfl) ?hQS1 (Or.inl ⟨?hwS1, ?hyS1⟩) hHeld ?restS1
        case hS1 => (simp only [List.getElem?_toArray, List.getElem?_cons_succ, List.getElem?_cons_zero]; rfl)
        case hQS1 => exact fun _ _ _ h => h
        case hwS1 => rfl
        case hyS1 => (intro w hSw; (try dsimp only at hSw);  go_simp; try with_reducible rfl)
        try simp only [Act.put, List.setIfInBounds_toArray, List.set_cons_zero, List.set_cons_succ]
        refine' wpAnyH_take (i := 3) (oi := _) (v := _) ?hS3 (by kernel_rfl) (by kernel_rfl) (by kernel_rfl) ?hQS3 (Or.inl ⟨?hwS3, ?hyS3⟩) hHeld ?restS3
        case hS3 => (simp only [List.getElem?_toArray, List.getElem?_cons_succ, List.getElem?_cons_zero]; rfl)
        case hQS3 => exact fun _ _ _ h => h
        case hwS3 => rfl
        case hyS3 => (intro w hSw; (try dsimp only at hSw); have c0 : w.cell? ⟨g, 0, none⟩ = some (.complex .f64 (f 0).1 (f 0).2) := hSw.1.cell 0; have c1 : w.cell? ⟨g, 1, none⟩ = some (.complex .f64 (f 1).1 (f 1).2) := hSw.1.cell 1; have c2 : w.cell? ⟨g, 2, none⟩ = some (.complex .f64 (f 2).1 (f 2).2) := hSw.1.cell 2; have c3 : w.cell? ⟨g, 3, none⟩ = some (.complex .f64 (f 3).1 (f 3).2) := hSw.1.cell 3; go_simp; try with_reducible rfl)
        try simp only [Act.put, List.setIfInBounds_toArray, List.set_cons_zero, List.set_cons_succ]
        refine' wpAnyH_take (i := 4) (oi := _) (v := _) ?hS4 (by kernel_rfl) (by kernel_rfl) (by kernel_rfl) ?hQS4 (Or.inl ⟨?hwS4, ?hyS4⟩) hHeld ?restS4
        case hS4 => (simp only [List.getElem?_toArray, List.getElem?_cons_succ, List.getElem?_cons_zero]; rfl)
        case hQS4 => exact fun _ _ _ h => h
        case hwS4 => rfl
        case hyS4 => (intro w hSw; (try dsimp only at hSw); have c0 : w.cell? ⟨g + 1, 0, none⟩ = some (.complex .f64 (h 0).1 (h 0).2) := hSw.2.1.cell 0; have c1 : w.cell? ⟨g + 1, 1, none⟩ = some (.complex .f64 (h 1).1 (h 1).2) := hSw.2.1.cell 1; have c2 : w.cell? ⟨g + 1, 2, none⟩ = some (.complex .f64 (h 2).1 (h 2).2) := hSw.2.1.cell 2; have c3 : w.cell? ⟨g + 1, 3, none⟩ = some (.complex .f64 (h 3).1 (h 3).2) := hSw.2.1.cell 3; go_simp; try with_reducible rfl)
        try simp only [Act.put, List.setIfInBounds_toArray, List.set_cons_zero, List.set_cons_succ]
        refine wpAnyH_ready (rs := [2, 6, 7]) (by kernel_rfl) (by simp) ?_
        refine (AllReadyH.cons rfl (fun K hK => ?_) (AllReadyH.cons rfl (fun K hK => ?_) (AllReadyH.cons rfl (fun K hK => ?_) AllReadyH.nil)))
        · go_simp
          refine (HSH.out _).mono ?_
          rintro e x1 ⟨rfl, kk⟩
          try go_wp2_with fail
          refine hK.out _ _ ⟨hHeld.1.keeps kk (by simp), hHeld.2.1.keeps kk (by simp), hHeld.2.2.trans kk⟩ (fun hHeld' => ?_)
          clear hK K
          have hHeld := hHeld'
          clear hHeld' kk
          try simp only [Act.put, List.setIfInBounds_toArray, List.set_cons_zero, List.set_cons_succ]
          refine wpAnyH_ready (rs := [5, 6, 7]) (by kernel_rfl) (by simp) ?_
          refine (AllReadyH.cons rfl (fun K hK => ?_) (AllReadyH.cons rfl (fun K hK => ?_) (AllReadyH.cons rfl (fun K hK => ?_) AllReadyH.nil)))
          · go_simp
            refine (HJO.out _).mono ?_
            rintro e x2 ⟨q, rfl, hq0, kk⟩
            try go_wp2_with fail
            refine hK.out _ _ ⟨hHeld.1.keeps kk (by simp), hHeld.2.1.keeps kk (by simp), hHeld.2.2.trans kk⟩ (fun hHeld' => ?_)
            clear hK K
            have hq := joined_of hq0
            have hHeld := hHeld'
            clear hHeld' kk
            try simp only [Act.put, List.setIfInBounds_toArray, List.set_cons_zero, List.set_cons_succ]
            refine wpAnyH_ready (rs := [6, 7]) (by kernel_rfl) (by simp) ?_
            refine (AllReadyH.cons rfl (fun K hK => ?_) (AllReadyH.cons rfl (fun K hK => ?_) AllReadyH.nil))
            · go_simp
              refine hK.out _ _ ⟨hHeld.1.alloc _, hHeld.2.1.alloc _, hHeld.2.2.alloc _⟩ (fun hHeld' => ?_)
              clear hK K
              have h6 := Blk.new x2 30 #[.complex .f64 0 0, .complex .f64 0 0, .complex .f64 0 0, .complex .f64 0 0]
              have l6 : V2.heap.size ≤ x2.heap.size := hHeld.2.2.size
              have hHeld := hHeld'
              clear hHeld'
              try simp only [Act.put, List.setIfInBounds_toArray, List.set_cons_zero, List.set_cons_succ]
              generalize hw6 : x2.heap.size = g6 at *
              clear hw6
              generalize (x2.alloc (.cells #[.complex .f64 0 0, .complex .f64 0 0, .complex .f64 0 0, .complex .f64 0 0] 30)) = x3 at *
              have hlt6 := h6.lt
              refine wpAnyH_ready (rs := [7]) (by kernel_rfl) (by simp) ?_
              refine (AllReadyH.cons rfl (fun K hK => ?_) AllReadyH.nil)
              · go_simp
                refine hK.out _ _ ⟨hHeld.1.alloc _, hHeld.2.1.alloc _, hHeld.2.2.alloc _⟩ (fun hHeld' => ?_)
                clear hK K
                have h7 := Blk.new x3 30 #[.complex .f64 0 0, .complex .f64 0 0, .complex .f64 0 0, .complex .f64 0 0]
                have l7 : V2.heap.size ≤ x3.heap.size := hHeld.2.2.size
                have h6 := h6.alloc (.cells #[.complex .f64 0 0, .complex .f64 0 0, .complex .f64 0 0, .complex .f64 0 0] 30)
                have n6 : g6 ≠ x3.heap.size := fun e => by have := hlt6; omega
                have hHeld := hHeld'
                clear hHeld'
                try simp only [Act.put, List.setIfInBounds_toArray, List.set_cons_zero, List.set_cons_succ]
                generalize hw7 : x3.heap.size = g7 at *
                clear hw7
                generalize (x3.alloc (.cells #[.complex .f64 0 0, .complex .f64 0 0, .complex .f64 0 0, .complex .f64 0 0] 30)) = x4 at *
                have n67 : g6 ≠ g7 := n6
                have hlt7 := h7.lt
                have hlt6 := h6.lt
                have f6 := h6.frozen
                have f7 := h7.frozen
                have c60 : x4.cell? ⟨g6, 0, none⟩ = some (.complex .f64 0 0) := h6.cell 0
                have c61 : x4.cell? ⟨g6, 1, none⟩ = some (.complex .f64 0 0) := h6.cell 1
                have c62 : x4.cell? ⟨g6, 2, none⟩ = some (.complex .f64 0 0) := h6.cell 2
                have c63 : x4.cell? ⟨g6, 3, none⟩ = some (.complex .f64 0 0) := h6.cell 3
                have c70 : x4.cell? ⟨g7, 0, none⟩ = some (.complex .f64 0 0) := h7.cell 0
                have c71 : x4.cell? ⟨g7, 1, none⟩ = some (.complex .f64 0 0) := h7.cell 1
                have c72 : x4.cell? ⟨g7, 2, none⟩ = some (.complex .f64 0 0) := h7.cell 2
                have c73 : x4.cell? ⟨g7, 3, none⟩ = some (.complex .f64 0 0) := h7.cell 3
                skip
                refine wpAnyH_ready (rs := [8]) (by kernel_rfl) (by simp) ?_
                refine AllReadyH.cons rfl (fun K hK => ?_) AllReadyH.nil
                go_simp
                refine hK.out _ _ (stored4 hHeld l6 hgl) (fun hHeld' => ?_)
                clear hK K hHeld
                have hHeld := hHeld'
                clear hHeld'
                try simp only [Act.put, List.setIfInBounds_toArray, List.set_cons_zero, List.set_cons_succ]
                refine wpAnyH_ready (rs := [9]) (by kernel_rfl) (by simp) ?_
                refine AllReadyH.cons rfl (fun K hK => ?_) AllReadyH.nil
                go_simp
                refine hK.out _ _ (stored4 hHeld l7 hgl) (fun hHeld' => ?_)
                clear hK K hHeld
                have hHeld := hHeld'
                clear hHeld'
                try simp only [Act.put, List.setIfInBounds_toArray, List.set_cons_zero, List.set_cons_succ]
                refine wpAnyH_done (by kernel_rfl) ?_ _
                go_wp2_with fail
                go_meet
                exact ⟨g6, g7, q, rfl, rfl, ((((h6.set_ 0 _).set_ 1 _).set_ 2 _).set_ 3 _ |>.far (by exact n67) _ |>.far (by exact n67) _ |>.far (by exact n67) _ |>.far (by exact n67) _), ((((((((h7.far (by exact n67.symm) _).far (by exact n67.symm) _).far (by exact n67.symm) _).far (by exact n67.symm) _).set_ 0 _).set_ 1 _).set_ 2 _).set_ 3 _), hHeld.2.2, hq⟩
            · go_simp
              refine hK.out _ _ ⟨hHeld.1.alloc _, hHeld.2.1.alloc _, hHeld.2.2.alloc _⟩ (fun hHeld' => ?_)
              clear hK K
              have h7 := Blk.new x2 30 #[.complex .f64 0 0, .complex .f64 0 0, .complex .f64 0 0, .complex .f64 0 0]
              have l7 : V2.heap.size ≤ x2.heap.size := hHeld.2.2.size
              have hHeld := hHeld'
              clear hHeld'
              try simp only [Act.put, List.setIfInBounds_toArray, List.set_cons_zero, List.set_cons_succ]
              generalize hw7 : x2.heap.size = g7 at *
              clear hw7
              generalize (x2.alloc (.cells #[.complex .f64 0 0, .complex .f64 0 0, .complex .f64 0 0, .complex .f64 0 0] 30)) = x5 at *
              have hlt7 := h7.lt
              refine wpAnyH_ready (rs := [6]) (by kernel_rfl) (by simp) ?_
              refine (AllReadyH.cons rfl (fun K hK => ?_) AllReadyH.nil)
              · go_simp
                refine hK.out _ _ ⟨hHeld.1.alloc _, hHeld.2.1.alloc _, hHeld.2.2.alloc _⟩ (fun hHeld' => ?_)
                clear hK K
                have h6 := Blk.new x5 30 #[.complex .f64 0 0, .complex .f64 0 0, .complex .f64 0 0, .complex .f64 0 0]
                have l6 : V2.heap.size ≤ x5.heap.size := hHeld.2.2.size
                have h7 := h7.alloc (.cells #[.complex .f64 0 0, .complex .f64 0 0, .complex .f64 0 0, .complex .f64 0 0] 30)
                have n7 : g7 ≠ x5.heap.size := fun e => by have := hlt7; omega
                have hHeld := hHeld'
                clear hHeld'
                try simp only [Act.put, List.setIfInBounds_toArray, List.set_cons_zero, List.set_cons_succ]
                generalize hw6 : x5.heap.size = g6 at *
                clear hw6
                generalize (x5.alloc (.cells #[.complex .f64 0 0, .complex .f64 0 0, .complex .f64 0 0, .complex .f64 0 0] 30)) = x6 at *
                have n67 : g6 ≠ g7 := n7.symm
                have hlt6 := h6.lt
                have hlt7 := h7.lt
                have f6 := h6.frozen
                have f7 := h7.frozen
                have c60 : x6.cell? ⟨g6, 0, none⟩ = some (.complex .f64 0 0) := h6.cell 0
                have c61 : x6.cell? ⟨g6, 1, none⟩ = some (.complex .f64 0 0) := h6.cell 1
                have c62 : x6.cell? ⟨g6, 2, none⟩ = some (.complex .f64 0 0) := h6.cell 2
                have c63 : x6.cell? ⟨g6, 3, none⟩ = some (.complex .f64 0 0) := h6.cell 3
                have c70 : x6.cell? ⟨g7, 0, none⟩ = some (.complex .f64 0 0) := h7.cell 0
                have c71 : x6.cell? ⟨g7, 1, none⟩ = some (.complex .f64 0 0) := h7.cell 1
                have c72 : x6.cell? ⟨g7, 2, none⟩ = some (.complex .f64 0 0) := h7.cell 2
                have c73 : x6.cell? ⟨g7, 3, none⟩ = some (.complex .f64 0 0) := h7.cell 3
                skip
                refine wpAnyH_ready (rs := [8]) (by kernel_rfl) (by simp) ?_
                refine AllReadyH.cons rfl (fun K hK => ?_) AllReadyH.nil
                go_simp
                refine hK.out _ _ (stored4 hHeld l6 hgl) (fun hHeld' => ?_)
                clear hK K hHeld
                have hHeld := hHeld'
                clear hHeld'
                try simp only [Act.put, List.setIfInBounds_toArray, List.set_cons_zero, List.set_cons_succ]
                refine wpAnyH_ready (rs := [9]) (by kernel_rfl) (by simp) ?_
                refine AllReadyH.cons rfl (fun K hK => ?_) AllReadyH.nil
                go_simp
                refine hK.out _ _ (stored4 hHeld l7 hgl) (fun hHeld' => ?_)
                clear hK K hHeld
                have hHeld := hHeld'
                clear hHeld'
                try simp only [Act.put, List.setIfInBounds_toArray, List.set_cons_zero, List.set_cons_succ]
                refine wpAnyH_done (by kernel_rfl) ?_ _
                go_wp2_with fail
                go_meet
                exact ⟨g6, g7, q, rfl, rfl, ((((h6.set_ 0 _).set_ 1 _).set_ 2 _).set_ 3 _ |>.far (by exact n67) _ |>.far (by exact n67) _ |>.far (by exact n67) _ |>.far (by exact n67) _), ((((((((h7.far (by exact n67.symm) _).far (by exact n67.symm) _).far (by exact n67.symm) _).far (by exact n67.symm) _).set_ 0 _).set_ 1 _).set_ 2 _).set_ 3 _), hHeld.2.2, hq⟩
          · go_simp
            refine hK.out _ _ ⟨hHeld.1.alloc _, hHeld.2.1.alloc _, hHeld.2.2.alloc _⟩ (fun hHeld' => ?_)
            clear hK K
            have h6 := Blk.new x1 30 #[.complex .f64 0 0, .complex .f64 0 0, .complex .f64 0 0, .complex .f64 0 0]
            have l6 : V2.heap.size ≤ x1.heap.size := hHeld.2.2.size
            have hHeld := hHeld'
            clear hHeld'
            try simp only [Act.put, List.setIfInBounds_toArray, List.set_cons_zero, List.set_cons_succ]
            generalize hw6 : x1.heap.size = g6 at *
            clear hw6
            generalize (x1.alloc (.cells #[.complex .f64 0 0, .complex .f64 0 0, .complex .f64 0 0, .complex .f64 0 0] 30)) = x7 at *
            have hlt6 := h6.lt
            refine wpAnyH_ready (rs := [5, 7]) (by kernel_rfl) (by simp) ?_
            refine (AllReadyH.cons rfl (fun K hK => ?_) (AllReadyH.cons rfl (fun K hK => ?_) AllReadyH.nil))
            · go_simp
              refine (HJO.out _).mono ?_
              rintro e x8 ⟨q, rfl, hq0, kk⟩
              try go_wp2_with fail
              refine hK.out _ _ ⟨hHeld.1.keeps kk (by simp), hHeld.2.1.keeps kk (by simp), hHeld.2.2.trans kk⟩ (fun hHeld' => ?_)
              clear hK K
              have h6 := h6.keeps kk (by simp)
              have hq := joined_of hq0
              have hHeld := hHeld'
              clear hHeld' kk
              try simp only [Act.put, List.setIfInBounds_toArray, List.set_cons_zero, List.set_cons_succ]
              have hlt6 := h6.lt
              refine wpAnyH_ready (rs := [7]) (by kernel_rfl) (by simp) ?_
              refine (AllReadyH.cons rfl (fun K hK => ?_) AllReadyH.nil)
              · go_simp
                refine hK.out _ _ ⟨hHeld.1.alloc _, hHeld.2.1.alloc _, hHeld.2.2.alloc _⟩ (fun hHeld' => ?_)
                clear hK K
                have h7 := Blk.new x8 30 #[.complex .f64 0 0, .complex .f64 0 0, .complex .f64 0 0, .complex .f64 0 0]
                have l7 : V2.heap.size ≤ x8.heap.size := hHeld.2.2.size
                have h6 := h6.alloc (.cells #[.complex .f64 0 0, .complex .f64 0 0, .complex .f64 0 0, .complex .f64 0 0] 30)
                have n6 : g6 ≠ x8.heap.size := fun e => by have := hlt6; omega
                have hHeld := hHeld'
                clear hHeld'
                try simp only [Act.put, List.setIfInBounds_toArray, List.set_cons_zero, List.set_cons_succ]
                generalize hw7 : x8.heap.size = g7 at *
                clear hw7
                generalize (x8.alloc (.cells #[.complex .f64 0 0, .complex .f64 0 0, .complex .f64 0 0, .complex .f64 0 0] 30)) = x9 at *
                have n67 : g6 ≠ g7 := n6
                have hlt7 := h7.lt
                have hlt6 := h6.lt
                have f6 := h6.frozen
                have f7 := h7.frozen
                have c60 : x9.cell? ⟨g6, 0, none⟩ = some (.complex .f64 0 0) := h6.cell 0
                have c61 : x9.cell? ⟨g6, 1, none⟩ = some (.complex .f64 0 0) := h6.cell 1
                have c62 : x9.cell? ⟨g6, 2, none⟩ = some (.complex .f64 0 0) := h6.cell 2
                have c63 : x9.cell? ⟨g6, 3, none⟩ = some (.complex .f64 0 0) := h6.cell 3
                have c70 : x9.cell? ⟨g7, 0, none⟩ = some (.complex .f64 0 0) := h7.cell 0
                have c71 : x9.cell? ⟨g7, 1, none⟩ = some (.complex .f64 0 0) := h7.cell 1
                have c72 : x9.cell? ⟨g7, 2, none⟩ = some (.complex .f64 0 0) := h7.cell 2
                have c73 : x9.cell? ⟨g7, 3, none⟩ = some (.complex .f64 0 0) := h7.cell 3
                skip
                refine wpAnyH_ready (rs := [8]) (by kernel_rfl) (by simp) ?_
                refine AllReadyH.cons rfl (fun K hK => ?_) AllReadyH.nil
                go_simp
                refine hK.out _ _ (stored4 hHeld l6 hgl) (fun hHeld' => ?_)
                clear hK K hHeld
                have hHeld := hHeld'
                clear hHeld'
                try simp only [Act.put, List.setIfInBounds_toArray, List.set_cons_zero, List.set_cons_succ]
                refine wpAnyH_ready (rs := [9]) (by kernel_rfl) (by simp) ?_
                refine AllReadyH.cons rfl (fun K hK => ?_) AllReadyH.nil
                go_simp
                refine hK.out _ _ (stored4 hHeld l7 hgl) (fun hHeld' => ?_)
                clear hK K hHeld
                have hHeld := hHeld'
                clear hHeld'
                try simp only [Act.put, List.setIfInBounds_toArray, List.set_cons_zero, List.set_cons_succ]
                refine wpAnyH_done (by kernel_rfl) ?_ _
                go_wp2_with fail
                go_meet
                exact ⟨g6, g7, q, rfl, rfl, ((((h6.set_ 0 _).set_ 1 _).set_ 2 _).set_ 3 _ |>.far (by exact n67) _ |>.far (by exact n67) _ |>.far (by exact n67) _ |>.far (by exact n67) _), ((((((((h7.far (by exact n67.symm) _).far (by exact n67.symm) _).far (by exact n67.symm) _).far (by exact n67.symm) _).set_ 0 _).set_ 1 _).set_ 2 _).set_ 3 _), hHeld.2.2, hq⟩
            · go_simp
              refine hK.out _ _ ⟨hHeld.1.alloc _, hHeld.2.1.alloc _, hHeld.2.2.alloc _⟩ (fun hHeld' => ?_)
              clear hK K
              have h7 := Blk.new x7 30 #[.complex .f64 0 0, .complex .f64 0 0, .complex .f64 0 0, .complex .f64 0 0]
              have l7 : V2.heap.size ≤ x7.heap.size := hHeld.2.2.size
              have h6 := h6.alloc (.cells #[.complex .f64 0 0, .complex .f64 0 0, .complex .f64 0 0, .complex .f64 0 0] 30)
              have n6 : g6 ≠ x7.heap.size := fun e => by have := hlt6; omega
              have hHeld := hHeld'
              clear hHeld'
              try simp only [Act.put, List.setIfInBounds_toArray, List.set_cons_zero, List.set_cons_succ]
              generalize hw7 : x7.heap.size = g7 at *
              clear hw7
              generalize (x7.alloc (.cells #[.complex .f64 0 0, .complex .f64 0 0, .complex .f64 0 0, .complex .f64 0 0] 30)) = x10 at *
              have n67 : g6 ≠ g7 := n6
              have hlt7 := h7.lt
              have hlt6 := h6.lt
              refine wpAnyH_ready (rs := [5]) (by kernel_rfl) (by simp) ?_
              refine (AllReadyH.cons rfl (fun K hK => ?_) AllReadyH.nil)
              · go_simp
                refine (HJO.out _).mono ?_
                rintro e x11 ⟨q, rfl, hq0, kk⟩
                try go_wp2_with fail
                refine hK.out _ _ ⟨hHeld.1.keeps kk (by simp), hHeld.2.1.keeps kk (by simp), hHeld.2.2.trans kk⟩ (fun hHeld' => ?_)
                clear hK K
                have h6 := h6.keeps kk (by simp)
                have h7 := h7.keeps kk (by simp)
                have hq := joined_of hq0
                have hHeld := hHeld'
                clear hHeld' kk
                try simp only [Act.put, List.setIfInBounds_toArray, List.set_cons_zero, List.set_cons_succ]
                have hlt6 := h6.lt
                have hlt7 := h7.lt
                have f6 := h6.frozen
                have f7 := h7.frozen
                have c60 : x11.cell? ⟨g6, 0, none⟩ = some (.complex .f64 0 0) := h6.cell 0
                have c61 : x11.cell? ⟨g6, 1, none⟩ = some (.complex .f64 0 0) := h6.cell 1
                have c62 : x11.cell? ⟨g6, 2, none⟩ = some (.complex .f64 0 0) := h6.cell 2
                have c63 : x11.cell? ⟨g6, 3, none⟩ = some (.complex .f64 0 0) := h6.cell 3
                have c70 : x11.cell? ⟨g7, 0, none⟩ = some (.complex .f64 0 0) := h7.cell 0
                have c71 : x11.cell? ⟨g7, 1, none⟩ = some (.complex .f64 0 0) := h7.cell 1
                have c72 : x11.cell? ⟨g7, 2, none⟩ = some (.complex .f64 0 0) := h7.cell 2
                have c73 : x11.cell? ⟨g7, 3, none⟩ = some (.complex .f64 0 0) := h7.cell 3
                skip
                refine wpAnyH_ready (rs := [8]) (by kernel_rfl) (by simp) ?_
                refine AllReadyH.cons rfl (fun K hK => ?_) AllReadyH.nil
                go_simp
                refine hK.out _ _ (stored4 hHeld l6 hgl) (fun hHeld' => ?_)
                clear hK K hHeld
                have hHeld := hHeld'
                clear hHeld'
                try simp only [Act.put, List.setIfInBounds_toArray, List.set_cons_zero, List.set_cons_succ]
                refine wpAnyH_ready (rs := [9]) (by kernel_rfl) (by simp) ?_
                refine AllReadyH.cons rfl (fun K hK => ?_) AllReadyH.nil
                go_simp
                refine hK.out _ _ (stored4 hHeld l7 hgl) (fun hHeld' => ?_)
                clear hK K hHeld
                have hHeld := hHeld'
                clear hHeld'
                try simp only [Act.put, List.setIfInBounds_toArray, List.set_cons_zero, List.set_cons_succ]
                refine wpAnyH_done (by kernel_rfl) ?_ _
                go_wp2_with fail
                go_meet
                exact ⟨g6, g7, q, rfl, rfl, ((((h6.set_ 0 _).set_ 1 _).set_ 2 _).set_ 3 _ |>.far (by exact n67) _ |>.far (by exact n67) _ |>.far (by exact n67) _ |>.far (by exact n67) _), ((((((((h7.far (by exact n67.symm) _).far (by exact n67.symm) _).far (by exact n67.symm) _).far (by exact n67.symm) _).set_ 0 _).set_ 1 _).set_ 2 _).set_ 3 _), hHeld.2.2, hq⟩
          · go_simp
            refine hK.out _ _ ⟨hHeld.1.alloc _, hHeld.2.1.alloc _, hHeld.2.2.alloc _⟩ (fun hHeld' => ?_)
            clear hK K
            have h7 := Blk.new x1 30 #[.complex .f64 0 0, .complex .f64 0 0, .complex .f64 0 0, .complex .f64 0 0]
            have l7 : V2.heap.size ≤ x1.heap.size := hHeld.2.2.size
            have hHeld := hHeld'
            clear hHeld'
            try simp only [Act.put, List.setIfInBounds_toArray, List.set_cons_zero, List.set_cons_succ]
            generalize hw7 : x1.heap.size = g7 at *
            clear hw7
            generalize (x1.alloc (.cells #[.complex .f64 0 0, .complex .f64 0 0, .complex .f64 0 0, .complex .f64 0 0] 30)) = x12 at *
            have hlt7 := h7.lt
            refine wpAnyH_ready (rs := [5, 6]) (by kernel_rfl) (by simp) ?_
            refine (AllReadyH.cons rfl (fun K hK => ?_) (AllReadyH.cons rfl (fun K hK => ?_) AllReadyH.nil))
            · go_simp
              refine (HJO.out _).mono ?_
              rintro e x13 ⟨q, rfl, hq0, kk⟩
              try go_wp2_with fail
              refine hK.out _ _ ⟨hHeld.1.keeps kk (by simp), hHeld.2.1.keeps kk (by simp), hHeld.2.2.trans kk⟩ (fun hHeld' => ?_)
              clear hK K
              have h7 := h7.keeps kk (by simp)
              have hq := joined_of hq0
              have hHeld := hHeld'
              clear hHeld' kk
              try simp only [Act.put, List.setIfInBounds_toArray, List.set_cons_zero, List.set_cons_succ]
              have hlt7 := h7.lt
              refine wpAnyH_ready (rs := [6]) (by kernel_rfl) (by simp) ?_
              refine (AllReadyH.cons rfl (fun K hK => ?_) AllReadyH.nil)
              · go_simp
                refine hK.out _ _ ⟨hHeld.1.alloc _, hHeld.2.1.alloc _, hHeld.2.2.alloc _⟩ (fun hHeld' => ?_)
                clear hK K
                have h6 := Blk.new x13 30 #[.complex .f64 0 0, .complex .f64 0 0, .complex .f64 0 0, .complex .f64 0 0]
                have l6 : V2.heap.size ≤ x13.heap.size := hHeld.2.2.size
                have h7 := h7.alloc (.cells #[.complex .f64 0 0, .complex .f64 0 0, .complex .f64 0 0, .complex .f64 0 0] 30)
                have n7 : g7 ≠ x13.heap.size := fun e => by have := hlt7; omega
                have hHeld := hHeld'
                clear hHeld'
                try simp only [Act.put, List.setIfInBounds_toArray, List.set_cons_zero, List.set_cons_succ]
                generalize hw6 : x13.heap.size = g6 at *
                clear hw6
                generalize (x13.alloc (.cells #[.complex .f64 0 0, .complex .f64 0 0, .complex .f64 0 0, .complex .f64 0 0] 30)) = x14 at *
                have n67 : g6 ≠ g7 := n7.symm
                have hlt6 := h6.lt
                have hlt7 := h7.lt
                have f6 := h6.frozen
                have f7 := h7.frozen
                have c60 : x14.cell? ⟨g6, 0, none⟩ = some (.complex .f64 0 0) := h6.cell 0
                have c61 : x14.cell? ⟨g6, 1, none⟩ = some (.complex .f64 0 0) := h6.cell 1
                have c62 : x14.cell? ⟨g6, 2, none⟩ = some (.complex .f64 0 0) := h6.cell 2
                have c63 : x14.cell? ⟨g6, 3, none⟩ = some (.complex .f64 0 0) := h6.cell 3
                have c70 : x14.cell? ⟨g7, 0, none⟩ = some (.complex .f64 0 0) := h7.cell 0
                have c71 : x14.cell? ⟨g7, 1, none⟩ = some (.complex .f64 0 0) := h7.cell 1
                have c72 : x14.cell? ⟨g7, 2, none⟩ = some (.complex .f64 0 0) := h7.cell 2
                have c73 : x14.cell? ⟨g7, 3, none⟩ = some (.complex .f64 0 0) := h7.cell 3
                skip
                refine wpAnyH_ready (rs := [8]) (by kernel_rfl) (by simp) ?_
                refine AllReadyH.cons rfl (fun K hK => ?_) AllReadyH.nil
                go_simp
                refine hK.out _ _ (stored4 hHeld l6 hgl) (fun hHeld' => ?_)
                clear hK K hHeld
                have hHeld := hHeld'
                clear hHeld'
                try simp only [Act.put, List.setIfInBounds_toArray, List.set_cons_zero, List.set_cons_succ]
                refine wpAnyH_ready (rs := [9]) (by kernel_rfl) (by simp) ?_
                refine AllReadyH.cons rfl (fun K hK => ?_) AllReadyH.nil
                go_simp
                refine hK.out _ _ (stored4 hHeld l7 hgl) (fun hHeld' => ?_)
                clear hK K hHeld
                have hHeld := hHeld'
                clear hHeld'
                try simp only [Act.put, List.setIfInBounds_toArray, List.set_cons_zero, List.set_cons_succ]
                refine wpAnyH_done (by kernel_rfl) ?_ _
                go_wp2_with fail
                go_meet
                exact ⟨g6, g7, q, rfl, rfl, ((((h6.set_ 0 _).set_ 1 _).set_ 2 _).set_ 3 _ |>.far (by exact n67) _ |>.far (by exact n67) _ |>.far (by exact n67) _ |>.far (by exact n67) _), ((((((((h7.far (by exact n67.symm) _).far (by exact n67.symm) _).far (by exact n67.symm) _).far (by exact n67.symm) _).set_ 0 _).set_ 1 _).set_ 2 _).set_ 3 _), hHeld.2.2, hq⟩
            · go_simp
              refine hK.out _ _ ⟨hHeld.1.alloc _, hHeld.2.1.alloc _, hHeld.2.2.alloc _⟩ (fun hHeld' => ?_)
              clear hK K
              have h6 := Blk.new x12 30 #[.complex .f64 0 0, .complex .f64 0 0, .complex .f64 0 0, .complex .f64 0 0]
              have l6 : V2.heap.size ≤ x12.heap.size := hHeld.2.2.size
              have h7 := h7.alloc (.cells #[.complex .f64 0 0, .complex .f64 0 0, .complex .f64 0 0, .complex .f64 0 0] 30)
              have n7 : g7 ≠ x12.heap.size := fun e => by have := hlt7; omega
              have hHeld := hHeld'
              clear hHeld'
              try simp only [Act.put, List.setIfInBounds_toArray, List.set_cons_zero, List.set_cons_succ]
              generalize hw6 : x12.heap.size = g6 at *
              clear hw6
              generalize (x12.alloc (.cells #[.complex .f64 0 0, .complex .f64 0 0, .complex .f64 0 0, .complex .f64 0 0] 30)) = x15 at *
              have n67 : g6 ≠ g7 := n7.symm
              have hlt6 := h6.lt
              have hlt7 := h7.lt
              refine wpAnyH_ready (rs := [5]) (by kernel_rfl) (by simp) ?_
              refine (AllReadyH.cons rfl (fun K hK => ?_) AllReadyH.nil)
              · go_simp
                refine (HJO.out _).mono ?_
                rintro e x16 ⟨q, rfl, hq0, kk⟩
                try go_wp2_with fail
                refine hK.out _ _ ⟨hHeld.1.keeps kk (by simp), hHeld.2.1.keeps kk (by simp), hHeld.2.2.trans kk⟩ (fun hHeld' => ?_)
                clear hK K
                have h6 := h6.keeps kk (by simp)
                have h7 := h7.keeps kk (by simp)
                have hq := joined_of hq0
                have hHeld := hHeld'
                clear hHeld' kk
                try simp only [Act.put, List.setIfInBounds_toArray, List.set_cons_zero, List.set_cons_succ]
                have hlt6 := h6.lt
                have hlt7 := h7.lt
                have f6 := h6.frozen
                have f7 := h7.frozen
                have c60 : x16.cell? ⟨g6, 0, none⟩ = some (.complex .f64 0 0) := h6.cell 0
                have c61 : x16.cell? ⟨g6, 1, none⟩ = some (.complex .f64 0 0) := h6.cell 1
                have c62 : x16.cell? ⟨g6, 2, none⟩ = some (.complex .f64 0 0) := h6.cell 2
                have c63 : x16.cell? ⟨g6, 3, none⟩ = some (.complex .f64 0 0) := h6.cell 3
                have c70 : x16.cell? ⟨g7, 0, none⟩ = some (.complex .f64 0 0) := h7.cell 0
                have c71 : x16.cell? ⟨g7, 1, none⟩ = some (.complex .f64 0 0) := h7.cell 1
                have c72 : x16.cell? ⟨g7, 2, none⟩ = some (.complex .f64 0 0) := h7.cell 2
                have c73 : x16.cell? ⟨g7, 3, none⟩ = some (.complex .f64 0 0) := h7.cell 3
                skip
                refine wpAnyH_ready (rs := [8]) (by kernel_rfl) (by simp) ?_
                refine AllReadyH.cons rfl (fun K hK => ?_) AllReadyH.nil
                go_simp
                refine hK.out _ _ (stored4 hHeld l6 hgl) (fun hHeld' => ?_)
                clear hK K hHeld
                have hHeld := hHeld'
                clear hHeld'
                try simp only [Act.put, List.setIfInBounds_toArray, List.set_cons_zero, List.set_cons_succ]
                refine wpAnyH_ready (rs := [9]) (by kernel_rfl) (by simp) ?_
                refine AllReadyH.cons rfl (fun K hK => ?_) AllReadyH.nil
                go_simp
                refine hK.out _ _ (stored4 hHeld l7 hgl) (fun hHeld' => ?_)
                clear hK K hHeld
                have hHeld := hHeld'
                clear hHeld'
                try simp only [Act.put, List.setIfInBounds_toArray, List.set_cons_zero, List.set_cons_succ]
                refine wpAnyH_done (by kernel_rfl) ?_ _
                go_wp2_with fail
                go_meet
                exact ⟨g6, g7, q, rfl, rfl, ((((h6.set_ 0 _).set_ 1 _).set_ 2 _).set_ 3 _ |>.far (by exact n67) _ |>.far (by exact n67) _ |>.far (by exact n67) _ |>.far (by exact n67) _), ((((((((h7.far (by exact n67.symm) _).far (by exact n67.symm) _).far (by exact n67.symm) _).far (by exact n67.symm) _).set_ 0 _).set_ 1 _).set_ 2 _).set_ 3 _), hHeld.2.2, hq⟩
        · go_simp
          refine hK.out _ _ ⟨hHeld.1.alloc _, hHeld.2.1.alloc _, hHeld.2.2.alloc _⟩ (fun hHeld' => ?_)
          clear hK K
          have h6 := Blk.new D0 30 #[.complex .f64 0 0, .complex .f64 0 0, .complex .f64 0 0, .complex .f64 0 0]
          have l6 : V2.heap.size ≤ D0.heap.size := hHeld.2.2.size
          have hHeld := hHeld'
          clear hHeld'
          try simp only [Act.put, List.setIfInBounds_toArray, List.set_cons_zero, List.set_cons_succ]
          generalize hw6 : D0.heap.size = g6 at *
          clear hw6
          generalize (D0.alloc (.cells #[.complex .f64 0 0, .complex .f64 0 0, .complex .f64 0 0, .complex .f64 0 0] 30)) = x17 at *
          have hlt6 := h6.lt
          refine wpAnyH_ready (rs := [2, 7]) (by kernel_rfl) (by simp) ?_
          refine (AllReadyH.cons rfl (fun K hK => ?_) (AllReadyH.cons rfl (fun K hK => ?_) AllReadyH.nil))
          · go_simp
            refine (HSH.out _).mono ?_
            rintro e x18 ⟨rfl, kk⟩
            try go_wp2_with fail
            refine hK.out _ _ ⟨hHeld.1.keeps kk (by simp), hHeld.2.1.keeps kk (by simp), hHeld.2.2.trans kk⟩ (fun hHeld' => ?_)
            clear hK K
            have h6 := h6.keeps kk (by simp)
            have hHeld := hHeld'
            clear hHeld' kk
            try simp only [Act.put, List.setIfInBounds_toArray, List.set_cons_zero, List.set_cons_succ]
            have hlt6 := h6.lt
            refine wpAnyH_ready (rs := [5, 7]) (by kernel_rfl) (by simp) ?_
            refine (AllReadyH.cons rfl (fun K hK => ?_) (AllReadyH.cons rfl (fun K hK => ?_) AllReadyH.nil))
            · go_simp
              refine (HJO.out _).mono ?_
              rintro e x19 ⟨q, rfl, hq0, kk⟩
              try go_wp2_with fail
              refine hK.out _ _ ⟨hHeld.1.keeps kk (by simp), hHeld.2.1.keeps kk (by simp), hHeld.2.2.trans kk⟩ (fun hHeld' => ?_)
              clear hK K
              have h6 := h6.keeps kk (by simp)
              have hq := joined_of hq0
              have hHeld := hHeld'
              clear hHeld' kk
              try simp only [Act.put, List.setIfInBounds_toArray, List.set_cons_zero, List.set_cons_succ]
              have hlt6 := h6.lt
              refine wpAnyH_ready (rs := [7]) (by kernel_rfl) (by simp) ?_
              refine (AllReadyH.cons rfl (fun K hK => ?_) AllReadyH.nil)
              · go_simp
                refine hK.out _ _ ⟨hHeld.1.alloc _, hHeld.2.1.alloc _, hHeld.2.2.alloc _⟩ (fun hHeld' => ?_)
                clear hK K
                have h7 := Blk.new x19 30 #[.complex .f64 0 0, .complex .f64 0 0, .complex .f64 0 0, .complex .f64 0 0]
                have l7 : V2.heap.size ≤ x19.heap.size := hHeld.2.2.size
                have h6 := h6.alloc (.cells #[.complex .f64 0 0, .complex .f64 0 0, .complex .f64 0 0, .complex .f64 0 0] 30)
                have n6 : g6 ≠ x19.heap.size := fun e => by have := hlt6; omega
                have hHeld := hHeld'
                clear hHeld'
                try simp only [Act.put, List.setIfInBounds_toArray, List.set_cons_zero, List.set_cons_succ]
                generalize hw7 : x19.heap.size = g7 at *
                clear hw7
                generalize (x19.alloc (.cells #[.complex .f64 0 0, .complex .f64 0 0, .complex .f64 0 0, .complex .f64 0 0] 30)) = x20 at *
                have n67 : g6 ≠ g7 := n6
                have hlt7 := h7.lt
                have hlt6 := h6.lt
                have f6 := h6.frozen
                have f7 := h7.frozen
                have c60 : x20.cell? ⟨g6, 0, none⟩ = some (.complex .f64 0 0) := h6.cell 0
                have c61 : x20.cell? ⟨g6, 1, none⟩ = some (.complex .f64 0 0) := h6.cell 1
                have c62 : x20.cell? ⟨g6, 2, none⟩ = some (.complex .f64 0 0) := h6.cell 2
                have c63 : x20.cell? ⟨g6, 3, none⟩ = some (.complex .f64 0 0) := h6.cell 3
                have c70 : x20.cell? ⟨g7, 0, none⟩ = some (.complex .f64 0 0) := h7.cell 0
                have c71 : x20.cell? ⟨g7, 1, none⟩ = some (.complex .f64 0 0) := h7.cell 1
                have c72 : x20.cell? ⟨g7, 2, none⟩ = some (.complex .f64 0 0) := h7.cell 2
                have c73 : x20.cell? ⟨g7, 3, none⟩ = some (.complex .f64 0 0) := h7.cell 3
                skip
                refine wpAnyH_ready (rs := [8]) (by kernel_rfl) (by simp) ?_
                refine AllReadyH.cons rfl (fun K hK => ?_) AllReadyH.nil
                go_simp
                refine hK.out _ _ (stored4 hHeld l6 hgl) (fun hHeld' => ?_)
                clear hK K hHeld
                have hHeld := hHeld'
                clear hHeld'
                try simp only [Act.put, List.setIfInBounds_toArray, List.set_cons_zero, List.set_cons_succ]
                refine wpAnyH_ready (rs := [9]) (by kernel_rfl) (by simp) ?_
                refine AllReadyH.cons rfl (fun K hK => ?_) AllReadyH.nil
                go_simp
                refine hK.out _ _ (stored4 hHeld l7 hgl) (fun hHeld' => ?_)
                clear hK K hHeld
                have hHeld := hHeld'
                clear hHeld'
                try simp only [Act.put, List.setIfInBounds_toArray, List.set_cons_zero, List.set_cons_succ]
                refine wpAnyH_done (by kernel_rfl) ?_ _
                go_wp2_with fail
                go_meet
                exact ⟨g6, g7, q, rfl, rfl, ((((h6.set_ 0 _).set_ 1 _).set_ 2 _).set_ 3 _ |>.far (by exact n67) _ |>.far (by exact n67) _ |>.far (by exact n67) _ |>.far (by exact n67) _), ((((((((h7.far (by exact n67.symm) _).far (by exact n67.symm) _).far (by exact n67.symm) _).far (by exact n67.symm) _).set_ 0 _).set_ 1 _).set_ 2 _).set_ 3 _), hHeld.2.2, hq⟩
            · go_simp
              refine hK.out _ _ ⟨hHeld.1.alloc _, hHeld.2.1.alloc _, hHeld.2.2.alloc _⟩ (fun hHeld' => ?_)
              clear hK K
              have h7 := Blk.new x18 30 #[.complex .f64 0 0, .complex .f64 0 0, .complex .f64 0 0, .complex .f64 0 0]
              have l7 : V2.heap.size ≤ x18.heap.size := hHeld.2.2.size
              have h6 := h6.alloc (.cells #[.complex .f64 0 0, .complex .f64 0 0, .complex .f64 0 0, .complex .f64 0 0] 30)
              have n6 : g6 ≠ x18.heap.size := fun e => by have := hlt6; omega
              have hHeld := hHeld'
              clear hHeld'
              try simp only [Act.put, List.setIfInBounds_toArray, List.set_cons_zero, List.set_cons_succ]
              generalize hw7 : x18.heap.size = g7 at *
              clear hw7
              generalize (x18.alloc (.cells #[.complex .f64 0 0, .complex .f64 0 0, .complex .f64 0 0, .complex .f64 0 0] 30)) = x21 at *
              have n67 : g6 ≠ g7 := n6
              have hlt7 := h7.lt
              have hlt6 := h6.lt
              refine wpAnyH_ready (rs := [5]) (by kernel_rfl) (by simp) ?_
              refine (AllReadyH.cons rfl (fun K hK => ?_) AllReadyH.nil)
              · go_simp
                refine (HJO.out _).mono ?_
                rintro e x22 ⟨q, rfl, hq0, kk⟩
                try go_wp2_with fail
                refine hK.out _ _ ⟨hHeld.1.keeps kk (by simp), hHeld.2.1.keeps kk (by simp), hHeld.2.2.trans kk⟩ (fun hHeld' => ?_)
                clear hK K
                have h6 := h6.keeps kk (by simp)
                have h7 := h7.keeps kk (by simp)
                have hq := joined_of hq0
                have hHeld := hHeld'
                clear hHeld' kk
                try simp only [Act.put, List.setIfInBounds_toArray, List.set_cons_zero, List.set_cons_succ]
                have hlt6 := h6.lt
                have hlt7 := h7.lt
                have f6 := h6.frozen
                have f7 := h7.frozen
                have c60 : x22.cell? ⟨g6, 0, none⟩ = some (.complex .f64 0 0) := h6.cell 0
                have c61 : x22.cell? ⟨g6, 1, none⟩ = some (.complex .f64 0 0) := h6.cell 1
                have c62 : x22.cell? ⟨g6, 2, none⟩ = some (.complex .f64 0 0) := h6.cell 2
                have c63 : x22.cell? ⟨g6, 3, none⟩ = some (.complex .f64 0 0) := h6.cell 3
                have c70 : x22.cell? ⟨g7, 0, none⟩ = some (.complex .f64 0 0) := h7.cell 0
                have c71 : x22.cell? ⟨g7, 1, none⟩ = some (.complex .f64 0 0) := h7.cell 1
                have c72 : x22.cell? ⟨g7, 2, none⟩ = some (.complex .f64 0 0) := h7.cell 2
                have c73 : x22.cell? ⟨g7, 3, none⟩ = some (.complex .f64 0 0) := h7.cell 3
                skip
                refine wpAnyH_ready (rs := [8]) (by kernel_rfl) (by simp) ?_
                refine AllReadyH.cons rfl (fun K hK => ?_) AllReadyH.nil
                go_simp
                refine hK.out _ _ (stored4 hHeld l6 hgl) (fun hHeld' => ?_)
                clear hK K hHeld
                have hHeld := hHeld'
                clear hHeld'
                try simp only [Act.put, List.setIfInBounds_toArray, List.set_cons_zero, List.set_cons_succ]
                refine wpAnyH_ready (rs := [9]) (by kernel_rfl) (by simp) ?_
                refine AllReadyH.cons rfl (fun K hK => ?_) AllReadyH.nil
                go_simp
                refine hK.out _ _ (stored4 hHeld l7 hgl) (fun hHeld' => ?_)
                clear hK K hHeld
                have hHeld := hHeld'
                clear hHeld'
                try simp only [Act.put, List.setIfInBounds_toArray, List.set_cons_zero, List.set_cons_succ]
                refine wpAnyH_done (by kernel_rfl) ?_ _
                go_wp2_with fail
                go_meet
                exact ⟨g6, g7, q, rfl, rfl, ((((h6.set_ 0 _).set_ 1 _).set_ 2 _).set_ 3 _ |>.far (by exact n67) _ |>.far (by exact n67) _ |>.far (by exact n67) _ |>.far (by exact n67) _), ((((((((h7.far (by exact n67.symm) _).far (by exact n67.symm) _).far (by exact n67.symm) _).far (by exact n67.symm) _).set_ 0 _).set_ 1 _).set_ 2 _).set_ 3 _), hHeld.2.2, hq⟩
          · go_simp
            refine hK.out _ _ ⟨hHeld.1.alloc _, hHeld.2.1.alloc _, hHeld.2.2.alloc _⟩ (fun hHeld' => ?_)
            clear hK K
            have h7 := Blk.new x17 30 #[.complex .f64 0 0, .complex .f64 0 0, .complex .f64 0 0, .complex .f64 0 0]
            have l7 : V2.heap.size ≤ x17.heap.size := hHeld.2.2.size
            have h6 := h6.alloc (.cells #[.complex .f64 0 0, .complex .f64 0 0, .complex .f64 0 0, .complex .f64 0 0] 30)
            have n6 : g6 ≠ x17.heap.size := fun e => by have := hlt6; omega
            have hHeld := hHeld'
            clear hHeld'
            try simp only [Act.put, List.setIfInBounds_toArray, List.set_cons_zero, List.set_cons_succ]
            generalize hw7 : x17.heap.size = g7 at *
            clear hw7
            generalize (x17.alloc (.cells #[.complex .f64 0 0, .complex .f64 0 0, .complex .f64 0 0, .complex .f64 0 0] 30)) = x23 at *
            have n67 : g6 ≠ g7 := n6
            have hlt7 := h7.lt
            have hlt6 := h6.lt
            refine wpAnyH_ready (rs := [2]) (by kernel_rfl) (by simp) ?_
            refine (AllReadyH.cons rfl (fun K hK => ?_) AllReadyH.nil)
            · go_simp
              refine (HSH.out _).mono ?_
              rintro e x24 ⟨rfl, kk⟩
              try go_wp2_with fail
              refine hK.out _ _ ⟨hHeld.1.keeps kk (by simp), hHeld.2.1.keeps kk (by simp), hHeld.2.2.trans kk⟩ (fun hHeld' => ?_)
              clear hK K
              have h6 := h6.keeps kk (by simp)
              have h7 := h7.keeps kk (by simp)
              have hHeld := hHeld'
              clear hHeld' kk
              try simp only [Act.put, List.setIfInBounds_toArray, List.set_cons_zero, List.set_cons_succ]
              have hlt6 := h6.lt
              have hlt7 := h7.lt
              refine wpAnyH_ready (rs := [5]) (by kernel_rfl) (by simp) ?_
              refine (AllReadyH.cons rfl (fun K hK => ?_) AllReadyH.nil)
              · go_simp
                refine (HJO.out _).mono ?_
                rintro e x25 ⟨q, rfl, hq0, kk⟩
                try go_wp2_with fail
                refine hK.out _ _ ⟨hHeld.1.keeps kk (by simp), hHeld.2.1.keeps kk (by simp), hHeld.2.2.trans kk⟩ (fun hHeld' => ?_)
                clear hK K
                have h6 := h6.keeps kk (by simp)
                have h7 := h7.keeps kk (by simp)
                have hq := joined_of hq0
                have hHeld := hHeld'
                clear hHeld' kk
                try simp only [Act.put, List.setIfInBounds_toArray, List.set_cons_zero, List.set_cons_succ]
                have hlt6 := h6.lt
                have hlt7 := h7.lt
                have f6 := h6.frozen
                have f7 := h7.frozen
                have c60 : x25.cell? ⟨g6, 0, none⟩ = some (.complex .f64 0 0) := h6.cell 0
                have c61 : x25.cell? ⟨g6, 1, none⟩ = some (.complex .f64 0 0) := h6.cell 1
                have c62 : x25.cell? ⟨g6, 2, none⟩ = some (.complex .f64 0 0) := h6.cell 2
                have c63 : x25.cell? ⟨g6, 3, none⟩ = some (.complex .f64 0 0) := h6.cell 3
                have c70 : x25.cell? ⟨g7, 0, none⟩ = some (.complex .f64 0 0) := h7.cell 0
                have c71 : x25.cell? ⟨g7, 1, none⟩ = some (.complex .f64 0 0) := h7.cell 1
                have c72 : x25.cell? ⟨g7, 2, none⟩ = some (.complex .f64 0 0) := h7.cell 2
                have c73 : x25.cell? ⟨g7, 3, none⟩ = some (.complex .f64 0 0) := h7.cell 3
                skip
                refine wpAnyH_ready (rs := [8]) (by kernel_rfl) (by simp) ?_
                refine AllReadyH.cons rfl (fun K hK => ?_) AllReadyH.nil
                go_simp
                refine hK.out _ _ (stored4 hHeld l6 hgl) (fun hHeld' => ?_)
                clear hK K hHeld
                have hHeld := hHeld'
                clear hHeld'
                try simp only [Act.put, List.setIfInBounds_toArray, List.set_cons_zero, List.set_cons_succ]
                refine wpAnyH_ready (rs := [9]) (by kernel_rfl) (by simp) ?_
                refine AllReadyH.cons rfl (fun K hK => ?_) AllReadyH.nil
                go_simp
                refine hK.out _ _ (stored4 hHeld l7 hgl) (fun hHeld' => ?_)
                clear hK K hHeld
                have hHeld := hHeld'
                clear hHeld'
                try simp only [Act.put, List.setIfInBounds_toArray, List.set_cons_zero, List.set_cons_succ]
                refine wpAnyH_done (by kernel_rfl) ?_ _
                go_wp2_with fail
                go_meet
                exact ⟨g6, g7, q, rfl, rfl, ((((h6.set_ 0 _).set_ 1 _).set_ 2 _).set_ 3 _ |>.far (by exact n67) _ |>.far (by exact n67) _ |>.far (by exact n67) _ |>.far (by exact n67) _), ((((((((h7.far (by exact n67.symm) _).far (by exact n67.symm) _).far (by exact n67.symm) _).far (by exact n67.symm) _).set_ 0 _).set_ 1 _).set_ 2 _).set_ 3 _), hHeld.2.2, hq⟩
        · go_simp
          refine hK.out _ _ ⟨hHeld.1.alloc _, hHeld.2.1.alloc _, hHeld.2.2.alloc _⟩ (fun hHeld' => ?_)
          clear hK K
          have h7 := Blk.new D0 30 #[.complex .f64 0 0, .complex .f64 0 0, .complex .f64 0 0, .complex .f64 0 0]
          have l7 : V2.heap.size ≤ D0.heap.size := hHeld.2.2.size
          have hHeld := hHeld'
          clear hHeld'
          try simp only [Act.put, List.setIfInBounds_toArray, List.set_cons_zero, List.set_cons_succ]
          generalize hw7 : D0.heap.size = g7 at *
          clear hw7
          generalize (D0.alloc (.cells #[.complex .f64 0 0, .complex .f64 0 0, .complex .f64 0 0, .complex .f64 0 0] 30)) = x26 at *
          have hlt7 := h7.lt
          refine wpAnyH_ready (rs := [2, 6]) (by kernel_rfl) (by simp) ?_
          refine (AllReadyH.cons rfl (fun K hK => ?_) (AllReadyH.cons rfl (fun K hK => ?_) AllReadyH.nil))
          · go_simp
            refine (HSH.out _).mono ?_
            rintro e x27 ⟨rfl, kk⟩
            try go_wp2_with fail
            refine hK.out _ _ ⟨hHeld.1.keeps kk (by simp), hHeld.2.1.keeps kk (by simp), hHeld.2.2.trans kk⟩ (fun hHeld' => ?_)
            clear hK K
            have h7 := h7.keeps kk (by simp)
            have hHeld := hHeld'
            clear hHeld' kk
            try simp only [Act.put, List.setIfInBounds_toArray, List.set_cons_zero, List.set_cons_succ]
            have hlt7 := h7.lt
            refine wpAnyH_ready (rs := [5, 6]) (by kernel_rfl) (by simp) ?_
            refine (AllReadyH.cons rfl (fun K hK => ?_) (AllReadyH.cons rfl (fun K hK => ?_) AllReadyH.nil))
            · go_simp
              refine (HJO.out _).mono ?_
              rintro e x28 ⟨q, rfl, hq0, kk⟩
              try go_wp2_with fail
              refine hK.out _ _ ⟨hHeld.1.keeps kk (by simp), hHeld.2.1.keeps kk (by simp), hHeld.2.2.trans kk⟩ (fun hHeld' => ?_)
              clear hK K
              have h7 := h7.keeps kk (by simp)
              have hq := joined_of hq0
              have hHeld := hHeld'
              clear hHeld' kk
              try simp only [Act.put, List.setIfInBounds_toArray, List.set_cons_zero, List.set_cons_succ]
              have hlt7 := h7.lt
              refine wpAnyH_ready (rs := [6]) (by kernel_rfl) (by simp) ?_
              refine (AllReadyH.cons rfl (fun K hK => ?_) AllReadyH.nil)
              · go_simp
                refine hK.out _ _ ⟨hHeld.1.alloc _, hHeld.2.1.alloc _, hHeld.2.2.alloc _⟩ (fun hHeld' => ?_)
                clear hK K
                have h6 := Blk.new x28 30 #[.complex .f64 0 0, .complex .f64 0 0, .complex .f64 0 0, .complex .f64 0 0]
                have l6 : V2.heap.size ≤ x28.heap.size := hHeld.2.2.size
                have h7 := h7.alloc (.cells #[.complex .f64 0 0, .complex .f64 0 0, .complex .f64 0 0, .complex .f64 0 0] 30)
                have n7 : g7 ≠ x28.heap.size := fun e => by have := hlt7; omega
                have hHeld := hHeld'
                clear hHeld'
                try simp only [Act.put, List.setIfInBounds_toArray, List.set_cons_zero, List.set_cons_succ]
                generalize hw6 : x28.heap.size = g6 at *
                clear hw6
                generalize (x28.alloc (.cells #[.complex .f64 0 0, .complex .f64 0 0, .complex .f64 0 0, .complex .f64 0 0] 30)) = x29 at *
                have n67 : g6 ≠ g7 := n7.symm
                have hlt6 := h6.lt
                have hlt7 := h7.lt
                have f6 := h6.frozen
                have f7 := h7.frozen
                have c60 : x29.cell? ⟨g6, 0, none⟩ = some (.complex .f64 0 0) := h6.cell 0
                have c61 : x29.cell? ⟨g6, 1, none⟩ = some (.complex .f64 0 0) := h6.cell 1
                have c62 : x29.cell? ⟨g6, 2, none⟩ = some (.complex .f64 0 0) := h6.cell 2
                have c63 : x29.cell? ⟨g6, 3, none⟩ = some (.complex .f64 0 0) := h6.cell 3
                have c70 : x29.cell? ⟨g7, 0, none⟩ = some (.complex .f64 0 0) := h7.cell 0
                have c71 : x29.cell? ⟨g7, 1, none⟩ = some (.complex .f64 0 0) := h7.cell 1
                have c72 : x29.cell? ⟨g7, 2, none⟩ = some (.complex .f64 0 0) := h7.cell 2
                have c73 : x29.cell? ⟨g7, 3, none⟩ = some (.complex .f64 0 0) := h7.cell 3
                skip
                refine wpAnyH_ready (rs := [8]) (by kernel_rfl) (by simp) ?_
                refine AllReadyH.cons rfl (fun K hK => ?_) AllReadyH.nil
                go_simp
                refine hK.out _ _ (stored4 hHeld l6 hgl) (fun hHeld' => ?_)
                clear hK K hHeld
                have hHeld := hHeld'
                clear hHeld'
                try simp only [Act.put, List.setIfInBounds_toArray, List.set_cons_zero, List.set_cons_succ]
                refine wpAnyH_ready (rs := [9]) (by kernel_rfl) (by simp) ?_
                refine AllReadyH.cons rfl (fun K hK => ?_) AllReadyH.nil
                go_simp
                refine hK.out _ _ (stored4 hHeld l7 hgl) (fun hHeld' => ?_)
                clear hK K hHeld
                have hHeld := hHeld'
                clear hHeld'
                try simp only [Act.put, List.setIfInBounds_toArray, List.set_cons_zero, List.set_cons_succ]
                refine wpAnyH_done (by kernel_rfl) ?_ _
                go_wp2_with fail
                go_meet
                exact ⟨g6, g7, q, rfl, rfl, ((((h6.set_ 0 _).set_ 1 _).set_ 2 _).set_ 3 _ |>.far (by exact n67) _ |>.far (by exact n67) _ |>.far (by exact n67) _ |>.far (by exact n67) _), ((((((((h7.far (by exact n67.symm) _).far (by exact n67.symm) _).far (by exact n67.symm) _).far (by exact n67.symm) _).set_ 0 _).set_ 1 _).set_ 2 _).set_ 3 _), hHeld.2.2, hq⟩
            · go_simp
              refine hK.out _ _ ⟨hHeld.1.alloc _, hHeld.2.1.alloc _, hHeld.2.2.alloc _⟩ (fun hHeld' => ?_)
              clear hK K
              have h6 := Blk.new x27 30 #[.complex .f64 0 0, .complex .f64 0 0, .complex .f64 0 0, .complex .f64 0 0]
              have l6 : V2.heap.size ≤ x27.heap.size := hHeld.2.2.size
              have h7 := h7.alloc (.cells #[.complex .f64 0 0, .complex .f64 0 0, .complex .f64 0 0, .complex .f64 0 0] 30)
              have n7 : g7 ≠ x27.heap.size := fun e => by have := hlt7; omega
              have hHeld := hHeld'
              clear hHeld'
              try simp only [Act.put, List.setIfInBounds_toArray, List.set_cons_zero, List.set_cons_succ]
              generalize hw6 : x27.heap.size = g6 at *
              clear hw6
              generalize (x27.alloc (.cells #[.complex .f64 0 0, .complex .f64 0 0, .complex .f64 0 0, .complex .f64 0 0] 30)) = x30 at *
              have n67 : g6 ≠ g7 := n7.symm
              have hlt6 := h6.lt
              have hlt7 := h7.lt
              refine wpAnyH_ready (rs := [5]) (by kernel_rfl) (by simp) ?_
              refine (AllReadyH.cons rfl (fun K hK => ?_) AllReadyH.nil)
              · go_simp
                refine (HJO.out _).mono ?_
                rintro e x31 ⟨q, rfl, hq0, kk⟩
                try go_wp2_with fail
                refine hK.out _ _ ⟨hHeld.1.keeps kk (by simp), hHeld.2.1.keeps kk (by simp), hHeld.2.2.trans kk⟩ (fun hHeld' => ?_)
                clear hK K
                have h6 := h6.keeps kk (by simp)
                have h7 := h7.keeps kk (by simp)
                have hq := joined_of hq0
                have hHeld := hHeld'
                clear hHeld' kk
                try simp only [Act.put, List.setIfInBounds_toArray, List.set_cons_zero, List.set_cons_succ]
                have hlt6 := h6.lt
                have hlt7 := h7.lt
                have f6 := h6.frozen
                have f7 := h7.frozen
                have c60 : x31.cell? ⟨g6, 0, none⟩ = some (.complex .f64 0 0) := h6.cell 0
                have c61 : x31.cell? ⟨g6, 1, none⟩ = some (.complex .f64 0 0) := h6.cell 1
                have c62 : x31.cell? ⟨g6, 2, none⟩ = some (.complex .f64 0 0) := h6.cell 2
                have c63 : x31.cell? ⟨g6, 3, none⟩ = some (.complex .f64 0 0) := h6.cell 3
                have c70 : x31.cell? ⟨g7, 0, none⟩ = some (.complex .f64 0 0) := h7.cell 0
                have c71 : x31.cell? ⟨g7, 1, none⟩ = some (.complex .f64 0 0) := h7.cell 1
                have c72 : x31.cell? ⟨g7, 2, none⟩ = some (.complex .f64 0 0) := h7.cell 2
                have c73 : x31.cell? ⟨g7, 3, none⟩ = some (.complex .f64 0 0) := h7.cell 3
                skip
                refine wpAnyH_ready (rs := [8]) (by kernel_rfl) (by simp) ?_
                refine AllReadyH.cons rfl (fun K hK => ?_) AllReadyH.nil
                go_simp
                refine hK.out _ _ (stored4 hHeld l6 hgl) (fun hHeld' => ?_)
                clear hK K hHeld
                have hHeld := hHeld'
                clear hHeld'
                try simp only [Act.put, List.setIfInBounds_toArray, List.set_cons_zero, List.set_cons_succ]
                refine wpAnyH_ready (rs := [9]) (by kernel_rfl) (by simp) ?_
                refine AllReadyH.cons rfl (fun K hK => ?_) AllReadyH.nil
                go_simp
                refine hK.out _ _ (stored4 hHeld l7 hgl) (fun hHeld' => ?_)
                clear hK K hHeld
                have hHeld := hHeld'
                clear hHeld'
                try simp only [Act.put, List.setIfInBounds_toArray, List.set_cons_zero, List.set_cons_succ]
                refine wpAnyH_done (by kernel_rfl) ?_ _
                go_wp2_with fail
                go_meet
                exact ⟨g6, g7, q, rfl, rfl, ((((h6.set_ 0 _).set_ 1 _).set_ 2 _).set_ 3 _ |>.far (by exact n67) _ |>.far (by exact n67) _ |>.far (by exact n67) _ |>.far (by exact n67) _), ((((((((h7.far (by exact n67.symm) _).far (by exact n67.symm) _).far (by exact n67.symm) _).far (by exact n67.symm) _).set_ 0 _).set_ 1 _).set_ 2 _).set_ 3 _), hHeld.2.2, hq⟩
          · go_simp
            refine hK.out _ _ ⟨hHeld.1.alloc _, hHeld.2.1.alloc _, hHeld.2.2.alloc _⟩ (fun hHeld' => ?_)
            clear hK K
            have h6 := Blk.new x26 30 #[.complex .f64 0 0, .complex .f64 0 0, .complex .f64 0 0, .complex .f64 0 0]
            have l6 : V2.heap.size ≤ x26.heap.size := hHeld.2.2.size
            have h7 := h7.alloc (.cells #[.complex .f64 0 0, .complex .f64 0 0, .complex .f64 0 0, .complex .f64 0 0] 30)
            have n7 : g7 ≠ x26.heap.size := fun e => by have := hlt7; omega
            have hHeld := hHeld'
            clear hHeld'
            try simp only [Act.put, List.setIfInBounds_toArray, List.set_cons_zero, List.set_cons_succ]
            generalize hw6 : x26.heap.size = g6 at *
            clear hw6
            generalize (x26.alloc (.cells #[.complex .f64 0 0, .complex .f64 0 0, .complex .f64 0 0, .complex .f64 0 0] 30)) = x32 at *
            have n67 : g6 ≠ g7 := n7.symm
            have hlt6 := h6.lt
            have hlt7 := h7.lt
            refine wpAnyH_ready (rs := [2]) (by kernel_rfl) (by simp) ?_
            refine (AllReadyH.cons rfl (fun K hK => ?_) AllReadyH.nil)
            · go_simp
              refine (HSH.out _).mono ?_
              rintro e x33 ⟨rfl, kk⟩
              try go_wp2_with fail
              refine hK.out _ _ ⟨hHeld.1.keeps kk (by simp), hHeld.2.1.keeps kk (by simp), hHeld.2.2.trans kk⟩ (fun hHeld' => ?_)
              clear hK K
              have h6 := h6.keeps kk (by simp)
              have h7 := h7.keeps kk (by simp)
              have hHeld := hHeld'
              clear hHeld' kk
              try simp only [Act.put, List.setIfInBounds_toArray, List.set_cons_zero, List.set_cons_succ]
              have hlt6 := h6.lt
              have hlt7 := h7.lt
              refine wpAnyH_ready (rs := [5]) (by kernel_rfl) (by simp) ?_
              refine (AllReadyH.cons rfl (fun K hK => ?_) AllReadyH.nil)
              · go_simp
                refine (HJO.out _).mono ?_
                rintro e x34 ⟨q, rfl, hq0, kk⟩
                try go_wp2_with fail
                refine hK.out _ _ ⟨hHeld.1.keeps kk (by simp), hHeld.2.1.keeps kk (by simp), hHeld.2.2.trans kk⟩ (fun hHeld' => ?_)
                clear hK K
                have h6 := h6.keeps kk (by simp)
                have h7 := h7.keeps kk (by simp)
                have hq := joined_of hq0
                have hHeld := hHeld'
                clear hHeld' kk
                try simp only [Act.put, List.setIfInBounds_toArray, List.set_cons_zero, List.set_cons_succ]
                have hlt6 := h6.lt
                have hlt7 := h7.lt
                have f6 := h6.frozen
                have f7 := h7.frozen
                have c60 : x34.cell? ⟨g6, 0, none⟩ = some (.complex .f64 0 0) := h6.cell 0
                have c61 : x34.cell? ⟨g6, 1, none⟩ = some (.complex .f64 0 0) := h6.cell 1
                have c62 : x34.cell? ⟨g6, 2, none⟩ = some (.complex .f64 0 0) := h6.cell 2
                have c63 : x34.cell? ⟨g6, 3, none⟩ = some (.complex .f64 0 0) := h6.cell 3
                have c70 : x34.cell? ⟨g7, 0, none⟩ = some (.complex .f64 0 0) := h7.cell 0
                have c71 : x34.cell? ⟨g7, 1, none⟩ = some (.complex .f64 0 0) := h7.cell 1
                have c72 : x34.cell? ⟨g7, 2, none⟩ = some (.complex .f64 0 0) := h7.cell 2
                have c73 : x34.cell? ⟨g7, 3, none⟩ = some (.complex .f64 0 0) := h7.cell 3
                skip
                refine wpAnyH_ready (rs := [8]) (by kernel_rfl) (by simp) ?_
                refine AllReadyH.cons rfl (fun K hK => ?_) AllReadyH.nil
                go_simp
                refine hK.out _ _ (stored4 hHeld l6 hgl) (fun hHeld' => ?_)
                clear hK K hHeld
                have hHeld := hHeld'
                clear hHeld'
                try simp only [Act.put, List.setIfInBounds_toArray, List.set_cons_zero, List.set_cons_succ]
                refine wpAnyH_ready (rs := [9]) (by kernel_rfl) (by simp) ?_
                refine AllReadyH.cons rfl (fun K hK => ?_) AllReadyH.nil
                go_simp
                refine hK.out _ _ (stored4 hHeld l7 hgl) (fun hHeld' => ?_)
                clear hK K hHeld
                have hHeld := hHeld'
                clear hHeld'
                try simp only [Act.put, List.setIfInBounds_toArray, List.set_cons_zero, List.set_cons_succ]
                refine wpAnyH_done (by kernel_rfl) ?_ _
                go_wp2_with fail
                go_meet
                exact ⟨g6, g7, q, rfl, rfl, ((((h6.set_ 0 _).set_ 1 _).set_ 2 _).set_ 3 _ |>.far (by exact n67) _ |>.far (by exact n67) _ |>.far (by exact n67) _ |>.far (by exact n67) _), ((((((((h7.far (by exact n67.symm) _).far (by exact n67.symm) _).far (by exact n67.symm) _).far (by exact n67.symm) _).set_ 0 _).set_ 1 _).set_ 2 _).set_ 3 _), hHeld.2.2, hq⟩
      case rest =>
        obtain ⟨g1, g2, q, rfl, rfl, hA, hB, hKx, hq⟩ := hcut
        have HA := Lib.hid hA
        have HB := Lib.hid hB
        have HQ := Lib.hid hq
        have H30 := Lib.hid (HT3.out.keeps hKx)
        have HS4 := Lib.hid (HS3.out.keeps hKx)
        have HO4 := Lib.hid (ownsRow_keeps HO3.out hKx (by simp))
        have HK4 := Lib.hid (HK3.out.trans hKx)
        clear hA hB hq hKx HT3 HS3 HO3 HK3 hBB
        have HTL := Lib.hid (ticks_own HO4.out (by omega))
        go_wp2_with fail
        refine (spectrum_any _ _ _ _ _ HTL.out).mono ?_
        rintro e w5 ⟨f5, rfl, hf5, k5⟩
        have HF5 := Lib.hid hf5
        have HA5 := Lib.hid (HA.out.keeps k5 (by simp))
        have HB5 := Lib.hid (HB.out.keeps k5 (by simp))
        have HT5 := Lib.hid (H30.out.keeps k5)
        have HS5 := Lib.hid (HS4.out.keeps k5)
        have HK5 := Lib.hid (HK4.out.trans k5)
        clear hf5 k5 HA HB H30 HS4 HO4 HK4 HTL
        have hown5 := own_empty w5 w5.heap.size (Nat.le_refl _) 3 1
        have hrd5 := HT5.out.reads.alloc (Nat.le_refl _) (.cells #[] 3)
        have hK5a : Keeps [] w5 (w5.alloc (.cells #[] 3)) := (Keeps.refl _ _).alloc _
        go_wp2_with (first | (at_builtin; refine wpList_append_any _ rfl (.tmp 74) (.tmp 75) _ rfl w5.heap.size 3 i0 _ 1 8 Try.underlying22 HI.out.1 HI.out.2.1 HI.out.2.2.1 HI.out.2.2.2 rfl (by decide) (.slice (some ⟨w5.heap.size, 0, none⟩) 0 0) 0 _ rfl hown5 _ _ k ca (ints ts) rfl hrd5 (one_ints _) (by simp only [maxLen]; omega) (by omega) (by simp) ?_; intro v6 w6 hown6 hg6 hat6; obtain ⟨p6, c6, hv6⟩ := own_form hown6; subst hv6; rw [Nat.zero_add] at hown6; rw [List.nil_append] at hown6; have hK6 := hK5a.grown hg6 (fun b hb => .inr (by have := (hown5.lt b hb).1; simpa using this)); have hrd6 := (HS5.out.keeps hK6).reads; have hz6 := hK6.size) | (at_builtin; refine wpList_append_any _ rfl (.tmp 76) (.tmp 77) _ rfl w5.heap.size 3 i0 _ 1 8 Try.underlying22 HI.out.1 HI.out.2.1 HI.out.2.2.1 HI.out.2.2.2 rfl (by decide) (.slice p6 k c6) k _ rfl hown6 _ _ n cb (ints us) rfl hrd6 (one_ints _) (by simp only [maxLen]; omega) (by omega) (by omega) ?_; intro v7 w7 hown7 hg7 hat7; obtain ⟨p7, c7, hv7⟩ := own_form hown7; subst hv7))
        have hK7 := hK6.grown hg7 (fun b hb => .inr ((hown6.lt b hb).1))
        rw [show ints ts ++ ints us = ints (ts ++ us) from by simp [ints]] at hown7
        have HTB := Lib.hid (ticks_own hown7 (by omega))
        have HA7 := Lib.hid (HA5.out.keeps hK7 (by simp))
        have HB7 := Lib.hid (HB5.out.keeps hK7 (by simp))
        have HK7 := Lib.hid (HK5.out.trans hK7)
        clear hown5 hrd5 hK5a hown6 hg6 hat6 hK6 hrd6 hz6 hown7 hg7 hat7 hK7 HA5 HB5 HT5 HS5 HK5
        refine (spectrum_any _ _ _ _ _ HTB.out).mono ?_
        rintro e w8 ⟨f8, rfl, hf8, k8⟩
        have HF8 := Lib.hid hf8
        have hB3 := (Blk.new w8 30 #[cx (f5 0), cx (f5 1), cx (f5 2), cx (f5 3)]).alloc (.cells #[cx (f8 0), cx (f8 1), cx (f8 2), cx (f8 3)] 30)
        have hB4 := Blk.new (w8.alloc (.cells #[cx (f5 0), cx (f5 1), cx (f5 2), cx (f5 3)] 30)) 30 #[cx (f8 0), cx (f8 1), cx (f8 2), cx (f8 3)]
        rw [World.size_alloc] at hB4
        have hK9 : Keeps [] w7 ((w8.alloc (.cells #[cx (f5 0), cx (f5 1), cx (f5 2), cx (f5 3)] 30)).alloc (.cells #[cx (f8 0), cx (f8 1), cx (f8 2), cx (f8 3)] 30)) := (k8.alloc _).alloc _
        have HA9 := Lib.hid (HA7.out.keeps hK9 (by simp))
        have HB9 := Lib.hid (HB7.out.keeps hK9 (by simp))
        have HK9 := Lib.hid (HK7.out.trans hK9)
        have HC9 := Lib.hid hB3
        have HD9 := Lib.hid hB4
        clear hB3 hB4 hK9 k8 hf8 HA7 HB7 HK7 HTB
        go_wp2_with fail
        generalize ((w8.alloc (.cells #[.complex .f64 (f5 0).1 (f5 0).2, .complex .f64 (f5 1).1 (f5 1).2, .complex .f64 (f5 2).1 (f5 2).2, .complex .f64 (f5 3).1 (f5 3).2] 30)).alloc (.cells #[.complex .f64 (f8 0).1 (f8 0).2, .complex .f64 (f8 1).1 (f8 1).2, .complex .f64 (f8 2).1 (f8 2).2, .complex .f64 (f8 3).1 (f8 3).2] 30)) = W9 at *
        generalize w8.heap.size = g3 at *
        have hnn := nn_id ts HPO.out
        have hnl2 := nn_later ts by_ (by omega) HPO.out
        have HEQ : Hid (∀ j : Nat, j < 4 → ((FloatKind.f64.format.order (shf f by_ j).1 (f5 j).1 == some .eq) = true ∧ (FloatKind.f64.format.order (shf f by_ j).2 (f5 j).2 == some .eq) = true) ∧ ((FloatKind.f64.format.order (q j).1 (f8 j).1 == some .eq) = true ∧ (FloatKind.f64.format.order (q j).2 (f8 j).2 == some .eq) = true)) := Lib.hid (fun j hj => by
          have hmv := shf_isW f by_ j (nn ts) (HFW.out j hj)
          rw [hnn] at hmv
          have hw5 := HF5.out j hj
          rw [hnl2] at hw5
          have hq1 := joined_at HQ.out j hj
          have hw8 := HF8.out j hj
          rw [nn_app, (both_all _ _ _).1, (both_all _ _ _).2] at hw8
          have q1 := rP_bd (j : Int) (ts.map (· + by_))
          have q2 := iP_bd (j : Int) (ts.map (· + by_))
          have q3 := rP_bd (j : Int) (nn ts)
          have q4 := iP_bd (j : Int) (nn ts)
          have q5 := rP_bd (j : Int) (nn us)
          have q6 := iP_bd (j : Int) (nn us)
          have hlen : (ts.map (· + by_)).length ≤ 500 := by rw [List.length_map, ← hnn]; exact hfl
          exact ⟨⟨eq_of hmv.1 hw5.1 (by omega), eq_of hmv.2 hw5.2 (by omega)⟩, ⟨eq_of hq1.1 hw8.1 (by omega), eq_of hq1.2 hw8.2 (by omega)⟩⟩)
        clear hnn hnl2
        go_loopw [15] (fun i wr => ∃ j : Nat, j ≤ 4 ∧ i = .int .i64 j ∧ Drawn W9 wr) (fun i _ => 4 - (intOf i).toNat)
        case atStart => exact ⟨0, by omega, rfl, Drawn.refl _⟩
        case round =>
          obtain ⟨j, hj, rfl, hd⟩ := hrel
          by_cases hjl : j < 4
          · have x1 : wr.cell? ⟨g1, j, none⟩ = some (.complex .f64 (shf f by_ j).1 (shf f by_ j).2) := (hd.cell _).trans ((HA9.out.cell j).trans (hcell (shf f by_) j hjl))
            have x2 : wr.cell? ⟨g2, j, none⟩ = some (.complex .f64 (q j).1 (q j).2) := (hd.cell _).trans ((HB9.out.cell j).trans (hcell q j hjl))
            have x3 : wr.cell? ⟨g3, j, none⟩ = some (.complex .f64 (f5 j).1 (f5 j).2) := (hd.cell _).trans ((HC9.out.cell j).trans (hcell f5 j hjl))
            have x4 : wr.cell? ⟨g3 + 1, j, none⟩ = some (.complex .f64 (f8 j).1 (f8 j).2) := (hd.cell _).trans ((HD9.out.cell j).trans (hcell f8 j hjl))
            obtain ⟨⟨e1, e2⟩, e3, e4⟩ := HEQ.out j hjl
            have HDR := Lib.hid hd
            have hj0 : (0 : Int) ≤ (j : Int) := by omega
            have hj1 : (j : Int) < 4 := by omega
            clear hd
            go_wp2_with fail
            go_quiet (fail)
            go_wp2_with fail
            go_roundw
            case rel => exact ⟨j + 1, by omega, by go_num, HDR.out.draws _⟩
            case measure => simp [intOf]; omega
          · obtain rfl : j = 4 := by omega
            have HBX := Lib.hid (HB9.out.drawn hd)
            have HKX := Lib.hid (HK9.out.drawn hd)
            clear hd
            go_wp2_with fail
            have hKY : Keeps [] wr wr.drew := (Keeps.refl _ _).drew
            have y0 : wr.drew.cell? ⟨g2, 0, none⟩ = some (.complex .f64 (q 0).1 (q 0).2) := HBX.out.cell 0
            have y1 : wr.drew.cell? ⟨g2, 1, none⟩ = some (.complex .f64 (q 1).1 (q 1).2) := HBX.out.cell 1
            have y2 : wr.drew.cell? ⟨g2, 2, none⟩ = some (.complex .f64 (q 2).1 (q 2).2) := HBX.out.cell 2
            have y3 : wr.drew.cell? ⟨g2, 3, none⟩ = some (.complex .f64 (q 3).1 (q 3).2) := HBX.out.cell 3
            have hyl := HBX.out.lt
            have HLV := Lib.hid (fun V => live_any V)
            have HEV := Lib.hid (fun V => even_any q V)
            rcases ways (z0 (q 1).1) (z0 (q 1).2) (z0 (q 2).1) (z0 (q 2).2) (z0 (q 3).1) (z0 (q 3).2) with h1 | ⟨h1, h2⟩ | ⟨h1, h2, h3⟩ | ⟨h1, h2, h3, h4⟩ | ⟨h1, h2, h3, h4, h5⟩ | ⟨h1, h2, h3, h4, h5, h6⟩ | ⟨h1, h2, h3, h4, h5, h6⟩
            · have hE : evenB q = false := by unfold evenB; simp [h1]
              rw [hE] at HEV
              unfold z0 at h1
              clear hE
              refine wp_region_held_drew (S := (fun V => V.cell? ⟨g2, 0, none⟩ = some (.complex .f64 (q 0).1 (q 0).2) ∧ V.cell? ⟨g2, 1, none⟩ = some (.complex .f64 (q 1).1 (q 1).2) ∧ V.cell? ⟨g2, 2, none⟩ = some (.complex .f64 (q 2).1 (q 2).2) ∧ V.cell? ⟨g2, 3, none⟩ = some (.complex .f64 (q 3).1 (q 3).2) ∧ Keeps [] wr V)) (by kernel_rfl) ⟨y0, y1, y2, y3, hKY⟩ (fun hHeld => ?_)
              refine wpAnyH_ready (rs := [0]) (by kernel_rfl) (by simp) ?_
              refine AllReadyH.cons rfl (fun K hK => ?_) AllReadyH.nil
              go_simp
              refine (HLV.out _).mono ?_
              rintro e v1 ⟨rfl, kk⟩
              try go_wp2_with fail
              refine hK.out _ _ (keep5 hHeld kk hyl) (fun hHeld' => ?_)
              clear hK K hHeld
              have hHeld := hHeld'
              clear hHeld'
              try simp only [Act.put, List.setIfInBounds_toArray, List.set_cons_zero, List.set_cons_succ]
              refine' wpAnyH_take (i := 1) (oi := _) (v := _) ?hW01 (by kernel_rfl) (by kernel_rfl) (by kernel_rfl) ?hQW01 (Or.inl ⟨?hwW01, ?hyW01⟩) hHeld ?restW01
              case hW01 => (simp only [List.getElem?_toArray, List.getElem?_cons_succ, List.getElem?_cons_zero]; rfl)
              case hQW01 => exact fun _ _ _ h => h
              case hwW01 => rfl
              case hyW01 => (intro w hSw; (try dsimp only at hSw); go_simp; try with_reducible rfl)
              try simp only [Act.put, List.setIfInBounds_toArray, List.set_cons_zero, List.set_cons_succ]
              refine' wpAnyH_take (i := 2) (oi := _) (v := _) ?hW02 (by kernel_rfl) (by kernel_rfl) (by kernel_rfl) ?hQW02 (Or.inl ⟨?hwW02, ?hyW02⟩) hHeld ?restW02
              case hW02 => (simp only [List.getElem?_toArray, List.getElem?_cons_succ, List.getElem?_cons_zero]; rfl)
              case hQW02 => exact fun _ _ _ h => h
              case hwW02 => rfl
              case hyW02 => (intro w hSw; (try dsimp only at hSw); go_simp; try with_reducible rfl)
              try simp only [Act.put, List.setIfInBounds_toArray, List.set_cons_zero, List.set_cons_succ]
              refine' wpAnyH_take (i := 4) (oi := _) (v := _) ?hW04 (by kernel_rfl) (by kernel_rfl) (by kernel_rfl) ?hQW04 (Or.inl ⟨?hwW04, ?hyW04⟩) hHeld ?restW04
              case hW04 => (simp only [List.getElem?_toArray, List.getElem?_cons_succ, List.getElem?_cons_zero]; rfl)
              case hQW04 => exact fun _ _ _ h => h
              case hwW04 => rfl
              case hyW04 => (intro w hSw; (try dsimp only at hSw); go_simp; try with_reducible rfl)
              try simp only [Act.put, List.setIfInBounds_toArray, List.set_cons_zero, List.set_cons_succ]
              refine' wpAnyH_take (i := 5) (oi := _) (v := _) ?hW05 (by kernel_rfl) (by kernel_rfl) (by kernel_rfl) ?hQW05 (Or.inl ⟨?hwW05, ?hyW05⟩) hHeld ?restW05
              case hW05 => (simp only [List.getElem?_toArray, List.getElem?_cons_succ, List.getElem?_cons_zero]; rfl)
              case hQW05 => exact fun _ _ _ h => h
              case hwW05 => rfl
              case hyW05 => (intro w hSw; (try dsimp only at hSw); go_simp; try with_reducible rfl)
              try simp only [Act.put, List.setIfInBounds_toArray, List.set_cons_zero, List.set_cons_succ]
              refine' wpAnyH_take (i := 6) (oi := _) (v := _) ?hW06 (by kernel_rfl) (by kernel_rfl) (by kernel_rfl) ?hQW06 (Or.inl ⟨?hwW06, ?hyW06⟩) hHeld ?restW06
              case hW06 => (simp only [List.getElem?_toArray, List.getElem?_cons_succ, List.getElem?_cons_zero]; rfl)
              case hQW06 => exact fun _ _ _ h => h
              case hwW06 => rfl
              case hyW06 => (intro w hSw; (try dsimp only at hSw); go_simp; try with_reducible rfl)
              try simp only [Act.put, List.setIfInBounds_toArray, List.set_cons_zero, List.set_cons_succ]
              refine wpAnyH_ready (rs := [3]) (by kernel_rfl) (by simp) ?_
              refine AllReadyH.cons rfl (fun K hK => ?_) AllReadyH.nil
              go_simp
              refine (HEV.out _).mono ?_
              rintro e v1 ⟨rfl, kk⟩
              try go_wp2_with fail
              refine hK.out _ _ (keep5 hHeld kk hyl) (fun hHeld' => ?_)
              clear hK K hHeld
              have hHeld := hHeld'
              clear hHeld'
              try simp only [Act.put, List.setIfInBounds_toArray, List.set_cons_zero, List.set_cons_succ]
              refine' wpAnyH_take (i := 7) (oi := _) (v := _) ?hW07 (by kernel_rfl) (by kernel_rfl) (by kernel_rfl) ?hQW07 (Or.inl ⟨?hwW07, ?hyW07⟩) hHeld ?restW07
              case hW07 => (simp only [List.getElem?_toArray, List.getElem?_cons_succ, List.getElem?_cons_zero]; rfl)
              case hQW07 => exact fun _ _ _ h => h
              case hwW07 => rfl
              case hyW07 => (intro w hSw; (try dsimp only at hSw); go_simp; try with_reducible rfl)
              try simp only [Act.put, List.setIfInBounds_toArray, List.set_cons_zero, List.set_cons_succ]
              refine wpAnyH_off (i := 8) (d := some 108) rfl (by kernel_rfl) (by kernel_rfl) (by kernel_rfl) (fun _ _ _ h => h) (by rfl) hHeld ?_
              try simp only [Act.put, List.setIfInBounds_toArray, List.set_cons_zero, List.set_cons_succ]
              refine wpAnyH_off (i := 9) (d := some 109) rfl (by kernel_rfl) (by kernel_rfl) (by kernel_rfl) (fun _ _ _ h => h) (by rfl) hHeld ?_
              try simp only [Act.put, List.setIfInBounds_toArray, List.set_cons_zero, List.set_cons_succ]
              refine wpAnyH_off (i := 10) (d := some 110) rfl (by kernel_rfl) (by kernel_rfl) (by kernel_rfl) (fun _ _ _ h => h) (by rfl) hHeld ?_
              try simp only [Act.put, List.setIfInBounds_toArray, List.set_cons_zero, List.set_cons_succ]
              refine' wpAnyH_take (i := 11) (oi := _) (v := _) ?hW011 (by kernel_rfl) (by kernel_rfl) (by kernel_rfl) ?hQW011 (Or.inl ⟨?hwW011, ?hyW011⟩) hHeld ?restW011
              case hW011 => (simp only [List.getElem?_toArray, List.getElem?_cons_succ, List.getElem?_cons_zero]; rfl)
              case hQW011 => exact fun _ _ _ h => h
              case hwW011 => rfl
              case hyW011 => (intro w hSw; (try dsimp only at hSw); go_simp; try with_reducible rfl)
              try simp only [Act.put, List.setIfInBounds_toArray, List.set_cons_zero, List.set_cons_succ]
              refine' wpAnyH_take (i := 12) (oi := _) (v := _) ?hW012 (by kernel_rfl) (by kernel_rfl) (by kernel_rfl) ?hQW012 (Or.inl ⟨?hwW012, ?hyW012⟩) hHeld ?restW012
              case hW012 => (simp only [List.getElem?_toArray, List.getElem?_cons_succ, List.getElem?_cons_zero]; rfl)
              case hQW012 => exact fun _ _ _ h => h
              case hwW012 => rfl
              case hyW012 => (intro w hSw; (try dsimp only at hSw); go_simp; try with_reducible rfl)
              try simp only [Act.put, List.setIfInBounds_toArray, List.set_cons_zero, List.set_cons_succ]
              refine wpAnyH_off (i := 13) (d := some 113) rfl (by kernel_rfl) (by kernel_rfl) (by kernel_rfl) (fun _ _ _ h => h) (by rfl) hHeld ?_
              try simp only [Act.put, List.setIfInBounds_toArray, List.set_cons_zero, List.set_cons_succ]
              refine wpAnyH_off (i := 14) (d := some 114) rfl (by kernel_rfl) (by kernel_rfl) (by kernel_rfl) (fun _ _ _ h => h) (by rfl) hHeld ?_
              try simp only [Act.put, List.setIfInBounds_toArray, List.set_cons_zero, List.set_cons_succ]
              refine wpAnyH_off (i := 15) (d := some 115) rfl (by kernel_rfl) (by kernel_rfl) (by kernel_rfl) (fun _ _ _ h => h) (by rfl) hHeld ?_
              try simp only [Act.put, List.setIfInBounds_toArray, List.set_cons_zero, List.set_cons_succ]
              refine' wpAnyH_take (i := 16) (oi := _) (v := _) ?hW016 (by kernel_rfl) (by kernel_rfl) (by kernel_rfl) ?hQW016 (Or.inl ⟨?hwW016, ?hyW016⟩) hHeld ?restW016
              case hW016 => (simp only [List.getElem?_toArray, List.getElem?_cons_succ, List.getElem?_cons_zero]; rfl)
              case hQW016 => exact fun _ _ _ h => h
              case hwW016 => rfl
              case hyW016 => (intro w hSw; (try dsimp only at hSw); go_simp; try with_reducible rfl)
              try simp only [Act.put, List.setIfInBounds_toArray, List.set_cons_zero, List.set_cons_succ]
              refine' wpAnyH_take (i := 17) (oi := _) (v := _) ?hW017 (by kernel_rfl) (by kernel_rfl) (by kernel_rfl) ?hQW017 (Or.inl ⟨?hwW017, ?hyW017⟩) hHeld ?restW017
              case hW017 => (simp only [List.getElem?_toArray, List.getElem?_cons_succ, List.getElem?_cons_zero]; rfl)
              case hQW017 => exact fun _ _ _ h => h
              case hwW017 => rfl
              case hyW017 => (intro w hSw; (try dsimp only at hSw); go_simp; try with_reducible rfl)
              try simp only [Act.put, List.setIfInBounds_toArray, List.set_cons_zero, List.set_cons_succ]
              refine' wpAnyH_take (i := 18) (oi := _) (v := _) ?hW018 (by kernel_rfl) (by kernel_rfl) (by kernel_rfl) ?hQW018 (Or.inl ⟨?hwW018, ?hyW018⟩) hHeld ?restW018
              case hW018 => (simp only [List.getElem?_toArray, List.getElem?_cons_succ, List.getElem?_cons_zero]; rfl)
              case hQW018 => exact fun _ _ _ h => h
              case hwW018 => rfl
              case hyW018 => (intro w hSw; (try dsimp only at hSw); go_simp; try with_reducible rfl)
              try simp only [Act.put, List.setIfInBounds_toArray, List.set_cons_zero, List.set_cons_succ]
              refine' wpAnyH_take (i := 19) (oi := _) (v := _) ?hW019 (by kernel_rfl) (by kernel_rfl) (by kernel_rfl) ?hQW019 (Or.inl ⟨?hwW019, ?hyW019⟩) hHeld ?restW019
              case hW019 => (simp only [List.getElem?_toArray, List.getElem?_cons_succ, List.getElem?_cons_zero]; rfl)
              case hQW019 => exact fun _ _ _ h => h
              case hwW019 => rfl
              case hyW019 => (intro w hSw; (try dsimp only at hSw); go_simp; try with_reducible rfl)
              try simp only [Act.put, List.setIfInBounds_toArray, List.set_cons_zero, List.set_cons_succ]
              refine wpAnyH_done (by kernel_rfl) ?_ _
              go_wp2_with fail
              go_ret
              exact ⟨rfl, HKX.out.trans hHeld.2.2.2.2⟩
            · have hE : evenB q = false := by unfold evenB; simp [h1, h2]
              rw [hE] at HEV
              unfold z0 at h1 h2
              clear hE
              refine wp_region_held_drew (S := (fun V => V.cell? ⟨g2, 0, none⟩ = some (.complex .f64 (q 0).1 (q 0).2) ∧ V.cell? ⟨g2, 1, none⟩ = some (.complex .f64 (q 1).1 (q 1).2) ∧ V.cell? ⟨g2, 2, none⟩ = some (.complex .f64 (q 2).1 (q 2).2) ∧ V.cell? ⟨g2, 3, none⟩ = some (.complex .f64 (q 3).1 (q 3).2) ∧ Keeps [] wr V)) (by kernel_rfl) ⟨y0, y1, y2, y3, hKY⟩ (fun hHeld => ?_)
              refine wpAnyH_ready (rs := [0]) (by kernel_rfl) (by simp) ?_
              refine AllReadyH.cons rfl (fun K hK => ?_) AllReadyH.nil
              go_simp
              refine (HLV.out _).mono ?_
              rintro e v1 ⟨rfl, kk⟩
              try go_wp2_with fail
              refine hK.out _ _ (keep5 hHeld kk hyl) (fun hHeld' => ?_)
              clear hK K hHeld
              have hHeld := hHeld'
              clear hHeld'
              try simp only [Act.put, List.setIfInBounds_toArray, List.set_cons_zero, List.set_cons_succ]
              refine' wpAnyH_take (i := 1) (oi := _) (v := _) ?hW11 (by kernel_rfl) (by kernel_rfl) (by kernel_rfl) ?hQW11 (Or.inl ⟨?hwW11, ?hyW11⟩) hHeld ?restW11
              case hW11 => (simp only [List.getElem?_toArray, List.getElem?_cons_succ, List.getElem?_cons_zero]; rfl)
              case hQW11 => exact fun _ _ _ h => h
              case hwW11 => rfl
              case hyW11 => (intro w hSw; (try dsimp only at hSw); go_simp; try with_reducible rfl)
              try simp only [Act.put, List.setIfInBounds_toArray, List.set_cons_zero, List.set_cons_succ]
              refine' wpAnyH_take (i := 2) (oi := _) (v := _) ?hW12 (by kernel_rfl) (by kernel_rfl) (by kernel_rfl) ?hQW12 (Or.inl ⟨?hwW12, ?hyW12⟩) hHeld ?restW12
              case hW12 => (simp only [List.getElem?_toArray, List.getElem?_cons_succ, List.getElem?_cons_zero]; rfl)
              case hQW12 => exact fun _ _ _ h => h
              case hwW12 => rfl
              case hyW12 => (intro w hSw; (try dsimp only at hSw); go_simp; try with_reducible rfl)
              try simp only [Act.put, List.setIfInBounds_toArray, List.set_cons_zero, List.set_cons_succ]
              refine' wpAnyH_take (i := 4) (oi := _) (v := _) ?hW14 (by kernel_rfl) (by kernel_rfl) (by kernel_rfl) ?hQW14 (Or.inl ⟨?hwW14, ?hyW14⟩) hHeld ?restW14
              case hW14 => (simp only [List.getElem?_toArray, List.getElem?_cons_succ, List.getElem?_cons_zero]; rfl)
              case hQW14 => exact fun _ _ _ h => h
              case hwW14 => rfl
              case hyW14 => (intro w hSw; (try dsimp only at hSw); go_simp; try with_reducible rfl)
              try simp only [Act.put, List.setIfInBounds_toArray, List.set_cons_zero, List.set_cons_succ]
              refine' wpAnyH_take (i := 5) (oi := _) (v := _) ?hW15 (by kernel_rfl) (by kernel_rfl) (by kernel_rfl) ?hQW15 (Or.inl ⟨?hwW15, ?hyW15⟩) hHeld ?restW15
              case hW15 => (simp only [List.getElem?_toArray, List.getElem?_cons_succ, List.getElem?_cons_zero]; rfl)
              case hQW15 => exact fun _ _ _ h => h
              case hwW15 => rfl
              case hyW15 => (intro w hSw; (try dsimp only at hSw); go_simp; try with_reducible rfl)
              try simp only [Act.put, List.setIfInBounds_toArray, List.set_cons_zero, List.set_cons_succ]
              refine' wpAnyH_take (i := 6) (oi := _) (v := _) ?hW16 (by kernel_rfl) (by kernel_rfl) (by kernel_rfl) ?hQW16 (Or.inl ⟨?hwW16, ?hyW16⟩) hHeld ?restW16
              case hW16 => (simp only [List.getElem?_toArray, List.getElem?_cons_succ, List.getElem?_cons_zero]; rfl)
              case hQW16 => exact fun _ _ _ h => h
              case hwW16 => rfl
              case hyW16 => (intro w hSw; (try dsimp only at hSw); go_simp; try with_reducible rfl)
              try simp only [Act.put, List.setIfInBounds_toArray, List.set_cons_zero, List.set_cons_succ]
              refine wpAnyH_ready (rs := [3]) (by kernel_rfl) (by simp) ?_
              refine AllReadyH.cons rfl (fun K hK => ?_) AllReadyH.nil
              go_simp
              refine (HEV.out _).mono ?_
              rintro e v1 ⟨rfl, kk⟩
              try go_wp2_with fail
              refine hK.out _ _ (keep5 hHeld kk hyl) (fun hHeld' => ?_)
              clear hK K hHeld
              have hHeld := hHeld'
              clear hHeld'
              try simp only [Act.put, List.setIfInBounds_toArray, List.set_cons_zero, List.set_cons_succ]
              refine' wpAnyH_take (i := 7) (oi := _) (v := _) ?hW17 (by kernel_rfl) (by kernel_rfl) (by kernel_rfl) ?hQW17 (Or.inl ⟨?hwW17, ?hyW17⟩) hHeld ?restW17
              case hW17 => (simp only [List.getElem?_toArray, List.getElem?_cons_succ, List.getElem?_cons_zero]; rfl)
              case hQW17 => exact fun _ _ _ h => h
              case hwW17 => rfl
              case hyW17 => (intro w hSw; (try dsimp only at hSw); go_simp; try with_reducible rfl)
              try simp only [Act.put, List.setIfInBounds_toArray, List.set_cons_zero, List.set_cons_succ]
              refine wpAnyH_off (i := 8) (d := some 108) rfl (by kernel_rfl) (by kernel_rfl) (by kernel_rfl) (fun _ _ _ h => h) (by rfl) hHeld ?_
              try simp only [Act.put, List.setIfInBounds_toArray, List.set_cons_zero, List.set_cons_succ]
              refine wpAnyH_off (i := 9) (d := some 109) rfl (by kernel_rfl) (by kernel_rfl) (by kernel_rfl) (fun _ _ _ h => h) (by rfl) hHeld ?_
              try simp only [Act.put, List.setIfInBounds_toArray, List.set_cons_zero, List.set_cons_succ]
              refine wpAnyH_off (i := 10) (d := some 110) rfl (by kernel_rfl) (by kernel_rfl) (by kernel_rfl) (fun _ _ _ h => h) (by rfl) hHeld ?_
              try simp only [Act.put, List.setIfInBounds_toArray, List.set_cons_zero, List.set_cons_succ]
              refine' wpAnyH_take (i := 11) (oi := _) (v := _) ?hW111 (by kernel_rfl) (by kernel_rfl) (by kernel_rfl) ?hQW111 (Or.inl ⟨?hwW111, ?hyW111⟩) hHeld ?restW111
              case hW111 => (simp only [List.getElem?_toArray, List.getElem?_cons_succ, List.getElem?_cons_zero]; rfl)
              case hQW111 => exact fun _ _ _ h => h
              case hwW111 => rfl
              case hyW111 => (intro w hSw; (try dsimp only at hSw); go_simp; try with_reducible rfl)
              try simp only [Act.put, List.setIfInBounds_toArray, List.set_cons_zero, List.set_cons_succ]
              refine' wpAnyH_take (i := 12) (oi := _) (v := _) ?hW112 (by kernel_rfl) (by kernel_rfl) (by kernel_rfl) ?hQW112 (Or.inl ⟨?hwW112, ?hyW112⟩) hHeld ?restW112
              case hW112 => (simp only [List.getElem?_toArray, List.getElem?_cons_succ, List.getElem?_cons_zero]; rfl)
              case hQW112 => exact fun _ _ _ h => h
              case hwW112 => rfl
              case hyW112 => (intro w hSw; (try dsimp only at hSw); go_simp; try with_reducible rfl)
              try simp only [Act.put, List.setIfInBounds_toArray, List.set_cons_zero, List.set_cons_succ]
              refine wpAnyH_off (i := 13) (d := some 113) rfl (by kernel_rfl) (by kernel_rfl) (by kernel_rfl) (fun _ _ _ h => h) (by rfl) hHeld ?_
              try simp only [Act.put, List.setIfInBounds_toArray, List.set_cons_zero, List.set_cons_succ]
              refine wpAnyH_off (i := 14) (d := some 114) rfl (by kernel_rfl) (by kernel_rfl) (by kernel_rfl) (fun _ _ _ h => h) (by rfl) hHeld ?_
              try simp only [Act.put, List.setIfInBounds_toArray, List.set_cons_zero, List.set_cons_succ]
              refine wpAnyH_off (i := 15) (d := some 115) rfl (by kernel_rfl) (by kernel_rfl) (by kernel_rfl) (fun _ _ _ h => h) (by rfl) hHeld ?_
              try simp only [Act.put, List.setIfInBounds_toArray, List.set_cons_zero, List.set_cons_succ]
              refine' wpAnyH_take (i := 16) (oi := _) (v := _) ?hW116 (by kernel_rfl) (by kernel_rfl) (by kernel_rfl) ?hQW116 (Or.inl ⟨?hwW116, ?hyW116⟩) hHeld ?restW116
              case hW116 => (simp only [List.getElem?_toArray, List.getElem?_cons_succ, List.getElem?_cons_zero]; rfl)
              case hQW116 => exact fun _ _ _ h => h
              case hwW116 => rfl
              case hyW116 => (intro w hSw; (try dsimp only at hSw); go_simp; try with_reducible rfl)
              try simp only [Act.put, List.setIfInBounds_toArray, List.set_cons_zero, List.set_cons_succ]
              refine' wpAnyH_take (i := 17) (oi := _) (v := _) ?hW117 (by kernel_rfl) (by kernel_rfl) (by kernel_rfl) ?hQW117 (Or.inl ⟨?hwW117, ?hyW117⟩) hHeld ?restW117
              case hW117 => (simp only [List.getElem?_toArray, List.getElem?_cons_succ, List.getElem?_cons_zero]; rfl)
              case hQW117 => exact fun _ _ _ h => h
              case hwW117 => rfl
              case hyW117 => (intro w hSw; (try dsimp only at hSw); go_simp; try with_reducible rfl)
              try simp only [Act.put, List.setIfInBounds_toArray, List.set_cons_zero, List.set_cons_succ]
              refine' wpAnyH_take (i := 18) (oi := _) (v := _) ?hW118 (by kernel_rfl) (by kernel_rfl) (by kernel_rfl) ?hQW118 (Or.inl ⟨?hwW118, ?hyW118⟩) hHeld ?restW118
              case hW118 => (simp only [List.getElem?_toArray, List.getElem?_cons_succ, List.getElem?_cons_zero]; rfl)
              case hQW118 => exact fun _ _ _ h => h
              case hwW118 => rfl
              case hyW118 => (intro w hSw; (try dsimp only at hSw); go_simp; try with_reducible rfl)
              try simp only [Act.put, List.setIfInBounds_toArray, List.set_cons_zero, List.set_cons_succ]
              refine' wpAnyH_take (i := 19) (oi := _) (v := _) ?hW119 (by kernel_rfl) (by kernel_rfl) (by kernel_rfl) ?hQW119 (Or.inl ⟨?hwW119, ?hyW119⟩) hHeld ?restW119
              case hW119 => (simp only [List.getElem?_toArray, List.getElem?_cons_succ, List.getElem?_cons_zero]; rfl)
              case hQW119 => exact fun _ _ _ h => h
              case hwW119 => rfl
              case hyW119 => (intro w hSw; (try dsimp only at hSw); go_simp; try with_reducible rfl)
              try simp only [Act.put, List.setIfInBounds_toArray, List.set_cons_zero, List.set_cons_succ]
              refine wpAnyH_done (by kernel_rfl) ?_ _
              go_wp2_with fail
              go_ret
              exact ⟨rfl, HKX.out.trans hHeld.2.2.2.2⟩
            · have hE : evenB q = false := by unfold evenB; simp [h1, h2, h3]
              rw [hE] at HEV
              unfold z0 at h1 h2 h3
              clear hE
              refine wp_region_held_drew (S := (fun V => V.cell? ⟨g2, 0, none⟩ = some (.complex .f64 (q 0).1 (q 0).2) ∧ V.cell? ⟨g2, 1, none⟩ = some (.complex .f64 (q 1).1 (q 1).2) ∧ V.cell? ⟨g2, 2, none⟩ = some (.complex .f64 (q 2).1 (q 2).2) ∧ V.cell? ⟨g2, 3, none⟩ = some (.complex .f64 (q 3).1 (q 3).2) ∧ Keeps [] wr V)) (by kernel_rfl) ⟨y0, y1, y2, y3, hKY⟩ (fun hHeld => ?_)
              refine wpAnyH_ready (rs := [0]) (by kernel_rfl) (by simp) ?_
              refine AllReadyH.cons rfl (fun K hK => ?_) AllReadyH.nil
              go_simp
              refine (HLV.out _).mono ?_
              rintro e v1 ⟨rfl, kk⟩
              try go_wp2_with fail
              refine hK.out _ _ (keep5 hHeld kk hyl) (fun hHeld' => ?_)
              clear hK K hHeld
              have hHeld := hHeld'
              clear hHeld'
              try simp only [Act.put, List.setIfInBounds_toArray, List.set_cons_zero, List.set_cons_succ]
              refine' wpAnyH_take (i := 1) (oi := _) (v := _) ?hW21 (by kernel_rfl) (by kernel_rfl) (by kernel_rfl) ?hQW21 (Or.inl ⟨?hwW21, ?hyW21⟩) hHeld ?restW21
              case hW21 => (simp only [List.getElem?_toArray, List.getElem?_cons_succ, List.getElem?_cons_zero]; rfl)
              case hQW21 => exact fun _ _ _ h => h
              case hwW21 => rfl
              case hyW21 => (intro w hSw; (try dsimp only at hSw); go_simp; try with_reducible rfl)
              try simp only [Act.put, List.setIfInBounds_toArray, List.set_cons_zero, List.set_cons_succ]
              refine' wpAnyH_take (i := 2) (oi := _) (v := _) ?hW22 (by kernel_rfl) (by kernel_rfl) (by kernel_rfl) ?hQW22 (Or.inl ⟨?hwW22, ?hyW22⟩) hHeld ?restW22
              case hW22 => (simp only [List.getElem?_toArray, List.getElem?_cons_succ, List.getElem?_cons_zero]; rfl)
              case hQW22 => exact fun _ _ _ h => h
              case hwW22 => rfl
              case hyW22 => (intro w hSw; (try dsimp only at hSw); go_simp; try with_reducible rfl)
              try simp only [Act.put, List.setIfInBounds_toArray, List.set_cons_zero, List.set_cons_succ]
              refine' wpAnyH_take (i := 4) (oi := _) (v := _) ?hW24 (by kernel_rfl) (by kernel_rfl) (by kernel_rfl) ?hQW24 (Or.inl ⟨?hwW24, ?hyW24⟩) hHeld ?restW24
              case hW24 => (simp only [List.getElem?_toArray, List.getElem?_cons_succ, List.getElem?_cons_zero]; rfl)
              case hQW24 => exact fun _ _ _ h => h
              case hwW24 => rfl
              case hyW24 => (intro w hSw; (try dsimp only at hSw); go_simp; try with_reducible rfl)
              try simp only [Act.put, List.setIfInBounds_toArray, List.set_cons_zero, List.set_cons_succ]
              refine' wpAnyH_take (i := 5) (oi := _) (v := _) ?hW25 (by kernel_rfl) (by kernel_rfl) (by kernel_rfl) ?hQW25 (Or.inl ⟨?hwW25, ?hyW25⟩) hHeld ?restW25
              case hW25 => (simp only [List.getElem?_toArray, List.getElem?_cons_succ, List.getElem?_cons_zero]; rfl)
              case hQW25 => exact fun _ _ _ h => h
              case hwW25 => rfl
              case hyW25 => (intro w hSw; (try dsimp only at hSw); go_simp; try with_reducible rfl)
              try simp only [Act.put, List.setIfInBounds_toArray, List.set_cons_zero, List.set_cons_succ]
              refine' wpAnyH_take (i := 6) (oi := _) (v := _) ?hW26 (by kernel_rfl) (by kernel_rfl) (by kernel_rfl) ?hQW26 (Or.inl ⟨?hwW26, ?hyW26⟩) hHeld ?restW26
              case hW26 => (simp only [List.getElem?_toArray, List.getElem?_cons_succ, List.getElem?_cons_zero]; rfl)
              case hQW26 => exact fun _ _ _ h => h
              case hwW26 => rfl
              case hyW26 => (intro w hSw; (try dsimp only at hSw); go_simp; try with_reducible rfl)
              try simp only [Act.put, List.setIfInBounds_toArray, List.set_cons_zero, List.set_cons_succ]
              refine wpAnyH_ready (rs := [3]) (by kernel_rfl) (by simp) ?_
              refine AllReadyH.cons rfl (fun K hK => ?_) AllReadyH.nil
              go_simp
              refine (HEV.out _).mono ?_
              rintro e v1 ⟨rfl, kk⟩
              try go_wp2_with fail
              refine hK.out _ _ (keep5 hHeld kk hyl) (fun hHeld' => ?_)
              clear hK K hHeld
              have hHeld := hHeld'
              clear hHeld'
              try simp only [Act.put, List.setIfInBounds_toArray, List.set_cons_zero, List.set_cons_succ]
              refine' wpAnyH_take (i := 7) (oi := _) (v := _) ?hW27 (by kernel_rfl) (by kernel_rfl) (by kernel_rfl) ?hQW27 (Or.inl ⟨?hwW27, ?hyW27⟩) hHeld ?restW27
              case hW27 => (simp only [List.getElem?_toArray, List.getElem?_cons_succ, List.getElem?_cons_zero]; rfl)
              case hQW27 => exact fun _ _ _ h => h
              case hwW27 => rfl
              case hyW27 => (intro w hSw; (try dsimp only at hSw); go_simp; try with_reducible rfl)
              try simp only [Act.put, List.setIfInBounds_toArray, List.set_cons_zero, List.set_cons_succ]
              refine' wpAnyH_take (i := 8) (oi := _) (v := _) ?hW28 (by kernel_rfl) (by kernel_rfl) (by kernel_rfl) ?hQW28 (Or.inl ⟨?hwW28, ?hyW28⟩) hHeld ?restW28
              case hW28 => (simp only [List.getElem?_toArray, List.getElem?_cons_succ, List.getElem?_cons_zero]; rfl)
              case hQW28 => exact fun _ _ _ h => h
              case hwW28 => rfl
              case hyW28 => (intro w hSw; (try dsimp only at hSw); go_simp; try with_reducible rfl)
              try simp only [Act.put, List.setIfInBounds_toArray, List.set_cons_zero, List.set_cons_succ]
              refine' wpAnyH_take (i := 9) (oi := _) (v := _) ?hW29 (by kernel_rfl) (by kernel_rfl) (by kernel_rfl) ?hQW29 (Or.inl ⟨?hwW29, ?hyW29⟩) hHeld ?restW29
              case hW29 => (simp only [List.getElem?_toArray, List.getElem?_cons_succ, List.getElem?_cons_zero]; rfl)
              case hQW29 => exact fun _ _ _ h => h
              case hwW29 => rfl
              case hyW29 => (intro w hSw; (try dsimp only at hSw); go_simp; try with_reducible rfl)
              try simp only [Act.put, List.setIfInBounds_toArray, List.set_cons_zero, List.set_cons_succ]
              refine' wpAnyH_take (i := 10) (oi := _) (v := _) ?hW210 (by kernel_rfl) (by kernel_rfl) (by kernel_rfl) ?hQW210 (Or.inl ⟨?hwW210, ?hyW210⟩) hHeld ?restW210
              case hW210 => (simp only [List.getElem?_toArray, List.getElem?_cons_succ, List.getElem?_cons_zero]; rfl)
              case hQW210 => exact fun _ _ _ h => h
              case hwW210 => rfl
              case hyW210 => (intro w hSw; (try dsimp only at hSw); go_simp; try with_reducible rfl)
              try simp only [Act.put, List.setIfInBounds_toArray, List.set_cons_zero, List.set_cons_succ]
              refine' wpAnyH_take (i := 11) (oi := _) (v := _) ?hW211 (by kernel_rfl) (by kernel_rfl) (by kernel_rfl) ?hQW211 (Or.inl ⟨?hwW211, ?hyW211⟩) hHeld ?restW211
              case hW211 => (simp only [List.getElem?_toArray, List.getElem?_cons_succ, List.getElem?_cons_zero]; rfl)
              case hQW211 => exact fun _ _ _ h => h
              case hwW211 => rfl
              case hyW211 => (intro w hSw; (try dsimp only at hSw); go_simp; try with_reducible rfl)
              try simp only [Act.put, List.setIfInBounds_toArray, List.set_cons_zero, List.set_cons_succ]
              refine' wpAnyH_take (i := 12) (oi := _) (v := _) ?hW212 (by kernel_rfl) (by kernel_rfl) (by kernel_rfl) ?hQW212 (Or.inl ⟨?hwW212, ?hyW212⟩) hHeld ?restW212
              case hW212 => (simp only [List.getElem?_toArray, List.getElem?_cons_succ, List.getElem?_cons_zero]; rfl)
              case hQW212 => exact fun _ _ _ h => h
              case hwW212 => rfl
              case hyW212 => (intro w hSw; (try dsimp only at hSw); go_simp; try with_reducible rfl)
              try simp only [Act.put, List.setIfInBounds_toArray, List.set_cons_zero, List.set_cons_succ]
              refine wpAnyH_off (i := 13) (d := some 113) rfl (by kernel_rfl) (by kernel_rfl) (by kernel_rfl) (fun _ _ _ h => h) (by rfl) hHeld ?_
              try simp only [Act.put, List.setIfInBounds_toArray, List.set_cons_zero, List.set_cons_succ]
              refine wpAnyH_off (i := 14) (d := some 114) rfl (by kernel_rfl) (by kernel_rfl) (by kernel_rfl) (fun _ _ _ h => h) (by rfl) hHeld ?_
              try simp only [Act.put, List.setIfInBounds_toArray, List.set_cons_zero, List.set_cons_succ]
              refine wpAnyH_off (i := 15) (d := some 115) rfl (by kernel_rfl) (by kernel_rfl) (by kernel_rfl) (fun _ _ _ h => h) (by rfl) hHeld ?_
              try simp only [Act.put, List.setIfInBounds_toArray, List.set_cons_zero, List.set_cons_succ]
              refine' wpAnyH_take (i := 16) (oi := _) (v := _) ?hW216 (by kernel_rfl) (by kernel_rfl) (by kernel_rfl) ?hQW216 (Or.inl ⟨?hwW216, ?hyW216⟩) hHeld ?restW216
              case hW216 => (simp only [List.getElem?_toArray, List.getElem?_cons_succ, List.getElem?_cons_zero]; rfl)
              case hQW216 => exact fun _ _ _ h => h
              case hwW216 => rfl
              case hyW216 => (intro w hSw; (try dsimp only at hSw); go_simp; try with_reducible rfl)
              try simp only [Act.put, List.setIfInBounds_toArray, List.set_cons_zero, List.set_cons_succ]
              refine' wpAnyH_take (i := 17) (oi := _) (v := _) ?hW217 (by kernel_rfl) (by kernel_rfl) (by kernel_rfl) ?hQW217 (Or.inl ⟨?hwW217, ?hyW217⟩) hHeld ?restW217
              case hW217 => (simp only [List.getElem?_toArray, List.getElem?_cons_succ, List.getElem?_cons_zero]; rfl)
              case hQW217 => exact fun _ _ _ h => h
              case hwW217 => rfl
              case hyW217 => (intro w hSw; (try dsimp only at hSw); go_simp; try with_reducible rfl)
              try simp only [Act.put, List.setIfInBounds_toArray, List.set_cons_zero, List.set_cons_succ]
              refine' wpAnyH_take (i := 18) (oi := _) (v := _) ?hW218 (by kernel_rfl) (by kernel_rfl) (by kernel_rfl) ?hQW218 (Or.inl ⟨?hwW218, ?hyW218⟩) hHeld ?restW218
              case hW218 => (simp only [List.getElem?_toArray, List.getElem?_cons_succ, List.getElem?_cons_zero]; rfl)
              case hQW218 => exact fun _ _ _ h => h
              case hwW218 => rfl
              case hyW218 => (intro w hSw; (try dsimp only at hSw); go_simp; try with_reducible rfl)
              try simp only [Act.put, List.setIfInBounds_toArray, List.set_cons_zero, List.set_cons_succ]
              refine' wpAnyH_take (i := 19) (oi := _) (v := _) ?hW219 (by kernel_rfl) (by kernel_rfl) (by kernel_rfl) ?hQW219 (Or.inl ⟨?hwW219, ?hyW219⟩) hHeld ?restW219
              case hW219 => (simp only [List.getElem?_toArray, List.getElem?_cons_succ, List.getElem?_cons_zero]; rfl)
              case hQW219 => exact fun _ _ _ h => h
              case hwW219 => rfl
              case hyW219 => (intro w hSw; (try dsimp only at hSw); go_simp; try with_reducible rfl)
              try simp only [Act.put, List.setIfInBounds_toArray, List.set_cons_zero, List.set_cons_succ]
              refine wpAnyH_done (by kernel_rfl) ?_ _
              go_wp2_with fail
              go_ret
              exact ⟨rfl, HKX.out.trans hHeld.2.2.2.2⟩
            · have hE : evenB q = false := by unfold evenB; simp [h1, h2, h3, h4]
              rw [hE] at HEV
              unfold z0 at h1 h2 h3 h4
              clear hE
              refine wp_region_held_drew (S := (fun V => V.cell? ⟨g2, 0, none⟩ = some (.complex .f64 (q 0).1 (q 0).2) ∧ V.cell? ⟨g2, 1, none⟩ = some (.complex .f64 (q 1).1 (q 1).2) ∧ V.cell? ⟨g2, 2, none⟩ = some (.complex .f64 (q 2).1 (q 2).2) ∧ V.cell? ⟨g2, 3, none⟩ = some (.complex .f64 (q 3).1 (q 3).2) ∧ Keeps [] wr V)) (by kernel_rfl) ⟨y0, y1, y2, y3, hKY⟩ (fun hHeld => ?_)
              refine wpAnyH_ready (rs := [0]) (by kernel_rfl) (by simp) ?_
              refine AllReadyH.cons rfl (fun K hK => ?_) AllReadyH.nil
              go_simp
              refine (HLV.out _).mono ?_
              rintro e v1 ⟨rfl, kk⟩
              try go_wp2_with fail
              refine hK.out _ _ (keep5 hHeld kk hyl) (fun hHeld' => ?_)
              clear hK K hHeld
              have hHeld := hHeld'
              clear hHeld'
              try simp only [Act.put, List.setIfInBounds_toArray, List.set_cons_zero, List.set_cons_succ]
              refine' wpAnyH_take (i := 1) (oi := _) (v := _) ?hW31 (by kernel_rfl) (by kernel_rfl) (by kernel_rfl) ?hQW31 (Or.inl ⟨?hwW31, ?hyW31⟩) hHeld ?restW31
              case hW31 => (simp only [List.getElem?_toArray, List.getElem?_cons_succ, List.getElem?_cons_zero]; rfl)
              case hQW31 => exact fun _ _ _ h => h
              case hwW31 => rfl
              case hyW31 => (intro w hSw; (try dsimp only at hSw); go_simp; try with_reducible rfl)
              try simp only [Act.put, List.setIfInBounds_toArray, List.set_cons_zero, List.set_cons_succ]
              refine' wpAnyH_take (i := 2) (oi := _) (v := _) ?hW32 (by kernel_rfl) (by kernel_rfl) (by kernel_rfl) ?hQW32 (Or.inl ⟨?hwW32, ?hyW32⟩) hHeld ?restW32
              case hW32 => (simp only [List.getElem?_toArray, List.getElem?_cons_succ, List.getElem?_cons_zero]; rfl)
              case hQW32 => exact fun _ _ _ h => h
              case hwW32 => rfl
              case hyW32 => (intro w hSw; (try dsimp only at hSw); go_simp; try with_reducible rfl)
              try simp only [Act.put, List.setIfInBounds_toArray, List.set_cons_zero, List.set_cons_succ]
              refine' wpAnyH_take (i := 4) (oi := _) (v := _) ?hW34 (by kernel_rfl) (by kernel_rfl) (by kernel_rfl) ?hQW34 (Or.inl ⟨?hwW34, ?hyW34⟩) hHeld ?restW34
              case hW34 => (simp only [List.getElem?_toArray, List.getElem?_cons_succ, List.getElem?_cons_zero]; rfl)
              case hQW34 => exact fun _ _ _ h => h
              case hwW34 => rfl
              case hyW34 => (intro w hSw; (try dsimp only at hSw); go_simp; try with_reducible rfl)
              try simp only [Act.put, List.setIfInBounds_toArray, List.set_cons_zero, List.set_cons_succ]
              refine' wpAnyH_take (i := 5) (oi := _) (v := _) ?hW35 (by kernel_rfl) (by kernel_rfl) (by kernel_rfl) ?hQW35 (Or.inl ⟨?hwW35, ?hyW35⟩) hHeld ?restW35
              case hW35 => (simp only [List.getElem?_toArray, List.getElem?_cons_succ, List.getElem?_cons_zero]; rfl)
              case hQW35 => exact fun _ _ _ h => h
              case hwW35 => rfl
              case hyW35 => (intro w hSw; (try dsimp only at hSw); go_simp; try with_reducible rfl)
              try simp only [Act.put, List.setIfInBounds_toArray, List.set_cons_zero, List.set_cons_succ]
              refine' wpAnyH_take (i := 6) (oi := _) (v := _) ?hW36 (by kernel_rfl) (by kernel_rfl) (by kernel_rfl) ?hQW36 (Or.inl ⟨?hwW36, ?hyW36⟩) hHeld ?restW36
              case hW36 => (simp only [List.getElem?_toArray, List.getElem?_cons_succ, List.getElem?_cons_zero]; rfl)
              case hQW36 => exact fun _ _ _ h => h
              case hwW36 => rfl
              case hyW36 => (intro w hSw; (try dsimp only at hSw); go_simp; try with_reducible rfl)
              try simp only [Act.put, List.setIfInBounds_toArray, List.set_cons_zero, List.set_cons_succ]
              refine wpAnyH_ready (rs := [3]) (by kernel_rfl) (by simp) ?_
              refine AllReadyH.cons rfl (fun K hK => ?_) AllReadyH.nil
              go_simp
              refine (HEV.out _).mono ?_
              rintro e v1 ⟨rfl, kk⟩
              try go_wp2_with fail
              refine hK.out _ _ (keep5 hHeld kk hyl) (fun hHeld' => ?_)
              clear hK K hHeld
              have hHeld := hHeld'
              clear hHeld'
              try simp only [Act.put, List.setIfInBounds_toArray, List.set_cons_zero, List.set_cons_succ]
              refine' wpAnyH_take (i := 7) (oi := _) (v := _) ?hW37 (by kernel_rfl) (by kernel_rfl) (by kernel_rfl) ?hQW37 (Or.inl ⟨?hwW37, ?hyW37⟩) hHeld ?restW37
              case hW37 => (simp only [List.getElem?_toArray, List.getElem?_cons_succ, List.getElem?_cons_zero]; rfl)
              case hQW37 => exact fun _ _ _ h => h
              case hwW37 => rfl
              case hyW37 => (intro w hSw; (try dsimp only at hSw); go_simp; try with_reducible rfl)
              try simp only [Act.put, List.setIfInBounds_toArray, List.set_cons_zero, List.set_cons_succ]
              refine' wpAnyH_take (i := 8) (oi := _) (v := _) ?hW38 (by kernel_rfl) (by kernel_rfl) (by kernel_rfl) ?hQW38 (Or.inl ⟨?hwW38, ?hyW38⟩) hHeld ?restW38
              case hW38 => (simp only [List.getElem?_toArray, List.getElem?_cons_succ, List.getElem?_cons_zero]; rfl)
              case hQW38 => exact fun _ _ _ h => h
              case hwW38 => rfl
              case hyW38 => (intro w hSw; (try dsimp only at hSw); go_simp; try with_reducible rfl)
              try simp only [Act.put, List.setIfInBounds_toArray, List.set_cons_zero, List.set_cons_succ]
              refine' wpAnyH_take (i := 9) (oi := _) (v := _) ?hW39 (by kernel_rfl) (by kernel_rfl) (by kernel_rfl) ?hQW39 (Or.inl ⟨?hwW39, ?hyW39⟩) hHeld ?restW39
              case hW39 => (simp only [List.getElem?_toArray, List.getElem?_cons_succ, List.getElem?_cons_zero]; rfl)
              case hQW39 => exact fun _ _ _ h => h
              case hwW39 => rfl
              case hyW39 => (intro w hSw; (try dsimp only at hSw); go_simp; try with_reducible rfl)
              try simp only [Act.put, List.setIfInBounds_toArray, List.set_cons_zero, List.set_cons_succ]
              refine' wpAnyH_take (i := 10) (oi := _) (v := _) ?hW310 (by kernel_rfl) (by kernel_rfl) (by kernel_rfl) ?hQW310 (Or.inl ⟨?hwW310, ?hyW310⟩) hHeld ?restW310
              case hW310 => (simp only [List.getElem?_toArray, List.getElem?_cons_succ, List.getElem?_cons_zero]; rfl)
              case hQW310 => exact fun _ _ _ h => h
              case hwW310 => rfl
              case hyW310 => (intro w hSw; (try dsimp only at hSw); go_simp; try with_reducible rfl)
              try simp only [Act.put, List.setIfInBounds_toArray, List.set_cons_zero, List.set_cons_succ]
              refine' wpAnyH_take (i := 11) (oi := _) (v := _) ?hW311 (by kernel_rfl) (by kernel_rfl) (by kernel_rfl) ?hQW311 (Or.inl ⟨?hwW311, ?hyW311⟩) hHeld ?restW311
              case hW311 => (simp only [List.getElem?_toArray, List.getElem?_cons_succ, List.getElem?_cons_zero]; rfl)
              case hQW311 => exact fun _ _ _ h => h
              case hwW311 => rfl
              case hyW311 => (intro w hSw; (try dsimp only at hSw); go_simp; try with_reducible rfl)
              try simp only [Act.put, List.setIfInBounds_toArray, List.set_cons_zero, List.set_cons_succ]
              refine' wpAnyH_take (i := 12) (oi := _) (v := _) ?hW312 (by kernel_rfl) (by kernel_rfl) (by kernel_rfl) ?hQW312 (Or.inl ⟨?hwW312, ?hyW312⟩) hHeld ?restW312
              case hW312 => (simp only [List.getElem?_toArray, List.getElem?_cons_succ, List.getElem?_cons_zero]; rfl)
              case hQW312 => exact fun _ _ _ h => h
              case hwW312 => rfl
              case hyW312 => (intro w hSw; (try dsimp only at hSw); go_simp; try with_reducible rfl)
              try simp only [Act.put, List.setIfInBounds_toArray, List.set_cons_zero, List.set_cons_succ]
              refine wpAnyH_off (i := 13) (d := some 113) rfl (by kernel_rfl) (by kernel_rfl) (by kernel_rfl) (fun _ _ _ h => h) (by rfl) hHeld ?_
              try simp only [Act.put, List.setIfInBounds_toArray, List.set_cons_zero, List.set_cons_succ]
              refine wpAnyH_off (i := 14) (d := some 114) rfl (by kernel_rfl) (by kernel_rfl) (by kernel_rfl) (fun _ _ _ h => h) (by rfl) hHeld ?_
              try simp only [Act.put, List.setIfInBounds_toArray, List.set_cons_zero, List.set_cons_succ]
              refine wpAnyH_off (i := 15) (d := some 115) rfl (by kernel_rfl) (by kernel_rfl) (by kernel_rfl) (fun _ _ _ h => h) (by rfl) hHeld ?_
              try simp only [Act.put, List.setIfInBounds_toArray, List.set_cons_zero, List.set_cons_succ]
              refine' wpAnyH_take (i := 16) (oi := _) (v := _) ?hW316 (by kernel_rfl) (by kernel_rfl) (by kernel_rfl) ?hQW316 (Or.inl ⟨?hwW316, ?hyW316⟩) hHeld ?restW316
              case hW316 => (simp only [List.getElem?_toArray, List.getElem?_cons_succ, List.getElem?_cons_zero]; rfl)
              case hQW316 => exact fun _ _ _ h => h
              case hwW316 => rfl
              case hyW316 => (intro w hSw; (try dsimp only at hSw); go_simp; try with_reducible rfl)
              try simp only [Act.put, List.setIfInBounds_toArray, List.set_cons_zero, List.set_cons_succ]
              refine' wpAnyH_take (i := 17) (oi := _) (v := _) ?hW317 (by kernel_rfl) (by kernel_rfl) (by kernel_rfl) ?hQW317 (Or.inl ⟨?hwW317, ?hyW317⟩) hHeld ?restW317
              case hW317 => (simp only [List.getElem?_toArray, List.getElem?_cons_succ, List.getElem?_cons_zero]; rfl)
              case hQW317 => exact fun _ _ _ h => h
              case hwW317 => rfl
              case hyW317 => (intro w hSw; (try dsimp only at hSw); go_simp; try with_reducible rfl)
              try simp only [Act.put, List.setIfInBounds_toArray, List.set_cons_zero, List.set_cons_succ]
              refine' wpAnyH_take (i := 18) (oi := _) (v := _) ?hW318 (by kernel_rfl) (by kernel_rfl) (by kernel_rfl) ?hQW318 (Or.inl ⟨?hwW318, ?hyW318⟩) hHeld ?restW318
              case hW318 => (simp only [List.getElem?_toArray, List.getElem?_cons_succ, List.getElem?_cons_zero]; rfl)
              case hQW318 => exact fun _ _ _ h => h
              case hwW318 => rfl
              case hyW318 => (intro w hSw; (try dsimp only at hSw); go_simp; try with_reducible rfl)
              try simp only [Act.put, List.setIfInBounds_toArray, List.set_cons_zero, List.set_cons_succ]
              refine' wpAnyH_take (i := 19) (oi := _) (v := _) ?hW319 (by kernel_rfl) (by kernel_rfl) (by kernel_rfl) ?hQW319 (Or.inl ⟨?hwW319, ?hyW319⟩) hHeld ?restW319
              case hW319 => (simp only [List.getElem?_toArray, List.getElem?_cons_succ, List.getElem?_cons_zero]; rfl)
              case hQW319 => exact fun _ _ _ h => h
              case hwW319 => rfl
              case hyW319 => (intro w hSw; (try dsimp only at hSw); go_simp; try with_reducible rfl)
              try simp only [Act.put, List.setIfInBounds_toArray, List.set_cons_zero, List.set_cons_succ]
              refine wpAnyH_done (by kernel_rfl) ?_ _
              go_wp2_with fail
              go_ret
              exact ⟨rfl, HKX.out.trans hHeld.2.2.2.2⟩
            · have hE : evenB q = false := by unfold evenB; simp [h1, h2, h3, h4, h5]
              rw [hE] at HEV
              unfold z0 at h1 h2 h3 h4 h5
              clear hE
              refine wp_region_held_drew (S := (fun V => V.cell? ⟨g2, 0, none⟩ = some (.complex .f64 (q 0).1 (q 0).2) ∧ V.cell? ⟨g2, 1, none⟩ = some (.complex .f64 (q 1).1 (q 1).2) ∧ V.cell? ⟨g2, 2, none⟩ = some (.complex .f64 (q 2).1 (q 2).2) ∧ V.cell? ⟨g2, 3, none⟩ = some (.complex .f64 (q 3).1 (q 3).2) ∧ Keeps [] wr V)) (by kernel_rfl) ⟨y0, y1, y2, y3, hKY⟩ (fun hHeld => ?_)
              refine wpAnyH_ready (rs := [0]) (by kernel_rfl) (by simp) ?_
              refine AllReadyH.cons rfl (fun K hK => ?_) AllReadyH.nil
              go_simp
              refine (HLV.out _).mono ?_
              rintro e v1 ⟨rfl, kk⟩
              try go_wp2_with fail
              refine hK.out _ _ (keep5 hHeld kk hyl) (fun hHeld' => ?_)
              clear hK K hHeld
              have hHeld := hHeld'
              clear hHeld'
              try simp only [Act.put, List.setIfInBounds_toArray, List.set_cons_zero, List.set_cons_succ]
              refine' wpAnyH_take (i := 1) (oi := _) (v := _) ?hW41 (by kernel_rfl) (by kernel_rfl) (by kernel_rfl) ?hQW41 (Or.inl ⟨?hwW41, ?hyW41⟩) hHeld ?restW41
              case hW41 => (simp only [List.getElem?_toArray, List.getElem?_cons_succ, List.getElem?_cons_zero]; rfl)
              case hQW41 => exact fun _ _ _ h => h
              case hwW41 => rfl
              case hyW41 => (intro w hSw; (try dsimp only at hSw); go_simp; try with_reducible rfl)
              try simp only [Act.put, List.setIfInBounds_toArray, List.set_cons_zero, List.set_cons_succ]
              refine' wpAnyH_take (i := 2) (oi := _) (v := _) ?hW42 (by kernel_rfl) (by kernel_rfl) (by kernel_rfl) ?hQW42 (Or.inl ⟨?hwW42, ?hyW42⟩) hHeld ?restW42
              case hW42 => (simp only [List.getElem?_toArray, List.getElem?_cons_succ, List.getElem?_cons_zero]; rfl)
              case hQW42 => exact fun _ _ _ h => h
              case hwW42 => rfl
              case hyW42 => (intro w hSw; (try dsimp only at hSw); go_simp; try with_reducible rfl)
              try simp only [Act.put, List.setIfInBounds_toArray, List.set_cons_zero, List.set_cons_succ]
              refine' wpAnyH_take (i := 4) (oi := _) (v := _) ?hW44 (by kernel_rfl) (by kernel_rfl) (by kernel_rfl) ?hQW44 (Or.inl ⟨?hwW44, ?hyW44⟩) hHeld ?restW44
              case hW44 => (simp only [List.getElem?_toArray, List.getElem?_cons_succ, List.getElem?_cons_zero]; rfl)
              case hQW44 => exact fun _ _ _ h => h
              case hwW44 => rfl
              case hyW44 => (intro w hSw; (try dsimp only at hSw); go_simp; try with_reducible rfl)
              try simp only [Act.put, List.setIfInBounds_toArray, List.set_cons_zero, List.set_cons_succ]
              refine' wpAnyH_take (i := 5) (oi := _) (v := _) ?hW45 (by kernel_rfl) (by kernel_rfl) (by kernel_rfl) ?hQW45 (Or.inl ⟨?hwW45, ?hyW45⟩) hHeld ?restW45
              case hW45 => (simp only [List.getElem?_toArray, List.getElem?_cons_succ, List.getElem?_cons_zero]; rfl)
              case hQW45 => exact fun _ _ _ h => h
              case hwW45 => rfl
              case hyW45 => (intro w hSw; (try dsimp only at hSw); go_simp; try with_reducible rfl)
              try simp only [Act.put, List.setIfInBounds_toArray, List.set_cons_zero, List.set_cons_succ]
              refine' wpAnyH_take (i := 6) (oi := _) (v := _) ?hW46 (by kernel_rfl) (by kernel_rfl) (by kernel_rfl) ?hQW46 (Or.inl ⟨?hwW46, ?hyW46⟩) hHeld ?restW46
              case hW46 => (simp only [List.getElem?_toArray, List.getElem?_cons_succ, List.getElem?_cons_zero]; rfl)
              case hQW46 => exact fun _ _ _ h => h
              case hwW46 => rfl
              case hyW46 => (intro w hSw; (try dsimp only at hSw); go_simp; try with_reducible rfl)
              try simp only [Act.put, List.setIfInBounds_toArray, List.set_cons_zero, List.set_cons_succ]
              refine wpAnyH_ready (rs := [3]) (by kernel_rfl) (by simp) ?_
              refine AllReadyH.cons rfl (fun K hK => ?_) AllReadyH.nil
              go_simp
              refine (HEV.out _).mono ?_
              rintro e v1 ⟨rfl, kk⟩
              try go_wp2_with fail
              refine hK.out _ _ (keep5 hHeld kk hyl) (fun hHeld' => ?_)
              clear hK K hHeld
              have hHeld := hHeld'
              clear hHeld'
              try simp only [Act.put, List.setIfInBounds_toArray, List.set_cons_zero, List.set_cons_succ]
              refine' wpAnyH_take (i := 7) (oi := _) (v := _) ?hW47 (by kernel_rfl) (by kernel_rfl) (by kernel_rfl) ?hQW47 (Or.inl ⟨?hwW47, ?hyW47⟩) hHeld ?restW47
              case hW47 => (simp only [List.getElem?_toArray, List.getElem?_cons_succ, List.getElem?_cons_zero]; rfl)
              case hQW47 => exact fun _ _ _ h => h
              case hwW47 => rfl
              case hyW47 => (intro w hSw; (try dsimp only at hSw); go_simp; try with_reducible rfl)
              try simp only [Act.put, List.setIfInBounds_toArray, List.set_cons_zero, List.set_cons_succ]
              refine' wpAnyH_take (i := 8) (oi := _) (v := _) ?hW48 (by kernel_rfl) (by kernel_rfl) (by kernel_rfl) ?hQW48 (Or.inl ⟨?hwW48, ?hyW48⟩) hHeld ?restW48
              case hW48 => (simp only [List.getElem?_toArray, List.getElem?_cons_succ, List.getElem?_cons_zero]; rfl)
              case hQW48 => exact fun _ _ _ h => h
              case hwW48 => rfl
              case hyW48 => (intro w hSw; (try dsimp only at hSw); go_simp; try with_reducible rfl)
              try simp only [Act.put, List.setIfInBounds_toArray, List.set_cons_zero, List.set_cons_succ]
              refine' wpAnyH_take (i := 9) (oi := _) (v := _) ?hW49 (by kernel_rfl) (by kernel_rfl) (by kernel_rfl) ?hQW49 (Or.inl ⟨?hwW49, ?hyW49⟩) hHeld ?restW49
              case hW49 => (simp only [List.getElem?_toArray, List.getElem?_cons_succ, List.getElem?_cons_zero]; rfl)
              case hQW49 => exact fun _ _ _ h => h
              case hwW49 => rfl
              case hyW49 => (intro w hSw; (try dsimp only at hSw); go_simp; try with_reducible rfl)
              try simp only [Act.put, List.setIfInBounds_toArray, List.set_cons_zero, List.set_cons_succ]
              refine' wpAnyH_take (i := 10) (oi := _) (v := _) ?hW410 (by kernel_rfl) (by kernel_rfl) (by kernel_rfl) ?hQW410 (Or.inl ⟨?hwW410, ?hyW410⟩) hHeld ?restW410
              case hW410 => (simp only [List.getElem?_toArray, List.getElem?_cons_succ, List.getElem?_cons_zero]; rfl)
              case hQW410 => exact fun _ _ _ h => h
              case hwW410 => rfl
              case hyW410 => (intro w hSw; (try dsimp only at hSw); go_simp; try with_reducible rfl)
              try simp only [Act.put, List.setIfInBounds_toArray, List.set_cons_zero, List.set_cons_succ]
              refine' wpAnyH_take (i := 11) (oi := _) (v := _) ?hW411 (by kernel_rfl) (by kernel_rfl) (by kernel_rfl) ?hQW411 (Or.inl ⟨?hwW411, ?hyW411⟩) hHeld ?restW411
              case hW411 => (simp only [List.getElem?_toArray, List.getElem?_cons_succ, List.getElem?_cons_zero]; rfl)
              case hQW411 => exact fun _ _ _ h => h
              case hwW411 => rfl
              case hyW411 => (intro w hSw; (try dsimp only at hSw); go_simp; try with_reducible rfl)
              try simp only [Act.put, List.setIfInBounds_toArray, List.set_cons_zero, List.set_cons_succ]
              refine' wpAnyH_take (i := 12) (oi := _) (v := _) ?hW412 (by kernel_rfl) (by kernel_rfl) (by kernel_rfl) ?hQW412 (Or.inl ⟨?hwW412, ?hyW412⟩) hHeld ?restW412
              case hW412 => (simp only [List.getElem?_toArray, List.getElem?_cons_succ, List.getElem?_cons_zero]; rfl)
              case hQW412 => exact fun _ _ _ h => h
              case hwW412 => rfl
              case hyW412 => (intro w hSw; (try dsimp only at hSw); go_simp; try with_reducible rfl)
              try simp only [Act.put, List.setIfInBounds_toArray, List.set_cons_zero, List.set_cons_succ]
              refine' wpAnyH_take (i := 13) (oi := _) (v := _) ?hW413 (by kernel_rfl) (by kernel_rfl) (by kernel_rfl) ?hQW413 (Or.inl ⟨?hwW413, ?hyW413⟩) hHeld ?restW413
              case hW413 => (simp only [List.getElem?_toArray, List.getElem?_cons_succ, List.getElem?_cons_zero]; rfl)
              case hQW413 => exact fun _ _ _ h => h
              case hwW413 => rfl
              case hyW413 => (intro w hSw; (try dsimp only at hSw); go_simp; try with_reducible rfl)
              try simp only [Act.put, List.setIfInBounds_toArray, List.set_cons_zero, List.set_cons_succ]
              refine' wpAnyH_take (i := 14) (oi := _) (v := _) ?hW414 (by kernel_rfl) (by kernel_rfl) (by kernel_rfl) ?hQW414 (Or.inl ⟨?hwW414, ?hyW414⟩) hHeld ?restW414
              case hW414 => (simp only [List.getElem?_toArray, List.getElem?_cons_succ, List.getElem?_cons_zero]; rfl)
              case hQW414 => exact fun _ _ _ h => h
              case hwW414 => rfl
              case hyW414 => (intro w hSw; (try dsimp only at hSw); go_simp; try with_reducible rfl)
              try simp only [Act.put, List.setIfInBounds_toArray, List.set_cons_zero, List.set_cons_succ]
              refine' wpAnyH_take (i := 15) (oi := _) (v := _) ?hW415 (by kernel_rfl) (by kernel_rfl) (by kernel_rfl) ?hQW415 (Or.inl ⟨?hwW415, ?hyW415⟩) hHeld ?restW415
              case hW415 => (simp only [List.getElem?_toArray, List.getElem?_cons_succ, List.getElem?_cons_zero]; rfl)
              case hQW415 => exact fun _ _ _ h => h
              case hwW415 => rfl
              case hyW415 => (intro w hSw; (try dsimp only at hSw); go_simp; try with_reducible rfl)
              try simp only [Act.put, List.setIfInBounds_toArray, List.set_cons_zero, List.set_cons_succ]
              refine' wpAnyH_take (i := 16) (oi := _) (v := _) ?hW416 (by kernel_rfl) (by kernel_rfl) (by kernel_rfl) ?hQW416 (Or.inl ⟨?hwW416, ?hyW416⟩) hHeld ?restW416
              case hW416 => (simp only [List.getElem?_toArray, List.getElem?_cons_succ, List.getElem?_cons_zero]; rfl)
              case hQW416 => exact fun _ _ _ h => h
              case hwW416 => rfl
              case hyW416 => (intro w hSw; (try dsimp only at hSw); go_simp; try with_reducible rfl)
              try simp only [Act.put, List.setIfInBounds_toArray, List.set_cons_zero, List.set_cons_succ]
              refine' wpAnyH_take (i := 17) (oi := _) (v := _) ?hW417 (by kernel_rfl) (by kernel_rfl) (by kernel_rfl) ?hQW417 (Or.inl ⟨?hwW417, ?hyW417⟩) hHeld ?restW417
              case hW417 => (simp only [List.getElem?_toArray, List.getElem?_cons_succ, List.getElem?_cons_zero]; rfl)
              case hQW417 => exact fun _ _ _ h => h
              case hwW417 => rfl
              case hyW417 => (intro w hSw; (try dsimp only at hSw); go_simp; try with_reducible rfl)
              try simp only [Act.put, List.setIfInBounds_toArray, List.set_cons_zero, List.set_cons_succ]
              refine' wpAnyH_take (i := 18) (oi := _) (v := _) ?hW418 (by kernel_rfl) (by kernel_rfl) (by kernel_rfl) ?hQW418 (Or.inl ⟨?hwW418, ?hyW418⟩) hHeld ?restW418
              case hW418 => (simp only [List.getElem?_toArray, List.getElem?_cons_succ, List.getElem?_cons_zero]; rfl)
              case hQW418 => exact fun _ _ _ h => h
              case hwW418 => rfl
              case hyW418 => (intro w hSw; (try dsimp only at hSw); go_simp; try with_reducible rfl)
              try simp only [Act.put, List.setIfInBounds_toArray, List.set_cons_zero, List.set_cons_succ]
              refine' wpAnyH_take (i := 19) (oi := _) (v := _) ?hW419 (by kernel_rfl) (by kernel_rfl) (by kernel_rfl) ?hQW419 (Or.inl ⟨?hwW419, ?hyW419⟩) hHeld ?restW419
              case hW419 => (simp only [List.getElem?_toArray, List.getElem?_cons_succ, List.getElem?_cons_zero]; rfl)
              case hQW419 => exact fun _ _ _ h => h
              case hwW419 => rfl
              case hyW419 => (intro w hSw; (try dsimp only at hSw); go_simp; try with_reducible rfl)
              try simp only [Act.put, List.setIfInBounds_toArray, List.set_cons_zero, List.set_cons_succ]
              refine wpAnyH_done (by kernel_rfl) ?_ _
              go_wp2_with fail
              go_ret
              exact ⟨rfl, HKX.out.trans hHeld.2.2.2.2⟩
            · have hE : evenB q = false := by unfold evenB; simp [h1, h2, h3, h4, h5, h6]
              rw [hE] at HEV
              unfold z0 at h1 h2 h3 h4 h5 h6
              clear hE
              refine wp_region_held_drew (S := (fun V => V.cell? ⟨g2, 0, none⟩ = some (.complex .f64 (q 0).1 (q 0).2) ∧ V.cell? ⟨g2, 1, none⟩ = some (.complex .f64 (q 1).1 (q 1).2) ∧ V.cell? ⟨g2, 2, none⟩ = some (.complex .f64 (q 2).1 (q 2).2) ∧ V.cell? ⟨g2, 3, none⟩ = some (.complex .f64 (q 3).1 (q 3).2) ∧ Keeps [] wr V)) (by kernel_rfl) ⟨y0, y1, y2, y3, hKY⟩ (fun hHeld => ?_)
              refine wpAnyH_ready (rs := [0]) (by kernel_rfl) (by simp) ?_
              refine AllReadyH.cons rfl (fun K hK => ?_) AllReadyH.nil
              go_simp
              refine (HLV.out _).mono ?_
              rintro e v1 ⟨rfl, kk⟩
              try go_wp2_with fail
              refine hK.out _ _ (keep5 hHeld kk hyl) (fun hHeld' => ?_)
              clear hK K hHeld
              have hHeld := hHeld'
              clear hHeld'
              try simp only [Act.put, List.setIfInBounds_toArray, List.set_cons_zero, List.set_cons_succ]
              refine' wpAnyH_take (i := 1) (oi := _) (v := _) ?hW51 (by kernel_rfl) (by kernel_rfl) (by kernel_rfl) ?hQW51 (Or.inl ⟨?hwW51, ?hyW51⟩) hHeld ?restW51
              case hW51 => (simp only [List.getElem?_toArray, List.getElem?_cons_succ, List.getElem?_cons_zero]; rfl)
              case hQW51 => exact fun _ _ _ h => h
              case hwW51 => rfl
              case hyW51 => (intro w hSw; (try dsimp only at hSw); go_simp; try with_reducible rfl)
              try simp only [Act.put, List.setIfInBounds_toArray, List.set_cons_zero, List.set_cons_succ]
              refine' wpAnyH_take (i := 2) (oi := _) (v := _) ?hW52 (by kernel_rfl) (by kernel_rfl) (by kernel_rfl) ?hQW52 (Or.inl ⟨?hwW52, ?hyW52⟩) hHeld ?restW52
              case hW52 => (simp only [List.getElem?_toArray, List.getElem?_cons_succ, List.getElem?_cons_zero]; rfl)
              case hQW52 => exact fun _ _ _ h => h
              case hwW52 => rfl
              case hyW52 => (intro w hSw; (try dsimp only at hSw); go_simp; try with_reducible rfl)
              try simp only [Act.put, List.setIfInBounds_toArray, List.set_cons_zero, List.set_cons_succ]
              refine' wpAnyH_take (i := 4) (oi := _) (v := _) ?hW54 (by kernel_rfl) (by kernel_rfl) (by kernel_rfl) ?hQW54 (Or.inl ⟨?hwW54, ?hyW54⟩) hHeld ?restW54
              case hW54 => (simp only [List.getElem?_toArray, List.getElem?_cons_succ, List.getElem?_cons_zero]; rfl)
              case hQW54 => exact fun _ _ _ h => h
              case hwW54 => rfl
              case hyW54 => (intro w hSw; (try dsimp only at hSw); go_simp; try with_reducible rfl)
              try simp only [Act.put, List.setIfInBounds_toArray, List.set_cons_zero, List.set_cons_succ]
              refine' wpAnyH_take (i := 5) (oi := _) (v := _) ?hW55 (by kernel_rfl) (by kernel_rfl) (by kernel_rfl) ?hQW55 (Or.inl ⟨?hwW55, ?hyW55⟩) hHeld ?restW55
              case hW55 => (simp only [List.getElem?_toArray, List.getElem?_cons_succ, List.getElem?_cons_zero]; rfl)
              case hQW55 => exact fun _ _ _ h => h
              case hwW55 => rfl
              case hyW55 => (intro w hSw; (try dsimp only at hSw); go_simp; try with_reducible rfl)
              try simp only [Act.put, List.setIfInBounds_toArray, List.set_cons_zero, List.set_cons_succ]
              refine' wpAnyH_take (i := 6) (oi := _) (v := _) ?hW56 (by kernel_rfl) (by kernel_rfl) (by kernel_rfl) ?hQW56 (Or.inl ⟨?hwW56, ?hyW56⟩) hHeld ?restW56
              case hW56 => (simp only [List.getElem?_toArray, List.getElem?_cons_succ, List.getElem?_cons_zero]; rfl)
              case hQW56 => exact fun _ _ _ h => h
              case hwW56 => rfl
              case hyW56 => (intro w hSw; (try dsimp only at hSw); go_simp; try with_reducible rfl)
              try simp only [Act.put, List.setIfInBounds_toArray, List.set_cons_zero, List.set_cons_succ]
              refine wpAnyH_ready (rs := [3]) (by kernel_rfl) (by simp) ?_
              refine AllReadyH.cons rfl (fun K hK => ?_) AllReadyH.nil
              go_simp
              refine (HEV.out _).mono ?_
              rintro e v1 ⟨rfl, kk⟩
              try go_wp2_with fail
              refine hK.out _ _ (keep5 hHeld kk hyl) (fun hHeld' => ?_)
              clear hK K hHeld
              have hHeld := hHeld'
              clear hHeld'
              try simp only [Act.put, List.setIfInBounds_toArray, List.set_cons_zero, List.set_cons_succ]
              refine' wpAnyH_take (i := 7) (oi := _) (v := _) ?hW57 (by kernel_rfl) (by kernel_rfl) (by kernel_rfl) ?hQW57 (Or.inl ⟨?hwW57, ?hyW57⟩) hHeld ?restW57
              case hW57 => (simp only [List.getElem?_toArray, List.getElem?_cons_succ, List.getElem?_cons_zero]; rfl)
              case hQW57 => exact fun _ _ _ h => h
              case hwW57 => rfl
              case hyW57 => (intro w hSw; (try dsimp only at hSw); go_simp; try with_reducible rfl)
              try simp only [Act.put, List.setIfInBounds_toArray, List.set_cons_zero, List.set_cons_succ]
              refine' wpAnyH_take (i := 8) (oi := _) (v := _) ?hW58 (by kernel_rfl) (by kernel_rfl) (by kernel_rfl) ?hQW58 (Or.inl ⟨?hwW58, ?hyW58⟩) hHeld ?restW58
              case hW58 => (simp only [List.getElem?_toArray, List.getElem?_cons_succ, List.getElem?_cons_zero]; rfl)
              case hQW58 => exact fun _ _ _ h => h
              case hwW58 => rfl
              case hyW58 => (intro w hSw; (try dsimp only at hSw); go_simp; try with_reducible rfl)
              try simp only [Act.put, List.setIfInBounds_toArray, List.set_cons_zero, List.set_cons_succ]
              refine' wpAnyH_take (i := 9) (oi := _) (v := _) ?hW59 (by kernel_rfl) (by kernel_rfl) (by kernel_rfl) ?hQW59 (Or.inl ⟨?hwW59, ?hyW59⟩) hHeld ?restW59
              case hW59 => (simp only [List.getElem?_toArray, List.getElem?_cons_succ, List.getElem?_cons_zero]; rfl)
              case hQW59 => exact fun _ _ _ h => h
              case hwW59 => rfl
              case hyW59 => (intro w hSw; (try dsimp only at hSw); go_simp; try with_reducible rfl)
              try simp only [Act.put, List.setIfInBounds_toArray, List.set_cons_zero, List.set_cons_succ]
              refine' wpAnyH_take (i := 10) (oi := _) (v := _) ?hW510 (by kernel_rfl) (by kernel_rfl) (by kernel_rfl) ?hQW510 (Or.inl ⟨?hwW510, ?hyW510⟩) hHeld ?restW510
              case hW510 => (simp only [List.getElem?_toArray, List.getElem?_cons_succ, List.getElem?_cons_zero]; rfl)
              case hQW510 => exact fun _ _ _ h => h
              case hwW510 => rfl
              case hyW510 => (intro w hSw; (try dsimp only at hSw); go_simp; try with_reducible rfl)
              try simp only [Act.put, List.setIfInBounds_toArray, List.set_cons_zero, List.set_cons_succ]
              refine' wpAnyH_take (i := 11) (oi := _) (v := _) ?hW511 (by kernel_rfl) (by kernel_rfl) (by kernel_rfl) ?hQW511 (Or.inl ⟨?hwW511, ?hyW511⟩) hHeld ?restW511
              case hW511 => (simp only [List.getElem?_toArray, List.getElem?_cons_succ, List.getElem?_cons_zero]; rfl)
              case hQW511 => exact fun _ _ _ h => h
              case hwW511 => rfl
              case hyW511 => (intro w hSw; (try dsimp only at hSw); go_simp; try with_reducible rfl)
              try simp only [Act.put, List.setIfInBounds_toArray, List.set_cons_zero, List.set_cons_succ]
              refine' wpAnyH_take (i := 12) (oi := _) (v := _) ?hW512 (by kernel_rfl) (by kernel_rfl) (by kernel_rfl) ?hQW512 (Or.inl ⟨?hwW512, ?hyW512⟩) hHeld ?restW512
              case hW512 => (simp only [List.getElem?_toArray, List.getElem?_cons_succ, List.getElem?_cons_zero]; rfl)
              case hQW512 => exact fun _ _ _ h => h
              case hwW512 => rfl
              case hyW512 => (intro w hSw; (try dsimp only at hSw); go_simp; try with_reducible rfl)
              try simp only [Act.put, List.setIfInBounds_toArray, List.set_cons_zero, List.set_cons_succ]
              refine' wpAnyH_take (i := 13) (oi := _) (v := _) ?hW513 (by kernel_rfl) (by kernel_rfl) (by kernel_rfl) ?hQW513 (Or.inl ⟨?hwW513, ?hyW513⟩) hHeld ?restW513
              case hW513 => (simp only [List.getElem?_toArray, List.getElem?_cons_succ, List.getElem?_cons_zero]; rfl)
              case hQW513 => exact fun _ _ _ h => h
              case hwW513 => rfl
              case hyW513 => (intro w hSw; (try dsimp only at hSw); go_simp; try with_reducible rfl)
              try simp only [Act.put, List.setIfInBounds_toArray, List.set_cons_zero, List.set_cons_succ]
              refine' wpAnyH_take (i := 14) (oi := _) (v := _) ?hW514 (by kernel_rfl) (by kernel_rfl) (by kernel_rfl) ?hQW514 (Or.inl ⟨?hwW514, ?hyW514⟩) hHeld ?restW514
              case hW514 => (simp only [List.getElem?_toArray, List.getElem?_cons_succ, List.getElem?_cons_zero]; rfl)
              case hQW514 => exact fun _ _ _ h => h
              case hwW514 => rfl
              case hyW514 => (intro w hSw; (try dsimp only at hSw); go_simp; try with_reducible rfl)
              try simp only [Act.put, List.setIfInBounds_toArray, List.set_cons_zero, List.set_cons_succ]
              refine' wpAnyH_take (i := 15) (oi := _) (v := _) ?hW515 (by kernel_rfl) (by kernel_rfl) (by kernel_rfl) ?hQW515 (Or.inl ⟨?hwW515, ?hyW515⟩) hHeld ?restW515
              case hW515 => (simp only [List.getElem?_toArray, List.getElem?_cons_succ, List.getElem?_cons_zero]; rfl)
              case hQW515 => exact fun _ _ _ h => h
              case hwW515 => rfl
              case hyW515 => (intro w hSw; (try dsimp only at hSw); go_simp; try with_reducible rfl)
              try simp only [Act.put, List.setIfInBounds_toArray, List.set_cons_zero, List.set_cons_succ]
              refine' wpAnyH_take (i := 16) (oi := _) (v := _) ?hW516 (by kernel_rfl) (by kernel_rfl) (by kernel_rfl) ?hQW516 (Or.inl ⟨?hwW516, ?hyW516⟩) hHeld ?restW516
              case hW516 => (simp only [List.getElem?_toArray, List.getElem?_cons_succ, List.getElem?_cons_zero]; rfl)
              case hQW516 => exact fun _ _ _ h => h
              case hwW516 => rfl
              case hyW516 => (intro w hSw; (try dsimp only at hSw); go_simp; try with_reducible rfl)
              try simp only [Act.put, List.setIfInBounds_toArray, List.set_cons_zero, List.set_cons_succ]
              refine' wpAnyH_take (i := 17) (oi := _) (v := _) ?hW517 (by kernel_rfl) (by kernel_rfl) (by kernel_rfl) ?hQW517 (Or.inl ⟨?hwW517, ?hyW517⟩) hHeld ?restW517
              case hW517 => (simp only [List.getElem?_toArray, List.getElem?_cons_succ, List.getElem?_cons_zero]; rfl)
              case hQW517 => exact fun _ _ _ h => h
              case hwW517 => rfl
              case hyW517 => (intro w hSw; (try dsimp only at hSw); go_simp; try with_reducible rfl)
              try simp only [Act.put, List.setIfInBounds_toArray, List.set_cons_zero, List.set_cons_succ]
              refine' wpAnyH_take (i := 18) (oi := _) (v := _) ?hW518 (by kernel_rfl) (by kernel_rfl) (by kernel_rfl) ?hQW518 (Or.inl ⟨?hwW518, ?hyW518⟩) hHeld ?restW518
              case hW518 => (simp only [List.getElem?_toArray, List.getElem?_cons_succ, List.getElem?_cons_zero]; rfl)
              case hQW518 => exact fun _ _ _ h => h
              case hwW518 => rfl
              case hyW518 => (intro w hSw; (try dsimp only at hSw); go_simp; try with_reducible rfl)
              try simp only [Act.put, List.setIfInBounds_toArray, List.set_cons_zero, List.set_cons_succ]
              refine' wpAnyH_take (i := 19) (oi := _) (v := _) ?hW519 (by kernel_rfl) (by kernel_rfl) (by kernel_rfl) ?hQW519 (Or.inl ⟨?hwW519, ?hyW519⟩) hHeld ?restW519
              case hW519 => (simp only [List.getElem?_toArray, List.getElem?_cons_succ, List.getElem?_cons_zero]; rfl)
              case hQW519 => exact fun _ _ _ h => h
              case hwW519 => rfl
              case hyW519 => (intro w hSw; (try dsimp only at hSw); go_simp; try with_reducible rfl)
              try simp only [Act.put, List.setIfInBounds_toArray, List.set_cons_zero, List.set_cons_succ]
              refine wpAnyH_done (by kernel_rfl) ?_ _
              go_wp2_with fail
              go_ret
              exact ⟨rfl, HKX.out.trans hHeld.2.2.2.2⟩
            · have hE : evenB q = true := by unfold evenB; simp [h1, h2, h3, h4, h5, h6]
              rw [hE] at HEV
              unfold z0 at h1 h2 h3 h4 h5 h6
              clear hE
              refine wp_region_held_drew (S := (fun V => V.cell? ⟨g2, 0, none⟩ = some (.complex .f64 (q 0).1 (q 0).2) ∧ V.cell? ⟨g2, 1, none⟩ = some (.complex .f64 (q 1).1 (q 1).2) ∧ V.cell? ⟨g2, 2, none⟩ = some (.complex .f64 (q 2).1 (q 2).2) ∧ V.cell? ⟨g2, 3, none⟩ = some (.complex .f64 (q 3).1 (q 3).2) ∧ Keeps [] wr V)) (by kernel_rfl) ⟨y0, y1, y2, y3, hKY⟩ (fun hHeld => ?_)
              refine wpAnyH_ready (rs := [0]) (by kernel_rfl) (by simp) ?_
              refine AllReadyH.cons rfl (fun K hK => ?_) AllReadyH.nil
              go_simp
              refine (HLV.out _).mono ?_
              rintro e v1 ⟨rfl, kk⟩
              try go_wp2_with fail
              refine hK.out _ _ (keep5 hHeld kk hyl) (fun hHeld' => ?_)
              clear hK K hHeld
              have hHeld := hHeld'
              clear hHeld'
              try simp only [Act.put, List.setIfInBounds_toArray, List.set_cons_zero, List.set_cons_succ]
              refine' wpAnyH_take (i := 1) (oi := _) (v := _) ?hW61 (by kernel_rfl) (by kernel_rfl) (by kernel_rfl) ?hQW61 (Or.inl ⟨?hwW61, ?hyW61⟩) hHeld ?restW61
              case hW61 => (simp only [List.getElem?_toArray, List.getElem?_cons_succ, List.getElem?_cons_zero]; rfl)
              case hQW61 => exact fun _ _ _ h => h
              case hwW61 => rfl
              case hyW61 => (intro w hSw; (try dsimp only at hSw); go_simp; try with_reducible rfl)
              try simp only [Act.put, List.setIfInBounds_toArray, List.set_cons_zero, List.set_cons_succ]
              refine' wpAnyH_take (i := 2) (oi := _) (v := _) ?hW62 (by kernel_rfl) (by kernel_rfl) (by kernel_rfl) ?hQW62 (Or.inl ⟨?hwW62, ?hyW62⟩) hHeld ?restW62
              case hW62 => (simp only [List.getElem?_toArray, List.getElem?_cons_succ, List.getElem?_cons_zero]; rfl)
              case hQW62 => exact fun _ _ _ h => h
              case hwW62 => rfl
              case hyW62 => (intro w hSw; (try dsimp only at hSw); go_simp; try with_reducible rfl)
              try simp only [Act.put, List.setIfInBounds_toArray, List.set_cons_zero, List.set_cons_succ]
              refine' wpAnyH_take (i := 4) (oi := _) (v := _) ?hW64 (by kernel_rfl) (by kernel_rfl) (by kernel_rfl) ?hQW64 (Or.inl ⟨?hwW64, ?hyW64⟩) hHeld ?restW64
              case hW64 => (simp only [List.getElem?_toArray, List.getElem?_cons_succ, List.getElem?_cons_zero]; rfl)
              case hQW64 => exact fun _ _ _ h => h
              case hwW64 => rfl
              case hyW64 => (intro w hSw; (try dsimp only at hSw); go_simp; try with_reducible rfl)
              try simp only [Act.put, List.setIfInBounds_toArray, List.set_cons_zero, List.set_cons_succ]
              refine' wpAnyH_take (i := 5) (oi := _) (v := _) ?hW65 (by kernel_rfl) (by kernel_rfl) (by kernel_rfl) ?hQW65 (Or.inl ⟨?hwW65, ?hyW65⟩) hHeld ?restW65
              case hW65 => (simp only [List.getElem?_toArray, List.getElem?_cons_succ, List.getElem?_cons_zero]; rfl)
              case hQW65 => exact fun _ _ _ h => h
              case hwW65 => rfl
              case hyW65 => (intro w hSw; (try dsimp only at hSw); go_simp; try with_reducible rfl)
              try simp only [Act.put, List.setIfInBounds_toArray, List.set_cons_zero, List.set_cons_succ]
              refine' wpAnyH_take (i := 6) (oi := _) (v := _) ?hW66 (by kernel_rfl) (by kernel_rfl) (by kernel_rfl) ?hQW66 (Or.inl ⟨?hwW66, ?hyW66⟩) hHeld ?restW66
              case hW66 => (simp only [List.getElem?_toArray, List.getElem?_cons_succ, List.getElem?_cons_zero]; rfl)
              case hQW66 => exact fun _ _ _ h => h
              case hwW66 => rfl
              case hyW66 => (intro w hSw; (try dsimp only at hSw); go_simp; try with_reducible rfl)
              try simp only [Act.put, List.setIfInBounds_toArray, List.set_cons_zero, List.set_cons_succ]
              refine wpAnyH_ready (rs := [3]) (by kernel_rfl) (by simp) ?_
              refine AllReadyH.cons rfl (fun K hK => ?_) AllReadyH.nil
              go_simp
              refine (HEV.out _).mono ?_
              rintro e v1 ⟨rfl, kk⟩
              try go_wp2_with fail
              refine hK.out _ _ (keep5 hHeld kk hyl) (fun hHeld' => ?_)
              clear hK K hHeld
              have hHeld := hHeld'
              clear hHeld'
              try simp only [Act.put, List.setIfInBounds_toArray, List.set_cons_zero, List.set_cons_succ]
              refine' wpAnyH_take (i := 7) (oi := _) (v := _) ?hW67 (by kernel_rfl) (by kernel_rfl) (by kernel_rfl) ?hQW67 (Or.inl ⟨?hwW67, ?hyW67⟩) hHeld ?restW67
              case hW67 => (simp only [List.getElem?_toArray, List.getElem?_cons_succ, List.getElem?_cons_zero]; rfl)
              case hQW67 => exact fun _ _ _ h => h
              case hwW67 => rfl
              case hyW67 => (intro w hSw; (try dsimp only at hSw); go_simp; try with_reducible rfl)
              try simp only [Act.put, List.setIfInBounds_toArray, List.set_cons_zero, List.set_cons_succ]
              refine' wpAnyH_take (i := 8) (oi := _) (v := _) ?hW68 (by kernel_rfl) (by kernel_rfl) (by kernel_rfl) ?hQW68 (Or.inl ⟨?hwW68, ?hyW68⟩) hHeld ?restW68
              case hW68 => (simp only [List.getElem?_toArray, List.getElem?_cons_succ, List.getElem?_cons_zero]; rfl)
              case hQW68 => exact fun _ _ _ h => h
              case hwW68 => rfl
              case hyW68 => (intro w hSw; (try dsimp only at hSw); go_simp; try with_reducible rfl)
              try simp only [Act.put, List.setIfInBounds_toArray, List.set_cons_zero, List.set_cons_succ]
              refine' wpAnyH_take (i := 9) (oi := _) (v := _) ?hW69 (by kernel_rfl) (by kernel_rfl) (by kernel_rfl) ?hQW69 (Or.inl ⟨?hwW69, ?hyW69⟩) hHeld ?restW69
              case hW69 => (simp only [List.getElem?_toArray, List.getElem?_cons_succ, List.getElem?_cons_zero]; rfl)
              case hQW69 => exact fun _ _ _ h => h
              case hwW69 => rfl
              case hyW69 => (intro w hSw; (try dsimp only at hSw); go_simp; try with_reducible rfl)
              try simp only [Act.put, List.setIfInBounds_toArray, List.set_cons_zero, List.set_cons_succ]
              refine' wpAnyH_take (i := 10) (oi := _) (v := _) ?hW610 (by kernel_rfl) (by kernel_rfl) (by kernel_rfl) ?hQW610 (Or.inl ⟨?hwW610, ?hyW610⟩) hHeld ?restW610
              case hW610 => (simp only [List.getElem?_toArray, List.getElem?_cons_succ, List.getElem?_cons_zero]; rfl)
              case hQW610 => exact fun _ _ _ h => h
              case hwW610 => rfl
              case hyW610 => (intro w hSw; (try dsimp only at hSw); go_simp; try with_reducible rfl)
              try simp only [Act.put, List.setIfInBounds_toArray, List.set_cons_zero, List.set_cons_succ]
              refine' wpAnyH_take (i := 11) (oi := _) (v := _) ?hW611 (by kernel_rfl) (by kernel_rfl) (by kernel_rfl) ?hQW611 (Or.inl ⟨?hwW611, ?hyW611⟩) hHeld ?restW611
              case hW611 => (simp only [List.getElem?_toArray, List.getElem?_cons_succ, List.getElem?_cons_zero]; rfl)
              case hQW611 => exact fun _ _ _ h => h
              case hwW611 => rfl
              case hyW611 => (intro w hSw; (try dsimp only at hSw); go_simp; try with_reducible rfl)
              try simp only [Act.put, List.setIfInBounds_toArray, List.set_cons_zero, List.set_cons_succ]
              refine' wpAnyH_take (i := 12) (oi := _) (v := _) ?hW612 (by kernel_rfl) (by kernel_rfl) (by kernel_rfl) ?hQW612 (Or.inl ⟨?hwW612, ?hyW612⟩) hHeld ?restW612
              case hW612 => (simp only [List.getElem?_toArray, List.getElem?_cons_succ, List.getElem?_cons_zero]; rfl)
              case hQW612 => exact fun _ _ _ h => h
              case hwW612 => rfl
              case hyW612 => (intro w hSw; (try dsimp only at hSw); go_simp; try with_reducible rfl)
              try simp only [Act.put, List.setIfInBounds_toArray, List.set_cons_zero, List.set_cons_succ]
              refine' wpAnyH_take (i := 13) (oi := _) (v := _) ?hW613 (by kernel_rfl) (by kernel_rfl) (by kernel_rfl) ?hQW613 (Or.inl ⟨?hwW613, ?hyW613⟩) hHeld ?restW613
              case hW613 => (simp only [List.getElem?_toArray, List.getElem?_cons_succ, List.getElem?_cons_zero]; rfl)
              case hQW613 => exact fun _ _ _ h => h
              case hwW613 => rfl
              case hyW613 => (intro w hSw; (try dsimp only at hSw); go_simp; try with_reducible rfl)
              try simp only [Act.put, List.setIfInBounds_toArray, List.set_cons_zero, List.set_cons_succ]
              refine' wpAnyH_take (i := 14) (oi := _) (v := _) ?hW614 (by kernel_rfl) (by kernel_rfl) (by kernel_rfl) ?hQW614 (Or.inl ⟨?hwW614, ?hyW614⟩) hHeld ?restW614
              case hW614 => (simp only [List.getElem?_toArray, List.getElem?_cons_succ, List.getElem?_cons_zero]; rfl)
              case hQW614 => exact fun _ _ _ h => h
              case hwW614 => rfl
              case hyW614 => (intro w hSw; (try dsimp only at hSw); go_simp; try with_reducible rfl)
              try simp only [Act.put, List.setIfInBounds_toArray, List.set_cons_zero, List.set_cons_succ]
              refine' wpAnyH_take (i := 15) (oi := _) (v := _) ?hW615 (by kernel_rfl) (by kernel_rfl) (by kernel_rfl) ?hQW615 (Or.inl ⟨?hwW615, ?hyW615⟩) hHeld ?restW615
              case hW615 => (simp only [List.getElem?_toArray, List.getElem?_cons_succ, List.getElem?_cons_zero]; rfl)
              case hQW615 => exact fun _ _ _ h => h
              case hwW615 => rfl
              case hyW615 => (intro w hSw; (try dsimp only at hSw); go_simp; try with_reducible rfl)
              try simp only [Act.put, List.setIfInBounds_toArray, List.set_cons_zero, List.set_cons_succ]
              refine' wpAnyH_take (i := 16) (oi := _) (v := _) ?hW616 (by kernel_rfl) (by kernel_rfl) (by kernel_rfl) ?hQW616 (Or.inl ⟨?hwW616, ?hyW616⟩) hHeld ?restW616
              case hW616 => (simp only [List.getElem?_toArray, List.getElem?_cons_succ, List.getElem?_cons_zero]; rfl)
              case hQW616 => exact fun _ _ _ h => h
              case hwW616 => rfl
              case hyW616 => (intro w hSw; (try dsimp only at hSw); go_simp; try with_reducible rfl)
              try simp only [Act.put, List.setIfInBounds_toArray, List.set_cons_zero, List.set_cons_succ]
              refine' wpAnyH_take (i := 17) (oi := _) (v := _) ?hW617 (by kernel_rfl) (by kernel_rfl) (by kernel_rfl) ?hQW617 (Or.inl ⟨?hwW617, ?hyW617⟩) hHeld ?restW617
              case hW617 => (simp only [List.getElem?_toArray, List.getElem?_cons_succ, List.getElem?_cons_zero]; rfl)
              case hQW617 => exact fun _ _ _ h => h
              case hwW617 => rfl
              case hyW617 => (intro w hSw; (try dsimp only at hSw); go_simp; try with_reducible rfl)
              try simp only [Act.put, List.setIfInBounds_toArray, List.set_cons_zero, List.set_cons_succ]
              refine' wpAnyH_take (i := 18) (oi := _) (v := _) ?hW618 (by kernel_rfl) (by kernel_rfl) (by kernel_rfl) ?hQW618 (Or.inl ⟨?hwW618, ?hyW618⟩) hHeld ?restW618
              case hW618 => (simp only [List.getElem?_toArray, List.getElem?_cons_succ, List.getElem?_cons_zero]; rfl)
              case hQW618 => exact fun _ _ _ h => h
              case hwW618 => rfl
              case hyW618 => (intro w hSw; (try dsimp only at hSw); go_simp; try with_reducible rfl)
              try simp only [Act.put, List.setIfInBounds_toArray, List.set_cons_zero, List.set_cons_succ]
              refine' wpAnyH_take (i := 19) (oi := _) (v := _) ?hW619 (by kernel_rfl) (by kernel_rfl) (by kernel_rfl) ?hQW619 (Or.inl ⟨?hwW619, ?hyW619⟩) hHeld ?restW619
              case hW619 => (simp only [List.getElem?_toArray, List.getElem?_cons_succ, List.getElem?_cons_zero]; rfl)
              case hQW619 => exact fun _ _ _ h => h
              case hwW619 => rfl
              case hyW619 => (intro w hSw; (try dsimp only at hSw); go_simp; try with_reducible rfl)
              try simp only [Act.put, List.setIfInBounds_toArray, List.set_cons_zero, List.set_cons_succ]
              refine wpAnyH_done (by kernel_rfl) ?_ _
              go_wp2_with fail
              go_ret
              exact ⟨rfl, HKX.out.trans hHeld.2.2.2.2⟩
theorem shifts (a b : Option Addr) (la ca lb cb : Nat) (zs ys : List Int) (d : Int) (w : World) (h1 : IsRow .i64 w a la ca zs) (h2 : IsRow .i64 w b lb cb ys) (_ : (Lit.int .i64 d).wf = true) :
    Calls Try.prog 4 #[.slice a la ca, .slice b lb cb, .int .i64 d] w fun e w' => e = .returned (.bool true) ∧ Below w.heap.size w w' := by
  obtain ⟨p1, p2, _⟩ := h1.len
  obtain ⟨q1, q2, _⟩ := h2.len
  exact (shifts_law a b la ca lb cb zs ys d w p1 p2 q1 q2 (ticks_of h1 _ (by omega) (by omega)) (ticks_of h2 _ (by omega) (by omega))).mono fun _ _ ⟨he, hk⟩ => ⟨he, hk.all⟩
end Be
end Go.Proofs.Ytbkljphhgghjdaa
