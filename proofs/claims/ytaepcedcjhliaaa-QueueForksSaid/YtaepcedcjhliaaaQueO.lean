/- A deed on both queues: what it asks; put and settle. -/
import Derived.Test.YtaepcedcjhliaaaQueM
namespace Go.Proofs.Ytaepcedcjhliaaa
open Go.RowKit
namespace Qp
open Sm FiT
def dcl (d : Int) (x : It) (st n : Int) : List Value := [.int .i64 d] ++ cs x ++ [.int .i64 st, .int .i64 n]
theorem item_any (x : It) (w : World) : Calls Try.prog 27 #[val x] w fun e w' => e = .returned (.agg (clc (pend x)).toArray) ∧ Keeps [] w w' := by
  obtain ⟨k, wh, st, ad, ln, ar, bad⟩ := x
  show Calls Try.prog 27 #[.agg #[.int .i64 k, .int .u8 wh, .int .u8 st, .int .i64 ad, .int .i64 ln, .int .i64 ar, .bool bad]] w _
  go_enter Try.func27, Try.ntmps27
  go_wp2
  refine bodyPost_ret (v := .agg #[.int .i64 k, .int .u8 wh, .int .u8 st, .int .i64 ad, .int .i64 ln, .int .i64 ar, .bool bad, .int .i64 0, .int .i64 0]) (by simp [results, Try.results27, go_sem]) rfl ?_
  exact ⟨rfl, ((Keeps.refl _ _).alloc _).alloc _⟩
/-- The step's own blocks. -/
structure Hb (w V : World) (q g r y : Nat) (u0 u1 u2 : Value) (d : Int) (x : It) (st n : Int) : Prop where
  b4 : Blk V w.heap.size 47 #[u0, u1, u2]
  b5 : Blk V (w.heap.size + 1) 32 (dcl d x st n).toArray
  b6 : Blk V (w.heap.size + 1 + 1) 47 #[.slice none 0 0, .slice none 0 0, .int .i64 0]
  kp : Keeps [q, g, r, y] w V
  lt : q < w.heap.size ∧ g < w.heap.size ∧ r < w.heap.size ∧ y < w.heap.size
section
variable {w V V' : World} {q g r y : Nat} {u0 u1 u2 : Value} {d st n : Int} {x : It}
theorem Hb.keeps (h : Hb w V q g r y u0 u1 u2 d x st n) (hk : Keeps [q, g, r, y] V V') : Hb w V' q g r y u0 u1 u2 d x st n := by
  have := h.lt
  exact ⟨h.b4.keeps hk (by simp; omega), h.b5.keeps hk (by simp; omega), h.b6.keeps hk (by simp; omega), h.kp.trans hk, h.lt⟩
theorem Hb.kk (h : Hb w V q g r y u0 u1 u2 d x st n) (hk : Keeps [] V V') : Hb w V' q g r y u0 u1 u2 d x st n := h.keeps (hk.more (by simp))
theorem Hb.far (h : Hb w V q g r y u0 u1 u2 d x st n) {S : List Nat} (hk : Keeps S V V') (hS : ∀ b ∈ S, w.heap.size + 3 ≤ b) : Hb w V' q g r y u0 u1 u2 d x st n :=
  ⟨h.b4.keeps hk (fun m => by have := hS _ m; omega), h.b5.keeps hk (fun m => by have := hS _ m; omega), h.b6.keeps hk (fun m => by have := hS _ m; omega), h.kp.next hk (fun b m => .inr (by have := hS _ m; omega)), h.lt⟩
theorem Hb.cq (h : Hb w V q g r y u0 u1 u2 d x st n) : V.cell? ⟨w.heap.size, 0, none⟩ = some u0 ∧ V.cell? ⟨w.heap.size, 1, none⟩ = some u1 ∧ V.cell? ⟨w.heap.size, 2, none⟩ = some u2 := ⟨h.b4.cell 0, h.b4.cell 1, h.b4.cell 2⟩
theorem Hb.z (h : Hb w V q g r y u0 u1 u2 d x st n) : V.cell? ⟨w.heap.size + 1 + 1, 0, none⟩ = some (.slice none 0 0) ∧ V.cell? ⟨w.heap.size + 1 + 1, 1, none⟩ = some (.slice none 0 0) ∧ V.cell? ⟨w.heap.size + 1 + 1, 2, none⟩ = some (.int .i64 0) := ⟨h.b6.cell 0, h.b6.cell 1, h.b6.cell 2⟩
theorem Hb.fz (h : Hb w V q g r y u0 u1 u2 d x st n) (i : Nat) : V.frozen? ⟨w.heap.size + 1 + 1, i, none⟩ = false := h.b6.frozen i
theorem Hb.d0 (h : Hb w V q g r y u0 u1 u2 d x st n) : V.cell? ⟨w.heap.size + 1, 0, none⟩ = some (.int .i64 d) := h.b5.cell 0
theorem Hb.d8 (h : Hb w V q g r y u0 u1 u2 d x st n) : V.cell? ⟨w.heap.size + 1, 8, none⟩ = some (.int .i64 st) := h.b5.cell 8
theorem Hb.d9 (h : Hb w V q g r y u0 u1 u2 d x st n) : V.cell? ⟨w.heap.size + 1, 9, none⟩ = some (.int .i64 n) := h.b5.cell 9
theorem Hb.r5 (h : Hb w V q g r y u0 u1 u2 d x st n) : V.rangeAt (w.heap.size + 1) 1 (cs x) := fun j v hv => by
  have h1 := h.b5.cell (1 + j)
  rw [h1]
  have hj : j < 7 := by have := (List.getElem?_eq_some_iff.1 hv).1; rwa [cs_len] at this
  simp only [dcl, List.getElem?_toArray, List.singleton_append]
  rw [show 1 + j = j + 1 from by omega, List.cons_append, List.getElem?_cons_succ, List.getElem?_append_left (by rw [cs_len]; exact hj)]
  exact hv
end
/-- What a deed makes of both. -/
def IsStep (q g r y : Nat) (lim : Int) (w : World) (e : Ending) (w' : World) : Prop :=
  ∃ v l dl r' y' a c, e = .returned (.tuple #[v, .bool true]) ∧ Qe w' q g r' y' a c l dl lim ∧ Rf w' [q, g, r', y'] v l dl lim ∧ Keeps [q, g, r, y] w w' ∧ (r' = r ∨ w.heap.size ≤ r') ∧ (y' = y ∨ y' = q ∨ w.heap.size ≤ y')
theorem step_endS {w V V4 W' : World} {q g r y : Nat} {S : List Nat} {l : List It} {dl : List Cl} {lim : Int} {v : Value} (hl : q < w.heap.size ∧ g < w.heap.size ∧ r < w.heap.size ∧ y < w.heap.size) (hV : Keeps [] w V) (hx : Rf V [q, g, r, y] v l dl lim) (h4 : To q g r y l dl lim V V4) (hka : Keeps S V4 W') (h6 : ∀ b ∈ S, w.heap.size ≤ b ∧ b < V.heap.size) (h8 : Rf V S v l dl lim) :
    IsStep q g r y lim w (.returned (.tuple #[v, .bool true])) W' := by
  obtain ⟨r', y', a', c', h1, h2, h3, h5⟩ := h4
  have hz := hV.size
  obtain ⟨a, c, b, d, hv, ha, hb, hc⟩ := hx
  obtain ⟨a9, c9, b9, d9, hv9, ha9, hb9, _⟩ := h8
  rw [hv] at hv9
  injection hv9 with hv9
  injection hv9 with hv9
  injection hv9 with e1 hv9
  injection hv9 with e2 hv9
  injection e1 with e1
  injection e2 with e2
  subst e1 e2
  have both : ∀ {p : Option Addr} {m : Nat} {xs : List Value}, Rd V [q, g, r, y] p m xs → Rd V S p m xs → Rd W' [q, g, r', y'] p m xs := fun h1 h6' => by
    refine ⟨h1.1, fun h0 => ?_⟩
    obtain ⟨k, rfl, hk, hkF, hr⟩ := h1.2 h0
    obtain ⟨k', e, _, hk6, _⟩ := h6'.2 h0
    injection e with e
    injection e with e
    subst e
    simp only [List.mem_cons, List.not_mem_nil, or_false, not_or] at hkF
    have hk2 : k < V4.heap.size := Nat.lt_of_lt_of_le hk h2.size
    refine ⟨k, rfl, Nat.lt_of_lt_of_le hk2 hka.size, ?_, fun j u hu => ?_⟩
    · simp only [List.mem_cons, List.not_mem_nil, or_false, not_or]
      omega
    · refine (hka.cell (p := ⟨k, 0 + j, none⟩) hk2 hk6).trans ((h2.cell (p := ⟨k, 0 + j, none⟩) hk (by simp; omega)).trans (hr j u hu))
  exact ⟨v, l, dl, r', y', a', c', rfl, h1.keeps hka (by intro b hb; have := h6 b hb; omega), ⟨a, c, b, d, hv, both ha ha9, both hb hb9, hc⟩, ((hV.more (by simp)).next h2 (by simp)).next hka (fun b hb => .inr (h6 b hb).1), by omega, by omega⟩
theorem step_end {w V V4 W' : World} {q g r y p6 : Nat} {l : List It} {dl : List Cl} {lim : Int} {v : Value} (hl : q < w.heap.size ∧ g < w.heap.size ∧ r < w.heap.size ∧ y < w.heap.size) (hV : Keeps [] w V) (hx : Rf V [q, g, r, y] v l dl lim) (h4 : To q g r y l dl lim V V4) (hka : Keeps [p6] V4 W') (h6 : w.heap.size ≤ p6) (h7 : p6 < V.heap.size) (h8 : Rf V [p6] v l dl lim) :
    IsStep q g r y lim w (.returned (.tuple #[v, .bool true])) W' :=
  step_endS hl hV hx h4 hka (by intro b hb; simp at hb; subst hb; exact ⟨h6, h7⟩) h8
theorem head_of {w : World} {q g r y : Nat} {u0 u1 u2 : Value} {d st n : Int} {x : It} (hl : q < w.heap.size ∧ g < w.heap.size ∧ r < w.heap.size ∧ y < w.heap.size) :
    Hb w (((w.alloc (.cells #[u0, u1, u2] 47)).alloc (.cells (dcl d x st n).toArray 32)).alloc (.cells #[.slice none 0 0, .slice none 0 0, .int .i64 0] 47)) q g r y u0 u1 u2 d x st n := by
  have h5 := (Blk.new (w.alloc (.cells #[u0, u1, u2] 47)) 32 (dcl d x st n).toArray).alloc (.cells #[.slice none 0 0, .slice none 0 0, .int .i64 0] 47)
  have h6 := Blk.new ((w.alloc (.cells #[u0, u1, u2] 47)).alloc (.cells (dcl d x st n).toArray 32)) 47 #[.slice none 0 0, .slice none 0 0, .int .i64 0]
  simp only [World.size_alloc] at h5 h6
  exact ⟨((Blk.new w _ _).alloc _).alloc _, h5, h6, (((Keeps.refl _ w).alloc _).alloc _).alloc _, hl⟩
theorem _root_.Go.World.rangeAt.keepz {w w' : World} {b o : Nat} {l : List Value} {S : List Nat} (h : w.rangeAt b o l) (hk : Keeps S w w') (hb : b < w.heap.size) (hS : b ∉ S) : w'.rangeAt b o l := range_keep h hk hb hS
theorem setD_eq (l : List It) (dl : List Cl) : setD l dl = dl ++ (setB l).map wrong := rfl
theorem run_alloc9 (w : World) : (Instr.alloc 47 true (.tuple #[])).run Try.prog w = .ok (.pointer (some ⟨w.heap.size, 0, none⟩)) (w.alloc (.cells #[.slice none 0 0, .slice none 0 0, .int .i64 0] 47)) := by kernel_rfl
theorem wp_alloc9 {o : Oper} {a : Act} {w : World} {K : Act → World → Prop} {Q : Exit → Act → World → Prop} (ho : o.op = .alloc 47)
    (h : ∀ w' p8, p8 = w.heap.size → Blk w' p8 47 #[.slice none 0 0, .slice none 0 0, .int .i64 0] → Keeps [] w w' → K (a.put o.dst (.pointer (some ⟨p8, 0, none⟩))) w') : o.wp Try.prog a w K Q := by
  unfold Oper.wp execOp
  simp only [ho, Sem.run_bind, run_alloc9, Result.andThen_ok]
  exact h _ _ rfl (Blk.new _ _ _) ((Keeps.refl _ _).alloc _)
attribute [local irreducible] cs clc dcl setL setD

set_option maxRecDepth 100000 in
set_option maxHeartbeats 2000000 in
theorem step_in {q g r y c : Nat} {a : Option Addr} {l : List It} {dl : List Cl} {lim : Int} (x : It) (st n : Int) (v : Value) (w : World) (hq : Qe w q g r y a c l dl lim) (hx : Rf w [q, g, r, y] v l dl lim) (hf : (l.length : Int) + (dl.length : Int) < lim) :
    Calls Try.prog 15 #[.pointer (some ⟨q, 0, none⟩), v, .agg (dcl 0 x st n).toArray] w (IsStep q g r y lim w) := by
  have hl := hq.lt
  have hhl := hq.hl
  have hhm := hq.hm
  have HX := Lib.hid hx
  obtain ⟨a1, c1, b1, e1, rfl, _, _, _⟩ := hx
  have hb0 : Hb w _ q g r y (.slice a1 l.length c1) (.slice b1 dl.length e1) (.int .i64 lim) 0 x st n := head_of hl
  have hkV : Keeps [] w (((w.alloc (.cells #[.slice a1 l.length c1, .slice b1 dl.length e1, .int .i64 lim] 47)).alloc (.cells (dcl 0 x st n).toArray 32)).alloc (.cells #[.slice none 0 0, .slice none 0 0, .int .i64 0] 47)) := (((Keeps.refl _ w).alloc _).alloc _).alloc _
  have hxV := (HX.out.more (G := [w.heap.size + 1 + 1, q, g, r, y]) (by intro z hz; simp only [List.mem_cons] at hz ⊢; rcases hz with rfl | hz; exact .inr (by omega); exact .inl (by simpa using hz))).kp hkV
  have hqV := hq.kp hkV
  clear hq HX
  go_enter Try.func15, Try.ntmps15
  go_upto_region 1 with fail
  generalize ((w.alloc (.cells #[.slice a1 l.length c1, .slice b1 dl.length e1, .int .i64 lim] 47)).alloc (.cells (dcl 0 x st n).toArray 32)).alloc (.cells #[.slice none 0 0, .slice none 0 0, .int .i64 0] 47) = V at *
  have hz6 : w.heap.size + 3 ≤ V.heap.size := by have := hb0.b6.lt; omega
  have d0 := hb0.d0
  go_upto_region 3 with fail
  clear d0
  go_cut [8, 9] from 10 to 164 (fun s t wx => ∃ (p8 : Nat) (a2 : Option Addr) (c2 : Nat) (b2 : Option Addr) (e2 : Nat), s = .pointer (some ⟨p8, 0, none⟩) ∧ t = .bool true ∧ w.heap.size + 3 ≤ p8 ∧ Blk wx p8 47 #[.slice a2 (l.length + 1) c2, .slice b2 dl.length e2, .int .i64 lim] ∧ Keeps [] w wx ∧ Hb w wx q g r y (.slice a1 l.length c1) (.slice b1 dl.length e1) (.int .i64 lim) 0 x st n ∧ Qe wx q g r y a c l dl lim ∧ Rf wx [w.heap.size + 1 + 1, q, g, r, y] (.agg #[.slice a2 (l.length + 1) c2, .slice b2 dl.length e2, .int .i64 lim]) (l ++ [x]) dl lim ∧ w.heap.size + 3 ≤ wx.heap.size)
  case first =>
    refine wp_region_held_drew (S := (fun V => Hb w V q g r y (.slice a1 l.length c1) (.slice b1 dl.length e1) (.int .i64 lim) 0 x st n)) (by kernel_rfl) (hb0.kk ((Keeps.refl _ _).drew)) (fun hHeld => ?_)
    have hHb := hHeld
    have k0 : Keeps [] V V.drew := (Keeps.refl _ _).drew
    have hqV := hqV.kp k0
    have hxV := hxV.kp k0
    have hkV := hkV.trans k0
    have hz6 := Nat.le_trans hz6 k0.size
    clear k0
    generalize V.drew = U at *
    refine' wpAnyH_take (i := 0) (oi := _) (v := _) ?hT0 (by kernel_rfl) (by kernel_rfl) (by kernel_rfl) ?hQT0 ?hyT0 hHeld ?restT0
    case hT0 => (simp only [List.getElem?_toArray, List.getElem?_cons_zero]; rfl)
    case hQT0 => exact fun _ _ _ h => h
    case hyT0 => (refine Or.inl ⟨rfl, fun V hS => ?_⟩; obtain ⟨q0, q1, q2⟩ := hS.cq; go_simp; try with_reducible rfl)
    try simp only [Act.put, List.setIfInBounds_toArray, List.set_cons_zero, List.set_cons_succ]
    refine' wpAnyH_take (i := 1) (oi := _) (v := _) ?hT1 (by kernel_rfl) (by kernel_rfl) (by kernel_rfl) ?hQT1 (Or.inl ⟨?hwT1, ?hyT1⟩) hHeld ?restT1
    case hT1 => (simp only [List.getElem?_toArray, List.getElem?_cons_succ, List.getElem?_cons_zero]; rfl)
    case hQT1 => exact fun _ _ _ h => h
    case hwT1 => rfl
    case hyT1 => (intro w hSw; (try dsimp only at hSw); go_simp; try with_reducible rfl)
    try simp only [Act.put, List.setIfInBounds_toArray, List.set_cons_zero, List.set_cons_succ]
    refine' wpAnyH_take (i := 2) (oi := _) (v := .agg (cs x).toArray) ?hT2 (by kernel_rfl) (by kernel_rfl) (by kernel_rfl) ?hQT2 ?hyT2 hHeld ?restT2
    case hT2 => (simp only [List.getElem?_toArray, List.getElem?_cons_succ, List.getElem?_cons_zero]; rfl)
    case hQT2 => exact fun _ _ _ h => h
    case hyT2 => exact yieldsIf_load_mid rfl _ _ rfl _ _ rfl (cs x) _ (fun _ h => h.r5) Try.underlying30 rfl (FiT.info_cs x)
    try simp only [Act.put, List.setIfInBounds_toArray, List.set_cons_zero, List.set_cons_succ]
    refine wpAnyH_ready (rs := [3, 8]) (by kernel_rfl) (by simp) ?_
    refine' (AllReadyH.cons (o := _) ?hoN13 (fun K hK' => ?stN13) (AllReadyH.cons (o := _) ?hoN18 (fun K hK' => ?stN18) AllReadyH.nil))
    case hoN13 => (simp only [List.getElem?_toArray, List.getElem?_cons_succ, List.getElem?_cons_zero]; rfl)
    case hoN18 => (simp only [List.getElem?_toArray, List.getElem?_cons_succ, List.getElem?_cons_zero]; rfl)
    case stN13 =>
      go_simp
      refine (item_any x _).mono ?_
      rintro e V1 ⟨rfl, k1⟩
      try go_wp2_with fail
      have hqV := hqV.kp k1
      have hxV := hxV.kp k1
      have hkV := hkV.trans k1
      have hHb := hHb.kk k1
      have hz6 := Nat.le_trans hz6 k1.size
      refine hK'.out _ _ (hHb) (fun hHeld' => ?_)
      clear hK' K hHeld
      have hHeld := hHeld'
      clear hHeld'
      try simp only [Act.put]
      try simp only [Act.put, List.setIfInBounds_toArray, List.set_cons_zero, List.set_cons_succ]
      refine wpAnyH_ready (rs := [4, 8]) (by kernel_rfl) (by simp) ?_
      refine' (AllReadyH.cons (o := _) ?hoN24 (fun K hK' => ?stN24) (AllReadyH.cons (o := _) ?hoN28 (fun K hK' => ?stN28) AllReadyH.nil))
      case hoN24 => (simp only [List.getElem?_toArray, List.getElem?_cons_succ, List.getElem?_cons_zero]; rfl)
      case hoN28 => (simp only [List.getElem?_toArray, List.getElem?_cons_succ, List.getElem?_cons_zero]; rfl)
      case stN24 =>
        go_simp
        refine (rput_ok x _ _ hxV (by have := hHb.kp.size; intro z hz; simp at hz; omega) hf (by omega)).mono ?_
        rintro e V1 ⟨v2, rfl, hx2, k1⟩
        obtain ⟨a2, c2, b2, e2, rfl, h2a, h2b, h2c⟩ := hx2
        have hx2 : Rf V1 [w.heap.size + 1 + 1, q, g, r, y] (.agg #[.slice a2 (l.length + 1) c2, .slice b2 dl.length e2, .int .i64 lim]) (l ++ [x]) dl lim := ⟨a2, c2, b2, e2, by simp, h2a, h2b, h2c⟩
        clear h2a h2b h2c
        dsimp only
        try go_wp2_with fail
        have hqV := hqV.kp k1
        have hxV := hxV.kp k1
        have hkV := hkV.trans k1
        have hHb := hHb.kk k1
        have hz6 := Nat.le_trans hz6 k1.size
        refine hK'.out _ _ (hHb) (fun hHeld' => ?_)
        clear hK' K hHeld
        have hHeld := hHeld'
        clear hHeld'
        try simp only [Act.put]
        try simp only [Act.put, List.setIfInBounds_toArray, List.set_cons_zero, List.set_cons_succ]
        refine' wpAnyH_take (i := 5) (oi := _) (v := _) ?haN25 (by kernel_rfl) (by kernel_rfl) (by kernel_rfl) ?hQaN25 (Or.inl ⟨?hwaN25, ?hyaN25⟩) hHeld ?restaN25
        case haN25 => (simp only [List.getElem?_toArray, List.getElem?_cons_succ, List.getElem?_cons_zero]; rfl)
        case hQaN25 => exact fun _ _ _ h => h
        case hwaN25 => rfl
        case hyaN25 => (intro w hSw; (try dsimp only at hSw); go_simp; try with_reducible rfl)
        try simp only [Act.put, List.setIfInBounds_toArray, List.set_cons_zero, List.set_cons_succ]
        refine' wpAnyH_take (i := 6) (oi := _) (v := _) ?haN26 (by kernel_rfl) (by kernel_rfl) (by kernel_rfl) ?hQaN26 (Or.inl ⟨?hwaN26, ?hyaN26⟩) hHeld ?restaN26
        case haN26 => (simp only [List.getElem?_toArray, List.getElem?_cons_succ, List.getElem?_cons_zero]; rfl)
        case hQaN26 => exact fun _ _ _ h => h
        case hwaN26 => rfl
        case hyaN26 => (intro w hSw; (try dsimp only at hSw); go_simp; try with_reducible rfl)
        try simp only [Act.put, List.setIfInBounds_toArray, List.set_cons_zero, List.set_cons_succ]
        refine' wpAnyH_take (i := 7) (oi := _) (v := _) ?haN27 (by kernel_rfl) (by kernel_rfl) (by kernel_rfl) ?hQaN27 (Or.inl ⟨?hwaN27, ?hyaN27⟩) hHeld ?restaN27
        case haN27 => (simp only [List.getElem?_toArray, List.getElem?_cons_succ, List.getElem?_cons_zero]; rfl)
        case hQaN27 => exact fun _ _ _ h => h
        case hwaN27 => rfl
        case hyaN27 => (intro w hSw; (try dsimp only at hSw); go_simp; try with_reducible rfl)
        try simp only [Act.put, List.setIfInBounds_toArray, List.set_cons_zero, List.set_cons_succ]
        refine wpAnyH_ready (rs := [8]) (by kernel_rfl) (by simp) ?_
        refine' (AllReadyH.cons (o := _) ?hoN38 (fun K hK' => ?stN38) AllReadyH.nil)
        case hoN38 => (simp only [List.getElem?_toArray, List.getElem?_cons_succ, List.getElem?_cons_zero]; rfl)
        case stN38 =>
          rw [if_pos (by rfl)]
          refine wp_alloc9 rfl ?_
          intro V1 p8 hp8 hB8 k1
          have hp9 : w.heap.size + 3 ≤ p8 := by omega
          have hx2 := hx2.more (G := [p8, w.heap.size + 1 + 1, q, g, r, y]) (by intro z hz; simp at hz ⊢; omega)
          clear hp8
          have hqV := hqV.kp k1
          have hxV := hxV.kp k1
          have hkV := hkV.trans k1
          have hHb := hHb.kk k1
          have hz6 := Nat.le_trans hz6 k1.size
          have hx2 := hx2.kp k1
          refine hK'.out _ _ (hHb) (fun hHeld' => ?_)
          clear hK' K hHeld
          have hHeld := hHeld'
          clear hHeld'
          try simp only [Act.put]
          try simp only [Act.put, List.setIfInBounds_toArray, List.set_cons_zero, List.set_cons_succ]
          refine wpAnyH_ready (rs := [9]) (by kernel_rfl) (by simp) ?_
          refine' (AllReadyH.cons (o := _) ?hoN49 (fun K hK' => ?stN49) AllReadyH.nil)
          case hoN49 => (simp only [List.getElem?_toArray, List.getElem?_cons_succ, List.getElem?_cons_zero]; rfl)
          case stN49 =>
            obtain ⟨s0, s1, s2⟩ := blkq hB8
            have hf8 := hB8.frozen
            go_simp
            refine hK'.out _ _ (hHb.far (keep3 p8 _ _ _) (by simp; omega)) (fun hHeld' => ?_)
            clear hK' K hHeld
            have hHeld := hHeld'
            clear hHeld'
            try simp only [Act.put]
            try simp only [Act.put, List.setIfInBounds_toArray, List.set_cons_zero, List.set_cons_succ]
            refine' wpAnyH_take (i := 10) (oi := _) (v := _) ?hbN410 (by kernel_rfl) (by kernel_rfl) (by kernel_rfl) ?hQbN410 (Or.inl ⟨?hwbN410, ?hybN410⟩) hHeld ?restbN410
            case hbN410 => (simp only [List.getElem?_toArray, List.getElem?_cons_succ, List.getElem?_cons_zero]; rfl)
            case hQbN410 => exact fun _ _ _ h => h
            case hwbN410 => rfl
            case hybN410 => (intro w hSw; (try dsimp only at hSw); go_simp; try with_reducible rfl)
            try simp only [Act.put, List.setIfInBounds_toArray, List.set_cons_zero, List.set_cons_succ]
            refine wpAnyH_done (by kernel_rfl) ?_ _
            go_wp2_with fail
            go_meet
            case rel =>
              exact ⟨_, _, _, _, _, rfl, rfl, (by omega), (hB8.set_ 0 _).set_ 1 _ |>.set_ 2 _, hkV.next (keep3 p8 _ _ _) (by simp; omega), hHeld, hqV.keeps (keep3 p8 _ _ _) (by simp; omega), (hx2.keeps (keep3 p8 _ _ _) (by simp)).more (by intro z hz; simp at hz ⊢; omega), Nat.le_trans hz6 (keep3 p8 _ _ _).size⟩
      case stN28 =>
        rw [if_pos (by rfl)]
        refine wp_alloc9 rfl ?_
        intro V1 p8 hp8 hB8 k1
        have hp9 : w.heap.size + 3 ≤ p8 := by omega
        have hxV := hxV.more (G := [p8, w.heap.size + 1 + 1, q, g, r, y]) (by intro z hz; simp at hz ⊢; omega)
        clear hp8
        have hqV := hqV.kp k1
        have hxV := hxV.kp k1
        have hkV := hkV.trans k1
        have hHb := hHb.kk k1
        have hz6 := Nat.le_trans hz6 k1.size
        refine hK'.out _ _ (hHb) (fun hHeld' => ?_)
        clear hK' K hHeld
        have hHeld := hHeld'
        clear hHeld'
        try simp only [Act.put]
        try simp only [Act.put, List.setIfInBounds_toArray, List.set_cons_zero, List.set_cons_succ]
        refine wpAnyH_ready (rs := [4]) (by kernel_rfl) (by simp) ?_
        refine' (AllReadyH.cons (o := _) ?hoN54 (fun K hK' => ?stN54) AllReadyH.nil)
        case hoN54 => (simp only [List.getElem?_toArray, List.getElem?_cons_succ, List.getElem?_cons_zero]; rfl)
        case stN54 =>
          go_simp
          refine (rput_ok x _ _ hxV (by have := hHb.kp.size; have := hB8.lt; intro z hz; simp at hz; omega) hf (by omega)).mono ?_
          rintro e V1 ⟨v2, rfl, hx2, k1⟩
          obtain ⟨a2, c2, b2, e2, rfl, h2a, h2b, h2c⟩ := hx2
          have hx2 : Rf V1 [p8, w.heap.size + 1 + 1, q, g, r, y] (.agg #[.slice a2 (l.length + 1) c2, .slice b2 dl.length e2, .int .i64 lim]) (l ++ [x]) dl lim := ⟨a2, c2, b2, e2, by simp, h2a, h2b, h2c⟩
          clear h2a h2b h2c
          dsimp only
          try go_wp2_with fail
          have hqV := hqV.kp k1
          have hxV := hxV.kp k1
          have hkV := hkV.trans k1
          have hHb := hHb.kk k1
          have hz6 := Nat.le_trans hz6 k1.size
          have hB8 := hB8.keeps k1 (by simp)
          refine hK'.out _ _ (hHb) (fun hHeld' => ?_)
          clear hK' K hHeld
          have hHeld := hHeld'
          clear hHeld'
          try simp only [Act.put]
          try simp only [Act.put, List.setIfInBounds_toArray, List.set_cons_zero, List.set_cons_succ]
          refine' wpAnyH_take (i := 5) (oi := _) (v := _) ?haN55 (by kernel_rfl) (by kernel_rfl) (by kernel_rfl) ?hQaN55 (Or.inl ⟨?hwaN55, ?hyaN55⟩) hHeld ?restaN55
          case haN55 => (simp only [List.getElem?_toArray, List.getElem?_cons_succ, List.getElem?_cons_zero]; rfl)
          case hQaN55 => exact fun _ _ _ h => h
          case hwaN55 => rfl
          case hyaN55 => (intro w hSw; (try dsimp only at hSw); go_simp; try with_reducible rfl)
          try simp only [Act.put, List.setIfInBounds_toArray, List.set_cons_zero, List.set_cons_succ]
          refine' wpAnyH_take (i := 6) (oi := _) (v := _) ?haN56 (by kernel_rfl) (by kernel_rfl) (by kernel_rfl) ?hQaN56 (Or.inl ⟨?hwaN56, ?hyaN56⟩) hHeld ?restaN56
          case haN56 => (simp only [List.getElem?_toArray, List.getElem?_cons_succ, List.getElem?_cons_zero]; rfl)
          case hQaN56 => exact fun _ _ _ h => h
          case hwaN56 => rfl
          case hyaN56 => (intro w hSw; (try dsimp only at hSw); go_simp; try with_reducible rfl)
          try simp only [Act.put, List.setIfInBounds_toArray, List.set_cons_zero, List.set_cons_succ]
          refine' wpAnyH_take (i := 7) (oi := _) (v := _) ?haN57 (by kernel_rfl) (by kernel_rfl) (by kernel_rfl) ?hQaN57 (Or.inl ⟨?hwaN57, ?hyaN57⟩) hHeld ?restaN57
          case haN57 => (simp only [List.getElem?_toArray, List.getElem?_cons_succ, List.getElem?_cons_zero]; rfl)
          case hQaN57 => exact fun _ _ _ h => h
          case hwaN57 => rfl
          case hyaN57 => (intro w hSw; (try dsimp only at hSw); go_simp; try with_reducible rfl)
          try simp only [Act.put, List.setIfInBounds_toArray, List.set_cons_zero, List.set_cons_succ]
          refine wpAnyH_ready (rs := [9]) (by kernel_rfl) (by simp) ?_
          refine' (AllReadyH.cons (o := _) ?hoN69 (fun K hK' => ?stN69) AllReadyH.nil)
          case hoN69 => (simp only [List.getElem?_toArray, List.getElem?_cons_succ, List.getElem?_cons_zero]; rfl)
          case stN69 =>
            obtain ⟨s0, s1, s2⟩ := blkq hB8
            have hf8 := hB8.frozen
            go_simp
            refine hK'.out _ _ (hHb.far (keep3 p8 _ _ _) (by simp; omega)) (fun hHeld' => ?_)
            clear hK' K hHeld
            have hHeld := hHeld'
            clear hHeld'
            try simp only [Act.put]
            try simp only [Act.put, List.setIfInBounds_toArray, List.set_cons_zero, List.set_cons_succ]
            refine' wpAnyH_take (i := 10) (oi := _) (v := _) ?hbN610 (by kernel_rfl) (by kernel_rfl) (by kernel_rfl) ?hQbN610 (Or.inl ⟨?hwbN610, ?hybN610⟩) hHeld ?restbN610
            case hbN610 => (simp only [List.getElem?_toArray, List.getElem?_cons_succ, List.getElem?_cons_zero]; rfl)
            case hQbN610 => exact fun _ _ _ h => h
            case hwbN610 => rfl
            case hybN610 => (intro w hSw; (try dsimp only at hSw); go_simp; try with_reducible rfl)
            try simp only [Act.put, List.setIfInBounds_toArray, List.set_cons_zero, List.set_cons_succ]
            refine wpAnyH_done (by kernel_rfl) ?_ _
            go_wp2_with fail
            go_meet
            case rel =>
              exact ⟨_, _, _, _, _, rfl, rfl, (by omega), (hB8.set_ 0 _).set_ 1 _ |>.set_ 2 _, hkV.next (keep3 p8 _ _ _) (by simp; omega), hHeld, hqV.keeps (keep3 p8 _ _ _) (by simp; omega), (hx2.keeps (keep3 p8 _ _ _) (by simp)).more (by intro z hz; simp at hz ⊢; omega), Nat.le_trans hz6 (keep3 p8 _ _ _).size⟩
    case stN18 =>
      rw [if_pos (by rfl)]
      refine wp_alloc9 rfl ?_
      intro V1 p8 hp8 hB8 k1
      have hp9 : w.heap.size + 3 ≤ p8 := by omega
      have hxV := hxV.more (G := [p8, w.heap.size + 1 + 1, q, g, r, y]) (by intro z hz; simp at hz ⊢; omega)
      clear hp8
      have hqV := hqV.kp k1
      have hxV := hxV.kp k1
      have hkV := hkV.trans k1
      have hHb := hHb.kk k1
      have hz6 := Nat.le_trans hz6 k1.size
      refine hK'.out _ _ (hHb) (fun hHeld' => ?_)
      clear hK' K hHeld
      have hHeld := hHeld'
      clear hHeld'
      try simp only [Act.put]
      try simp only [Act.put, List.setIfInBounds_toArray, List.set_cons_zero, List.set_cons_succ]
      refine wpAnyH_ready (rs := [3]) (by kernel_rfl) (by simp) ?_
      refine' (AllReadyH.cons (o := _) ?hoN73 (fun K hK' => ?stN73) AllReadyH.nil)
      case hoN73 => (simp only [List.getElem?_toArray, List.getElem?_cons_succ, List.getElem?_cons_zero]; rfl)
      case stN73 =>
        go_simp
        refine (item_any x _).mono ?_
        rintro e V1 ⟨rfl, k1⟩
        try go_wp2_with fail
        have hqV := hqV.kp k1
        have hxV := hxV.kp k1
        have hkV := hkV.trans k1
        have hHb := hHb.kk k1
        have hz6 := Nat.le_trans hz6 k1.size
        have hB8 := hB8.keeps k1 (by simp)
        refine hK'.out _ _ (hHb) (fun hHeld' => ?_)
        clear hK' K hHeld
        have hHeld := hHeld'
        clear hHeld'
        try simp only [Act.put]
        try simp only [Act.put, List.setIfInBounds_toArray, List.set_cons_zero, List.set_cons_succ]
        refine wpAnyH_ready (rs := [4]) (by kernel_rfl) (by simp) ?_
        refine' (AllReadyH.cons (o := _) ?hoN84 (fun K hK' => ?stN84) AllReadyH.nil)
        case hoN84 => (simp only [List.getElem?_toArray, List.getElem?_cons_succ, List.getElem?_cons_zero]; rfl)
        case stN84 =>
          go_simp
          refine (rput_ok x _ _ hxV (by have := hHb.kp.size; have := hB8.lt; intro z hz; simp at hz; omega) hf (by omega)).mono ?_
          rintro e V1 ⟨v2, rfl, hx2, k1⟩
          obtain ⟨a2, c2, b2, e2, rfl, h2a, h2b, h2c⟩ := hx2
          have hx2 : Rf V1 [p8, w.heap.size + 1 + 1, q, g, r, y] (.agg #[.slice a2 (l.length + 1) c2, .slice b2 dl.length e2, .int .i64 lim]) (l ++ [x]) dl lim := ⟨a2, c2, b2, e2, by simp, h2a, h2b, h2c⟩
          clear h2a h2b h2c
          dsimp only
          try go_wp2_with fail
          have hqV := hqV.kp k1
          have hxV := hxV.kp k1
          have hkV := hkV.trans k1
          have hHb := hHb.kk k1
          have hz6 := Nat.le_trans hz6 k1.size
          have hB8 := hB8.keeps k1 (by simp)
          refine hK'.out _ _ (hHb) (fun hHeld' => ?_)
          clear hK' K hHeld
          have hHeld := hHeld'
          clear hHeld'
          try simp only [Act.put]
          try simp only [Act.put, List.setIfInBounds_toArray, List.set_cons_zero, List.set_cons_succ]
          refine' wpAnyH_take (i := 5) (oi := _) (v := _) ?haN85 (by kernel_rfl) (by kernel_rfl) (by kernel_rfl) ?hQaN85 (Or.inl ⟨?hwaN85, ?hyaN85⟩) hHeld ?restaN85
          case haN85 => (simp only [List.getElem?_toArray, List.getElem?_cons_succ, List.getElem?_cons_zero]; rfl)
          case hQaN85 => exact fun _ _ _ h => h
          case hwaN85 => rfl
          case hyaN85 => (intro w hSw; (try dsimp only at hSw); go_simp; try with_reducible rfl)
          try simp only [Act.put, List.setIfInBounds_toArray, List.set_cons_zero, List.set_cons_succ]
          refine' wpAnyH_take (i := 6) (oi := _) (v := _) ?haN86 (by kernel_rfl) (by kernel_rfl) (by kernel_rfl) ?hQaN86 (Or.inl ⟨?hwaN86, ?hyaN86⟩) hHeld ?restaN86
          case haN86 => (simp only [List.getElem?_toArray, List.getElem?_cons_succ, List.getElem?_cons_zero]; rfl)
          case hQaN86 => exact fun _ _ _ h => h
          case hwaN86 => rfl
          case hyaN86 => (intro w hSw; (try dsimp only at hSw); go_simp; try with_reducible rfl)
          try simp only [Act.put, List.setIfInBounds_toArray, List.set_cons_zero, List.set_cons_succ]
          refine' wpAnyH_take (i := 7) (oi := _) (v := _) ?haN87 (by kernel_rfl) (by kernel_rfl) (by kernel_rfl) ?hQaN87 (Or.inl ⟨?hwaN87, ?hyaN87⟩) hHeld ?restaN87
          case haN87 => (simp only [List.getElem?_toArray, List.getElem?_cons_succ, List.getElem?_cons_zero]; rfl)
          case hQaN87 => exact fun _ _ _ h => h
          case hwaN87 => rfl
          case hyaN87 => (intro w hSw; (try dsimp only at hSw); go_simp; try with_reducible rfl)
          try simp only [Act.put, List.setIfInBounds_toArray, List.set_cons_zero, List.set_cons_succ]
          refine wpAnyH_ready (rs := [9]) (by kernel_rfl) (by simp) ?_
          refine' (AllReadyH.cons (o := _) ?hoN99 (fun K hK' => ?stN99) AllReadyH.nil)
          case hoN99 => (simp only [List.getElem?_toArray, List.getElem?_cons_succ, List.getElem?_cons_zero]; rfl)
          case stN99 =>
            obtain ⟨s0, s1, s2⟩ := blkq hB8
            have hf8 := hB8.frozen
            go_simp
            refine hK'.out _ _ (hHb.far (keep3 p8 _ _ _) (by simp; omega)) (fun hHeld' => ?_)
            clear hK' K hHeld
            have hHeld := hHeld'
            clear hHeld'
            try simp only [Act.put]
            try simp only [Act.put, List.setIfInBounds_toArray, List.set_cons_zero, List.set_cons_succ]
            refine' wpAnyH_take (i := 10) (oi := _) (v := _) ?hbN910 (by kernel_rfl) (by kernel_rfl) (by kernel_rfl) ?hQbN910 (Or.inl ⟨?hwbN910, ?hybN910⟩) hHeld ?restbN910
            case hbN910 => (simp only [List.getElem?_toArray, List.getElem?_cons_succ, List.getElem?_cons_zero]; rfl)
            case hQbN910 => exact fun _ _ _ h => h
            case hwbN910 => rfl
            case hybN910 => (intro w hSw; (try dsimp only at hSw); go_simp; try with_reducible rfl)
            try simp only [Act.put, List.setIfInBounds_toArray, List.set_cons_zero, List.set_cons_succ]
            refine wpAnyH_done (by kernel_rfl) ?_ _
            go_wp2_with fail
            go_meet
            case rel =>
              exact ⟨_, _, _, _, _, rfl, rfl, (by omega), (hB8.set_ 0 _).set_ 1 _ |>.set_ 2 _, hkV.next (keep3 p8 _ _ _) (by simp; omega), hHeld, hqV.keeps (keep3 p8 _ _ _) (by simp; omega), (hx2.keeps (keep3 p8 _ _ _) (by simp)).more (by intro z hz; simp at hz ⊢; omega), Nat.le_trans hz6 (keep3 p8 _ _ _).size⟩
  case rest =>
    obtain ⟨p8, a2, c2, b2, e2, rfl, rfl, hp8, hB8, hkw, hb, hqw, hxw, hzw⟩ := hcut
    obtain ⟨s0, s1, s2⟩ := blkq hB8
    obtain ⟨z0, z1, z2⟩ := hb.z
    have hfz := hb.fz
    have r5 := hb.r5
    have hl8 := hB8.lt
    have H := Lib.hid (And.intro hkw (And.intro hb (And.intro hqw hxw)))
    have H8 := Lib.hid hB8
    have hss : w.heap.size + 1 + 1 < wc.heap.size := by omega
    clear hkw hb hqw hxw hB8
    go_wp2
    obtain ⟨hkw, hb, hqw, hxw⟩ := H.out
    have k0 : Keeps [] wc wc.drew := (Keeps.refl _ _).drew
    have hku := hkw.trans k0
    have hbu := hb.kk k0
    have hqu := hqw.kp k0
    have hxu := hxw.kp k0
    have hB8 := H8.out.keeps k0 (by simp)
    have hzu := Nat.le_trans hzw k0.size
    clear hkw hb hqw hxw H k0 s0 s1 s2 z0 z1 z2 hfz r5 hl8 hss H8
    refine wp_region_held_drew (S := (fun V => (V.cell? ⟨p8, 0, none⟩ = some (.slice a2 (l.length + 1) c2) ∧ V.cell? ⟨p8, 1, none⟩ = some (.slice b2 dl.length e2) ∧ V.cell? ⟨p8, 2, none⟩ = some (.int .i64 lim)) ∧ V.rangeAt (w.heap.size + 1) 1 (cs x))) (by kernel_rfl) ⟨blkq hB8, hbu.r5⟩ (fun hHeld => ?_)
    generalize wc.drew = U1 at *
    refine' wpAnyH_take (i := 0) (oi := _) (v := _) ?hR0 (by kernel_rfl) (by kernel_rfl) (by kernel_rfl) ?hQR0 (Or.inl ⟨?hwR0, ?hyR0⟩) hHeld ?restR0
    case hR0 => (simp only [List.getElem?_toArray, List.getElem?_cons_zero]; rfl)
    case hQR0 => exact fun _ _ _ h => h
    case hwR0 => rfl
    case hyR0 => (intro w hSw; (try dsimp only at hSw); go_simp; try with_reducible rfl)
    try simp only [Act.put, List.setIfInBounds_toArray, List.set_cons_zero, List.set_cons_succ]
    refine' wpAnyH_take (i := 1) (oi := _) (v := _) ?hR1 (by kernel_rfl) (by kernel_rfl) (by kernel_rfl) ?hQR1 (Or.inl ⟨?hwR1, ?hyR1⟩) hHeld ?restR1
    case hR1 => (simp only [List.getElem?_toArray, List.getElem?_cons_succ, List.getElem?_cons_zero]; rfl)
    case hQR1 => exact fun _ _ _ h => h
    case hwR1 => rfl
    case hyR1 => (intro w hSw; (try dsimp only at hSw); go_simp; try with_reducible rfl)
    try simp only [Act.put, List.setIfInBounds_toArray, List.set_cons_zero, List.set_cons_succ]
    refine' wpAnyH_take (i := 2) (oi := _) (v := _) ?hR2 (by kernel_rfl) (by kernel_rfl) (by kernel_rfl) ?hQR2 (Or.inl ⟨?hwR2, ?hyR2⟩) hHeld ?restR2
    case hR2 => (simp only [List.getElem?_toArray, List.getElem?_cons_succ, List.getElem?_cons_zero]; rfl)
    case hQR2 => exact fun _ _ _ h => h
    case hwR2 => rfl
    case hyR2 => (intro w hSw; (try dsimp only at hSw); go_simp; try with_reducible rfl)
    try simp only [Act.put, List.setIfInBounds_toArray, List.set_cons_zero, List.set_cons_succ]
    refine' wpAnyH_take (i := 5) (oi := _) (v := _) ?hR5 (by kernel_rfl) (by kernel_rfl) (by kernel_rfl) ?hQR5 (Or.inl ⟨?hwR5, ?hyR5⟩) hHeld ?restR5
    case hR5 => (simp only [List.getElem?_toArray, List.getElem?_cons_succ, List.getElem?_cons_zero]; rfl)
    case hQR5 => exact fun _ _ _ h => h
    case hwR5 => rfl
    case hyR5 => (intro w hSw; (try dsimp only at hSw); go_simp; try with_reducible rfl)
    try simp only [Act.put, List.setIfInBounds_toArray, List.set_cons_zero, List.set_cons_succ]
    refine' wpAnyH_take (i := 3) (oi := _) (v := .agg (cs x).toArray) ?hR3 (by kernel_rfl) (by kernel_rfl) (by kernel_rfl) ?hQR3 ?hyR3 hHeld ?restR3
    case hR3 => (simp only [List.getElem?_toArray, List.getElem?_cons_succ, List.getElem?_cons_zero]; rfl)
    case hQR3 => exact fun _ _ _ h => h
    case hyR3 => exact yieldsIf_load_mid rfl _ _ rfl _ _ rfl (cs x) _ (fun _ h => h.2) Try.underlying30 rfl (FiT.info_cs x)
    try simp only [Act.put, List.setIfInBounds_toArray, List.set_cons_zero, List.set_cons_succ]
    refine wpAnyH_ready (rs := [4]) (by kernel_rfl) (by simp) ?_
    refine' (AllReadyH.cons (o := _) ?hoQ14 (fun K hK' => ?stQ14) AllReadyH.nil)
    case hoQ14 => (simp only [List.getElem?_toArray, List.getElem?_cons_succ, List.getElem?_cons_zero]; rfl)
    case stQ14 =>
      go_simp
      refine (put_ok x _ hqu hf).mono ?_
      rintro e V1 ⟨rfl, hto⟩
      try go_wp2_with fail
      have hkt : Keeps [q, g, r, y] U1 V1 := (by obtain ⟨_, _, _, _, _, h9, _⟩ := hto; exact h9)
      have hb1 := hbu.keeps hkt
      have hB1 := hB8.keeps hkt (by simp; omega)
      refine hK'.out _ _ (⟨blkq hB1, hb1.r5⟩) (fun hHeld' => ?_)
      clear hK' K hHeld
      have hHeld := hHeld'
      clear hHeld'
      try simp only [Act.put]
      try simp only [Act.put, List.setIfInBounds_toArray, List.set_cons_zero, List.set_cons_succ]
      refine' wpAnyH_take (i := 6) (oi := _) (v := _) ?hSQ16 (by kernel_rfl) (by kernel_rfl) (by kernel_rfl) ?hQSQ16 (Or.inl ⟨?hwSQ16, ?hySQ16⟩) hHeld ?restSQ16
      case hSQ16 => (simp only [List.getElem?_toArray, List.getElem?_cons_succ, List.getElem?_cons_zero]; rfl)
      case hQSQ16 => exact fun _ _ _ h => h
      case hwSQ16 => rfl
      case hySQ16 => (intro w hSw; (try dsimp only at hSw); go_simp; try with_reducible rfl)
      try simp only [Act.put, List.setIfInBounds_toArray, List.set_cons_zero, List.set_cons_succ]
      refine wpAnyH_ready (rs := [7]) (by kernel_rfl) (by simp) ?_
      refine' (AllReadyH.cons (o := _) ?hoQ27 (fun K hK' => ?stQ27) AllReadyH.nil)
      case hoQ27 => (simp only [List.getElem?_toArray, List.getElem?_cons_succ, List.getElem?_cons_zero]; rfl)
      case stQ27 =>
        obtain ⟨z0, z1, z2⟩ := hb1.z
        have hfz := hb1.fz
        go_simp
        refine hK'.out _ _ (⟨blkq (hB1.keeps (keep3 (w.heap.size + 1 + 1) _ _ _) (by simp; omega)), (hb1.r5.keepz (keep3 _ _ _ _) hb1.b5.lt (by simp))⟩) (fun hHeld' => ?_)
        clear hK' K hHeld
        have hHeld := hHeld'
        clear hHeld'
        try simp only [Act.put]
        try simp only [Act.put, List.setIfInBounds_toArray, List.set_cons_zero, List.set_cons_succ]
        refine' wpAnyH_take (i := 8) (oi := _) (v := _) ?hUQ28 (by kernel_rfl) (by kernel_rfl) (by kernel_rfl) ?hQUQ28 (Or.inl ⟨?hwUQ28, ?hyUQ28⟩) hHeld ?restUQ28
        case hUQ28 => (simp only [List.getElem?_toArray, List.getElem?_cons_succ, List.getElem?_cons_zero]; rfl)
        case hQUQ28 => exact fun _ _ _ h => h
        case hwUQ28 => rfl
        case hyUQ28 => (intro w hSw; (try dsimp only at hSw); go_simp; try with_reducible rfl)
        try simp only [Act.put, List.setIfInBounds_toArray, List.set_cons_zero, List.set_cons_succ]
        refine wpAnyH_done (by kernel_rfl) ?_ _
        go_wp2
        obtain ⟨y0, y1, y2⟩ := hHeld.1
        refine bodyPost_ret (v := .tuple #[.agg #[.slice a2 (l.length + 1) c2, .slice b2 dl.length e2, .int .i64 lim], .bool true]) (by simp [results, Try.results15, go_sem, z0, z1, z2]) rfl ?_
        have hn6 : ∀ z ∈ [q, g, r, y], z ∈ [w.heap.size + 1 + 1, q, g, r, y] ∨ U1.heap.size ≤ z := by intro z hz; simp at hz ⊢; omega
        exact step_end hl hku (hxu.more hn6) hto (keep3 _ _ _ _) (by omega) (by omega) (hxu.more (by intro z hz; simp at hz ⊢; omega))

set_option maxRecDepth 100000 in
set_option maxHeartbeats 2000000 in
theorem step_full {q g r y c : Nat} {a : Option Addr} {l : List It} {dl : List Cl} {lim : Int} (x : It) (st n : Int) (v : Value) (w : World) (hq : Qe w q g r y a c l dl lim) (hx : Rf w [q, g, r, y] v l dl lim) (hf : lim ≤ (l.length : Int) + (dl.length : Int)) :
    Calls Try.prog 15 #[.pointer (some ⟨q, 0, none⟩), v, .agg (dcl 0 x st n).toArray] w (IsStep q g r y lim w) := by
  have hl := hq.lt
  have hhl := hq.hl
  have hhm := hq.hm
  have HX := Lib.hid hx
  obtain ⟨a1, c1, b1, e1, rfl, _, _, _⟩ := hx
  have hb0 : Hb w _ q g r y (.slice a1 l.length c1) (.slice b1 dl.length e1) (.int .i64 lim) 0 x st n := head_of hl
  have hkV : Keeps [] w (((w.alloc (.cells #[.slice a1 l.length c1, .slice b1 dl.length e1, .int .i64 lim] 47)).alloc (.cells (dcl 0 x st n).toArray 32)).alloc (.cells #[.slice none 0 0, .slice none 0 0, .int .i64 0] 47)) := (((Keeps.refl _ w).alloc _).alloc _).alloc _
  have hxV := (HX.out.more (G := [w.heap.size + 1 + 1, q, g, r, y]) (by intro z hz; simp only [List.mem_cons] at hz ⊢; rcases hz with rfl | hz; exact .inr (by omega); exact .inl (by simpa using hz))).kp hkV
  have hqV := hq.kp hkV
  clear hq HX
  go_enter Try.func15, Try.ntmps15
  go_upto_region 1 with fail
  generalize ((w.alloc (.cells #[.slice a1 l.length c1, .slice b1 dl.length e1, .int .i64 lim] 47)).alloc (.cells (dcl 0 x st n).toArray 32)).alloc (.cells #[.slice none 0 0, .slice none 0 0, .int .i64 0] 47) = V at *
  have hz6 : w.heap.size + 3 ≤ V.heap.size := by have := hb0.b6.lt; omega
  have d0 := hb0.d0
  go_upto_region 3 with fail
  clear d0
  go_cut [8, 9] from 10 to 164 (fun s t wx => ∃ (p8 : Nat) (a2 : Option Addr) (c2 : Nat) (b2 : Option Addr) (e2 : Nat), s = .pointer (some ⟨p8, 0, none⟩) ∧ t = .bool false ∧ w.heap.size + 3 ≤ p8 ∧ Blk wx p8 47 #[.slice a2 l.length c2, .slice b2 dl.length e2, .int .i64 lim] ∧ Keeps [] w wx ∧ Hb w wx q g r y (.slice a1 l.length c1) (.slice b1 dl.length e1) (.int .i64 lim) 0 x st n ∧ Qe wx q g r y a c l dl lim ∧ Rf wx [w.heap.size + 1 + 1, q, g, r, y] (.agg #[.slice a2 l.length c2, .slice b2 dl.length e2, .int .i64 lim]) l dl lim ∧ w.heap.size + 3 ≤ wx.heap.size)
  case first =>
    refine wp_region_held_drew (S := (fun V => Hb w V q g r y (.slice a1 l.length c1) (.slice b1 dl.length e1) (.int .i64 lim) 0 x st n)) (by kernel_rfl) (hb0.kk ((Keeps.refl _ _).drew)) (fun hHeld => ?_)
    have hHb := hHeld
    have k0 : Keeps [] V V.drew := (Keeps.refl _ _).drew
    have hqV := hqV.kp k0
    have hxV := hxV.kp k0
    have hkV := hkV.trans k0
    have hz6 := Nat.le_trans hz6 k0.size
    clear k0
    generalize V.drew = U at *
    refine' wpAnyH_take (i := 0) (oi := _) (v := _) ?hT0 (by kernel_rfl) (by kernel_rfl) (by kernel_rfl) ?hQT0 ?hyT0 hHeld ?restT0
    case hT0 => (simp only [List.getElem?_toArray, List.getElem?_cons_zero]; rfl)
    case hQT0 => exact fun _ _ _ h => h
    case hyT0 => (refine Or.inl ⟨rfl, fun V hS => ?_⟩; obtain ⟨q0, q1, q2⟩ := hS.cq; go_simp; try with_reducible rfl)
    try simp only [Act.put, List.setIfInBounds_toArray, List.set_cons_zero, List.set_cons_succ]
    refine' wpAnyH_take (i := 1) (oi := _) (v := _) ?hT1 (by kernel_rfl) (by kernel_rfl) (by kernel_rfl) ?hQT1 (Or.inl ⟨?hwT1, ?hyT1⟩) hHeld ?restT1
    case hT1 => (simp only [List.getElem?_toArray, List.getElem?_cons_succ, List.getElem?_cons_zero]; rfl)
    case hQT1 => exact fun _ _ _ h => h
    case hwT1 => rfl
    case hyT1 => (intro w hSw; (try dsimp only at hSw); go_simp; try with_reducible rfl)
    try simp only [Act.put, List.setIfInBounds_toArray, List.set_cons_zero, List.set_cons_succ]
    refine' wpAnyH_take (i := 2) (oi := _) (v := .agg (cs x).toArray) ?hT2 (by kernel_rfl) (by kernel_rfl) (by kernel_rfl) ?hQT2 ?hyT2 hHeld ?restT2
    case hT2 => (simp only [List.getElem?_toArray, List.getElem?_cons_succ, List.getElem?_cons_zero]; rfl)
    case hQT2 => exact fun _ _ _ h => h
    case hyT2 => exact yieldsIf_load_mid rfl _ _ rfl _ _ rfl (cs x) _ (fun _ h => h.r5) Try.underlying30 rfl (FiT.info_cs x)
    try simp only [Act.put, List.setIfInBounds_toArray, List.set_cons_zero, List.set_cons_succ]
    refine wpAnyH_ready (rs := [3, 8]) (by kernel_rfl) (by simp) ?_
    refine' (AllReadyH.cons (o := _) ?hoN13 (fun K hK' => ?stN13) (AllReadyH.cons (o := _) ?hoN18 (fun K hK' => ?stN18) AllReadyH.nil))
    case hoN13 => (simp only [List.getElem?_toArray, List.getElem?_cons_succ, List.getElem?_cons_zero]; rfl)
    case hoN18 => (simp only [List.getElem?_toArray, List.getElem?_cons_succ, List.getElem?_cons_zero]; rfl)
    case stN13 =>
      go_simp
      refine (item_any x _).mono ?_
      rintro e V1 ⟨rfl, k1⟩
      try go_wp2_with fail
      have hqV := hqV.kp k1
      have hxV := hxV.kp k1
      have hkV := hkV.trans k1
      have hHb := hHb.kk k1
      have hz6 := Nat.le_trans hz6 k1.size
      refine hK'.out _ _ (hHb) (fun hHeld' => ?_)
      clear hK' K hHeld
      have hHeld := hHeld'
      clear hHeld'
      try simp only [Act.put]
      try simp only [Act.put, List.setIfInBounds_toArray, List.set_cons_zero, List.set_cons_succ]
      refine wpAnyH_ready (rs := [4, 8]) (by kernel_rfl) (by simp) ?_
      refine' (AllReadyH.cons (o := _) ?hoN24 (fun K hK' => ?stN24) (AllReadyH.cons (o := _) ?hoN28 (fun K hK' => ?stN28) AllReadyH.nil))
      case hoN24 => (simp only [List.getElem?_toArray, List.getElem?_cons_succ, List.getElem?_cons_zero]; rfl)
      case hoN28 => (simp only [List.getElem?_toArray, List.getElem?_cons_succ, List.getElem?_cons_zero]; rfl)
      case stN24 =>
        go_simp
        refine (rput_full x _ _ hxV hf (by omega)).mono ?_
        rintro e V1 ⟨v2, rfl, hx2, k1⟩
        obtain ⟨a2, c2, b2, e2, rfl, h2a, h2b, h2c⟩ := hx2
        have hx2 : Rf V1 [w.heap.size + 1 + 1, q, g, r, y] (.agg #[.slice a2 l.length c2, .slice b2 dl.length e2, .int .i64 lim]) l dl lim := ⟨a2, c2, b2, e2, by simp, h2a, h2b, h2c⟩
        clear h2a h2b h2c
        dsimp only
        try go_wp2_with fail
        have hqV := hqV.kp k1
        have hxV := hxV.kp k1
        have hkV := hkV.trans k1
        have hHb := hHb.kk k1
        have hz6 := Nat.le_trans hz6 k1.size
        refine hK'.out _ _ (hHb) (fun hHeld' => ?_)
        clear hK' K hHeld
        have hHeld := hHeld'
        clear hHeld'
        try simp only [Act.put]
        try simp only [Act.put, List.setIfInBounds_toArray, List.set_cons_zero, List.set_cons_succ]
        refine' wpAnyH_take (i := 5) (oi := _) (v := _) ?haN25 (by kernel_rfl) (by kernel_rfl) (by kernel_rfl) ?hQaN25 (Or.inl ⟨?hwaN25, ?hyaN25⟩) hHeld ?restaN25
        case haN25 => (simp only [List.getElem?_toArray, List.getElem?_cons_succ, List.getElem?_cons_zero]; rfl)
        case hQaN25 => exact fun _ _ _ h => h
        case hwaN25 => rfl
        case hyaN25 => (intro w hSw; (try dsimp only at hSw); go_simp; try with_reducible rfl)
        try simp only [Act.put, List.setIfInBounds_toArray, List.set_cons_zero, List.set_cons_succ]
        refine' wpAnyH_take (i := 6) (oi := _) (v := _) ?haN26 (by kernel_rfl) (by kernel_rfl) (by kernel_rfl) ?hQaN26 (Or.inl ⟨?hwaN26, ?hyaN26⟩) hHeld ?restaN26
        case haN26 => (simp only [List.getElem?_toArray, List.getElem?_cons_succ, List.getElem?_cons_zero]; rfl)
        case hQaN26 => exact fun _ _ _ h => h
        case hwaN26 => rfl
        case hyaN26 => (intro w hSw; (try dsimp only at hSw); go_simp; try with_reducible rfl)
        try simp only [Act.put, List.setIfInBounds_toArray, List.set_cons_zero, List.set_cons_succ]
        refine' wpAnyH_take (i := 7) (oi := _) (v := _) ?haN27 (by kernel_rfl) (by kernel_rfl) (by kernel_rfl) ?hQaN27 (Or.inl ⟨?hwaN27, ?hyaN27⟩) hHeld ?restaN27
        case haN27 => (simp only [List.getElem?_toArray, List.getElem?_cons_succ, List.getElem?_cons_zero]; rfl)
        case hQaN27 => exact fun _ _ _ h => h
        case hwaN27 => rfl
        case hyaN27 => (intro w hSw; (try dsimp only at hSw); go_simp; try with_reducible rfl)
        try simp only [Act.put, List.setIfInBounds_toArray, List.set_cons_zero, List.set_cons_succ]
        refine wpAnyH_ready (rs := [8]) (by kernel_rfl) (by simp) ?_
        refine' (AllReadyH.cons (o := _) ?hoN38 (fun K hK' => ?stN38) AllReadyH.nil)
        case hoN38 => (simp only [List.getElem?_toArray, List.getElem?_cons_succ, List.getElem?_cons_zero]; rfl)
        case stN38 =>
          rw [if_pos (by rfl)]
          refine wp_alloc9 rfl ?_
          intro V1 p8 hp8 hB8 k1
          have hp9 : w.heap.size + 3 ≤ p8 := by omega
          have hx2 := hx2.more (G := [p8, w.heap.size + 1 + 1, q, g, r, y]) (by intro z hz; simp at hz ⊢; omega)
          clear hp8
          have hqV := hqV.kp k1
          have hxV := hxV.kp k1
          have hkV := hkV.trans k1
          have hHb := hHb.kk k1
          have hz6 := Nat.le_trans hz6 k1.size
          have hx2 := hx2.kp k1
          refine hK'.out _ _ (hHb) (fun hHeld' => ?_)
          clear hK' K hHeld
          have hHeld := hHeld'
          clear hHeld'
          try simp only [Act.put]
          try simp only [Act.put, List.setIfInBounds_toArray, List.set_cons_zero, List.set_cons_succ]
          refine wpAnyH_ready (rs := [9]) (by kernel_rfl) (by simp) ?_
          refine' (AllReadyH.cons (o := _) ?hoN49 (fun K hK' => ?stN49) AllReadyH.nil)
          case hoN49 => (simp only [List.getElem?_toArray, List.getElem?_cons_succ, List.getElem?_cons_zero]; rfl)
          case stN49 =>
            obtain ⟨s0, s1, s2⟩ := blkq hB8
            have hf8 := hB8.frozen
            go_simp
            refine hK'.out _ _ (hHb.far (keep3 p8 _ _ _) (by simp; omega)) (fun hHeld' => ?_)
            clear hK' K hHeld
            have hHeld := hHeld'
            clear hHeld'
            try simp only [Act.put]
            try simp only [Act.put, List.setIfInBounds_toArray, List.set_cons_zero, List.set_cons_succ]
            refine' wpAnyH_take (i := 10) (oi := _) (v := _) ?hbN410 (by kernel_rfl) (by kernel_rfl) (by kernel_rfl) ?hQbN410 (Or.inl ⟨?hwbN410, ?hybN410⟩) hHeld ?restbN410
            case hbN410 => (simp only [List.getElem?_toArray, List.getElem?_cons_succ, List.getElem?_cons_zero]; rfl)
            case hQbN410 => exact fun _ _ _ h => h
            case hwbN410 => rfl
            case hybN410 => (intro w hSw; (try dsimp only at hSw); go_simp; try with_reducible rfl)
            try simp only [Act.put, List.setIfInBounds_toArray, List.set_cons_zero, List.set_cons_succ]
            refine wpAnyH_done (by kernel_rfl) ?_ _
            go_wp2_with fail
            go_meet
            case rel =>
              exact ⟨_, _, _, _, _, rfl, rfl, (by omega), (hB8.set_ 0 _).set_ 1 _ |>.set_ 2 _, hkV.next (keep3 p8 _ _ _) (by simp; omega), hHeld, hqV.keeps (keep3 p8 _ _ _) (by simp; omega), (hx2.keeps (keep3 p8 _ _ _) (by simp)).more (by intro z hz; simp at hz ⊢; omega), Nat.le_trans hz6 (keep3 p8 _ _ _).size⟩
      case stN28 =>
        rw [if_pos (by rfl)]
        refine wp_alloc9 rfl ?_
        intro V1 p8 hp8 hB8 k1
        have hp9 : w.heap.size + 3 ≤ p8 := by omega
        have hxV := hxV.more (G := [p8, w.heap.size + 1 + 1, q, g, r, y]) (by intro z hz; simp at hz ⊢; omega)
        clear hp8
        have hqV := hqV.kp k1
        have hxV := hxV.kp k1
        have hkV := hkV.trans k1
        have hHb := hHb.kk k1
        have hz6 := Nat.le_trans hz6 k1.size
        refine hK'.out _ _ (hHb) (fun hHeld' => ?_)
        clear hK' K hHeld
        have hHeld := hHeld'
        clear hHeld'
        try simp only [Act.put]
        try simp only [Act.put, List.setIfInBounds_toArray, List.set_cons_zero, List.set_cons_succ]
        refine wpAnyH_ready (rs := [4]) (by kernel_rfl) (by simp) ?_
        refine' (AllReadyH.cons (o := _) ?hoN54 (fun K hK' => ?stN54) AllReadyH.nil)
        case hoN54 => (simp only [List.getElem?_toArray, List.getElem?_cons_succ, List.getElem?_cons_zero]; rfl)
        case stN54 =>
          go_simp
          refine (rput_full x _ _ hxV hf (by omega)).mono ?_
          rintro e V1 ⟨v2, rfl, hx2, k1⟩
          obtain ⟨a2, c2, b2, e2, rfl, h2a, h2b, h2c⟩ := hx2
          have hx2 : Rf V1 [p8, w.heap.size + 1 + 1, q, g, r, y] (.agg #[.slice a2 l.length c2, .slice b2 dl.length e2, .int .i64 lim]) l dl lim := ⟨a2, c2, b2, e2, by simp, h2a, h2b, h2c⟩
          clear h2a h2b h2c
          dsimp only
          try go_wp2_with fail
          have hqV := hqV.kp k1
          have hxV := hxV.kp k1
          have hkV := hkV.trans k1
          have hHb := hHb.kk k1
          have hz6 := Nat.le_trans hz6 k1.size
          have hB8 := hB8.keeps k1 (by simp)
          refine hK'.out _ _ (hHb) (fun hHeld' => ?_)
          clear hK' K hHeld
          have hHeld := hHeld'
          clear hHeld'
          try simp only [Act.put]
          try simp only [Act.put, List.setIfInBounds_toArray, List.set_cons_zero, List.set_cons_succ]
          refine' wpAnyH_take (i := 5) (oi := _) (v := _) ?haN55 (by kernel_rfl) (by kernel_rfl) (by kernel_rfl) ?hQaN55 (Or.inl ⟨?hwaN55, ?hyaN55⟩) hHeld ?restaN55
          case haN55 => (simp only [List.getElem?_toArray, List.getElem?_cons_succ, List.getElem?_cons_zero]; rfl)
          case hQaN55 => exact fun _ _ _ h => h
          case hwaN55 => rfl
          case hyaN55 => (intro w hSw; (try dsimp only at hSw); go_simp; try with_reducible rfl)
          try simp only [Act.put, List.setIfInBounds_toArray, List.set_cons_zero, List.set_cons_succ]
          refine' wpAnyH_take (i := 6) (oi := _) (v := _) ?haN56 (by kernel_rfl) (by kernel_rfl) (by kernel_rfl) ?hQaN56 (Or.inl ⟨?hwaN56, ?hyaN56⟩) hHeld ?restaN56
          case haN56 => (simp only [List.getElem?_toArray, List.getElem?_cons_succ, List.getElem?_cons_zero]; rfl)
          case hQaN56 => exact fun _ _ _ h => h
          case hwaN56 => rfl
          case hyaN56 => (intro w hSw; (try dsimp only at hSw); go_simp; try with_reducible rfl)
          try simp only [Act.put, List.setIfInBounds_toArray, List.set_cons_zero, List.set_cons_succ]
          refine' wpAnyH_take (i := 7) (oi := _) (v := _) ?haN57 (by kernel_rfl) (by kernel_rfl) (by kernel_rfl) ?hQaN57 (Or.inl ⟨?hwaN57, ?hyaN57⟩) hHeld ?restaN57
          case haN57 => (simp only [List.getElem?_toArray, List.getElem?_cons_succ, List.getElem?_cons_zero]; rfl)
          case hQaN57 => exact fun _ _ _ h => h
          case hwaN57 => rfl
          case hyaN57 => (intro w hSw; (try dsimp only at hSw); go_simp; try with_reducible rfl)
          try simp only [Act.put, List.setIfInBounds_toArray, List.set_cons_zero, List.set_cons_succ]
          refine wpAnyH_ready (rs := [9]) (by kernel_rfl) (by simp) ?_
          refine' (AllReadyH.cons (o := _) ?hoN69 (fun K hK' => ?stN69) AllReadyH.nil)
          case hoN69 => (simp only [List.getElem?_toArray, List.getElem?_cons_succ, List.getElem?_cons_zero]; rfl)
          case stN69 =>
            obtain ⟨s0, s1, s2⟩ := blkq hB8
            have hf8 := hB8.frozen
            go_simp
            refine hK'.out _ _ (hHb.far (keep3 p8 _ _ _) (by simp; omega)) (fun hHeld' => ?_)
            clear hK' K hHeld
            have hHeld := hHeld'
            clear hHeld'
            try simp only [Act.put]
            try simp only [Act.put, List.setIfInBounds_toArray, List.set_cons_zero, List.set_cons_succ]
            refine' wpAnyH_take (i := 10) (oi := _) (v := _) ?hbN610 (by kernel_rfl) (by kernel_rfl) (by kernel_rfl) ?hQbN610 (Or.inl ⟨?hwbN610, ?hybN610⟩) hHeld ?restbN610
            case hbN610 => (simp only [List.getElem?_toArray, List.getElem?_cons_succ, List.getElem?_cons_zero]; rfl)
            case hQbN610 => exact fun _ _ _ h => h
            case hwbN610 => rfl
            case hybN610 => (intro w hSw; (try dsimp only at hSw); go_simp; try with_reducible rfl)
            try simp only [Act.put, List.setIfInBounds_toArray, List.set_cons_zero, List.set_cons_succ]
            refine wpAnyH_done (by kernel_rfl) ?_ _
            go_wp2_with fail
            go_meet
            case rel =>
              exact ⟨_, _, _, _, _, rfl, rfl, (by omega), (hB8.set_ 0 _).set_ 1 _ |>.set_ 2 _, hkV.next (keep3 p8 _ _ _) (by simp; omega), hHeld, hqV.keeps (keep3 p8 _ _ _) (by simp; omega), (hx2.keeps (keep3 p8 _ _ _) (by simp)).more (by intro z hz; simp at hz ⊢; omega), Nat.le_trans hz6 (keep3 p8 _ _ _).size⟩
    case stN18 =>
      rw [if_pos (by rfl)]
      refine wp_alloc9 rfl ?_
      intro V1 p8 hp8 hB8 k1
      have hp9 : w.heap.size + 3 ≤ p8 := by omega
      have hxV := hxV.more (G := [p8, w.heap.size + 1 + 1, q, g, r, y]) (by intro z hz; simp at hz ⊢; omega)
      clear hp8
      have hqV := hqV.kp k1
      have hxV := hxV.kp k1
      have hkV := hkV.trans k1
      have hHb := hHb.kk k1
      have hz6 := Nat.le_trans hz6 k1.size
      refine hK'.out _ _ (hHb) (fun hHeld' => ?_)
      clear hK' K hHeld
      have hHeld := hHeld'
      clear hHeld'
      try simp only [Act.put]
      try simp only [Act.put, List.setIfInBounds_toArray, List.set_cons_zero, List.set_cons_succ]
      refine wpAnyH_ready (rs := [3]) (by kernel_rfl) (by simp) ?_
      refine' (AllReadyH.cons (o := _) ?hoN73 (fun K hK' => ?stN73) AllReadyH.nil)
      case hoN73 => (simp only [List.getElem?_toArray, List.getElem?_cons_succ, List.getElem?_cons_zero]; rfl)
      case stN73 =>
        go_simp
        refine (item_any x _).mono ?_
        rintro e V1 ⟨rfl, k1⟩
        try go_wp2_with fail
        have hqV := hqV.kp k1
        have hxV := hxV.kp k1
        have hkV := hkV.trans k1
        have hHb := hHb.kk k1
        have hz6 := Nat.le_trans hz6 k1.size
        have hB8 := hB8.keeps k1 (by simp)
        refine hK'.out _ _ (hHb) (fun hHeld' => ?_)
        clear hK' K hHeld
        have hHeld := hHeld'
        clear hHeld'
        try simp only [Act.put]
        try simp only [Act.put, List.setIfInBounds_toArray, List.set_cons_zero, List.set_cons_succ]
        refine wpAnyH_ready (rs := [4]) (by kernel_rfl) (by simp) ?_
        refine' (AllReadyH.cons (o := _) ?hoN84 (fun K hK' => ?stN84) AllReadyH.nil)
        case hoN84 => (simp only [List.getElem?_toArray, List.getElem?_cons_succ, List.getElem?_cons_zero]; rfl)
        case stN84 =>
          go_simp
          refine (rput_full x _ _ hxV hf (by omega)).mono ?_
          rintro e V1 ⟨v2, rfl, hx2, k1⟩
          obtain ⟨a2, c2, b2, e2, rfl, h2a, h2b, h2c⟩ := hx2
          have hx2 : Rf V1 [p8, w.heap.size + 1 + 1, q, g, r, y] (.agg #[.slice a2 l.length c2, .slice b2 dl.length e2, .int .i64 lim]) l dl lim := ⟨a2, c2, b2, e2, by simp, h2a, h2b, h2c⟩
          clear h2a h2b h2c
          dsimp only
          try go_wp2_with fail
          have hqV := hqV.kp k1
          have hxV := hxV.kp k1
          have hkV := hkV.trans k1
          have hHb := hHb.kk k1
          have hz6 := Nat.le_trans hz6 k1.size
          have hB8 := hB8.keeps k1 (by simp)
          refine hK'.out _ _ (hHb) (fun hHeld' => ?_)
          clear hK' K hHeld
          have hHeld := hHeld'
          clear hHeld'
          try simp only [Act.put]
          try simp only [Act.put, List.setIfInBounds_toArray, List.set_cons_zero, List.set_cons_succ]
          refine' wpAnyH_take (i := 5) (oi := _) (v := _) ?haN85 (by kernel_rfl) (by kernel_rfl) (by kernel_rfl) ?hQaN85 (Or.inl ⟨?hwaN85, ?hyaN85⟩) hHeld ?restaN85
          case haN85 => (simp only [List.getElem?_toArray, List.getElem?_cons_succ, List.getElem?_cons_zero]; rfl)
          case hQaN85 => exact fun _ _ _ h => h
          case hwaN85 => rfl
          case hyaN85 => (intro w hSw; (try dsimp only at hSw); go_simp; try with_reducible rfl)
          try simp only [Act.put, List.setIfInBounds_toArray, List.set_cons_zero, List.set_cons_succ]
          refine' wpAnyH_take (i := 6) (oi := _) (v := _) ?haN86 (by kernel_rfl) (by kernel_rfl) (by kernel_rfl) ?hQaN86 (Or.inl ⟨?hwaN86, ?hyaN86⟩) hHeld ?restaN86
          case haN86 => (simp only [List.getElem?_toArray, List.getElem?_cons_succ, List.getElem?_cons_zero]; rfl)
          case hQaN86 => exact fun _ _ _ h => h
          case hwaN86 => rfl
          case hyaN86 => (intro w hSw; (try dsimp only at hSw); go_simp; try with_reducible rfl)
          try simp only [Act.put, List.setIfInBounds_toArray, List.set_cons_zero, List.set_cons_succ]
          refine' wpAnyH_take (i := 7) (oi := _) (v := _) ?haN87 (by kernel_rfl) (by kernel_rfl) (by kernel_rfl) ?hQaN87 (Or.inl ⟨?hwaN87, ?hyaN87⟩) hHeld ?restaN87
          case haN87 => (simp only [List.getElem?_toArray, List.getElem?_cons_succ, List.getElem?_cons_zero]; rfl)
          case hQaN87 => exact fun _ _ _ h => h
          case hwaN87 => rfl
          case hyaN87 => (intro w hSw; (try dsimp only at hSw); go_simp; try with_reducible rfl)
          try simp only [Act.put, List.setIfInBounds_toArray, List.set_cons_zero, List.set_cons_succ]
          refine wpAnyH_ready (rs := [9]) (by kernel_rfl) (by simp) ?_
          refine' (AllReadyH.cons (o := _) ?hoN99 (fun K hK' => ?stN99) AllReadyH.nil)
          case hoN99 => (simp only [List.getElem?_toArray, List.getElem?_cons_succ, List.getElem?_cons_zero]; rfl)
          case stN99 =>
            obtain ⟨s0, s1, s2⟩ := blkq hB8
            have hf8 := hB8.frozen
            go_simp
            refine hK'.out _ _ (hHb.far (keep3 p8 _ _ _) (by simp; omega)) (fun hHeld' => ?_)
            clear hK' K hHeld
            have hHeld := hHeld'
            clear hHeld'
            try simp only [Act.put]
            try simp only [Act.put, List.setIfInBounds_toArray, List.set_cons_zero, List.set_cons_succ]
            refine' wpAnyH_take (i := 10) (oi := _) (v := _) ?hbN910 (by kernel_rfl) (by kernel_rfl) (by kernel_rfl) ?hQbN910 (Or.inl ⟨?hwbN910, ?hybN910⟩) hHeld ?restbN910
            case hbN910 => (simp only [List.getElem?_toArray, List.getElem?_cons_succ, List.getElem?_cons_zero]; rfl)
            case hQbN910 => exact fun _ _ _ h => h
            case hwbN910 => rfl
            case hybN910 => (intro w hSw; (try dsimp only at hSw); go_simp; try with_reducible rfl)
            try simp only [Act.put, List.setIfInBounds_toArray, List.set_cons_zero, List.set_cons_succ]
            refine wpAnyH_done (by kernel_rfl) ?_ _
            go_wp2_with fail
            go_meet
            case rel =>
              exact ⟨_, _, _, _, _, rfl, rfl, (by omega), (hB8.set_ 0 _).set_ 1 _ |>.set_ 2 _, hkV.next (keep3 p8 _ _ _) (by simp; omega), hHeld, hqV.keeps (keep3 p8 _ _ _) (by simp; omega), (hx2.keeps (keep3 p8 _ _ _) (by simp)).more (by intro z hz; simp at hz ⊢; omega), Nat.le_trans hz6 (keep3 p8 _ _ _).size⟩
  case rest =>
    obtain ⟨p8, a2, c2, b2, e2, rfl, rfl, hp8, hB8, hkw, hb, hqw, hxw, hzw⟩ := hcut
    obtain ⟨s0, s1, s2⟩ := blkq hB8
    obtain ⟨z0, z1, z2⟩ := hb.z
    have hfz := hb.fz
    have r5 := hb.r5
    have hl8 := hB8.lt
    have H := Lib.hid (And.intro hkw (And.intro hb (And.intro hqw hxw)))
    have H8 := Lib.hid hB8
    have hss : w.heap.size + 1 + 1 < wc.heap.size := by omega
    clear hkw hb hqw hxw hB8
    go_wp2
    obtain ⟨hkw, hb, hqw, hxw⟩ := H.out
    have k0 : Keeps [] wc wc.drew := (Keeps.refl _ _).drew
    have hku := hkw.trans k0
    have hbu := hb.kk k0
    have hqu := hqw.kp k0
    have hxu := hxw.kp k0
    have hB8 := H8.out.keeps k0 (by simp)
    have hzu := Nat.le_trans hzw k0.size
    clear hkw hb hqw hxw H k0 s0 s1 s2 z0 z1 z2 hfz r5 hl8 hss H8
    refine wp_region_held_drew (S := (fun V => (V.cell? ⟨p8, 0, none⟩ = some (.slice a2 l.length c2) ∧ V.cell? ⟨p8, 1, none⟩ = some (.slice b2 dl.length e2) ∧ V.cell? ⟨p8, 2, none⟩ = some (.int .i64 lim)) ∧ V.rangeAt (w.heap.size + 1) 1 (cs x))) (by kernel_rfl) ⟨blkq hB8, hbu.r5⟩ (fun hHeld => ?_)
    generalize wc.drew = U1 at *
    refine' wpAnyH_take (i := 0) (oi := _) (v := _) ?hR0 (by kernel_rfl) (by kernel_rfl) (by kernel_rfl) ?hQR0 (Or.inl ⟨?hwR0, ?hyR0⟩) hHeld ?restR0
    case hR0 => (simp only [List.getElem?_toArray, List.getElem?_cons_zero]; rfl)
    case hQR0 => exact fun _ _ _ h => h
    case hwR0 => rfl
    case hyR0 => (intro w hSw; (try dsimp only at hSw); go_simp; try with_reducible rfl)
    try simp only [Act.put, List.setIfInBounds_toArray, List.set_cons_zero, List.set_cons_succ]
    refine' wpAnyH_take (i := 1) (oi := _) (v := _) ?hR1 (by kernel_rfl) (by kernel_rfl) (by kernel_rfl) ?hQR1 (Or.inl ⟨?hwR1, ?hyR1⟩) hHeld ?restR1
    case hR1 => (simp only [List.getElem?_toArray, List.getElem?_cons_succ, List.getElem?_cons_zero]; rfl)
    case hQR1 => exact fun _ _ _ h => h
    case hwR1 => rfl
    case hyR1 => (intro w hSw; (try dsimp only at hSw); go_simp; try with_reducible rfl)
    try simp only [Act.put, List.setIfInBounds_toArray, List.set_cons_zero, List.set_cons_succ]
    refine' wpAnyH_take (i := 2) (oi := _) (v := _) ?hR2 (by kernel_rfl) (by kernel_rfl) (by kernel_rfl) ?hQR2 (Or.inl ⟨?hwR2, ?hyR2⟩) hHeld ?restR2
    case hR2 => (simp only [List.getElem?_toArray, List.getElem?_cons_succ, List.getElem?_cons_zero]; rfl)
    case hQR2 => exact fun _ _ _ h => h
    case hwR2 => rfl
    case hyR2 => (intro w hSw; (try dsimp only at hSw); go_simp; try with_reducible rfl)
    try simp only [Act.put, List.setIfInBounds_toArray, List.set_cons_zero, List.set_cons_succ]
    refine' wpAnyH_take (i := 5) (oi := _) (v := _) ?hR5 (by kernel_rfl) (by kernel_rfl) (by kernel_rfl) ?hQR5 (Or.inl ⟨?hwR5, ?hyR5⟩) hHeld ?restR5
    case hR5 => (simp only [List.getElem?_toArray, List.getElem?_cons_succ, List.getElem?_cons_zero]; rfl)
    case hQR5 => exact fun _ _ _ h => h
    case hwR5 => rfl
    case hyR5 => (intro w hSw; (try dsimp only at hSw); go_simp; try with_reducible rfl)
    try simp only [Act.put, List.setIfInBounds_toArray, List.set_cons_zero, List.set_cons_succ]
    refine' wpAnyH_take (i := 3) (oi := _) (v := .agg (cs x).toArray) ?hR3 (by kernel_rfl) (by kernel_rfl) (by kernel_rfl) ?hQR3 ?hyR3 hHeld ?restR3
    case hR3 => (simp only [List.getElem?_toArray, List.getElem?_cons_succ, List.getElem?_cons_zero]; rfl)
    case hQR3 => exact fun _ _ _ h => h
    case hyR3 => exact yieldsIf_load_mid rfl _ _ rfl _ _ rfl (cs x) _ (fun _ h => h.2) Try.underlying30 rfl (FiT.info_cs x)
    try simp only [Act.put, List.setIfInBounds_toArray, List.set_cons_zero, List.set_cons_succ]
    refine wpAnyH_ready (rs := [4]) (by kernel_rfl) (by simp) ?_
    refine' (AllReadyH.cons (o := _) ?hoQ14 (fun K hK' => ?stQ14) AllReadyH.nil)
    case hoQ14 => (simp only [List.getElem?_toArray, List.getElem?_cons_succ, List.getElem?_cons_zero]; rfl)
    case stQ14 =>
      go_simp
      refine (put_full x _ hqu hf).mono ?_
      rintro e V1 ⟨rfl, hto⟩
      try go_wp2_with fail
      have hkt : Keeps [q, g, r, y] U1 V1 := (by obtain ⟨_, _, _, _, _, h9, _⟩ := hto; exact h9)
      have hb1 := hbu.keeps hkt
      have hB1 := hB8.keeps hkt (by simp; omega)
      refine hK'.out _ _ (⟨blkq hB1, hb1.r5⟩) (fun hHeld' => ?_)
      clear hK' K hHeld
      have hHeld := hHeld'
      clear hHeld'
      try simp only [Act.put]
      try simp only [Act.put, List.setIfInBounds_toArray, List.set_cons_zero, List.set_cons_succ]
      refine' wpAnyH_take (i := 6) (oi := _) (v := _) ?hSQ16 (by kernel_rfl) (by kernel_rfl) (by kernel_rfl) ?hQSQ16 (Or.inl ⟨?hwSQ16, ?hySQ16⟩) hHeld ?restSQ16
      case hSQ16 => (simp only [List.getElem?_toArray, List.getElem?_cons_succ, List.getElem?_cons_zero]; rfl)
      case hQSQ16 => exact fun _ _ _ h => h
      case hwSQ16 => rfl
      case hySQ16 => (intro w hSw; (try dsimp only at hSw); go_simp; try with_reducible rfl)
      try simp only [Act.put, List.setIfInBounds_toArray, List.set_cons_zero, List.set_cons_succ]
      refine wpAnyH_ready (rs := [7]) (by kernel_rfl) (by simp) ?_
      refine' (AllReadyH.cons (o := _) ?hoQ27 (fun K hK' => ?stQ27) AllReadyH.nil)
      case hoQ27 => (simp only [List.getElem?_toArray, List.getElem?_cons_succ, List.getElem?_cons_zero]; rfl)
      case stQ27 =>
        obtain ⟨z0, z1, z2⟩ := hb1.z
        have hfz := hb1.fz
        go_simp
        refine hK'.out _ _ (⟨blkq (hB1.keeps (keep3 (w.heap.size + 1 + 1) _ _ _) (by simp; omega)), (hb1.r5.keepz (keep3 _ _ _ _) hb1.b5.lt (by simp))⟩) (fun hHeld' => ?_)
        clear hK' K hHeld
        have hHeld := hHeld'
        clear hHeld'
        try simp only [Act.put]
        try simp only [Act.put, List.setIfInBounds_toArray, List.set_cons_zero, List.set_cons_succ]
        refine' wpAnyH_take (i := 8) (oi := _) (v := _) ?hUQ28 (by kernel_rfl) (by kernel_rfl) (by kernel_rfl) ?hQUQ28 (Or.inl ⟨?hwUQ28, ?hyUQ28⟩) hHeld ?restUQ28
        case hUQ28 => (simp only [List.getElem?_toArray, List.getElem?_cons_succ, List.getElem?_cons_zero]; rfl)
        case hQUQ28 => exact fun _ _ _ h => h
        case hwUQ28 => rfl
        case hyUQ28 => (intro w hSw; (try dsimp only at hSw); go_simp; try with_reducible rfl)
        try simp only [Act.put, List.setIfInBounds_toArray, List.set_cons_zero, List.set_cons_succ]
        refine wpAnyH_done (by kernel_rfl) ?_ _
        go_wp2
        obtain ⟨y0, y1, y2⟩ := hHeld.1
        refine bodyPost_ret (v := .tuple #[.agg #[.slice a2 l.length c2, .slice b2 dl.length e2, .int .i64 lim], .bool true]) (by simp [results, Try.results15, go_sem, z0, z1, z2]) rfl ?_
        have hn6 : ∀ z ∈ [q, g, r, y], z ∈ [w.heap.size + 1 + 1, q, g, r, y] ∨ U1.heap.size ≤ z := by intro z hz; simp at hz ⊢; omega
        exact step_end hl hku (hxu.more hn6) hto (keep3 _ _ _ _) (by omega) (by omega) (hxu.more (by intro z hz; simp at hz ⊢; omega))

set_option maxRecDepth 100000 in
set_option maxHeartbeats 2000000 in
theorem step_settle {q g r y c : Nat} {a : Option Addr} {l : List It} {dl : List Cl} {lim : Int} (x : It) (st n : Int) (v : Value) (w : World) (hq : Qe w q g r y a c l dl lim) (hx : Rf w [q, g, r, y] v l dl lim)  :
    Calls Try.prog 15 #[.pointer (some ⟨q, 0, none⟩), v, .agg (dcl 1 x st n).toArray] w (IsStep q g r y lim w) := by
  have hl := hq.lt
  have hhl := hq.hl
  have hhm := hq.hm
  have HX := Lib.hid hx
  obtain ⟨a1, c1, b1, e1, rfl, _, _, _⟩ := hx
  have hb0 : Hb w _ q g r y (.slice a1 l.length c1) (.slice b1 dl.length e1) (.int .i64 lim) 1 x st n := head_of hl
  have hkV : Keeps [] w (((w.alloc (.cells #[.slice a1 l.length c1, .slice b1 dl.length e1, .int .i64 lim] 47)).alloc (.cells (dcl 1 x st n).toArray 32)).alloc (.cells #[.slice none 0 0, .slice none 0 0, .int .i64 0] 47)) := (((Keeps.refl _ w).alloc _).alloc _).alloc _
  have hxV := (HX.out.more (G := [w.heap.size + 1 + 1, q, g, r, y]) (by intro z hz; simp only [List.mem_cons] at hz ⊢; rcases hz with rfl | hz; exact .inr (by omega); exact .inl (by simpa using hz))).kp hkV
  have hqV := hq.kp hkV
  clear hq HX
  go_enter Try.func15, Try.ntmps15
  go_upto_region 1 with fail
  generalize ((w.alloc (.cells #[.slice a1 l.length c1, .slice b1 dl.length e1, .int .i64 lim] 47)).alloc (.cells (dcl 1 x st n).toArray 32)).alloc (.cells #[.slice none 0 0, .slice none 0 0, .int .i64 0] 47) = V at *
  have hz6 : w.heap.size + 3 ≤ V.heap.size := by have := hb0.b6.lt; omega
  have d0 := hb0.d0
  have hst : IntKind.i64.wrap ((setB l).length : Int) = ((setB l).length : Int) := by
    have := set_len l
    rw [IntKind.wrap_i64]
    omega
  have hst2 : (l.length : Int) - ((setL l).length : Int) = ((setB l).length : Int) := by
    have := set_len l
    omega
  obtain ⟨q0, q1, q2⟩ := hb0.cq
  have hFb : ∀ z ∈ [w.heap.size + 1 + 1, q, g, r, y], z < V.heap.size := by intro z hz; simp at hz; omega
  go_wp2_with fail
  refine (rsettle_any lim l _ dl _ _ hxV hFb (by omega)).mono ?_
  rintro e V1 ⟨v2, rfl, hx2, k1⟩
  skip
  have hxk := hx2
  obtain ⟨a2, c2, b2, e2, rfl, _, _, _⟩ := hx2
  try rw [show (x1 :: t1).length = t1.length + 1 from rfl] at hxk ⊢
  dsimp only
  have k2 : Keeps [] V (V1.alloc (.cells #[.slice a2 (setL l).length c2, .slice b2 (setD l dl).length e2, .int .i64 lim] 47)) := k1.alloc _
  have hB8 : Blk (V1.alloc (.cells #[.slice a2 (setL l).length c2, .slice b2 (setD l dl).length e2, .int .i64 lim] 47)) V1.heap.size 47 #[.slice a2 (setL l).length c2, .slice b2 (setD l dl).length e2, .int .i64 lim] := Blk.new _ _ _
  have hx3 := hxk.kp ((Keeps.refl [] V1).alloc (.cells #[.slice a2 (setL l).length c2, .slice b2 (setD l dl).length e2, .int .i64 lim] 47))
  have hx9 := (hxk.more (G := [V1.heap.size, w.heap.size + 1 + 1, q, g, r, y]) (by intro z hz; simp at hz ⊢; omega)).kp ((Keeps.refl [] V1).alloc (.cells #[.slice a2 (setL l).length c2, .slice b2 (setD l dl).length e2, .int .i64 lim] 47))
  have hqV := hqV.kp k2
  have hkV := hkV.trans k2
  have hb1 := hb0.kk k2
  have hz9 := Nat.le_trans hz6 k1.size
  clear hxk hxV k1 k2 hb0 d0 q0 q1 q2
  go_wp2_with fail
  generalize V1.alloc (.cells #[.slice a2 (setL l).length c2, .slice b2 (setD l dl).length e2, .int .i64 lim] 47) = V2 at *
  generalize V1.heap.size = p8 at *
  clear hz6
  have k0 : Keeps [] V2 V2.drew := (Keeps.refl _ _).drew
  have hku := hkV.trans k0
  have hbu := hb1.kk k0
  have hqu := hqV.kp k0
  have hxu := hx3.kp k0
  have hB9 := hB8.keeps k0 (by simp)
  have hzu := Nat.le_trans (Nat.le_of_lt hB8.lt) k0.size
  clear hkV hb1 hqV hx3 hB8 k0
  refine wp_region_held_drew (S := (fun V => (V.cell? ⟨p8, 0, none⟩ = some (.slice a2 (setL l).length c2) ∧ V.cell? ⟨p8, 1, none⟩ = some (.slice b2 (setD l dl).length e2) ∧ V.cell? ⟨p8, 2, none⟩ = some (.int .i64 lim)) ∧ V.cell? ⟨w.heap.size, 0, none⟩ = some (.slice a1 l.length c1))) (by kernel_rfl) ⟨blkq hB9, hbu.cq.1⟩ (fun hHeld => ?_)
  generalize V2.drew = U1 at *
  refine' wpAnyH_take (i := 0) (oi := _) (v := _) ?hR0 (by kernel_rfl) (by kernel_rfl) (by kernel_rfl) ?hQR0 (Or.inl ⟨?hwR0, ?hyR0⟩) hHeld ?restR0
  case hR0 => (simp only [List.getElem?_toArray, List.getElem?_cons_zero]; rfl)
  case hQR0 => exact fun _ _ _ h => h
  case hwR0 => rfl
  case hyR0 => (intro w hSw; (try dsimp only at hSw); go_simp; try with_reducible rfl)
  try simp only [Act.put, List.setIfInBounds_toArray, List.set_cons_zero, List.set_cons_succ]
  refine' wpAnyH_take (i := 1) (oi := _) (v := _) ?hR1 (by kernel_rfl) (by kernel_rfl) (by kernel_rfl) ?hQR1 (Or.inl ⟨?hwR1, ?hyR1⟩) hHeld ?restR1
  case hR1 => (simp only [List.getElem?_toArray, List.getElem?_cons_succ, List.getElem?_cons_zero]; rfl)
  case hQR1 => exact fun _ _ _ h => h
  case hwR1 => rfl
  case hyR1 => (intro w hSw; (try dsimp only at hSw); go_simp; try with_reducible rfl)
  try simp only [Act.put, List.setIfInBounds_toArray, List.set_cons_zero, List.set_cons_succ]
  refine' wpAnyH_take (i := 3) (oi := _) (v := _) ?hR3 (by kernel_rfl) (by kernel_rfl) (by kernel_rfl) ?hQR3 (Or.inl ⟨?hwR3, ?hyR3⟩) hHeld ?restR3
  case hR3 => (simp only [List.getElem?_toArray, List.getElem?_cons_succ, List.getElem?_cons_zero]; rfl)
  case hQR3 => exact fun _ _ _ h => h
  case hwR3 => rfl
  case hyR3 => (intro w hSw; (try dsimp only at hSw); go_simp; try with_reducible rfl)
  try simp only [Act.put, List.setIfInBounds_toArray, List.set_cons_zero, List.set_cons_succ]
  refine' wpAnyH_take (i := 4) (oi := _) (v := _) ?hR4 (by kernel_rfl) (by kernel_rfl) (by kernel_rfl) ?hQR4 (Or.inl ⟨?hwR4, ?hyR4⟩) hHeld ?restR4
  case hR4 => (simp only [List.getElem?_toArray, List.getElem?_cons_succ, List.getElem?_cons_zero]; rfl)
  case hQR4 => exact fun _ _ _ h => h
  case hwR4 => rfl
  case hyR4 => (intro w hSw; (try dsimp only at hSw); go_simp; try with_reducible rfl)
  try simp only [Act.put, List.setIfInBounds_toArray, List.set_cons_zero, List.set_cons_succ]
  refine' wpAnyH_take (i := 5) (oi := _) (v := _) ?hR5 (by kernel_rfl) (by kernel_rfl) (by kernel_rfl) ?hQR5 (Or.inl ⟨?hwR5, ?hyR5⟩) hHeld ?restR5
  case hR5 => (simp only [List.getElem?_toArray, List.getElem?_cons_succ, List.getElem?_cons_zero]; rfl)
  case hQR5 => exact fun _ _ _ h => h
  case hwR5 => rfl
  case hyR5 => (intro w hSw; (try dsimp only at hSw); go_simp; try with_reducible rfl)
  try simp only [Act.put, List.setIfInBounds_toArray, List.set_cons_zero, List.set_cons_succ]
  refine' wpAnyH_take (i := 6) (oi := _) (v := _) ?hR6 (by kernel_rfl) (by kernel_rfl) (by kernel_rfl) ?hQR6 (Or.inl ⟨?hwR6, ?hyR6⟩) hHeld ?restR6
  case hR6 => (simp only [List.getElem?_toArray, List.getElem?_cons_succ, List.getElem?_cons_zero]; rfl)
  case hQR6 => exact fun _ _ _ h => h
  case hwR6 => rfl
  case hyR6 => (intro w hSw; (try dsimp only at hSw); go_simp; try with_reducible rfl)
  try simp only [Act.put, List.setIfInBounds_toArray, List.set_cons_zero, List.set_cons_succ]
  refine' wpAnyH_take (i := 7) (oi := _) (v := _) ?hR7 (by kernel_rfl) (by kernel_rfl) (by kernel_rfl) ?hQR7 (Or.inl ⟨?hwR7, ?hyR7⟩) hHeld ?restR7
  case hR7 => (simp only [List.getElem?_toArray, List.getElem?_cons_succ, List.getElem?_cons_zero]; rfl)
  case hQR7 => exact fun _ _ _ h => h
  case hwR7 => rfl
  case hyR7 => (intro w hSw; (try dsimp only at hSw); go_simp; try with_reducible rfl)
  try simp only [Act.put, List.setIfInBounds_toArray, List.set_cons_zero, List.set_cons_succ]
  refine' wpAnyH_take (i := 8) (oi := _) (v := _) ?hR8 (by kernel_rfl) (by kernel_rfl) (by kernel_rfl) ?hQR8 (Or.inl ⟨?hwR8, ?hyR8⟩) hHeld ?restR8
  case hR8 => (simp only [List.getElem?_toArray, List.getElem?_cons_succ, List.getElem?_cons_zero]; rfl)
  case hQR8 => exact fun _ _ _ h => h
  case hwR8 => rfl
  case hyR8 => (intro w hSw; (try dsimp only at hSw); go_simp; try with_reducible rfl)
  try simp only [Act.put, List.setIfInBounds_toArray, List.set_cons_zero, List.set_cons_succ]
  refine' wpAnyH_take (i := 9) (oi := _) (v := _) ?hR9 (by kernel_rfl) (by kernel_rfl) (by kernel_rfl) ?hQR9 (Or.inl ⟨?hwR9, ?hyR9⟩) hHeld ?restR9
  case hR9 => (simp only [List.getElem?_toArray, List.getElem?_cons_succ, List.getElem?_cons_zero]; rfl)
  case hQR9 => exact fun _ _ _ h => h
  case hwR9 => rfl
  case hyR9 => (intro w hSw; (try dsimp only at hSw); go_simp; try with_reducible rfl)
  try simp only [Act.put, List.setIfInBounds_toArray, List.set_cons_zero, List.set_cons_succ]
  refine wpAnyH_ready (rs := [2]) (by kernel_rfl) (by simp) ?_
  refine' (AllReadyH.cons (o := _) ?hoQ12 (fun K hK' => ?stQ12) AllReadyH.nil)
  case hoQ12 => (simp only [List.getElem?_toArray, List.getElem?_cons_succ, List.getElem?_cons_zero]; rfl)
  case stQ12 =>
    go_simp
    refine (settle_q _ hqu).mono ?_
    rintro e V1 ⟨rfl, hto⟩
    rw [← setD_eq] at hto
    try go_wp2_with fail
    have hkt : Keeps [q, g, r, y] U1 V1 := (by obtain ⟨_, _, _, _, _, h9, _⟩ := hto; exact h9)
    have hb2 := hbu.keeps hkt
    have hB2 := hB9.keeps hkt (by simp; omega)
    refine hK'.out _ _ (⟨blkq hB2, hb2.cq.1⟩) (fun hHeld' => ?_)
    clear hK' K hHeld
    have hHeld := hHeld'
    clear hHeld'
    try simp only [Act.put]
    try simp only [Act.put, List.setIfInBounds_toArray, List.set_cons_zero, List.set_cons_succ]
    refine' wpAnyH_take (i := 10) (oi := _) (v := _) ?hSQ110 (by kernel_rfl) (by kernel_rfl) (by kernel_rfl) ?hQSQ110 (Or.inl ⟨?hwSQ110, ?hySQ110⟩) hHeld ?restSQ110
    case hSQ110 => (simp only [List.getElem?_toArray, List.getElem?_cons_succ, List.getElem?_cons_zero]; rfl)
    case hQSQ110 => exact fun _ _ _ h => h
    case hwSQ110 => rfl
    case hySQ110 => (intro w hSw; (try dsimp only at hSw); go_simp; try with_reducible rfl)
    try simp only [Act.put, List.setIfInBounds_toArray, List.set_cons_zero, List.set_cons_succ]
    refine wpAnyH_ready (rs := [11]) (by kernel_rfl) (by simp) ?_
    refine' (AllReadyH.cons (o := _) ?hoQ211 (fun K hK' => ?stQ211) AllReadyH.nil)
    case hoQ211 => (simp only [List.getElem?_toArray, List.getElem?_cons_succ, List.getElem?_cons_zero]; rfl)
    case stQ211 =>
      obtain ⟨z0, z1, z2⟩ := hb2.z
      have hfz := hb2.fz
      go_simp
      refine hK'.out _ _ (⟨blkq (hB2.keeps (keep3 (w.heap.size + 1 + 1) _ _ _) (by simp; omega)), ((keep3 (w.heap.size + 1 + 1) _ _ _).cell (p := ⟨w.heap.size, 0, none⟩) hb2.b4.lt (by simp; omega)).trans hb2.cq.1⟩) (fun hHeld' => ?_)
      clear hK' K hHeld
      have hHeld := hHeld'
      clear hHeld'
      try simp only [Act.put]
      try simp only [Act.put, List.setIfInBounds_toArray, List.set_cons_zero, List.set_cons_succ]
      refine' wpAnyH_take (i := 12) (oi := _) (v := _) ?hUQ212 (by kernel_rfl) (by kernel_rfl) (by kernel_rfl) ?hQUQ212 (Or.inl ⟨?hwUQ212, ?hyUQ212⟩) hHeld ?restUQ212
      case hUQ212 => (simp only [List.getElem?_toArray, List.getElem?_cons_succ, List.getElem?_cons_zero]; rfl)
      case hQUQ212 => exact fun _ _ _ h => h
      case hwUQ212 => rfl
      case hyUQ212 => (intro w hSw; (try dsimp only at hSw); go_simp; try with_reducible rfl)
      try simp only [Act.put, List.setIfInBounds_toArray, List.set_cons_zero, List.set_cons_succ]
      refine wpAnyH_done (by kernel_rfl) ?_ _
      go_wp2
      refine bodyPost_ret (v := .tuple #[.agg #[.slice a2 (setL l).length c2, .slice b2 (setD l dl).length e2, .int .i64 lim], .bool true]) (by simp [results, Try.results15, go_sem, z0, z1, z2]) rfl ?_
      have hn6 : ∀ z ∈ [q, g, r, y], z ∈ [w.heap.size + 1 + 1, q, g, r, y] ∨ U1.heap.size ≤ z := by intro z hz; simp at hz ⊢; omega
      exact step_end hl hku (hxu.more hn6) hto (keep3 _ _ _ _) (by omega) (by omega) (hxu.more (by intro z hz; simp at hz ⊢; omega))
end Qp
end Go.Proofs.Ytaepcedcjhliaaa
