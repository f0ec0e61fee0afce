/- The document's port: Come, Take. -/
import Derived.Test.YtdbkgpnbmafpmaaZfAK
import Derived.Test.YtdbkgpnbmafpmaaZfAA
namespace Go.Proofs.Ytdbkgpnbmafpmaa
open Go.RowKit Go.Maps Go.Deep
namespace Nc
open Sm Fr
open PlainAid (bt)
/-- A row of the document's frames, in a block that is none of F. -/
def Rd (w : World) (F : List Nat) (a : Option Addr) (n : Nat) (xs : List Value) : Prop :=
  xs.length = n * 3 ∧ (0 < n → ∃ b, a = some ⟨b, 0, none⟩ ∧ b < w.heap.size ∧ b ∉ F ∧ w.rangeAt b 0 xs)
section
variable {w w' : World} {F G S : List Nat} {a : Option Addr} {n : Nat} {xs : List Value}
theorem Rd.keeps (h : Rd w F a n xs) (hk : Keeps S w w') (hS : ∀ b ∈ S, b ∈ F ∨ w.heap.size ≤ b) : Rd w' F a n xs := by
  refine ⟨h.1, fun h0 => ?_⟩
  obtain ⟨b, rfl, hl, hf, hr⟩ := h.2 h0
  have hb : b ∉ S := fun m => by
    rcases hS b m with h1 | h1
    · exact hf h1
    · omega
  exact ⟨b, rfl, Nat.lt_of_lt_of_le hl hk.size, hf, fun j u hu => (hk.cell (p := ⟨b, 0 + j, none⟩) hl hb).trans (hr j u hu)⟩
theorem Rd.more (h : Rd w F a n xs) (hG : ∀ b ∈ G, b ∈ F ∨ w.heap.size ≤ b) : Rd w G a n xs := by
  refine ⟨h.1, fun h0 => ?_⟩
  obtain ⟨b, rfl, hl, hf, hr⟩ := h.2 h0
  refine ⟨b, rfl, hl, fun m => ?_, hr⟩
  rcases hG b m with h1 | h1
  · exact hf h1
  · omega
theorem Rd.reads (h : Rd w F a n xs) : Reads w w.heap.size 3 a n xs := by
  refine ⟨h.1, fun h0 => ?_⟩
  obtain ⟨b, rfl, hl, _, hr⟩ := h.2 h0
  refine ⟨_, rfl, hl, fun j u hu => ?_⟩
  have e : (⟨b, 0, none⟩ : Addr).add j = ⟨b, j, none⟩ := by unfold Addr.add; by_cases h0 : j = 0 <;> simp [h0]
  rw [e, ← hr j u hu, Nat.zero_add]
theorem Rd.none_ : Rd w F a 0 [] := ⟨rfl, fun h => absurd h (by omega)⟩
theorem Rd.own {e : TypeId} {B c : Nat} (h : w.ownsRow B e 3 (.slice a n c) n xs) (hF : ∀ b ∈ F, b < B) : Rd w F a n xs := by
  refine ⟨h.1, fun h0 => ?_⟩
  obtain ⟨g, cap, hv, hb, hl⟩ := h.form h0
  injection hv with e1
  subst e1
  refine ⟨g, rfl, hl, fun m => by have := hF g m; omega, fun j u hu => ?_⟩
  have := h.cells (g := g) rfl j u hu
  have e : (⟨g, 0, none⟩ : Addr).add j = ⟨g, j, none⟩ := by unfold Addr.add; by_cases h0 : j = 0 <;> simp [h0]
  rw [Nat.zero_add, ← this, e]
theorem Rd.tail {ab m : Nat} {x : FiF.It} {l : List FiF.It} (h : Rd w F (some ⟨ab, 0, none⟩) m (FiF.flt (x :: l))) (hm : m = l.length + 1) : Reads w w.heap.size 3 (some ⟨ab, 3, none⟩) l.length (FiF.flt l) := by
  subst hm
  refine ⟨by rw [FiF.flt_len], fun h0 => ⟨_, rfl, ?_, fun j u hu => ?_⟩⟩
  · obtain ⟨b, e, hl, _⟩ := h.2 (by omega)
    injection e with e; injection e with e; show ab < _; omega
  · obtain ⟨b, e, hl, _, hr⟩ := h.2 (by omega)
    injection e with e; injection e with e
    subst e
    have h1 : (FiF.flt (x :: l))[3 + j]? = some u := by
      rw [show FiF.flt (x :: l) = FiF.cs x ++ FiF.flt l from by simp [FiF.flt], List.getElem?_append_right (by rw [FiF.cs_len]; omega), FiF.cs_len, Nat.add_sub_cancel_left]
      exact hu
    have e2 : (⟨ab, 3, none⟩ : Addr).add j = ⟨ab, 3 + j, none⟩ := by unfold Addr.add; by_cases h0 : j = 0 <;> simp [h0]
    rw [e2, ← hr (3 + j) u h1, Nat.zero_add]
theorem Rd.head {m : Nat} {x : FiF.It} {l : List FiF.It} (h : Rd w F a m (FiF.flt (x :: l))) (hm : m = l.length + 1) : ∃ b, a = some ⟨b, 0, none⟩ ∧ b < w.heap.size ∧ w.cell? ⟨b, 0, none⟩ = some (.int .i64 x.to) ∧ w.cell? ⟨b, 1, none⟩ = some (.int .i64 x.fr) ∧ w.cell? ⟨b, 2, none⟩ = some (.string x.data) := by
  obtain ⟨b, e, hl, _, hr⟩ := h.2 (by omega)
  have g : ∀ j, j < 3 → ∀ u, (FiF.cs x)[j]? = some u → w.cell? ⟨b, j, none⟩ = some u := fun j hj u hu => by
    have := hr j u (by rw [show FiF.flt (x :: l) = FiF.cs x ++ FiF.flt l from by simp [FiF.flt], List.getElem?_append_left (by rw [FiF.cs_len]; exact hj)]; exact hu)
    rwa [Nat.zero_add] at this
  exact ⟨b, e, hl, g 0 (by omega) _ rfl, g 1 (by omega) _ rfl, g 2 (by omega) _ rfl⟩
end
theorem rf_all : (Try.prog.info? 65).map (fun i => (i.zero, i.size, i.bytes)) = some (some (.agg #[.int .i64 0, .int .i64 0, .string ⟨#[]⟩]), 3, 32) := by kernel_rfl
theorem run_new0 (w : World) : (Instr.buildSlice 43 0 #[]).run Try.prog w = .ok (.slice (some ⟨w.heap.size, 0, none⟩) 0 0) (w.alloc (.cells #[] 65)) := by kernel_rfl
theorem wp_new0 {o : Oper} {a : Act} {w : World} {K : Act → World → Prop} {Q : Exit → Act → World → Prop} (ho : o.op = .buildSlice 43 0 #[]) {B : Nat} (hB : B ≤ w.heap.size)
    (h : ∀ w', w'.ownsRow B 65 3 (.slice (some ⟨w.heap.size, 0, none⟩) 0 0) 0 [] → Keeps [] w w' → K (a.put o.dst (.slice (some ⟨w.heap.size, 0, none⟩) 0 0)) w') : o.wp Try.prog a w K Q := by
  unfold Oper.wp execOp
  simp only [ho, Sem.run_bind, List.map_toArray, List.map_nil, run_new0, Result.andThen_ok]
  exact h _ (FiF.own_emptyF w B hB 65 3) ((Keeps.refl _ _).alloc _)
theorem fill1 (X : FiF.It) : Instr.fill (fun i => some (i * 3, 3)) ((Array.range (1 * 3)).map ((Value.agg #[.int .i64 0, .int .i64 0, .string ⟨#[]⟩]).cells[· % (Value.agg #[.int .i64 0, .int .i64 0, .string ⟨#[]⟩]).cells.size]!)) [(0, .agg (FiF.cs X).toArray)] = some (FiF.cs X).toArray := by
  obtain ⟨x, y, z⟩ := X
  kernel_rfl
theorem wp_new1 {o : Oper} {a : Act} {w : World} {K : Act → World → Prop} {Q : Exit → Act → World → Prop} (X : FiF.It) {t : Operand} (ho : o.op = .buildSlice 43 1 #[(0, t)]) (ht : a.eval t = .agg (FiF.cs X).toArray)
    (h : ∀ w', Blk w' w.heap.size 65 (FiF.cs X).toArray → Keeps [] w w' → K (a.put o.dst (.slice (some ⟨w.heap.size, 0, none⟩) 1 1)) w') : o.wp Try.prog a w K Q := by
  obtain ⟨i0, hi0, hz0, hz1, hz2⟩ := info_parts rf_all
  refine wp_buildSlice 43 65 1 _ ho (FiF.cs X).toArray i0 _ Try.underlying43 hi0 hz0 (by rw [hz1]; decide) (by rw [hz1]; decide) ?_ (h _ (Blk.new _ _ _) ((Keeps.refl _ _).alloc _))
  rw [hz1]
  simp only [List.map_toArray, List.map_cons, List.map_nil, ht]
  exact fill1 X
theorem reads_blk3 {w : World} {b : Nat} {X : FiF.It} (h : Blk w b 65 (FiF.cs X).toArray) : Reads w w.heap.size 3 (some ⟨b, 0, none⟩) 1 (FiF.cs X) := by
  refine ⟨by rw [FiF.cs_len], fun _ => ⟨_, rfl, h.lt, fun j u hu => ?_⟩⟩
  have e : (⟨b, 0, none⟩ : Addr).add j = ⟨b, j, none⟩ := by unfold Addr.add; by_cases h0 : j = 0 <;> simp [h0]
  rw [e, h.cell]
  simpa using hu
theorem ri_cs3 (X : FiF.It) : (Try.prog.info? 65).map (·.size) = some (FiF.cs X).length := by rw [FiF.cs_len]; kernel_rfl
theorem own_cap {w : World} {B size n c : Nat} {e : TypeId} {p : Option Addr} {xs : List Value} (h : w.ownsRow B e size (.slice p n c) n xs) : n ≤ c := by
  rcases h.2 with ⟨hv, _⟩ | ⟨g, cap, cur, hv, _, _, hc, _⟩
  · injection hv with _ e1 e2; omega
  · injection hv with _ _ e2; omega
/-- A port of the document's comes back. -/
def IsRC (F : List Nat) (ow ma li : Int) (ws : List FiF.It) (dr : Int) (ok : Bool) (w : World) (e : Ending) (w' : World) : Prop :=
  ∃ a' c', e = .returned (.tuple #[.agg #[.int .i64 ow, .int .i64 ma, .int .i64 li, .slice a' ws.length c', .int .i64 dr], .bool ok]) ∧ Rd w' F a' ws.length (FiF.flt ws) ∧ ws.length ≤ c' ∧ Keeps [] w w'
theorem rcome_full {F : List Nat} {ws : List FiF.It} (ow ma li dr : Int) (a : Option Addr) (c : Nat) (s : ByteArray) (w : World) (h : Rd w F a ws.length (FiF.flt ws)) (hc : ws.length ≤ c) (hf : li ≤ (ws.length : Int)) (hd : 0 ≤ dr ∧ dr ≤ 100000) :
    Calls Try.prog 53 #[.agg #[.int .i64 ow, .int .i64 ma, .int .i64 li, .slice a ws.length c, .int .i64 dr], .string s] w (IsRC F ow ma li ws (dr + 1) false w) := by
  have H := Lib.hid (And.intro h hc)
  clear h hc
  go_enter Try.func53, Try.ntmps53
  go_wp2
  refine bodyPost_ret (v := .tuple #[.agg #[.int .i64 ow, .int .i64 ma, .int .i64 li, .slice a ws.length c, .int .i64 (dr + 1)], .bool false]) (by simp [results, Try.results53, go_sem]) rfl ?_
  exact ⟨a, c, rfl, H.out.1.keeps (((Keeps.refl [] w).alloc _).alloc _) (by simp), H.out.2, ((Keeps.refl [] w).alloc _).alloc _⟩
theorem keep5 {w : World} (k : Nat) (u v x y z : Value) : Keeps [k] w (((((w.setCell ⟨k, 0, none⟩ u).setCell ⟨k, 1, none⟩ v).setCell ⟨k, 2, none⟩ x).setCell ⟨k, 3, none⟩ y).setCell ⟨k, 4, none⟩ z) :=
  (((((Keeps.refl _ w).setCell (p := ⟨k, 0, none⟩) (by simp) _).setCell (p := ⟨k, 1, none⟩) (by simp) _).setCell (p := ⟨k, 2, none⟩) (by simp) _).setCell (p := ⟨k, 3, none⟩) (by simp) _).setCell (p := ⟨k, 4, none⟩) (by simp) _
theorem cs_blk {w : World} {b : Nat} {x : FiF.It} (h : Blk w b 65 #[.int .i64 x.to, .int .i64 x.fr, .string x.data]) : Blk w b 65 (FiF.cs x).toArray := h
theorem blk_range3 {w : World} {b : Nat} {t : TypeId} (l : List Value) (h : Blk w b t l.toArray) : w.rangeAt b 0 l := fun j u hu => by
  rw [Nat.zero_add, h.cell]
  simpa using hu
attribute [local irreducible] FiF.cs
set_option maxRecDepth 100000 in
set_option maxHeartbeats 2000000 in
theorem rcome_ok {F : List Nat} {ws : List FiF.It} (ow ma li dr : Int) (a : Option Addr) (c : Nat) (s : ByteArray) (w : World) (h : Rd w F a ws.length (FiF.flt ws)) (hF : ∀ b ∈ F, b < w.heap.size) (hf : (ws.length : Int) < li) (hl : li ≤ 16) (hm : s.size ≤ 9223372036854775807) (h0 : pE s = 0) :
    Calls Try.prog 53 #[.agg #[.int .i64 ow, .int .i64 ma, .int .i64 li, .slice a ws.length c, .int .i64 dr], .string s] w (IsRC F ow ma li (ws ++ [frS s]) dr true w) := by
  obtain ⟨i0, hi0, hz0, hz1, hz2⟩ := info_parts rf_all
  have HI := Lib.hid (And.intro hi0 (And.intro hz0 (And.intro hz1 hz2)))
  clear hi0 hz0 hz1 hz2
  have HP := Lib.hid (fun V => rparse_good s V hm h0)
  have HR := Lib.hid h
  clear h h0
  have hdec : decide (li ≤ (ws.length : Int)) = false := by simp; omega
  go_enter Try.func53, Try.ntmps53
  go_wp2_with fail
  refine (HP.out _).mono ?_
  clear HP
  rintro e w1 ⟨r, rfl, hr, hb⟩
  have hk1 : Keeps [] w w1 := (((Keeps.refl [] w).alloc _).alloc _).trans (Keeps.of_below hb [])
  have hq1 : Blk w1 w.heap.size 45 #[.int .i64 ow, .int .i64 ma, .int .i64 li, .slice a ws.length c, .int .i64 dr] := ((Blk.new w 45 #[.int .i64 ow, .int .i64 ma, .int .i64 li, .slice a ws.length c, .int .i64 dr]).alloc _).keeps (Keeps.of_below hb []) (by simp)
  have hr1 : Blk w1 (w.heap.size + 1) 45 #[.int .i64 0, .int .i64 0, .int .i64 0, .slice none 0 0, .int .i64 0] := by
    have := (Blk.new (w.alloc (.cells #[.int .i64 ow, .int .i64 ma, .int .i64 li, .slice a ws.length c, .int .i64 dr] 45)) 45 #[.int .i64 0, .int .i64 0, .int .i64 0, .slice none 0 0, .int .i64 0]).keeps (Keeps.of_below hb []) (by simp)
    simpa using this
  have hw1 : w.heap.size + 2 ≤ w1.heap.size := by have := hb.size; simp at this; omega
  have HFR : Hid (frS s = ⟨bt s 0, bt s 1, r⟩) := Lib.hid (by unfold frS; rw [ba_of hr])
  clear hb hr
  generalize bt s 0 = b0 at *
  generalize bt s 1 = b1 at *
  go_upto_region 5 with fail
  obtain ⟨X, hX0⟩ : ∃ X : FiF.It, X = ⟨b0, b1, r⟩ := ⟨_, rfl⟩
  have HX0 := Lib.hid hX0
  clear hX0
  go_cut [30] from 8 to 32 (fun sl wx => ∃ p c', sl = .slice p (ws.length + 1) c' ∧ w1.heap.size + 1 ≤ wx.heap.size ∧ wx.ownsRow (w1.heap.size + 1) 65 3 (.slice p (ws.length + 1) c') (ws.length + 1) (FiF.flt ws ++ FiF.cs X) ∧ Blk wx w.heap.size 45 #[.int .i64 ow, .int .i64 ma, .int .i64 li, .slice p (ws.length + 1) c', .int .i64 dr] ∧ Blk wx (w.heap.size + 1) 45 #[.int .i64 0, .int .i64 0, .int .i64 0, .slice none 0 0, .int .i64 0] ∧ Keeps [] w wx)
  case first =>
    obtain ⟨V0, hV0⟩ : ∃ V, w1.alloc (.cells #[.int .i64 b0, .int .i64 b1, .string r] 65) = V := ⟨_, rfl⟩
    rw [hV0]
    have hq : Blk V0.drew w.heap.size 45 #[.int .i64 ow, .int .i64 ma, .int .i64 li, .slice a ws.length c, .int .i64 dr] := by rw [← hV0]; exact (hq1.alloc _).drew
    have hX : Blk V0.drew w1.heap.size 65 (FiF.cs X).toArray := by rw [← hV0, HX0.out]; exact cs_blk (Blk.new w1 65 #[.int .i64 b0, .int .i64 b1, .string r]).drew
    have hr : Blk V0.drew (w.heap.size + 1) 45 #[.int .i64 0, .int .i64 0, .int .i64 0, .slice none 0 0, .int .i64 0] := by rw [← hV0]; exact (hr1.alloc _).drew
    have hK : Keeps [] w V0.drew := by rw [← hV0]; exact (hk1.alloc _).drew
    have hB : w1.heap.size + 1 ≤ V0.drew.heap.size := by rw [← hV0]; simp
    clear hV0 hq1 hr1 hk1
    refine wp_region_held_drew (S := (fun V => Blk V w1.heap.size 65 (FiF.cs X).toArray)) (by kernel_rfl) hX (fun hHeld => ?_)
    generalize V0.drew = U0 at *
    have hcell : _ = some (Value.slice a ws.length c) := hq.cell 3
    have hfro := hq.frozen
    have hz := hK.size
    refine' wpAnyH_take (i := 1) (oi := _) (v := _) ?hA1 (by kernel_rfl) (by kernel_rfl) (by kernel_rfl) ?hQA1 (Or.inl ⟨?hwA1, ?hyA1⟩) hHeld ?restA1
    case hA1 => (simp only [List.getElem?_toArray, List.getElem?_cons_succ, List.getElem?_cons_zero]; rfl)
    case hQA1 => exact fun _ _ _ h => h
    case hwA1 => rfl
    case hyA1 => (intro w hSw; (try dsimp only at hSw); go_simp; try with_reducible rfl)
    try simp only [Act.put, List.setIfInBounds_toArray, List.set_cons_zero, List.set_cons_succ]
    refine' wpAnyH_take (i := 4) (oi := _) (v := .agg (FiF.cs X).toArray) ?hA4 (by kernel_rfl) (by kernel_rfl) (by kernel_rfl) ?hQA4 ?hyA4 hHeld ?restA4
    case hA4 => (simp only [List.getElem?_toArray, List.getElem?_cons_succ, List.getElem?_cons_zero]; rfl)
    case hQA4 => exact fun _ _ _ h => h
    case hyA4 => exact yieldsIf_load_mid rfl _ _ rfl _ _ rfl (FiF.cs X) _ (fun _ h => blk_range3 _ h) Try.underlying65 rfl (ri_cs3 X)
    try simp only [Act.put, List.setIfInBounds_toArray, List.set_cons_zero, List.set_cons_succ]
    refine wpAnyH_ready (rs := [0, 2, 5]) (by kernel_rfl) (by simp) ?_
    refine' (AllReadyH.cons (o := _) ?hoN10 (fun K hK' => ?stN10) (AllReadyH.cons (o := _) ?hoN12 (fun K hK' => ?stN12) (AllReadyH.cons (o := _) ?hoN15 (fun K hK' => ?stN15) AllReadyH.nil)))
    case hoN10 => (simp only [List.getElem?_toArray, List.getElem?_cons_zero]; rfl)
    case hoN12 => (simp only [List.getElem?_toArray, List.getElem?_cons_succ, List.getElem?_cons_zero]; rfl)
    case hoN15 => (simp only [List.getElem?_toArray, List.getElem?_cons_succ, List.getElem?_cons_zero]; rfl)
    case stN10 =>
      rw [if_pos (by rfl)]
      refine wp_new0 rfl (B := w1.heap.size + 1) (by omega) ?_
      intro V1 own0 k1
      skip
      have hK := hK.trans k1
      have hq := hq.keeps k1 (by simp)
      have hr := hr.keeps k1 (by simp)
      have hB := Nat.le_trans hB k1.size
      have hX := hX.keeps k1 (by simp)
      have hcell : _ = some (Value.slice a ws.length c) := hq.cell 3
      have hfro := hq.frozen
      have hz := hK.size
      refine hK'.out _ _ (hX) (fun hHeld' => ?_)
      clear hK' K hHeld
      have hHeld := hHeld'
      clear hHeld'
      try simp only [Act.put]
      try simp only [Act.put, List.setIfInBounds_toArray, List.set_cons_zero, List.set_cons_succ]
      refine wpAnyH_ready (rs := [2, 5]) (by kernel_rfl) (by simp) ?_
      refine' (AllReadyH.cons (o := _) ?hoN22 (fun K hK' => ?stN22) (AllReadyH.cons (o := _) ?hoN25 (fun K hK' => ?stN25) AllReadyH.nil))
      case hoN22 => (simp only [List.getElem?_toArray, List.getElem?_cons_succ, List.getElem?_cons_zero]; rfl)
      case hoN25 => (simp only [List.getElem?_toArray, List.getElem?_cons_succ, List.getElem?_cons_zero]; rfl)
      case stN22 =>
        go_simp
        refine hK'.out _ _ hHeld (fun hHeld' => ?_)
        clear hK' K hHeld
        have hHeld := hHeld'
        clear hHeld'
        try simp only [Act.put]
        try simp only [Act.put, List.setIfInBounds_toArray, List.set_cons_zero, List.set_cons_succ]
        refine wpAnyH_ready (rs := [3, 5]) (by kernel_rfl) (by simp) ?_
        refine' (AllReadyH.cons (o := _) ?hoN33 (fun K hK' => ?stN33) (AllReadyH.cons (o := _) ?hoN35 (fun K hK' => ?stN35) AllReadyH.nil))
        case hoN33 => (simp only [List.getElem?_toArray, List.getElem?_cons_succ, List.getElem?_cons_zero]; rfl)
        case hoN35 => (simp only [List.getElem?_toArray, List.getElem?_cons_succ, List.getElem?_cons_zero]; rfl)
        case stN33 =>
          rw [if_pos (by rfl)]
          refine wp_append_any _ (.tmp 24) (.tmp 26) 43 rfl (w1.heap.size + 1) 65 i0 _ 3 32 Try.underlying43 HI.out.1 HI.out.2.1 HI.out.2.2.1 HI.out.2.2.2 rfl (by decide) _ 0 _ rfl own0 _ _ _ _ _ rfl (HR.out.keeps hK (by simp)).reads (FiF.flt_all _) (by simp only [maxLen]; omega) (by omega) (by have := hK.size; omega) ?_
          intro v1 V1 own3 g1 at1
          rw [Nat.zero_add, List.nil_append] at own3
          obtain ⟨p3, c3, rfl⟩ := FiF.own_formF own3
          have hK := hK.grown g1 (fun b hb => .inr (by have := (own0.lt b hb).1; omega))
          have hq := hq.grown g1 (fun e => by have := (own0.lt _ e.symm).1; omega)
          have hr := hr.grown g1 (fun e => by have := (own0.lt _ e.symm).1; omega)
          have hB := Nat.le_trans hB g1.size
          have hX := hX.grown g1 (fun e => by have := (own0.lt _ e.symm).1; omega)
          clear own0
          have hcell : _ = some (Value.slice a ws.length c) := hq.cell 3
          have hfro := hq.frozen
          have hz := hK.size
          refine hK'.out _ _ (hX) (fun hHeld' => ?_)
          clear hK' K hHeld
          have hHeld := hHeld'
          clear hHeld'
          try simp only [Act.put]
          try simp only [Act.put, List.setIfInBounds_toArray, List.set_cons_zero, List.set_cons_succ]
          refine wpAnyH_ready (rs := [5]) (by kernel_rfl) (by simp) ?_
          refine' (AllReadyH.cons (o := _) ?hoN45 (fun K hK' => ?stN45) AllReadyH.nil)
          case hoN45 => (simp only [List.getElem?_toArray, List.getElem?_cons_succ, List.getElem?_cons_zero]; rfl)
          case stN45 =>
            rw [if_pos (by rfl)]
            refine wp_new1 X rfl rfl ?_
            intro V1 bx k1
            skip
            have own3 := ownsRow_keeps own3 k1 (by simp)
            have hK := hK.trans k1
            have hq := hq.keeps k1 (by simp)
            have hr := hr.keeps k1 (by simp)
            have hB := Nat.le_trans hB k1.size
            have hX := hX.keeps k1 (by simp)
            have hcell : _ = some (Value.slice a ws.length c) := hq.cell 3
            have hfro := hq.frozen
            have hz := hK.size
            refine hK'.out _ _ (hX) (fun hHeld' => ?_)
            clear hK' K hHeld
            have hHeld := hHeld'
            clear hHeld'
            try simp only [Act.put]
            try simp only [Act.put, List.setIfInBounds_toArray, List.set_cons_zero, List.set_cons_succ]
            refine wpAnyH_ready (rs := [6]) (by kernel_rfl) (by simp) ?_
            refine' (AllReadyH.cons (o := _) ?hoN56 (fun K hK' => ?stN56) AllReadyH.nil)
            case hoN56 => (simp only [List.getElem?_toArray, List.getElem?_cons_succ, List.getElem?_cons_zero]; rfl)
            case stN56 =>
              rw [if_pos (by rfl)]
              refine wp_append_any _ (.tmp 27) (.tmp 29) 43 rfl (w1.heap.size + 1) 65 i0 _ 3 32 Try.underlying43 HI.out.1 HI.out.2.1 HI.out.2.2.1 HI.out.2.2.2 rfl (by decide) _ _ _ rfl own3 _ _ 1 1 (FiF.cs X) rfl (reads_blk3 bx) (FiF.cs_all _) (by simp only [maxLen]; omega) (by omega) (by have := hK.size; omega) ?_
              intro v1 V1 own6 g1 at1
              obtain ⟨p6, c6, rfl⟩ := FiF.own_formF own6
              have hK := hK.grown g1 (fun b hb => .inr (by have := (own3.lt b hb).1; omega))
              have hq := hq.grown g1 (fun e => by have := (own3.lt _ e.symm).1; omega)
              have hr := hr.grown g1 (fun e => by have := (own3.lt _ e.symm).1; omega)
              have hB := Nat.le_trans hB g1.size
              have hX := hX.grown g1 (fun e => by have := (own3.lt _ e.symm).1; omega)
              clear own3 bx
              have hcell : _ = some (Value.slice a ws.length c) := hq.cell 3
              have hfro := hq.frozen
              have hz := hK.size
              refine hK'.out _ _ (hX) (fun hHeld' => ?_)
              clear hK' K hHeld
              have hHeld := hHeld'
              clear hHeld'
              try simp only [Act.put]
              try simp only [Act.put, List.setIfInBounds_toArray, List.set_cons_zero, List.set_cons_succ]
              refine' wpAnyH_take (i := 7) (oi := _) (v := _) ?hM57 (by kernel_rfl) (by kernel_rfl) (by kernel_rfl) ?hQM57 (Or.inl ⟨?hwM57, ?hyM57⟩) hHeld ?restM57
              case hM57 => (simp only [List.getElem?_toArray, List.getElem?_cons_succ, List.getElem?_cons_zero]; rfl)
              case hQM57 => exact fun _ _ _ h => h
              case hwM57 => rfl
              case hyM57 => (intro w hSw; (try dsimp only at hSw); go_simp; try with_reducible rfl)
              try simp only [Act.put, List.setIfInBounds_toArray, List.set_cons_zero, List.set_cons_succ]
              refine wpAnyH_ready (rs := [8]) (by kernel_rfl) (by simp) ?_
              refine' (AllReadyH.cons (o := _) ?hoN68 (fun K hK' => ?stN68) AllReadyH.nil)
              case hoN68 => (simp only [List.getElem?_toArray, List.getElem?_cons_succ, List.getElem?_cons_zero]; rfl)
              case stN68 =>
                go_simp
                refine hK'.out _ _ (hX.far (p := ⟨_, 3, none⟩) (by show w1.heap.size ≠ w.heap.size; omega) _) (fun hHeld' => ?_)
                clear hK' K hHeld
                have hHeld := hHeld'
                clear hHeld'
                try simp only [Act.put]
                try simp only [Act.put, List.setIfInBounds_toArray, List.set_cons_zero, List.set_cons_succ]
                refine wpAnyH_done (by kernel_rfl) ?_ _
                clear hHeld
                go_wp2_with fail
                go_meet
                case rel => exact ⟨p6, c6, rfl, by simpa [World.setCell] using hB, ownsRow_setCell own6 _ _ (own_blk_ne own6 hq (by decide)), hq.set_ 3 _, hr.far (by show w.heap.size + 1 ≠ w.heap.size; omega) _, hK.setCell (p := ⟨w.heap.size, 3, none⟩) (.inr (Nat.le_refl _)) _⟩
        case stN35 =>
          rw [if_pos (by rfl)]
          refine wp_new1 X rfl rfl ?_
          intro V1 bx k1
          have hne : _ := Nat.ne_of_lt (own0.lt _ rfl).2
          have own0 := ownsRow_keeps own0 k1 (by simp)
          have hK := hK.trans k1
          have hq := hq.keeps k1 (by simp)
          have hr := hr.keeps k1 (by simp)
          have hB := Nat.le_trans hB k1.size
          have hX := hX.keeps k1 (by simp)
          have hcell : _ = some (Value.slice a ws.length c) := hq.cell 3
          have hfro := hq.frozen
          have hz := hK.size
          refine hK'.out _ _ (hX) (fun hHeld' => ?_)
          clear hK' K hHeld
          have hHeld := hHeld'
          clear hHeld'
          try simp only [Act.put]
          try simp only [Act.put, List.setIfInBounds_toArray, List.set_cons_zero, List.set_cons_succ]
          refine wpAnyH_ready (rs := [3]) (by kernel_rfl) (by simp) ?_
          refine' (AllReadyH.cons (o := _) ?hoN73 (fun K hK' => ?stN73) AllReadyH.nil)
          case hoN73 => (simp only [List.getElem?_toArray, List.getElem?_cons_succ, List.getElem?_cons_zero]; rfl)
          case stN73 =>
            rw [if_pos (by rfl)]
            refine wp_append_any _ (.tmp 24) (.tmp 26) 43 rfl (w1.heap.size + 1) 65 i0 _ 3 32 Try.underlying43 HI.out.1 HI.out.2.1 HI.out.2.2.1 HI.out.2.2.2 rfl (by decide) _ 0 _ rfl own0 _ _ _ _ _ rfl (HR.out.keeps hK (by simp)).reads (FiF.flt_all _) (by simp only [maxLen]; omega) (by omega) (by have := hK.size; omega) ?_
            intro v1 V1 own3 g1 at1
            rw [Nat.zero_add, List.nil_append] at own3
            obtain ⟨p3, c3, rfl⟩ := FiF.own_formF own3
            have bx := bx.grown g1 (fun e => by injection e with e; (try dsimp only at hne); (try dsimp only at e); omega)
            have hK := hK.grown g1 (fun b hb => .inr (by have := (own0.lt b hb).1; omega))
            have hq := hq.grown g1 (fun e => by have := (own0.lt _ e.symm).1; omega)
            have hr := hr.grown g1 (fun e => by have := (own0.lt _ e.symm).1; omega)
            have hB := Nat.le_trans hB g1.size
            have hX := hX.grown g1 (fun e => by have := (own0.lt _ e.symm).1; omega)
            clear own0
            have hcell : _ = some (Value.slice a ws.length c) := hq.cell 3
            have hfro := hq.frozen
            have hz := hK.size
            refine hK'.out _ _ (hX) (fun hHeld' => ?_)
            clear hK' K hHeld
            have hHeld := hHeld'
            clear hHeld'
            try simp only [Act.put]
            try simp only [Act.put, List.setIfInBounds_toArray, List.set_cons_zero, List.set_cons_succ]
            refine wpAnyH_ready (rs := [6]) (by kernel_rfl) (by simp) ?_
            refine' (AllReadyH.cons (o := _) ?hoN86 (fun K hK' => ?stN86) AllReadyH.nil)
            case hoN86 => (simp only [List.getElem?_toArray, List.getElem?_cons_succ, List.getElem?_cons_zero]; rfl)
            case stN86 =>
              rw [if_pos (by rfl)]
              refine wp_append_any _ (.tmp 27) (.tmp 29) 43 rfl (w1.heap.size + 1) 65 i0 _ 3 32 Try.underlying43 HI.out.1 HI.out.2.1 HI.out.2.2.1 HI.out.2.2.2 rfl (by decide) _ _ _ rfl own3 _ _ 1 1 (FiF.cs X) rfl (reads_blk3 bx) (FiF.cs_all _) (by simp only [maxLen]; omega) (by omega) (by have := hK.size; omega) ?_
              intro v1 V1 own6 g1 at1
              obtain ⟨p6, c6, rfl⟩ := FiF.own_formF own6
              have hK := hK.grown g1 (fun b hb => .inr (by have := (own3.lt b hb).1; omega))
              have hq := hq.grown g1 (fun e => by have := (own3.lt _ e.symm).1; omega)
              have hr := hr.grown g1 (fun e => by have := (own3.lt _ e.symm).1; omega)
              have hB := Nat.le_trans hB g1.size
              have hX := hX.grown g1 (fun e => by have := (own3.lt _ e.symm).1; omega)
              clear own3 bx
              have hcell : _ = some (Value.slice a ws.length c) := hq.cell 3
              have hfro := hq.frozen
              have hz := hK.size
              refine hK'.out _ _ (hX) (fun hHeld' => ?_)
              clear hK' K hHeld
              have hHeld := hHeld'
              clear hHeld'
              try simp only [Act.put]
              try simp only [Act.put, List.setIfInBounds_toArray, List.set_cons_zero, List.set_cons_succ]
              refine' wpAnyH_take (i := 7) (oi := _) (v := _) ?hM87 (by kernel_rfl) (by kernel_rfl) (by kernel_rfl) ?hQM87 (Or.inl ⟨?hwM87, ?hyM87⟩) hHeld ?restM87
              case hM87 => (simp only [List.getElem?_toArray, List.getElem?_cons_succ, List.getElem?_cons_zero]; rfl)
              case hQM87 => exact fun _ _ _ h => h
              case hwM87 => rfl
              case hyM87 => (intro w hSw; (try dsimp only at hSw); go_simp; try with_reducible rfl)
              try simp only [Act.put, List.setIfInBounds_toArray, List.set_cons_zero, List.set_cons_succ]
              refine wpAnyH_ready (rs := [8]) (by kernel_rfl) (by simp) ?_
              refine' (AllReadyH.cons (o := _) ?hoN98 (fun K hK' => ?stN98) AllReadyH.nil)
              case hoN98 => (simp only [List.getElem?_toArray, List.getElem?_cons_succ, List.getElem?_cons_zero]; rfl)
              case stN98 =>
                go_simp
                refine hK'.out _ _ (hX.far (p := ⟨_, 3, none⟩) (by show w1.heap.size ≠ w.heap.size; omega) _) (fun hHeld' => ?_)
                clear hK' K hHeld
                have hHeld := hHeld'
                clear hHeld'
                try simp only [Act.put]
                try simp only [Act.put, List.setIfInBounds_toArray, List.set_cons_zero, List.set_cons_succ]
                refine wpAnyH_done (by kernel_rfl) ?_ _
                clear hHeld
                go_wp2_with fail
                go_meet
                case rel => exact ⟨p6, c6, rfl, by simpa [World.setCell] using hB, ownsRow_setCell own6 _ _ (own_blk_ne own6 hq (by decide)), hq.set_ 3 _, hr.far (by show w.heap.size + 1 ≠ w.heap.size; omega) _, hK.setCell (p := ⟨w.heap.size, 3, none⟩) (.inr (Nat.le_refl _)) _⟩
      case stN25 =>
        rw [if_pos (by rfl)]
        refine wp_new1 X rfl rfl ?_
        intro V1 bx k1
        have hne : _ := Nat.ne_of_lt (own0.lt _ rfl).2
        have own0 := ownsRow_keeps own0 k1 (by simp)
        have hK := hK.trans k1
        have hq := hq.keeps k1 (by simp)
        have hr := hr.keeps k1 (by simp)
        have hB := Nat.le_trans hB k1.size
        have hX := hX.keeps k1 (by simp)
        have hcell : _ = some (Value.slice a ws.length c) := hq.cell 3
        have hfro := hq.frozen
        have hz := hK.size
        refine hK'.out _ _ (hX) (fun hHeld' => ?_)
        clear hK' K hHeld
        have hHeld := hHeld'
        clear hHeld'
        try simp only [Act.put]
        try simp only [Act.put, List.setIfInBounds_toArray, List.set_cons_zero, List.set_cons_succ]
        refine wpAnyH_ready (rs := [2]) (by kernel_rfl) (by simp) ?_
        refine' (AllReadyH.cons (o := _) ?hoN102 (fun K hK' => ?stN102) AllReadyH.nil)
        case hoN102 => (simp only [List.getElem?_toArray, List.getElem?_cons_succ, List.getElem?_cons_zero]; rfl)
        case stN102 =>
          go_simp
          refine hK'.out _ _ hHeld (fun hHeld' => ?_)
          clear hK' K hHeld
          have hHeld := hHeld'
          clear hHeld'
          try simp only [Act.put]
          try simp only [Act.put, List.setIfInBounds_toArray, List.set_cons_zero, List.set_cons_succ]
          refine wpAnyH_ready (rs := [3]) (by kernel_rfl) (by simp) ?_
          refine' (AllReadyH.cons (o := _) ?hoN113 (fun K hK' => ?stN113) AllReadyH.nil)
          case hoN113 => (simp only [List.getElem?_toArray, List.getElem?_cons_succ, List.getElem?_cons_zero]; rfl)
          case stN113 =>
            rw [if_pos (by rfl)]
            refine wp_append_any _ (.tmp 24) (.tmp 26) 43 rfl (w1.heap.size + 1) 65 i0 _ 3 32 Try.underlying43 HI.out.1 HI.out.2.1 HI.out.2.2.1 HI.out.2.2.2 rfl (by decide) _ 0 _ rfl own0 _ _ _ _ _ rfl (HR.out.keeps hK (by simp)).reads (FiF.flt_all _) (by simp only [maxLen]; omega) (by omega) (by have := hK.size; omega) ?_
            intro v1 V1 own3 g1 at1
            rw [Nat.zero_add, List.nil_append] at own3
            obtain ⟨p3, c3, rfl⟩ := FiF.own_formF own3
            have bx := bx.grown g1 (fun e => by injection e with e; (try dsimp only at hne); (try dsimp only at e); omega)
            have hK := hK.grown g1 (fun b hb => .inr (by have := (own0.lt b hb).1; omega))
            have hq := hq.grown g1 (fun e => by have := (own0.lt _ e.symm).1; omega)
            have hr := hr.grown g1 (fun e => by have := (own0.lt _ e.symm).1; omega)
            have hB := Nat.le_trans hB g1.size
            have hX := hX.grown g1 (fun e => by have := (own0.lt _ e.symm).1; omega)
            clear own0
            have hcell : _ = some (Value.slice a ws.length c) := hq.cell 3
            have hfro := hq.frozen
            have hz := hK.size
            refine hK'.out _ _ (hX) (fun hHeld' => ?_)
            clear hK' K hHeld
            have hHeld := hHeld'
            clear hHeld'
            try simp only [Act.put]
            try simp only [Act.put, List.setIfInBounds_toArray, List.set_cons_zero, List.set_cons_succ]
            refine wpAnyH_ready (rs := [6]) (by kernel_rfl) (by simp) ?_
            refine' (AllReadyH.cons (o := _) ?hoN126 (fun K hK' => ?stN126) AllReadyH.nil)
            case hoN126 => (simp only [List.getElem?_toArray, List.getElem?_cons_succ, List.getElem?_cons_zero]; rfl)
            case stN126 =>
              rw [if_pos (by rfl)]
              refine wp_append_any _ (.tmp 27) (.tmp 29) 43 rfl (w1.heap.size + 1) 65 i0 _ 3 32 Try.underlying43 HI.out.1 HI.out.2.1 HI.out.2.2.1 HI.out.2.2.2 rfl (by decide) _ _ _ rfl own3 _ _ 1 1 (FiF.cs X) rfl (reads_blk3 bx) (FiF.cs_all _) (by simp only [maxLen]; omega) (by omega) (by have := hK.size; omega) ?_
              intro v1 V1 own6 g1 at1
              obtain ⟨p6, c6, rfl⟩ := FiF.own_formF own6
              have hK := hK.grown g1 (fun b hb => .inr (by have := (own3.lt b hb).1; omega))
              have hq := hq.grown g1 (fun e => by have := (own3.lt _ e.symm).1; omega)
              have hr := hr.grown g1 (fun e => by have := (own3.lt _ e.symm).1; omega)
              have hB := Nat.le_trans hB g1.size
              have hX := hX.grown g1 (fun e => by have := (own3.lt _ e.symm).1; omega)
              clear own3 bx
              have hcell : _ = some (Value.slice a ws.length c) := hq.cell 3
              have hfro := hq.frozen
              have hz := hK.size
              refine hK'.out _ _ (hX) (fun hHeld' => ?_)
              clear hK' K hHeld
              have hHeld := hHeld'
              clear hHeld'
              try simp only [Act.put]
              try simp only [Act.put, List.setIfInBounds_toArray, List.set_cons_zero, List.set_cons_succ]
              refine' wpAnyH_take (i := 7) (oi := _) (v := _) ?hM127 (by kernel_rfl) (by kernel_rfl) (by kernel_rfl) ?hQM127 (Or.inl ⟨?hwM127, ?hyM127⟩) hHeld ?restM127
              case hM127 => (simp only [List.getElem?_toArray, List.getElem?_cons_succ, List.getElem?_cons_zero]; rfl)
              case hQM127 => exact fun _ _ _ h => h
              case hwM127 => rfl
              case hyM127 => (intro w hSw; (try dsimp only at hSw); go_simp; try with_reducible rfl)
              try simp only [Act.put, List.setIfInBounds_toArray, List.set_cons_zero, List.set_cons_succ]
              refine wpAnyH_ready (rs := [8]) (by kernel_rfl) (by simp) ?_
              refine' (AllReadyH.cons (o := _) ?hoN138 (fun K hK' => ?stN138) AllReadyH.nil)
              case hoN138 => (simp only [List.getElem?_toArray, List.getElem?_cons_succ, List.getElem?_cons_zero]; rfl)
              case stN138 =>
                go_simp
                refine hK'.out _ _ (hX.far (p := ⟨_, 3, none⟩) (by show w1.heap.size ≠ w.heap.size; omega) _) (fun hHeld' => ?_)
                clear hK' K hHeld
                have hHeld := hHeld'
                clear hHeld'
                try simp only [Act.put]
                try simp only [Act.put, List.setIfInBounds_toArray, List.set_cons_zero, List.set_cons_succ]
                refine wpAnyH_done (by kernel_rfl) ?_ _
                clear hHeld
                go_wp2_with fail
                go_meet
                case rel => exact ⟨p6, c6, rfl, by simpa [World.setCell] using hB, ownsRow_setCell own6 _ _ (own_blk_ne own6 hq (by decide)), hq.set_ 3 _, hr.far (by show w.heap.size + 1 ≠ w.heap.size; omega) _, hK.setCell (p := ⟨w.heap.size, 3, none⟩) (.inr (Nat.le_refl _)) _⟩
    case stN12 =>
      go_simp
      refine hK'.out _ _ hHeld (fun hHeld' => ?_)
      clear hK' K hHeld
      have hHeld := hHeld'
      clear hHeld'
      try simp only [Act.put]
      try simp only [Act.put, List.setIfInBounds_toArray, List.set_cons_zero, List.set_cons_succ]
      refine wpAnyH_ready (rs := [0, 5]) (by kernel_rfl) (by simp) ?_
      refine' (AllReadyH.cons (o := _) ?hoN140 (fun K hK' => ?stN140) (AllReadyH.cons (o := _) ?hoN145 (fun K hK' => ?stN145) AllReadyH.nil))
      case hoN140 => (simp only [List.getElem?_toArray, List.getElem?_cons_zero]; rfl)
      case hoN145 => (simp only [List.getElem?_toArray, List.getElem?_cons_succ, List.getElem?_cons_zero]; rfl)
      case stN140 =>
        rw [if_pos (by rfl)]
        refine wp_new0 rfl (B := w1.heap.size + 1) (by omega) ?_
        intro V1 own0 k1
        skip
        have hK := hK.trans k1
        have hq := hq.keeps k1 (by simp)
        have hr := hr.keeps k1 (by simp)
        have hB := Nat.le_trans hB k1.size
        have hX := hX.keeps k1 (by simp)
        have hcell : _ = some (Value.slice a ws.length c) := hq.cell 3
        have hfro := hq.frozen
        have hz := hK.size
        refine hK'.out _ _ (hX) (fun hHeld' => ?_)
        clear hK' K hHeld
        have hHeld := hHeld'
        clear hHeld'
        try simp only [Act.put]
        try simp only [Act.put, List.setIfInBounds_toArray, List.set_cons_zero, List.set_cons_succ]
        refine wpAnyH_ready (rs := [3, 5]) (by kernel_rfl) (by simp) ?_
        refine' (AllReadyH.cons (o := _) ?hoN153 (fun K hK' => ?stN153) (AllReadyH.cons (o := _) ?hoN155 (fun K hK' => ?stN155) AllReadyH.nil))
        case hoN153 => (simp only [List.getElem?_toArray, List.getElem?_cons_succ, List.getElem?_cons_zero]; rfl)
        case hoN155 => (simp only [List.getElem?_toArray, List.getElem?_cons_succ, List.getElem?_cons_zero]; rfl)
        case stN153 =>
          rw [if_pos (by rfl)]
          refine wp_append_any _ (.tmp 24) (.tmp 26) 43 rfl (w1.heap.size + 1) 65 i0 _ 3 32 Try.underlying43 HI.out.1 HI.out.2.1 HI.out.2.2.1 HI.out.2.2.2 rfl (by decide) _ 0 _ rfl own0 _ _ _ _ _ rfl (HR.out.keeps hK (by simp)).reads (FiF.flt_all _) (by simp only [maxLen]; omega) (by omega) (by have := hK.size; omega) ?_
          intro v1 V1 own3 g1 at1
          rw [Nat.zero_add, List.nil_append] at own3
          obtain ⟨p3, c3, rfl⟩ := FiF.own_formF own3
          have hK := hK.grown g1 (fun b hb => .inr (by have := (own0.lt b hb).1; omega))
          have hq := hq.grown g1 (fun e => by have := (own0.lt _ e.symm).1; omega)
          have hr := hr.grown g1 (fun e => by have := (own0.lt _ e.symm).1; omega)
          have hB := Nat.le_trans hB g1.size
          have hX := hX.grown g1 (fun e => by have := (own0.lt _ e.symm).1; omega)
          clear own0
          have hcell : _ = some (Value.slice a ws.length c) := hq.cell 3
          have hfro := hq.frozen
          have hz := hK.size
          refine hK'.out _ _ (hX) (fun hHeld' => ?_)
          clear hK' K hHeld
          have hHeld := hHeld'
          clear hHeld'
          try simp only [Act.put]
          try simp only [Act.put, List.setIfInBounds_toArray, List.set_cons_zero, List.set_cons_succ]
          refine wpAnyH_ready (rs := [5]) (by kernel_rfl) (by simp) ?_
          refine' (AllReadyH.cons (o := _) ?hoN165 (fun K hK' => ?stN165) AllReadyH.nil)
          case hoN165 => (simp only [List.getElem?_toArray, List.getElem?_cons_succ, List.getElem?_cons_zero]; rfl)
          case stN165 =>
            rw [if_pos (by rfl)]
            refine wp_new1 X rfl rfl ?_
            intro V1 bx k1
            skip
            have own3 := ownsRow_keeps own3 k1 (by simp)
            have hK := hK.trans k1
            have hq := hq.keeps k1 (by simp)
            have hr := hr.keeps k1 (by simp)
            have hB := Nat.le_trans hB k1.size
            have hX := hX.keeps k1 (by simp)
            have hcell : _ = some (Value.slice a ws.length c) := hq.cell 3
            have hfro := hq.frozen
            have hz := hK.size
            refine hK'.out _ _ (hX) (fun hHeld' => ?_)
            clear hK' K hHeld
            have hHeld := hHeld'
            clear hHeld'
            try simp only [Act.put]
            try simp only [Act.put, List.setIfInBounds_toArray, List.set_cons_zero, List.set_cons_succ]
            refine wpAnyH_ready (rs := [6]) (by kernel_rfl) (by simp) ?_
            refine' (AllReadyH.cons (o := _) ?hoN176 (fun K hK' => ?stN176) AllReadyH.nil)
            case hoN176 => (simp only [List.getElem?_toArray, List.getElem?_cons_succ, List.getElem?_cons_zero]; rfl)
            case stN176 =>
              rw [if_pos (by rfl)]
              refine wp_append_any _ (.tmp 27) (.tmp 29) 43 rfl (w1.heap.size + 1) 65 i0 _ 3 32 Try.underlying43 HI.out.1 HI.out.2.1 HI.out.2.2.1 HI.out.2.2.2 rfl (by decide) _ _ _ rfl own3 _ _ 1 1 (FiF.cs X) rfl (reads_blk3 bx) (FiF.cs_all _) (by simp only [maxLen]; omega) (by omega) (by have := hK.size; omega) ?_
              intro v1 V1 own6 g1 at1
              obtain ⟨p6, c6, rfl⟩ := FiF.own_formF own6
              have hK := hK.grown g1 (fun b hb => .inr (by have := (own3.lt b hb).1; omega))
              have hq := hq.grown g1 (fun e => by have := (own3.lt _ e.symm).1; omega)
              have hr := hr.grown g1 (fun e => by have := (own3.lt _ e.symm).1; omega)
              have hB := Nat.le_trans hB g1.size
              have hX := hX.grown g1 (fun e => by have := (own3.lt _ e.symm).1; omega)
              clear own3 bx
              have hcell : _ = some (Value.slice a ws.length c) := hq.cell 3
              have hfro := hq.frozen
              have hz := hK.size
              refine hK'.out _ _ (hX) (fun hHeld' => ?_)
              clear hK' K hHeld
              have hHeld := hHeld'
              clear hHeld'
              try simp only [Act.put]
              try simp only [Act.put, List.setIfInBounds_toArray, List.set_cons_zero, List.set_cons_succ]
              refine' wpAnyH_take (i := 7) (oi := _) (v := _) ?hM177 (by kernel_rfl) (by kernel_rfl) (by kernel_rfl) ?hQM177 (Or.inl ⟨?hwM177, ?hyM177⟩) hHeld ?restM177
              case hM177 => (simp only [List.getElem?_toArray, List.getElem?_cons_succ, List.getElem?_cons_zero]; rfl)
              case hQM177 => exact fun _ _ _ h => h
              case hwM177 => rfl
              case hyM177 => (intro w hSw; (try dsimp only at hSw); go_simp; try with_reducible rfl)
              try simp only [Act.put, List.setIfInBounds_toArray, List.set_cons_zero, List.set_cons_succ]
              refine wpAnyH_ready (rs := [8]) (by kernel_rfl) (by simp) ?_
              refine' (AllReadyH.cons (o := _) ?hoN188 (fun K hK' => ?stN188) AllReadyH.nil)
              case hoN188 => (simp only [List.getElem?_toArray, List.getElem?_cons_succ, List.getElem?_cons_zero]; rfl)
              case stN188 =>
                go_simp
                refine hK'.out _ _ (hX.far (p := ⟨_, 3, none⟩) (by show w1.heap.size ≠ w.heap.size; omega) _) (fun hHeld' => ?_)
                clear hK' K hHeld
                have hHeld := hHeld'
                clear hHeld'
                try simp only [Act.put]
                try simp only [Act.put, List.setIfInBounds_toArray, List.set_cons_zero, List.set_cons_succ]
                refine wpAnyH_done (by kernel_rfl) ?_ _
                clear hHeld
                go_wp2_with fail
                go_meet
                case rel => exact ⟨p6, c6, rfl, by simpa [World.setCell] using hB, ownsRow_setCell own6 _ _ (own_blk_ne own6 hq (by decide)), hq.set_ 3 _, hr.far (by show w.heap.size + 1 ≠ w.heap.size; omega) _, hK.setCell (p := ⟨w.heap.size, 3, none⟩) (.inr (Nat.le_refl _)) _⟩
        case stN155 =>
          rw [if_pos (by rfl)]
          refine wp_new1 X rfl rfl ?_
          intro V1 bx k1
          have hne : _ := Nat.ne_of_lt (own0.lt _ rfl).2
          have own0 := ownsRow_keeps own0 k1 (by simp)
          have hK := hK.trans k1
          have hq := hq.keeps k1 (by simp)
          have hr := hr.keeps k1 (by simp)
          have hB := Nat.le_trans hB k1.size
          have hX := hX.keeps k1 (by simp)
          have hcell : _ = some (Value.slice a ws.length c) := hq.cell 3
          have hfro := hq.frozen
          have hz := hK.size
          refine hK'.out _ _ (hX) (fun hHeld' => ?_)
          clear hK' K hHeld
          have hHeld := hHeld'
          clear hHeld'
          try simp only [Act.put]
          try simp only [Act.put, List.setIfInBounds_toArray, List.set_cons_zero, List.set_cons_succ]
          refine wpAnyH_ready (rs := [3]) (by kernel_rfl) (by simp) ?_
          refine' (AllReadyH.cons (o := _) ?hoN193 (fun K hK' => ?stN193) AllReadyH.nil)
          case hoN193 => (simp only [List.getElem?_toArray, List.getElem?_cons_succ, List.getElem?_cons_zero]; rfl)
          case stN193 =>
            rw [if_pos (by rfl)]
            refine wp_append_any _ (.tmp 24) (.tmp 26) 43 rfl (w1.heap.size + 1) 65 i0 _ 3 32 Try.underlying43 HI.out.1 HI.out.2.1 HI.out.2.2.1 HI.out.2.2.2 rfl (by decide) _ 0 _ rfl own0 _ _ _ _ _ rfl (HR.out.keeps hK (by simp)).reads (FiF.flt_all _) (by simp only [maxLen]; omega) (by omega) (by have := hK.size; omega) ?_
            intro v1 V1 own3 g1 at1
            rw [Nat.zero_add, List.nil_append] at own3
            obtain ⟨p3, c3, rfl⟩ := FiF.own_formF own3
            have bx := bx.grown g1 (fun e => by injection e with e; (try dsimp only at hne); (try dsimp only at e); omega)
            have hK := hK.grown g1 (fun b hb => .inr (by have := (own0.lt b hb).1; omega))
            have hq := hq.grown g1 (fun e => by have := (own0.lt _ e.symm).1; omega)
            have hr := hr.grown g1 (fun e => by have := (own0.lt _ e.symm).1; omega)
            have hB := Nat.le_trans hB g1.size
            have hX := hX.grown g1 (fun e => by have := (own0.lt _ e.symm).1; omega)
            clear own0
            have hcell : _ = some (Value.slice a ws.length c) := hq.cell 3
            have hfro := hq.frozen
            have hz := hK.size
            refine hK'.out _ _ (hX) (fun hHeld' => ?_)
            clear hK' K hHeld
            have hHeld := hHeld'
            clear hHeld'
            try simp only [Act.put]
            try simp only [Act.put, List.setIfInBounds_toArray, List.set_cons_zero, List.set_cons_succ]
            refine wpAnyH_ready (rs := [6]) (by kernel_rfl) (by simp) ?_
            refine' (AllReadyH.cons (o := _) ?hoN206 (fun K hK' => ?stN206) AllReadyH.nil)
            case hoN206 => (simp only [List.getElem?_toArray, List.getElem?_cons_succ, List.getElem?_cons_zero]; rfl)
            case stN206 =>
              rw [if_pos (by rfl)]
              refine wp_append_any _ (.tmp 27) (.tmp 29) 43 rfl (w1.heap.size + 1) 65 i0 _ 3 32 Try.underlying43 HI.out.1 HI.out.2.1 HI.out.2.2.1 HI.out.2.2.2 rfl (by decide) _ _ _ rfl own3 _ _ 1 1 (FiF.cs X) rfl (reads_blk3 bx) (FiF.cs_all _) (by simp only [maxLen]; omega) (by omega) (by have := hK.size; omega) ?_
              intro v1 V1 own6 g1 at1
              obtain ⟨p6, c6, rfl⟩ := FiF.own_formF own6
              have hK := hK.grown g1 (fun b hb => .inr (by have := (own3.lt b hb).1; omega))
              have hq := hq.grown g1 (fun e => by have := (own3.lt _ e.symm).1; omega)
              have hr := hr.grown g1 (fun e => by have := (own3.lt _ e.symm).1; omega)
              have hB := Nat.le_trans hB g1.size
              have hX := hX.grown g1 (fun e => by have := (own3.lt _ e.symm).1; omega)
              clear own3 bx
              have hcell : _ = some (Value.slice a ws.length c) := hq.cell 3
              have hfro := hq.frozen
              have hz := hK.size
              refine hK'.out _ _ (hX) (fun hHeld' => ?_)
              clear hK' K hHeld
              have hHeld := hHeld'
              clear hHeld'
              try simp only [Act.put]
              try simp only [Act.put, List.setIfInBounds_toArray, List.set_cons_zero, List.set_cons_succ]
              refine' wpAnyH_take (i := 7) (oi := _) (v := _) ?hM207 (by kernel_rfl) (by kernel_rfl) (by kernel_rfl) ?hQM207 (Or.inl ⟨?hwM207, ?hyM207⟩) hHeld ?restM207
              case hM207 => (simp only [List.getElem?_toArray, List.getElem?_cons_succ, List.getElem?_cons_zero]; rfl)
              case hQM207 => exact fun _ _ _ h => h
              case hwM207 => rfl
              case hyM207 => (intro w hSw; (try dsimp only at hSw); go_simp; try with_reducible rfl)
              try simp only [Act.put, List.setIfInBounds_toArray, List.set_cons_zero, List.set_cons_succ]
              refine wpAnyH_ready (rs := [8]) (by kernel_rfl) (by simp) ?_
              refine' (AllReadyH.cons (o := _) ?hoN218 (fun K hK' => ?stN218) AllReadyH.nil)
              case hoN218 => (simp only [List.getElem?_toArray, List.getElem?_cons_succ, List.getElem?_cons_zero]; rfl)
              case stN218 =>
                go_simp
                refine hK'.out _ _ (hX.far (p := ⟨_, 3, none⟩) (by show w1.heap.size ≠ w.heap.size; omega) _) (fun hHeld' => ?_)
                clear hK' K hHeld
                have hHeld := hHeld'
                clear hHeld'
                try simp only [Act.put]
                try simp only [Act.put, List.setIfInBounds_toArray, List.set_cons_zero, List.set_cons_succ]
                refine wpAnyH_done (by kernel_rfl) ?_ _
                clear hHeld
                go_wp2_with fail
                go_meet
                case rel => exact ⟨p6, c6, rfl, by simpa [World.setCell] using hB, ownsRow_setCell own6 _ _ (own_blk_ne own6 hq (by decide)), hq.set_ 3 _, hr.far (by show w.heap.size + 1 ≠ w.heap.size; omega) _, hK.setCell (p := ⟨w.heap.size, 3, none⟩) (.inr (Nat.le_refl _)) _⟩
      case stN145 =>
        rw [if_pos (by rfl)]
        refine wp_new1 X rfl rfl ?_
        intro V1 bx k1
        skip
        have hK := hK.trans k1
        have hq := hq.keeps k1 (by simp)
        have hr := hr.keeps k1 (by simp)
        have hB := Nat.le_trans hB k1.size
        have hX := hX.keeps k1 (by simp)
        have hcell : _ = some (Value.slice a ws.length c) := hq.cell 3
        have hfro := hq.frozen
        have hz := hK.size
        refine hK'.out _ _ (hX) (fun hHeld' => ?_)
        clear hK' K hHeld
        have hHeld := hHeld'
        clear hHeld'
        try simp only [Act.put]
        try simp only [Act.put, List.setIfInBounds_toArray, List.set_cons_zero, List.set_cons_succ]
        refine wpAnyH_ready (rs := [0]) (by kernel_rfl) (by simp) ?_
        refine' (AllReadyH.cons (o := _) ?hoN220 (fun K hK' => ?stN220) AllReadyH.nil)
        case hoN220 => (simp only [List.getElem?_toArray, List.getElem?_cons_zero]; rfl)
        case stN220 =>
          rw [if_pos (by rfl)]
          refine wp_new0 rfl (B := w1.heap.size + 1) (by omega) ?_
          intro V1 own0 k1
          have hne : _ := Nat.ne_of_gt bx.lt
          have bx := bx.keeps k1 (by simp)
          have hK := hK.trans k1
          have hq := hq.keeps k1 (by simp)
          have hr := hr.keeps k1 (by simp)
          have hB := Nat.le_trans hB k1.size
          have hX := hX.keeps k1 (by simp)
          have hcell : _ = some (Value.slice a ws.length c) := hq.cell 3
          have hfro := hq.frozen
          have hz := hK.size
          refine hK'.out _ _ (hX) (fun hHeld' => ?_)
          clear hK' K hHeld
          have hHeld := hHeld'
          clear hHeld'
          try simp only [Act.put]
          try simp only [Act.put, List.setIfInBounds_toArray, List.set_cons_zero, List.set_cons_succ]
          refine wpAnyH_ready (rs := [3]) (by kernel_rfl) (by simp) ?_
          refine' (AllReadyH.cons (o := _) ?hoN233 (fun K hK' => ?stN233) AllReadyH.nil)
          case hoN233 => (simp only [List.getElem?_toArray, List.getElem?_cons_succ, List.getElem?_cons_zero]; rfl)
          case stN233 =>
            rw [if_pos (by rfl)]
            refine wp_append_any _ (.tmp 24) (.tmp 26) 43 rfl (w1.heap.size + 1) 65 i0 _ 3 32 Try.underlying43 HI.out.1 HI.out.2.1 HI.out.2.2.1 HI.out.2.2.2 rfl (by decide) _ 0 _ rfl own0 _ _ _ _ _ rfl (HR.out.keeps hK (by simp)).reads (FiF.flt_all _) (by simp only [maxLen]; omega) (by omega) (by have := hK.size; omega) ?_
            intro v1 V1 own3 g1 at1
            rw [Nat.zero_add, List.nil_append] at own3
            obtain ⟨p3, c3, rfl⟩ := FiF.own_formF own3
            have bx := bx.grown g1 (fun e => by injection e with e; (try dsimp only at hne); (try dsimp only at e); omega)
            have hK := hK.grown g1 (fun b hb => .inr (by have := (own0.lt b hb).1; omega))
            have hq := hq.grown g1 (fun e => by have := (own0.lt _ e.symm).1; omega)
            have hr := hr.grown g1 (fun e => by have := (own0.lt _ e.symm).1; omega)
            have hB := Nat.le_trans hB g1.size
            have hX := hX.grown g1 (fun e => by have := (own0.lt _ e.symm).1; omega)
            clear own0
            have hcell : _ = some (Value.slice a ws.length c) := hq.cell 3
            have hfro := hq.frozen
            have hz := hK.size
            refine hK'.out _ _ (hX) (fun hHeld' => ?_)
            clear hK' K hHeld
            have hHeld := hHeld'
            clear hHeld'
            try simp only [Act.put]
            try simp only [Act.put, List.setIfInBounds_toArray, List.set_cons_zero, List.set_cons_succ]
            refine wpAnyH_ready (rs := [6]) (by kernel_rfl) (by simp) ?_
            refine' (AllReadyH.cons (o := _) ?hoN246 (fun K hK' => ?stN246) AllReadyH.nil)
            case hoN246 => (simp only [List.getElem?_toArray, List.getElem?_cons_succ, List.getElem?_cons_zero]; rfl)
            case stN246 =>
              rw [if_pos (by rfl)]
              refine wp_append_any _ (.tmp 27) (.tmp 29) 43 rfl (w1.heap.size + 1) 65 i0 _ 3 32 Try.underlying43 HI.out.1 HI.out.2.1 HI.out.2.2.1 HI.out.2.2.2 rfl (by decide) _ _ _ rfl own3 _ _ 1 1 (FiF.cs X) rfl (reads_blk3 bx) (FiF.cs_all _) (by simp only [maxLen]; omega) (by omega) (by have := hK.size; omega) ?_
              intro v1 V1 own6 g1 at1
              obtain ⟨p6, c6, rfl⟩ := FiF.own_formF own6
              have hK := hK.grown g1 (fun b hb => .inr (by have := (own3.lt b hb).1; omega))
              have hq := hq.grown g1 (fun e => by have := (own3.lt _ e.symm).1; omega)
              have hr := hr.grown g1 (fun e => by have := (own3.lt _ e.symm).1; omega)
              have hB := Nat.le_trans hB g1.size
              have hX := hX.grown g1 (fun e => by have := (own3.lt _ e.symm).1; omega)
              clear own3 bx
              have hcell : _ = some (Value.slice a ws.length c) := hq.cell 3
              have hfro := hq.frozen
              have hz := hK.size
              refine hK'.out _ _ (hX) (fun hHeld' => ?_)
              clear hK' K hHeld
              have hHeld := hHeld'
              clear hHeld'
              try simp only [Act.put]
              try simp only [Act.put, List.setIfInBounds_toArray, List.set_cons_zero, List.set_cons_succ]
              refine' wpAnyH_take (i := 7) (oi := _) (v := _) ?hM247 (by kernel_rfl) (by kernel_rfl) (by kernel_rfl) ?hQM247 (Or.inl ⟨?hwM247, ?hyM247⟩) hHeld ?restM247
              case hM247 => (simp only [List.getElem?_toArray, List.getElem?_cons_succ, List.getElem?_cons_zero]; rfl)
              case hQM247 => exact fun _ _ _ h => h
              case hwM247 => rfl
              case hyM247 => (intro w hSw; (try dsimp only at hSw); go_simp; try with_reducible rfl)
              try simp only [Act.put, List.setIfInBounds_toArray, List.set_cons_zero, List.set_cons_succ]
              refine wpAnyH_ready (rs := [8]) (by kernel_rfl) (by simp) ?_
              refine' (AllReadyH.cons (o := _) ?hoN258 (fun K hK' => ?stN258) AllReadyH.nil)
              case hoN258 => (simp only [List.getElem?_toArray, List.getElem?_cons_succ, List.getElem?_cons_zero]; rfl)
              case stN258 =>
                go_simp
                refine hK'.out _ _ (hX.far (p := ⟨_, 3, none⟩) (by show w1.heap.size ≠ w.heap.size; omega) _) (fun hHeld' => ?_)
                clear hK' K hHeld
                have hHeld := hHeld'
                clear hHeld'
                try simp only [Act.put]
                try simp only [Act.put, List.setIfInBounds_toArray, List.set_cons_zero, List.set_cons_succ]
                refine wpAnyH_done (by kernel_rfl) ?_ _
                clear hHeld
                go_wp2_with fail
                go_meet
                case rel => exact ⟨p6, c6, rfl, by simpa [World.setCell] using hB, ownsRow_setCell own6 _ _ (own_blk_ne own6 hq (by decide)), hq.set_ 3 _, hr.far (by show w.heap.size + 1 ≠ w.heap.size; omega) _, hK.setCell (p := ⟨w.heap.size, 3, none⟩) (.inr (Nat.le_refl _)) _⟩
    case stN15 =>
      rw [if_pos (by rfl)]
      refine wp_new1 X rfl rfl ?_
      intro V1 bx k1
      skip
      have hK := hK.trans k1
      have hq := hq.keeps k1 (by simp)
      have hr := hr.keeps k1 (by simp)
      have hB := Nat.le_trans hB k1.size
      have hX := hX.keeps k1 (by simp)
      have hcell : _ = some (Value.slice a ws.length c) := hq.cell 3
      have hfro := hq.frozen
      have hz := hK.size
      refine hK'.out _ _ (hX) (fun hHeld' => ?_)
      clear hK' K hHeld
      have hHeld := hHeld'
      clear hHeld'
      try simp only [Act.put]
      try simp only [Act.put, List.setIfInBounds_toArray, List.set_cons_zero, List.set_cons_succ]
      refine wpAnyH_ready (rs := [0, 2]) (by kernel_rfl) (by simp) ?_
      refine' (AllReadyH.cons (o := _) ?hoN260 (fun K hK' => ?stN260) (AllReadyH.cons (o := _) ?hoN262 (fun K hK' => ?stN262) AllReadyH.nil))
      case hoN260 => (simp only [List.getElem?_toArray, List.getElem?_cons_zero]; rfl)
      case hoN262 => (simp only [List.getElem?_toArray, List.getElem?_cons_succ, List.getElem?_cons_zero]; rfl)
      case stN260 =>
        rw [if_pos (by rfl)]
        refine wp_new0 rfl (B := w1.heap.size + 1) (by omega) ?_
        intro V1 own0 k1
        have hne : _ := Nat.ne_of_gt bx.lt
        have bx := bx.keeps k1 (by simp)
        have hK := hK.trans k1
        have hq := hq.keeps k1 (by simp)
        have hr := hr.keeps k1 (by simp)
        have hB := Nat.le_trans hB k1.size
        have hX := hX.keeps k1 (by simp)
        have hcell : _ = some (Value.slice a ws.length c) := hq.cell 3
        have hfro := hq.frozen
        have hz := hK.size
        refine hK'.out _ _ (hX) (fun hHeld' => ?_)
        clear hK' K hHeld
        have hHeld := hHeld'
        clear hHeld'
        try simp only [Act.put]
        try simp only [Act.put, List.setIfInBounds_toArray, List.set_cons_zero, List.set_cons_succ]
        refine wpAnyH_ready (rs := [2]) (by kernel_rfl) (by simp) ?_
        refine' (AllReadyH.cons (o := _) ?hoN272 (fun K hK' => ?stN272) AllReadyH.nil)
        case hoN272 => (simp only [List.getElem?_toArray, List.getElem?_cons_succ, List.getElem?_cons_zero]; rfl)
        case stN272 =>
          go_simp
          refine hK'.out _ _ hHeld (fun hHeld' => ?_)
          clear hK' K hHeld
          have hHeld := hHeld'
          clear hHeld'
          try simp only [Act.put]
          try simp only [Act.put, List.setIfInBounds_toArray, List.set_cons_zero, List.set_cons_succ]
          refine wpAnyH_ready (rs := [3]) (by kernel_rfl) (by simp) ?_
          refine' (AllReadyH.cons (o := _) ?hoN283 (fun K hK' => ?stN283) AllReadyH.nil)
          case hoN283 => (simp only [List.getElem?_toArray, List.getElem?_cons_succ, List.getElem?_cons_zero]; rfl)
          case stN283 =>
            rw [if_pos (by rfl)]
            refine wp_append_any _ (.tmp 24) (.tmp 26) 43 rfl (w1.heap.size + 1) 65 i0 _ 3 32 Try.underlying43 HI.out.1 HI.out.2.1 HI.out.2.2.1 HI.out.2.2.2 rfl (by decide) _ 0 _ rfl own0 _ _ _ _ _ rfl (HR.out.keeps hK (by simp)).reads (FiF.flt_all _) (by simp only [maxLen]; omega) (by omega) (by have := hK.size; omega) ?_
            intro v1 V1 own3 g1 at1
            rw [Nat.zero_add, List.nil_append] at own3
            obtain ⟨p3, c3, rfl⟩ := FiF.own_formF own3
            have bx := bx.grown g1 (fun e => by injection e with e; (try dsimp only at hne); (try dsimp only at e); omega)
            have hK := hK.grown g1 (fun b hb => .inr (by have := (own0.lt b hb).1; omega))
            have hq := hq.grown g1 (fun e => by have := (own0.lt _ e.symm).1; omega)
            have hr := hr.grown g1 (fun e => by have := (own0.lt _ e.symm).1; omega)
            have hB := Nat.le_trans hB g1.size
            have hX := hX.grown g1 (fun e => by have := (own0.lt _ e.symm).1; omega)
            clear own0
            have hcell : _ = some (Value.slice a ws.length c) := hq.cell 3
            have hfro := hq.frozen
            have hz := hK.size
            refine hK'.out _ _ (hX) (fun hHeld' => ?_)
            clear hK' K hHeld
            have hHeld := hHeld'
            clear hHeld'
            try simp only [Act.put]
            try simp only [Act.put, List.setIfInBounds_toArray, List.set_cons_zero, List.set_cons_succ]
            refine wpAnyH_ready (rs := [6]) (by kernel_rfl) (by simp) ?_
            refine' (AllReadyH.cons (o := _) ?hoN296 (fun K hK' => ?stN296) AllReadyH.nil)
            case hoN296 => (simp only [List.getElem?_toArray, List.getElem?_cons_succ, List.getElem?_cons_zero]; rfl)
            case stN296 =>
              rw [if_pos (by rfl)]
              refine wp_append_any _ (.tmp 27) (.tmp 29) 43 rfl (w1.heap.size + 1) 65 i0 _ 3 32 Try.underlying43 HI.out.1 HI.out.2.1 HI.out.2.2.1 HI.out.2.2.2 rfl (by decide) _ _ _ rfl own3 _ _ 1 1 (FiF.cs X) rfl (reads_blk3 bx) (FiF.cs_all _) (by simp only [maxLen]; omega) (by omega) (by have := hK.size; omega) ?_
              intro v1 V1 own6 g1 at1
              obtain ⟨p6, c6, rfl⟩ := FiF.own_formF own6
              have hK := hK.grown g1 (fun b hb => .inr (by have := (own3.lt b hb).1; omega))
              have hq := hq.grown g1 (fun e => by have := (own3.lt _ e.symm).1; omega)
              have hr := hr.grown g1 (fun e => by have := (own3.lt _ e.symm).1; omega)
              have hB := Nat.le_trans hB g1.size
              have hX := hX.grown g1 (fun e => by have := (own3.lt _ e.symm).1; omega)
              clear own3 bx
              have hcell : _ = some (Value.slice a ws.length c) := hq.cell 3
              have hfro := hq.frozen
              have hz := hK.size
              refine hK'.out _ _ (hX) (fun hHeld' => ?_)
              clear hK' K hHeld
              have hHeld := hHeld'
              clear hHeld'
              try simp only [Act.put]
              try simp only [Act.put, List.setIfInBounds_toArray, List.set_cons_zero, List.set_cons_succ]
              refine' wpAnyH_take (i := 7) (oi := _) (v := _) ?hM297 (by kernel_rfl) (by kernel_rfl) (by kernel_rfl) ?hQM297 (Or.inl ⟨?hwM297, ?hyM297⟩) hHeld ?restM297
              case hM297 => (simp only [List.getElem?_toArray, List.getElem?_cons_succ, List.getElem?_cons_zero]; rfl)
              case hQM297 => exact fun _ _ _ h => h
              case hwM297 => rfl
              case hyM297 => (intro w hSw; (try dsimp only at hSw); go_simp; try with_reducible rfl)
              try simp only [Act.put, List.setIfInBounds_toArray, List.set_cons_zero, List.set_cons_succ]
              refine wpAnyH_ready (rs := [8]) (by kernel_rfl) (by simp) ?_
              refine' (AllReadyH.cons (o := _) ?hoN308 (fun K hK' => ?stN308) AllReadyH.nil)
              case hoN308 => (simp only [List.getElem?_toArray, List.getElem?_cons_succ, List.getElem?_cons_zero]; rfl)
              case stN308 =>
                go_simp
                refine hK'.out _ _ (hX.far (p := ⟨_, 3, none⟩) (by show w1.heap.size ≠ w.heap.size; omega) _) (fun hHeld' => ?_)
                clear hK' K hHeld
                have hHeld := hHeld'
                clear hHeld'
                try simp only [Act.put]
                try simp only [Act.put, List.setIfInBounds_toArray, List.set_cons_zero, List.set_cons_succ]
                refine wpAnyH_done (by kernel_rfl) ?_ _
                clear hHeld
                go_wp2_with fail
                go_meet
                case rel => exact ⟨p6, c6, rfl, by simpa [World.setCell] using hB, ownsRow_setCell own6 _ _ (own_blk_ne own6 hq (by decide)), hq.set_ 3 _, hr.far (by show w.heap.size + 1 ≠ w.heap.size; omega) _, hK.setCell (p := ⟨w.heap.size, 3, none⟩) (.inr (Nat.le_refl _)) _⟩
      case stN262 =>
        go_simp
        refine hK'.out _ _ hHeld (fun hHeld' => ?_)
        clear hK' K hHeld
        have hHeld := hHeld'
        clear hHeld'
        try simp only [Act.put]
        try simp only [Act.put, List.setIfInBounds_toArray, List.set_cons_zero, List.set_cons_succ]
        refine wpAnyH_ready (rs := [0]) (by kernel_rfl) (by simp) ?_
        refine' (AllReadyH.cons (o := _) ?hoN310 (fun K hK' => ?stN310) AllReadyH.nil)
        case hoN310 => (simp only [List.getElem?_toArray, List.getElem?_cons_zero]; rfl)
        case stN310 =>
          rw [if_pos (by rfl)]
          refine wp_new0 rfl (B := w1.heap.size + 1) (by omega) ?_
          intro V1 own0 k1
          have hne : _ := Nat.ne_of_gt bx.lt
          have bx := bx.keeps k1 (by simp)
          have hK := hK.trans k1
          have hq := hq.keeps k1 (by simp)
          have hr := hr.keeps k1 (by simp)
          have hB := Nat.le_trans hB k1.size
          have hX := hX.keeps k1 (by simp)
          have hcell : _ = some (Value.slice a ws.length c) := hq.cell 3
          have hfro := hq.frozen
          have hz := hK.size
          refine hK'.out _ _ (hX) (fun hHeld' => ?_)
          clear hK' K hHeld
          have hHeld := hHeld'
          clear hHeld'
          try simp only [Act.put]
          try simp only [Act.put, List.setIfInBounds_toArray, List.set_cons_zero, List.set_cons_succ]
          refine wpAnyH_ready (rs := [3]) (by kernel_rfl) (by simp) ?_
          refine' (AllReadyH.cons (o := _) ?hoN323 (fun K hK' => ?stN323) AllReadyH.nil)
          case hoN323 => (simp only [List.getElem?_toArray, List.getElem?_cons_succ, List.getElem?_cons_zero]; rfl)
          case stN323 =>
            rw [if_pos (by rfl)]
            refine wp_append_any _ (.tmp 24) (.tmp 26) 43 rfl (w1.heap.size + 1) 65 i0 _ 3 32 Try.underlying43 HI.out.1 HI.out.2.1 HI.out.2.2.1 HI.out.2.2.2 rfl (by decide) _ 0 _ rfl own0 _ _ _ _ _ rfl (HR.out.keeps hK (by simp)).reads (FiF.flt_all _) (by simp only [maxLen]; omega) (by omega) (by have := hK.size; omega) ?_
            intro v1 V1 own3 g1 at1
            rw [Nat.zero_add, List.nil_append] at own3
            obtain ⟨p3, c3, rfl⟩ := FiF.own_formF own3
            have bx := bx.grown g1 (fun e => by injection e with e; (try dsimp only at hne); (try dsimp only at e); omega)
            have hK := hK.grown g1 (fun b hb => .inr (by have := (own0.lt b hb).1; omega))
            have hq := hq.grown g1 (fun e => by have := (own0.lt _ e.symm).1; omega)
            have hr := hr.grown g1 (fun e => by have := (own0.lt _ e.symm).1; omega)
            have hB := Nat.le_trans hB g1.size
            have hX := hX.grown g1 (fun e => by have := (own0.lt _ e.symm).1; omega)
            clear own0
            have hcell : _ = some (Value.slice a ws.length c) := hq.cell 3
            have hfro := hq.frozen
            have hz := hK.size
            refine hK'.out _ _ (hX) (fun hHeld' => ?_)
            clear hK' K hHeld
            have hHeld := hHeld'
            clear hHeld'
            try simp only [Act.put]
            try simp only [Act.put, List.setIfInBounds_toArray, List.set_cons_zero, List.set_cons_succ]
            refine wpAnyH_ready (rs := [6]) (by kernel_rfl) (by simp) ?_
            refine' (AllReadyH.cons (o := _) ?hoN336 (fun K hK' => ?stN336) AllReadyH.nil)
            case hoN336 => (simp only [List.getElem?_toArray, List.getElem?_cons_succ, List.getElem?_cons_zero]; rfl)
            case stN336 =>
              rw [if_pos (by rfl)]
              refine wp_append_any _ (.tmp 27) (.tmp 29) 43 rfl (w1.heap.size + 1) 65 i0 _ 3 32 Try.underlying43 HI.out.1 HI.out.2.1 HI.out.2.2.1 HI.out.2.2.2 rfl (by decide) _ _ _ rfl own3 _ _ 1 1 (FiF.cs X) rfl (reads_blk3 bx) (FiF.cs_all _) (by simp only [maxLen]; omega) (by omega) (by have := hK.size; omega) ?_
              intro v1 V1 own6 g1 at1
              obtain ⟨p6, c6, rfl⟩ := FiF.own_formF own6
              have hK := hK.grown g1 (fun b hb => .inr (by have := (own3.lt b hb).1; omega))
              have hq := hq.grown g1 (fun e => by have := (own3.lt _ e.symm).1; omega)
              have hr := hr.grown g1 (fun e => by have := (own3.lt _ e.symm).1; omega)
              have hB := Nat.le_trans hB g1.size
              have hX := hX.grown g1 (fun e => by have := (own3.lt _ e.symm).1; omega)
              clear own3 bx
              have hcell : _ = some (Value.slice a ws.length c) := hq.cell 3
              have hfro := hq.frozen
              have hz := hK.size
              refine hK'.out _ _ (hX) (fun hHeld' => ?_)
              clear hK' K hHeld
              have hHeld := hHeld'
              clear hHeld'
              try simp only [Act.put]
              try simp only [Act.put, List.setIfInBounds_toArray, List.set_cons_zero, List.set_cons_succ]
              refine' wpAnyH_take (i := 7) (oi := _) (v := _) ?hM337 (by kernel_rfl) (by kernel_rfl) (by kernel_rfl) ?hQM337 (Or.inl ⟨?hwM337, ?hyM337⟩) hHeld ?restM337
              case hM337 => (simp only [List.getElem?_toArray, List.getElem?_cons_succ, List.getElem?_cons_zero]; rfl)
              case hQM337 => exact fun _ _ _ h => h
              case hwM337 => rfl
              case hyM337 => (intro w hSw; (try dsimp only at hSw); go_simp; try with_reducible rfl)
              try simp only [Act.put, List.setIfInBounds_toArray, List.set_cons_zero, List.set_cons_succ]
              refine wpAnyH_ready (rs := [8]) (by kernel_rfl) (by simp) ?_
              refine' (AllReadyH.cons (o := _) ?hoN348 (fun K hK' => ?stN348) AllReadyH.nil)
              case hoN348 => (simp only [List.getElem?_toArray, List.getElem?_cons_succ, List.getElem?_cons_zero]; rfl)
              case stN348 =>
                go_simp
                refine hK'.out _ _ (hX.far (p := ⟨_, 3, none⟩) (by show w1.heap.size ≠ w.heap.size; omega) _) (fun hHeld' => ?_)
                clear hK' K hHeld
                have hHeld := hHeld'
                clear hHeld'
                try simp only [Act.put]
                try simp only [Act.put, List.setIfInBounds_toArray, List.set_cons_zero, List.set_cons_succ]
                refine wpAnyH_done (by kernel_rfl) ?_ _
                clear hHeld
                go_wp2_with fail
                go_meet
                case rel => exact ⟨p6, c6, rfl, by simpa [World.setCell] using hB, ownsRow_setCell own6 _ _ (own_blk_ne own6 hq (by decide)), hq.set_ 3 _, hr.far (by show w.heap.size + 1 ≠ w.heap.size; omega) _, hK.setCell (p := ⟨w.heap.size, 3, none⟩) (.inr (Nat.le_refl _)) _⟩
  case rest =>
    obtain ⟨p, c', rfl, hB, hown, hq, hr, hk⟩ := hcut
    have q0 : wc.cell? ⟨w.heap.size, 0, none⟩ = some (.int .i64 ow) := hq.cell 0
    have q1 : wc.cell? ⟨w.heap.size, 1, none⟩ = some (.int .i64 ma) := hq.cell 1
    have q2 : wc.cell? ⟨w.heap.size, 2, none⟩ = some (.int .i64 li) := hq.cell 2
    have q3 : wc.cell? ⟨w.heap.size, 3, none⟩ = some (.slice p (ws.length + 1) c') := hq.cell 3
    have q4 : wc.cell? ⟨w.heap.size, 4, none⟩ = some (.int .i64 dr) := hq.cell 4
    have r0 : wc.cell? ⟨w.heap.size + 1, 0, none⟩ = some (.int .i64 0) := hr.cell 0
    have r1 : wc.cell? ⟨w.heap.size + 1, 1, none⟩ = some (.int .i64 0) := hr.cell 1
    have r2 : wc.cell? ⟨w.heap.size + 1, 2, none⟩ = some (.int .i64 0) := hr.cell 2
    have r3 : wc.cell? ⟨w.heap.size + 1, 3, none⟩ = some (.slice none 0 0) := hr.cell 3
    have r4 : wc.cell? ⟨w.heap.size + 1, 4, none⟩ = some (.int .i64 0) := hr.cell 4
    have hrf := hr.frozen
    have H := Lib.hid (And.intro hown hk)
    clear hown hk hq hr hq1 hr1 hk1
    go_wp2
    refine bodyPost_ret (v := .tuple #[.agg #[.int .i64 ow, .int .i64 ma, .int .i64 li, .slice p (ws.length + 1) c', .int .i64 dr], .bool true]) (by simp [results, Try.results53, go_sem, r0, r1, r2, r3, r4]) rfl ?_
    obtain ⟨hown, hk⟩ := H.out
    have hc' := own_cap hown
    have hl9 : (ws ++ [frS s]).length = ws.length + 1 := by simp
    have hfl : FiF.flt ws ++ FiF.cs X = FiF.flt (ws ++ [frS s]) := by rw [HFR.out, ← HX0.out]; simp [FiF.flt]
    rw [hfl] at hown
    rw [← hl9] at hown hc'
    have hkk := keep5 (w := wc) (w.heap.size + 1) (.int .i64 ow) (.int .i64 ma) (.int .i64 li) (.slice p (ws.length + 1) c') (.int .i64 dr)
    have hRd : Rd wc ((w.heap.size + 1) :: F) p (ws ++ [frS s]).length (FiF.flt (ws ++ [frS s])) := Rd.own hown (by intro z hz; simp only [List.mem_cons] at hz; rcases hz with rfl | hz; omega; have := hF z hz; omega)
    exact ⟨p, c', by rw [hl9], (hRd.keeps hkk (by simp)).more (by intro z hz; exact .inl (by simp [hz])), hc', hk.next hkk (by simp)⟩
theorem keep9 {w : World} (a b c : Nat) (t u v x y z f g h : Value) : Keeps [a, b, c] w (((((((((w.setCell ⟨a, 3, none⟩ t).setCell ⟨b, 0, none⟩ u).setCell ⟨b, 1, none⟩ v).setCell ⟨b, 2, none⟩ x).setCell ⟨b, 3, none⟩ y).setCell ⟨b, 4, none⟩ z).setCell ⟨c, 0, none⟩ f).setCell ⟨c, 1, none⟩ g).setCell ⟨c, 2, none⟩ h).drew :=
  (((((((((((Keeps.refl _ w).setCell (p := ⟨a, 3, none⟩) (by simp) _).setCell (p := ⟨b, 0, none⟩) (by simp) _).setCell (p := ⟨b, 1, none⟩) (by simp) _).setCell (p := ⟨b, 2, none⟩) (by simp) _).setCell (p := ⟨b, 3, none⟩) (by simp) _).setCell (p := ⟨b, 4, none⟩) (by simp) _).setCell (p := ⟨c, 0, none⟩) (by simp) _).setCell (p := ⟨c, 1, none⟩) (by simp) _).setCell (p := ⟨c, 2, none⟩) (by simp) _)).drew
/-- A port and its first frame come back. -/
def IsRT (F : List Nat) (ow ma li : Int) (f : FiF.It) (t : List FiF.It) (dr : Int) (w : World) (e : Ending) (w' : World) : Prop :=
  ∃ a' c', e = .returned (.tuple #[.agg #[.int .i64 ow, .int .i64 ma, .int .i64 li, .slice a' t.length c', .int .i64 dr], .agg #[.int .i64 f.to, .int .i64 f.fr, .string f.data]]) ∧ Rd w' F a' t.length (FiF.flt t) ∧ t.length ≤ c' ∧ Keeps [] w w'
set_option maxRecDepth 100000 in
set_option maxHeartbeats 2000000 in
theorem rtake_one {F : List Nat} {f : FiF.It} (ow ma li dr : Int) (a : Option Addr) (w : World) (h : Rd w F a 1 (FiF.flt [f])) (hF : ∀ b ∈ F, b < w.heap.size) :
    Calls Try.prog 37 #[.agg #[.int .i64 ow, .int .i64 ma, .int .i64 li, .slice a 1 1, .int .i64 dr]] w (IsRT F ow ma li f [] dr w) := by
  obtain ⟨i0, hi0, hz0, hz1, hz2⟩ := info_parts rf_all
  have HI := Lib.hid (And.intro hi0 (And.intro hz0 (And.intro hz1 hz2)))
  clear hi0 hz0 hz1 hz2
  obtain ⟨ab, rfl, hab, x0, x1, x2⟩ := h.head rfl
  have HS := Lib.hid h
  have hka : Keeps [] w (((w.alloc (.cells #[.int .i64 ow, .int .i64 ma, .int .i64 li, .slice (some ⟨ab, 0, none⟩) 1 1, .int .i64 dr] 45)).alloc (.cells #[.int .i64 0, .int .i64 0, .int .i64 0, .slice none 0 0, .int .i64 0] 45)).alloc (.cells #[.int .i64 0, .int .i64 0, .string ⟨#[]⟩] 65)) := (((Keeps.refl [] w).alloc _).alloc _).alloc _
  have y0 := (hka.cell (p := ⟨ab, 0, none⟩) hab (by simp)).trans x0
  have y1 := (hka.cell (p := ⟨ab, 1, none⟩) hab (by simp)).trans x1
  have y2 := (hka.cell (p := ⟨ab, 2, none⟩) hab (by simp)).trans x2
  clear h hka
  obtain ⟨W5, hW5⟩ : ∃ W5, ((((w.alloc (.cells #[.int .i64 ow, .int .i64 ma, .int .i64 li, .slice (some ⟨ab, 0, none⟩) 1 1, .int .i64 dr] 45)).alloc (.cells #[.int .i64 0, .int .i64 0, .int .i64 0, .slice none 0 0, .int .i64 0] 45)).alloc (.cells #[.int .i64 0, .int .i64 0, .string ⟨#[]⟩] 65)).alloc (.cells #[.int .i64 f.to, .int .i64 f.fr, .string f.data] 65)) = W5 := ⟨_, rfl⟩
  have hz5 : W5.heap.size = w.heap.size + 1 + 1 + 1 + 1 := by rw [← hW5]; simp
  have hk5 : Keeps [] w W5 := by rw [← hW5]; exact ((((Keeps.refl [] w).alloc _).alloc _).alloc _).alloc _
  have hq5 : Blk W5 w.heap.size 45 #[.int .i64 ow, .int .i64 ma, .int .i64 li, .slice (some ⟨ab, 0, none⟩) 1 1, .int .i64 dr] := by rw [← hW5]; exact (((Blk.new w _ _).alloc _).alloc _).alloc _
  have hr5 : Blk W5 (w.heap.size + 1) 45 #[.int .i64 0, .int .i64 0, .int .i64 0, .slice none 0 0, .int .i64 0] := by
    rw [← hW5]
    have := ((Blk.new (w.alloc (.cells #[.int .i64 ow, .int .i64 ma, .int .i64 li, .slice (some ⟨ab, 0, none⟩) 1 1, .int .i64 dr] 45)) 45 #[.int .i64 0, .int .i64 0, .int .i64 0, .slice none 0 0, .int .i64 0]).alloc (.cells #[.int .i64 0, .int .i64 0, .string ⟨#[]⟩] 65)).alloc (.cells #[.int .i64 f.to, .int .i64 f.fr, .string f.data] 65)
    simpa using this
  have hs5 : Blk W5 (w.heap.size + 1 + 1) 65 #[.int .i64 0, .int .i64 0, .string ⟨#[]⟩] := by
    rw [← hW5]
    have := (Blk.new ((w.alloc (.cells #[.int .i64 ow, .int .i64 ma, .int .i64 li, .slice (some ⟨ab, 0, none⟩) 1 1, .int .i64 dr] 45)).alloc (.cells #[.int .i64 0, .int .i64 0, .int .i64 0, .slice none 0 0, .int .i64 0] 45)) 65 #[.int .i64 0, .int .i64 0, .string ⟨#[]⟩]).alloc (.cells #[.int .i64 f.to, .int .i64 f.fr, .string f.data] 65)
    simpa using this
  have hf5 : Blk W5 (w.heap.size + 1 + 1 + 1) 65 #[.int .i64 f.to, .int .i64 f.fr, .string f.data] := by
    rw [← hW5]
    have := Blk.new (((w.alloc (.cells #[.int .i64 ow, .int .i64 ma, .int .i64 li, .slice (some ⟨ab, 0, none⟩) 1 1, .int .i64 dr] 45)).alloc (.cells #[.int .i64 0, .int .i64 0, .int .i64 0, .slice none 0 0, .int .i64 0] 45)).alloc (.cells #[.int .i64 0, .int .i64 0, .string ⟨#[]⟩] 65)) 65 #[.int .i64 f.to, .int .i64 f.fr, .string f.data]
    simpa using this
  have HB5 := Lib.hid (And.intro hk5 (And.intro hq5 (And.intro hr5 (And.intro hs5 hf5))))
  have HZ5 := Lib.hid hz5
  have HW5 := Lib.hid hW5
  clear hk5 hq5 hr5 hs5 hf5 hz5 hW5
  have hrd : Reads (W5.alloc (.cells #[] 65)) 0 3 (some ⟨ab, 0, none⟩) 0 (FiF.flt []) := ⟨rfl, fun h => absurd h (by omega)⟩
  have hown0 := FiF.own_emptyF W5 (w.heap.size + 4) (by rw [HZ5.out]; omega) 65 3
  rw [HZ5.out] at hown0
  have hk6 := HB5.out.1.alloc (.cells #[] 65)
  have hq6 := HB5.out.2.1.alloc (.cells #[] 65)
  have hr6 := HB5.out.2.2.1.alloc (.cells #[] 65)
  have hs6 := HB5.out.2.2.2.1.alloc (.cells #[] 65)
  have hf6 := HB5.out.2.2.2.2.alloc (.cells #[] 65)
  have hB6 : w.heap.size + 4 ≤ (W5.alloc (.cells #[] 65)).heap.size := by simp; rw [HZ5.out]; omega
  rw [← HW5.out] at hown0 hk6 hq6 hr6 hs6 hf6 hrd hB6
  have e3 := hq6.cell 3
  have e3 : _ = some (Value.slice (some ⟨ab, 0, none⟩) 1 1) := e3
  go_enter Try.func37, Try.ntmps37
  go_wp2_with (at_builtin; refine wpList_append_any _ rfl (.tmp 9) (.tmp 12) 43 rfl (w.heap.size + 4) 65 i0 _ 3 32 Try.underlying43 HI.out.1 HI.out.2.1 HI.out.2.2.1 HI.out.2.2.2 rfl (by decide) _ 0 _ rfl hown0 _ (some ⟨ab, 0, none⟩) 0 0 (FiF.flt ([] : List FiF.It)) rfl hrd (FiF.flt_all _) (by simp only [maxLen]; omega) (by omega) hB6 ?_; intro v3 w3 hown3 hg3 hat3; rw [Nat.zero_add, List.nil_append] at hown3; obtain ⟨p3, c3, rfl⟩ := FiF.own_formF hown3; have hq3 := hq6.grown hg3 (fun e => by have := (hown0.lt _ e.symm).1; omega); have hr3 := hr6.grown hg3 (fun e => by have := (hown0.lt _ e.symm).1; omega); have hs3 := hs6.grown hg3 (fun e => by have := (hown0.lt _ e.symm).1; omega); have hf3 := hf6.grown hg3 (fun e => by have := (hown0.lt _ e.symm).1; omega); have hk3 := hk6.grown hg3 (fun b hb => .inr (by have := (hown0.lt b hb).1; omega)); have H3 := Lib.hid (And.intro hown3 (And.intro hq3 (And.intro hr3 (And.intro hs3 (And.intro hf3 hk3))))); have q0 : w3.cell? ⟨w.heap.size, 0, none⟩ = some (.int .i64 ow) := hq3.cell 0; have q1 : w3.cell? ⟨w.heap.size, 1, none⟩ = some (.int .i64 ma) := hq3.cell 1; have q2 : w3.cell? ⟨w.heap.size, 2, none⟩ = some (.int .i64 li) := hq3.cell 2; have q3 : w3.cell? ⟨w.heap.size, 3, none⟩ = some (Value.slice (some ⟨ab, 0, none⟩) 1 1) := hq3.cell 3; have q4 : w3.cell? ⟨w.heap.size, 4, none⟩ = some (.int .i64 dr) := hq3.cell 4; have r0 : w3.cell? ⟨w.heap.size + 1, 0, none⟩ = some (.int .i64 0) := hr3.cell 0; have r1 : w3.cell? ⟨w.heap.size + 1, 1, none⟩ = some (.int .i64 0) := hr3.cell 1; have r2 : w3.cell? ⟨w.heap.size + 1, 2, none⟩ = some (.int .i64 0) := hr3.cell 2; have r3 : w3.cell? ⟨w.heap.size + 1, 3, none⟩ = some (.slice none 0 0) := hr3.cell 3; have r4 : w3.cell? ⟨w.heap.size + 1, 4, none⟩ = some (.int .i64 0) := hr3.cell 4; have s0 : w3.cell? ⟨w.heap.size + 1 + 1, 0, none⟩ = some (.int .i64 0) := hs3.cell 0; have s1 : w3.cell? ⟨w.heap.size + 1 + 1, 1, none⟩ = some (.int .i64 0) := hs3.cell 1; have s2 : w3.cell? ⟨w.heap.size + 1 + 1, 2, none⟩ = some (.string ⟨#[]⟩) := hs3.cell 2; have f0 : w3.cell? ⟨w.heap.size + 1 + 1 + 1, 0, none⟩ = some (.int .i64 f.to) := hf3.cell 0; have f1 : w3.cell? ⟨w.heap.size + 1 + 1 + 1, 1, none⟩ = some (.int .i64 f.fr) := hf3.cell 1; have f2 : w3.cell? ⟨w.heap.size + 1 + 1 + 1, 2, none⟩ = some (.string f.data) := hf3.cell 2; have hqf := hq3.frozen; have hrf := hr3.frozen; have hsf := hs3.frozen; clear hown3 hq3 hr3 hs3 hf3 hk3 hg3 hat3 hq6 hr6 hs6 hf6 hk6 hown0 hrd e3 hB6)
  go_region
  go_wp2
  refine bodyPost_ret (v := .tuple #[.agg #[.int .i64 ow, .int .i64 ma, .int .i64 li, .slice p3 0 c3, .int .i64 dr], .agg #[.int .i64 f.to, .int .i64 f.fr, .string f.data]]) (by simp [results, Try.results37, go_sem, r0, r1, r2, r3, r4, s0, s1, s2]) rfl ?_
  obtain ⟨hown, _, _, _, _, hk⟩ := H3.out
  have hkk := keep9 (w := w3) w.heap.size (w.heap.size + 1) (w.heap.size + 1 + 1) (.slice p3 0 c3) (.int .i64 ow) (.int .i64 ma) (.int .i64 li) (.slice p3 0 c3) (.int .i64 dr) (.int .i64 f.to) (.int .i64 f.fr) (.string f.data)
  have hRd : Rd w3 (w.heap.size :: (w.heap.size + 1) :: (w.heap.size + 1 + 1) :: F) p3 ([] : List FiF.It).length (FiF.flt ([] : List FiF.It)) := Rd.own hown (by intro z hz; simp only [List.mem_cons] at hz; rcases hz with rfl | rfl | rfl | hz; omega; omega; omega; have := hF z hz; omega)
  exact ⟨p3, c3, rfl, (hRd.keeps hkk (by simp)).more (by intro z hz; exact .inl (by simp [hz])), own_cap hown, hk.next hkk (by simp; omega)⟩
set_option maxRecDepth 100000 in
set_option maxHeartbeats 2000000 in
theorem rtake_more {F : List Nat} {f : FiF.It} {t : List FiF.It} (ow ma li dr : Int) (a : Option Addr) (c : Nat) (w : World) (h : Rd w F a (t.length + 1) (FiF.flt (f :: t))) (hF : ∀ b ∈ F, b < w.heap.size) (hl : t.length ≤ 16) (hc : t.length + 1 ≤ c) (hc1 : c ≠ 1) :
    Calls Try.prog 37 #[.agg #[.int .i64 ow, .int .i64 ma, .int .i64 li, .slice a (t.length + 1) c, .int .i64 dr]] w (IsRT F ow ma li f t dr w) := by
  obtain ⟨i0, hi0, hz0, hz1, hz2⟩ := info_parts rf_all
  have HI := Lib.hid (And.intro hi0 (And.intro hz0 (And.intro hz1 hz2)))
  clear hi0 hz0 hz1 hz2
  obtain ⟨ab, rfl, hab, x0, x1, x2⟩ := h.head rfl
  have HS := Lib.hid h
  have hka : Keeps [] w (((w.alloc (.cells #[.int .i64 ow, .int .i64 ma, .int .i64 li, .slice (some ⟨ab, 0, none⟩) (t.length + 1) c, .int .i64 dr] 45)).alloc (.cells #[.int .i64 0, .int .i64 0, .int .i64 0, .slice none 0 0, .int .i64 0] 45)).alloc (.cells #[.int .i64 0, .int .i64 0, .string ⟨#[]⟩] 65)) := (((Keeps.refl [] w).alloc _).alloc _).alloc _
  have y0 := (hka.cell (p := ⟨ab, 0, none⟩) hab (by simp)).trans x0
  have y1 := (hka.cell (p := ⟨ab, 1, none⟩) hab (by simp)).trans x1
  have y2 := (hka.cell (p := ⟨ab, 2, none⟩) hab (by simp)).trans x2
  clear h hka
  obtain ⟨W5, hW5⟩ : ∃ W5, ((((w.alloc (.cells #[.int .i64 ow, .int .i64 ma, .int .i64 li, .slice (some ⟨ab, 0, none⟩) (t.length + 1) c, .int .i64 dr] 45)).alloc (.cells #[.int .i64 0, .int .i64 0, .int .i64 0, .slice none 0 0, .int .i64 0] 45)).alloc (.cells #[.int .i64 0, .int .i64 0, .string ⟨#[]⟩] 65)).alloc (.cells #[.int .i64 f.to, .int .i64 f.fr, .string f.data] 65)) = W5 := ⟨_, rfl⟩
  have hz5 : W5.heap.size = w.heap.size + 1 + 1 + 1 + 1 := by rw [← hW5]; simp
  have hk5 : Keeps [] w W5 := by rw [← hW5]; exact ((((Keeps.refl [] w).alloc _).alloc _).alloc _).alloc _
  have hq5 : Blk W5 w.heap.size 45 #[.int .i64 ow, .int .i64 ma, .int .i64 li, .slice (some ⟨ab, 0, none⟩) (t.length + 1) c, .int .i64 dr] := by rw [← hW5]; exact (((Blk.new w _ _).alloc _).alloc _).alloc _
  have hr5 : Blk W5 (w.heap.size + 1) 45 #[.int .i64 0, .int .i64 0, .int .i64 0, .slice none 0 0, .int .i64 0] := by
    rw [← hW5]
    have := ((Blk.new (w.alloc (.cells #[.int .i64 ow, .int .i64 ma, .int .i64 li, .slice (some ⟨ab, 0, none⟩) (t.length + 1) c, .int .i64 dr] 45)) 45 #[.int .i64 0, .int .i64 0, .int .i64 0, .slice none 0 0, .int .i64 0]).alloc (.cells #[.int .i64 0, .int .i64 0, .string ⟨#[]⟩] 65)).alloc (.cells #[.int .i64 f.to, .int .i64 f.fr, .string f.data] 65)
    simpa using this
  have hs5 : Blk W5 (w.heap.size + 1 + 1) 65 #[.int .i64 0, .int .i64 0, .string ⟨#[]⟩] := by
    rw [← hW5]
    have := (Blk.new ((w.alloc (.cells #[.int .i64 ow, .int .i64 ma, .int .i64 li, .slice (some ⟨ab, 0, none⟩) (t.length + 1) c, .int .i64 dr] 45)).alloc (.cells #[.int .i64 0, .int .i64 0, .int .i64 0, .slice none 0 0, .int .i64 0] 45)) 65 #[.int .i64 0, .int .i64 0, .string ⟨#[]⟩]).alloc (.cells #[.int .i64 f.to, .int .i64 f.fr, .string f.data] 65)
    simpa using this
  have hf5 : Blk W5 (w.heap.size + 1 + 1 + 1) 65 #[.int .i64 f.to, .int .i64 f.fr, .string f.data] := by
    rw [← hW5]
    have := Blk.new (((w.alloc (.cells #[.int .i64 ow, .int .i64 ma, .int .i64 li, .slice (some ⟨ab, 0, none⟩) (t.length + 1) c, .int .i64 dr] 45)).alloc (.cells #[.int .i64 0, .int .i64 0, .int .i64 0, .slice none 0 0, .int .i64 0] 45)).alloc (.cells #[.int .i64 0, .int .i64 0, .string ⟨#[]⟩] 65)) 65 #[.int .i64 f.to, .int .i64 f.fr, .string f.data]
    simpa using this
  have HB5 := Lib.hid (And.intro hk5 (And.intro hq5 (And.intro hr5 (And.intro hs5 hf5))))
  have HZ5 := Lib.hid hz5
  have HW5 := Lib.hid hW5
  clear hk5 hq5 hr5 hs5 hf5 hz5 hW5
  have hc2 : (1 : Int) ≤ (t.length : Int) + 1 := by omega
  have hc3 : (t.length : Int) + 1 ≤ (c : Int) := by omega
  have hrd := (HS.out.keeps (HB5.out.1.alloc (.cells #[] 65)) (by simp)).tail rfl
  have hown0 := FiF.own_emptyF W5 (w.heap.size + 4) (by rw [HZ5.out]; omega) 65 3
  rw [HZ5.out] at hown0
  have hk6 := HB5.out.1.alloc (.cells #[] 65)
  have hq6 := HB5.out.2.1.alloc (.cells #[] 65)
  have hr6 := HB5.out.2.2.1.alloc (.cells #[] 65)
  have hs6 := HB5.out.2.2.2.1.alloc (.cells #[] 65)
  have hf6 := HB5.out.2.2.2.2.alloc (.cells #[] 65)
  have hB6 : w.heap.size + 4 ≤ (W5.alloc (.cells #[] 65)).heap.size := by simp; rw [HZ5.out]; omega
  rw [← HW5.out] at hown0 hk6 hq6 hr6 hs6 hf6 hrd hB6
  have e3 := hq6.cell 3
  have e3 : _ = some (Value.slice (some ⟨ab, 0, none⟩) (t.length + 1) c) := e3
  go_enter Try.func37, Try.ntmps37
  go_wp2_with (at_builtin; refine wpList_append_any _ rfl (.tmp 9) (.tmp 12) 43 rfl (w.heap.size + 4) 65 i0 _ 3 32 Try.underlying43 HI.out.1 HI.out.2.1 HI.out.2.2.1 HI.out.2.2.2 rfl (by decide) _ 0 _ rfl hown0 _ (some ⟨ab, 3, none⟩) t.length (c - 1) (FiF.flt t) rfl hrd (FiF.flt_all _) (by simp only [maxLen]; omega) (by omega) hB6 ?_; intro v3 w3 hown3 hg3 hat3; rw [Nat.zero_add, List.nil_append] at hown3; obtain ⟨p3, c3, rfl⟩ := FiF.own_formF hown3; have hq3 := hq6.grown hg3 (fun e => by have := (hown0.lt _ e.symm).1; omega); have hr3 := hr6.grown hg3 (fun e => by have := (hown0.lt _ e.symm).1; omega); have hs3 := hs6.grown hg3 (fun e => by have := (hown0.lt _ e.symm).1; omega); have hf3 := hf6.grown hg3 (fun e => by have := (hown0.lt _ e.symm).1; omega); have hk3 := hk6.grown hg3 (fun b hb => .inr (by have := (hown0.lt b hb).1; omega)); have H3 := Lib.hid (And.intro hown3 (And.intro hq3 (And.intro hr3 (And.intro hs3 (And.intro hf3 hk3))))); have q0 : w3.cell? ⟨w.heap.size, 0, none⟩ = some (.int .i64 ow) := hq3.cell 0; have q1 : w3.cell? ⟨w.heap.size, 1, none⟩ = some (.int .i64 ma) := hq3.cell 1; have q2 : w3.cell? ⟨w.heap.size, 2, none⟩ = some (.int .i64 li) := hq3.cell 2; have q3 : w3.cell? ⟨w.heap.size, 3, none⟩ = some (Value.slice (some ⟨ab, 0, none⟩) (t.length + 1) c) := hq3.cell 3; have q4 : w3.cell? ⟨w.heap.size, 4, none⟩ = some (.int .i64 dr) := hq3.cell 4; have r0 : w3.cell? ⟨w.heap.size + 1, 0, none⟩ = some (.int .i64 0) := hr3.cell 0; have r1 : w3.cell? ⟨w.heap.size + 1, 1, none⟩ = some (.int .i64 0) := hr3.cell 1; have r2 : w3.cell? ⟨w.heap.size + 1, 2, none⟩ = some (.int .i64 0) := hr3.cell 2; have r3 : w3.cell? ⟨w.heap.size + 1, 3, none⟩ = some (.slice none 0 0) := hr3.cell 3; have r4 : w3.cell? ⟨w.heap.size + 1, 4, none⟩ = some (.int .i64 0) := hr3.cell 4; have s0 : w3.cell? ⟨w.heap.size + 1 + 1, 0, none⟩ = some (.int .i64 0) := hs3.cell 0; have s1 : w3.cell? ⟨w.heap.size + 1 + 1, 1, none⟩ = some (.int .i64 0) := hs3.cell 1; have s2 : w3.cell? ⟨w.heap.size + 1 + 1, 2, none⟩ = some (.string ⟨#[]⟩) := hs3.cell 2; have f0 : w3.cell? ⟨w.heap.size + 1 + 1 + 1, 0, none⟩ = some (.int .i64 f.to) := hf3.cell 0; have f1 : w3.cell? ⟨w.heap.size + 1 + 1 + 1, 1, none⟩ = some (.int .i64 f.fr) := hf3.cell 1; have f2 : w3.cell? ⟨w.heap.size + 1 + 1 + 1, 2, none⟩ = some (.string f.data) := hf3.cell 2; have hqf := hq3.frozen; have hrf := hr3.frozen; have hsf := hs3.frozen; clear hown3 hq3 hr3 hs3 hf3 hk3 hg3 hat3 hq6 hr6 hs6 hf6 hk6 hown0 hrd e3 hB6)
  go_region
  go_wp2
  refine bodyPost_ret (v := .tuple #[.agg #[.int .i64 ow, .int .i64 ma, .int .i64 li, .slice p3 t.length c3, .int .i64 dr], .agg #[.int .i64 f.to, .int .i64 f.fr, .string f.data]]) (by simp [results, Try.results37, go_sem, r0, r1, r2, r3, r4, s0, s1, s2]) rfl ?_
  obtain ⟨hown, _, _, _, _, hk⟩ := H3.out
  have hkk := keep9 (w := w3) w.heap.size (w.heap.size + 1) (w.heap.size + 1 + 1) (.slice p3 t.length c3) (.int .i64 ow) (.int .i64 ma) (.int .i64 li) (.slice p3 t.length c3) (.int .i64 dr) (.int .i64 f.to) (.int .i64 f.fr) (.string f.data)
  have hRd : Rd w3 (w.heap.size :: (w.heap.size + 1) :: (w.heap.size + 1 + 1) :: F) p3 t.length (FiF.flt t) := Rd.own hown (by intro z hz; simp only [List.mem_cons] at hz; rcases hz with rfl | rfl | rfl | hz; omega; omega; omega; have := hF z hz; omega)
  exact ⟨p3, c3, rfl, (hRd.keeps hkk (by simp)).more (by intro z hz; exact .inl (by simp [hz])), own_cap hown, hk.next hkk (by simp; omega)⟩
theorem rtake_any {F : List Nat} {f : FiF.It} {t : List FiF.It} (ow ma li dr : Int) (a : Option Addr) (c : Nat) (w : World) (h : Rd w F a (t.length + 1) (FiF.flt (f :: t))) (hF : ∀ b ∈ F, b < w.heap.size) (hl : t.length ≤ 16) (hc : t.length + 1 ≤ c) :
    Calls Try.prog 37 #[.agg #[.int .i64 ow, .int .i64 ma, .int .i64 li, .slice a (t.length + 1) c, .int .i64 dr]] w (IsRT F ow ma li f t dr w) := by
  by_cases hc1 : c = 1
  · subst hc1
    obtain rfl : t = [] := List.eq_nil_of_length_eq_zero (by omega)
    exact rtake_one ow ma li dr a w h hF
  · exact rtake_more ow ma li dr a c w h hF hl hc hc1
end Nc
end Go.Proofs.Ytdbkgpnbmafpmaa
