/- The law QueueForks: its walk. -/
import Derived.Test.YtaepcedcjhliaaaQueW
namespace Go.Proofs.Ytaepcedcjhliaaa
open Go.RowKit
namespace Qp
open Sm FiT
theorem PlS.step2 {w wr w' : World} {q p6 g r y c : Nat} {lim : Int} {a : Option Addr} {l : List It} {dl : List Cl} {s0 : Option Addr} {m0 k0 : Nat} {u1 u2 : Value} {e : Ending} (h : PlS w wr q p6 lim g r y a c l dl (.slice s0 m0 k0) u1 u2) (hs : IsStep q g r y lim wr e w') :
    ∃ x0 x1 x2 y0 y1 y2 r' y' a' c' l' dl', e = .returned (.tuple #[.agg #[.slice x0 x1 x2, .slice y0 y1 y2, .int .i64 lim], .bool true]) ∧ Blk w' p6 47 #[.slice s0 m0 k0, u1, u2] ∧ Keeps [q, g, r, y] wr w' ∧ (r' = r ∨ wr.heap.size ≤ r') ∧ (y' = y ∨ y' = q ∨ wr.heap.size ≤ y') ∧
      PlS w (((w'.setCell ⟨p6, 0, none⟩ (.slice x0 x1 x2)).setCell ⟨p6, 1, none⟩ (.slice y0 y1 y2)).setCell ⟨p6, 2, none⟩ (.int .i64 lim)) q p6 lim g r' y' a' c' l' dl' (.slice x0 x1 x2) (.slice y0 y1 y2) (.int .i64 lim) := by
  obtain ⟨v, l', dl', r', y', a', c', rfl, h1, h2, h3, h4, h5⟩ := hs
  have hz := h.kp.size
  obtain ⟨b1, b2, b3, b4, b5⟩ := h.bs
  obtain ⟨n1, n2, n3, n4⟩ := h.pn
  have hl6 := h.b6.lt
  have hlq := h.qe.lt
  have hb6 := h.b6.keeps h3 (by simp; omega)
  have hk := h.kp.next h3 (by simp; omega)
  have hrf := rf_apart h2 hb6
  obtain ⟨a1, c1, b1', d1, rfl, ha, hb, hc⟩ := h2
  refine ⟨a1, l'.length, c1, b1', dl'.length, d1, r', y', a', c', l', dl', rfl, hb6, h3, h4, h5, ?_⟩
  exact ⟨h1.keeps (keep3 p6 _ _ _) (by simp; omega), hrf.keeps (keep3 p6 _ _ _) (by simp), ((hb6.set_ 0 _).set_ 1 _).set_ 2 _, hk.next (keep3 p6 _ _ _) (by simp; omega), ⟨b1, b2, by omega, by omega, b5⟩, ⟨n1, n2, by omega, by omega⟩⟩
/-- Both queues, apart. -/
structure Tw (w wr : World) (q p8 : Nat) (lim : Int) (g r y : Nat) (a : Option Addr) (c : Nat) (l : List It) (dl : List Cl) (u0 u1 u2 : Value) (f p11 gf rf yf : Nat) (af : Option Addr) (cf : Nat) (lf : List It) (df : List Cl) (v0 v1 v2 : Value) : Prop where
  sq : Qe wr q g r y a c l dl lim
  sb : Blk wr p8 47 #[u0, u1, u2]
  rx : Rf wr [p11, f, gf, rf, yf] (.agg #[u0, u1, u2]) l dl lim
  t : PlS w wr f p11 lim gf rf yf af cf lf df v0 v1 v2
  ap : ∀ b ∈ [p11, f, gf, rf, yf], b ≠ p8 ∧ b ≠ q ∧ b ≠ g ∧ b ≠ r ∧ b ≠ y
def Fk (w : World) (q p8 : Nat) (lim : Int) (g r y : Nat) (a : Option Addr) (c : Nat) (l : List It) (dl : List Cl) (u0 u1 u2 : Value) (f p11 : Nat) (wr : World) : Prop :=
  ∃ gf rf yf af cf lf df v0 v1 v2, Tw w wr q p8 lim g r y a c l dl u0 u1 u2 f p11 gf rf yf af cf lf df v0 v1 v2
section
variable {w wr w' w1 : World} {q p8 g r y c f p11 gf rf yf cf : Nat} {lim : Int} {a af : Option Addr} {l lf : List It} {dl df : List Cl} {u0 u1 u2 v0 v1 v2 : Value}
theorem Fk.open_ (h : Fk w q p8 lim g r y a c l dl u0 u1 u2 f p11 wr) : ∃ gf rf yf af cf lf df v0 v1 v2, Tw w wr q p8 lim g r y a c l dl u0 u1 u2 f p11 gf rf yf af cf lf df v0 v1 v2 := h
theorem Tw.kk (h : Tw w wr q p8 lim g r y a c l dl u0 u1 u2 f p11 gf rf yf af cf lf df v0 v1 v2) (hk : Keeps [] wr w') : Tw w w' q p8 lim g r y a c l dl u0 u1 u2 f p11 gf rf yf af cf lf df v0 v1 v2 :=
  ⟨h.sq.kp hk, h.sb.keeps hk (by simp), h.rx.kp hk, h.t.kk hk, h.ap⟩
set_option maxHeartbeats 1000000 in
theorem Tw.step {s0 : Option Addr} {m0 k0 : Nat} {e : Ending} (h : Tw w wr q p8 lim g r y a c l dl u0 u1 u2 f p11 gf rf yf af cf lf df (.slice s0 m0 k0) v1 v2) (hs : IsStep f gf rf yf lim wr e w') :
    ∃ x0 x1 x2 y0 y1 y2 z, e = .returned (.tuple #[.agg #[.slice x0 x1 x2, .slice y0 y1 y2, .int .i64 z], .bool true]) ∧ Blk w' p11 47 #[.slice s0 m0 k0, v1, v2] ∧
      Fk w q p8 lim g r y a c l dl u0 u1 u2 f p11 (((w'.setCell ⟨p11, 0, none⟩ (.slice x0 x1 x2)).setCell ⟨p11, 1, none⟩ (.slice y0 y1 y2)).setCell ⟨p11, 2, none⟩ (.int .i64 z)) := by
  obtain ⟨x0, x1, x2, y0, y1, y2, r', y', a', c', l', dl', rfl, hb, hk, hr, hy, ht⟩ := h.t.step2 hs
  have hap := h.ap
  have a1 := hap p11 (by simp)
  have a2 := hap f (by simp)
  have a3 := hap gf (by simp)
  have a4 := hap rf (by simp)
  have a5 := hap yf (by simp)
  have hql := h.sq.lt
  have hsl := h.sb.lt
  refine ⟨x0, x1, x2, y0, y1, y2, lim, rfl, hb, gf, r', y', a', c', l', dl', _, _, _, ⟨(h.sq.keeps hk ?_).keeps (keep3 p11 _ _ _) ?_, (h.sb.keeps hk ?_).keeps (keep3 p11 _ _ _) ?_, ?_, ht, ?_⟩⟩
  · intro b hb
    have := hap b (by simp only [List.mem_cons, List.not_mem_nil, or_false] at hb ⊢; rcases hb with rfl | rfl | rfl | rfl <;> simp)
    clear hap a1 a2 a3 a4 a5 hr hy
    omega
  · intro b hb
    simp only [List.mem_cons, List.not_mem_nil, or_false] at hb
    subst hb
    clear hap a2 a3 a4 a5 hr hy
    omega
  · intro hb
    simp only [List.mem_cons, List.not_mem_nil, or_false] at hb
    rcases hb with h | h | h | h
    · exact a2.1 h.symm
    · exact a3.1 h.symm
    · exact a4.1 h.symm
    · exact a5.1 h.symm
  · intro hb
    simp only [List.mem_cons, List.not_mem_nil, or_false] at hb
    exact a1.1 hb.symm
  · have e1 : ∀ z ∈ [p11, f, gf, rf, yf, r', y'], z ∈ [p11, f, gf, rf, yf] ∨ wr.heap.size ≤ z := by
      intro z hz
      simp only [List.mem_cons, List.not_mem_nil, or_false] at hz
      rcases hz with rfl | rfl | rfl | rfl | rfl | rfl | rfl
      · exact .inl (by simp)
      · exact .inl (by simp)
      · exact .inl (by simp)
      · exact .inl (by simp)
      · exact .inl (by simp)
      · rcases hr with rfl | hr
        · exact .inl (by simp)
        · exact .inr hr
      · rcases hy with rfl | rfl | hy
        · exact .inl (by simp)
        · exact .inl (by simp)
        · exact .inr hy
    have e2 : ∀ z ∈ [f, gf, rf, yf], z ∈ [p11, f, gf, rf, yf, r', y'] ∨ wr.heap.size ≤ z := by
      intro z hz
      exact .inl (by simp only [List.mem_cons, List.not_mem_nil, or_false] at hz ⊢; rcases hz with rfl | rfl | rfl | rfl <;> simp)
    have e3 : ∀ z ∈ [p11, f, gf, r', y'], z ∈ [p11, f, gf, rf, yf, r', y'] := by
      intro z hz
      simp only [List.mem_cons, List.not_mem_nil, or_false] at hz ⊢
      rcases hz with rfl | rfl | rfl | rfl | rfl <;> simp
    exact (((h.rx.more e1).keeps hk e2).keeps (keep3 p11 _ _ _) (by simp)).more (fun z hz => .inl (e3 z hz))
  · intro b hb
    simp only [List.mem_cons, List.not_mem_nil, or_false] at hb
    clear hap
    rcases hb with rfl | rfl | rfl | rfl | rfl
    · exact a1
    · exact a2
    · exact a3
    · rcases hr with rfl | hr
      · exact a4
      · clear a1 a2 a3 a4 a5 hy
        obtain ⟨h1, h2, h3, h4⟩ := hql
        refine ⟨?_, ?_, ?_, ?_, ?_⟩ <;> omega
    · rcases hy with rfl | rfl | hy
      · exact a5
      · exact a2
      · clear a1 a2 a3 a4 a5 hr
        obtain ⟨h1, h2, h3, h4⟩ := hql
        refine ⟨?_, ?_, ?_, ?_, ?_⟩ <;> omega
theorem fk_0 {w2 : World} {l : List It} {dl : List Cl} (h : PlS w wr q p8 lim g r y a c l dl u0 u1 u2) (hq : Qe w1 f gf rf yf af cf l dl lim) (hk : Keeps [] wr w1) (h1 : wr.heap.size ≤ f) (h2 : wr.heap.size ≤ gf) (h3 : wr.heap.size ≤ rf) (h4 : wr.heap.size ≤ yf)
    (hw : w2 = w1.alloc (.cells #[u0, u1, u2] 47)) : Fk w q p8 lim g r y a c l dl u0 u1 u2 f w1.heap.size w2 := by
  subst hw
  have hka : Keeps [] w1 (w1.alloc (.cells #[u0, u1, u2] 47)) := (Keeps.refl _ _).alloc _
  have hkk := hk.trans hka
  have hz := hk.size
  have hz0 := h.kp.size
  have hl := h.qe.lt
  have hl8 := h.b6.lt
  have hlf := hq.lt
  have hrx := (h.rf.more (G := [w1.heap.size, f, gf, rf, yf]) (by intro z hz; simp at hz ⊢; omega)).kp hkk
  exact ⟨gf, rf, yf, af, cf, l, dl, u0, u1, u2, ⟨h.qe.kp hkk, h.b6.keeps hkk (by simp), hrx, ⟨hq.kp hka, hrx, Blk.new _ _ _, h.kp.trans hkk, by omega, by omega⟩, by intro b hb; simp at hb; omega⟩⟩
end
theorem keep6 {W V v : World} {p p' : Nat} {u0 u1 u2 t0 t1 t2 : Value} (h : (V.cell? ⟨p, 0, none⟩ = some u0 ∧ V.cell? ⟨p, 1, none⟩ = some u1 ∧ V.cell? ⟨p, 2, none⟩ = some u2) ∧ (V.cell? ⟨p', 0, none⟩ = some t0 ∧ V.cell? ⟨p', 1, none⟩ = some t1 ∧ V.cell? ⟨p', 2, none⟩ = some t2) ∧ Keeps [] W V) (hk : Keeps [] V v) :
    (v.cell? ⟨p, 0, none⟩ = some u0 ∧ v.cell? ⟨p, 1, none⟩ = some u1 ∧ v.cell? ⟨p, 2, none⟩ = some u2) ∧ (v.cell? ⟨p', 0, none⟩ = some t0 ∧ v.cell? ⟨p', 1, none⟩ = some t1 ∧ v.cell? ⟨p', 2, none⟩ = some t2) ∧ Keeps [] W v := by
  obtain ⟨h1, h2, h3⟩ := h
  have a := keep9 ⟨h1, h3⟩ hk
  have b := keep9 ⟨h2, h3⟩ hk
  exact ⟨a.1, b.1, a.2⟩
theorem putz (V : World) : Calls Try.prog 7 #[.pointer none, .agg #[.int .i64 0, .int .u8 0, .int .u8 0, .int .i64 0, .int .i64 0, .int .i64 0, .bool false]] V fun e w' => e = .returned (.bool false) ∧ Keeps [] V w' := put_nil z V
theorem headz (V : World) : Calls Try.prog 9 #[.pointer none] V fun e w' => e = .returned (.tuple #[.agg #[.int .i64 0, .int .u8 0, .int .u8 0, .int .i64 0, .int .i64 0, .int .i64 0, .bool false], .bool false]) ∧ Keeps [] V w' := head_nil V
theorem q_keep {v v' : World} (h : v = v') : Keeps [] v v' := by subst h; exact Keeps.refl _ _
attribute [local irreducible] Pl Fk IsStep cs clc dcl
set_option maxRecDepth 100000 in
set_option maxHeartbeats 4000000 in
theorem forks_law (o : Int) (a : Option Addr) (len cap : Nat) (R : Nat → Nat → Value) (aa : Option Addr) (len2 cap2 : Nat) (R2 : Nat → Nat → Value) (w : World) (_wo : (Lit.int .i64 o).wf = true) (hR : Recs w a len cap deedK R) (hR2 : Recs w aa len2 cap2 deedK R2) :
    Calls Try.prog 5 #[.int .i64 o, .slice a len cap, .slice aa len2 cap2] w fun e w' => e = .returned (.bool true) ∧ Below w.heap.size w w' := by
  obtain ⟨hlen, hcap⟩ := hR.len
  obtain ⟨hlen2, hcap2⟩ := hR2.len
  have HR := Lib.hid hR
  have HR2 := Lib.hid hR2
  clear hR hR2
  go_enter Try.func5, Try.ntmps5
  go_wp2_with fail
  refine (new_q o _).mono ?_
  rintro e w1 ⟨q, g, rfl, hq, hk1, hq0, hg0⟩
  go_wp2_with fail
  refine (rnew_q o _).mono ?_
  rintro e w2 ⟨rfl, hk2⟩
  generalize qlim o = L at *
  have h0 := pl_0 (c1 := 0) (c2 := 0) hq hk1 hk2 hq0 hg0
  clear hq hk1 hk2 hq0 hg0
  go_wp2_with fail
  generalize w2.alloc (.cells #[.slice none 0 0, .slice none 0 0, .int .i64 L] 47) = V0 at *
  generalize w2.heap.size = p8 at *
  go_loopw [9] (fun i wr => ∃ k : Nat, k ≤ len ∧ k ≤ 40 ∧ i = .int .i64 k ∧ Pl w q p8 L wr) (fun i _ => 40 - (intOf i).toNat)
  case atStart => exact ⟨0, by omega, by omega, rfl, h0⟩
  case round =>
    clear h0
    obtain ⟨k, hkl, hk80, rfl, hh⟩ := hrel
    obtain ⟨g, r, y, a1, c1, l, dl, u0, u1, u2, hS⟩ := hh.open_
    clear hh
    obtain ⟨s0, k0, s1, k1, rfl, rfl, rfl⟩ := pl_slice hS
    obtain ⟨b0, b1, b2⟩ := blkq hS.b6
    have hp6 := hS.b6.lt
    by_cases hlt : k < len ∧ k < 40
    · obtain ⟨hkl', hk80'⟩ := hlt
      obtain ⟨b, off, rfl, hbl, hrg⟩ := deed_at HR.out hS.kp k hkl'
      rw [← dcl_eq] at hrg
      have hinf := dcl_info (numAt R k 0) (itAt R k) (numAt R k 8) (numAt R k 9)
      generalize numAt R k 0 = d at *
      generalize itAt R k = x at *
      generalize numAt R k 8 = st at *
      generalize numAt R k 9 = nn at *
      have hbr := Nat.lt_of_lt_of_le hbl hS.kp.size
      have hk0' : (0 : Int) ≤ (k : Int) := by omega
      have hk1' : (k : Int) < (len : Int) := by omega
      have hbs := hS.bs
      have HS := Lib.hid hS
      clear hS HR2
      go_wp2_with fail
      have k9 : Keeps [] wr wr.drew := (Keeps.refl _ _).drew
      have hSd := HS.out.kk k9
      have hrgd := hrg.keepz k9 hbr (by simp)
      have hbd := Nat.lt_of_lt_of_le hbr k9.size
      obtain ⟨c0, c1, c2⟩ := blkq hSd.b6
      have hfr := hSd.b6.frozen
      clear HS hrg hbr k9 b0 b1 b2 hp6
      refine wp_region_held_drew (S := (fun V => V.rangeAt b (off + k * 10) (dcl d x st nn))) (by kernel_rfl) hrgd (fun hHeld => ?_)
      generalize wr.drew = U at *
      refine' wpAnyH_take (i := 0) (oi := _) (v := _) ?hAqq0 (by kernel_rfl) (by kernel_rfl) (by kernel_rfl) ?hQAqq0 (Or.inl ⟨?hwAqq0, ?hyAqq0⟩) hHeld ?restAqq0
      case hAqq0 => (simp only [List.getElem?_toArray, List.getElem?_cons_zero]; rfl)
      case hQAqq0 => exact fun _ _ _ h => h
      case hwAqq0 => rfl
      case hyAqq0 => (intro w hSw; (try dsimp only at hSw); go_simp; try with_reducible rfl)
      try simp only [Act.put, List.setIfInBounds_toArray, List.set_cons_zero, List.set_cons_succ]
      refine' wpAnyH_take (i := 2) (oi := _) (v := _) ?hAqq2 (by kernel_rfl) (by kernel_rfl) (by kernel_rfl) ?hQAqq2 (Or.inl ⟨?hwAqq2, ?hyAqq2⟩) hHeld ?restAqq2
      case hAqq2 => (simp only [List.getElem?_toArray, List.getElem?_cons_succ, List.getElem?_cons_zero]; rfl)
      case hQAqq2 => exact fun _ _ _ h => h
      case hwAqq2 => rfl
      case hyAqq2 => (intro w hSw; (try dsimp only at hSw); go_simp; try with_reducible rfl)
      try simp only [Act.put, List.setIfInBounds_toArray, List.set_cons_zero, List.set_cons_succ]
      refine' wpAnyH_take (i := 3) (oi := _) (v := _) ?hAqq3 (by kernel_rfl) (by kernel_rfl) (by kernel_rfl) ?hQAqq3 (Or.inl ⟨?hwAqq3, ?hyAqq3⟩) hHeld ?restAqq3
      case hAqq3 => (simp only [List.getElem?_toArray, List.getElem?_cons_succ, List.getElem?_cons_zero]; rfl)
      case hQAqq3 => exact fun _ _ _ h => h
      case hwAqq3 => rfl
      case hyAqq3 => (intro w hSw; (try dsimp only at hSw); go_simp; try with_reducible rfl)
      try simp only [Act.put, List.setIfInBounds_toArray, List.set_cons_zero, List.set_cons_succ]
      refine' wpAnyH_take (i := 4) (oi := _) (v := _) ?hAqq4 (by kernel_rfl) (by kernel_rfl) (by kernel_rfl) ?hQAqq4 (Or.inl ⟨?hwAqq4, ?hyAqq4⟩) hHeld ?restAqq4
      case hAqq4 => (simp only [List.getElem?_toArray, List.getElem?_cons_succ, List.getElem?_cons_zero]; rfl)
      case hQAqq4 => exact fun _ _ _ h => h
      case hwAqq4 => rfl
      case hyAqq4 => (intro w hSw; (try dsimp only at hSw); go_simp; try with_reducible rfl)
      try simp only [Act.put, List.setIfInBounds_toArray, List.set_cons_zero, List.set_cons_succ]
      refine' wpAnyH_take (i := 5) (oi := _) (v := .agg (dcl d x st nn).toArray) ?hAqq5 (by kernel_rfl) (by kernel_rfl) (by kernel_rfl) ?hQAqq5 ?hyAqq5 hHeld ?restAqq5
      case hAqq5 => (simp only [List.getElem?_toArray, List.getElem?_cons_succ, List.getElem?_cons_zero]; rfl)
      case hQAqq5 => exact fun _ _ _ h => h
      case hyAqq5 => exact yieldsIf_load_mid rfl _ _ rfl _ _ rfl (dcl d x st nn) _ (fun _ h => h) Try.underlying32 rfl hinf
      try simp only [Act.put, List.setIfInBounds_toArray, List.set_cons_zero, List.set_cons_succ]
      refine wpAnyH_ready (rs := [1]) (by kernel_rfl) (by simp) ?_
      refine' (AllReadyH.cons (o := _) ?hoQqq11 (fun K hK' => ?stQqq11) AllReadyH.nil)
      case hoQqq11 => (simp only [List.getElem?_toArray, List.getElem?_cons_succ, List.getElem?_cons_zero]; rfl)
      case stQqq11 =>
        go_simp
        refine hK'.out _ _ (hHeld) (fun hHeld' => ?_)
        clear hK' K hHeld
        have hHeld := hHeld'
        clear hHeld'
        try simp only [Act.put]
        try simp only [Act.put, List.setIfInBounds_toArray, List.set_cons_zero, List.set_cons_succ]
        refine wpAnyH_ready (rs := [6]) (by kernel_rfl) (by simp) ?_
        refine' (AllReadyH.cons (o := _) ?hoQqq26 (fun K hK' => ?stQqq26) AllReadyH.nil)
        case hoQqq26 => (simp only [List.getElem?_toArray, List.getElem?_cons_succ, List.getElem?_cons_zero]; rfl)
        case stQqq26 =>
          go_simp
          refine (step_any d x st nn _ _ hSd.qe (hSd.rf.more (by intro z hz; simp at hz ⊢; omega))).mono ?_
          intro e V1 hst
          have hke := hst.keep
          obtain ⟨x0, x1, x2, y0, y1, y2, zz, rfl, hb6, hkw, hpl⟩ := hSd.step hst
          clear hst
          dsimp only
          try go_wp2_with fail
          obtain ⟨c0, c1, c2⟩ := blkq hb6
          have hfr := hb6.frozen
          have hrgd := hrgd.keepz hke hbd (by simp; omega)
          have hbd := Nat.lt_of_lt_of_le hbd hke.size
          refine hK'.out _ _ (hrgd) (fun hHeld' => ?_)
          clear hK' K hHeld
          have hHeld := hHeld'
          clear hHeld'
          try simp only [Act.put]
          try simp only [Act.put, List.setIfInBounds_toArray, List.set_cons_zero, List.set_cons_succ]
          refine' wpAnyH_take (i := 7) (oi := _) (v := _) ?hSQqq27 (by kernel_rfl) (by kernel_rfl) (by kernel_rfl) ?hQSQqq27 (Or.inl ⟨?hwSQqq27, ?hySQqq27⟩) hHeld ?restSQqq27
          case hSQqq27 => (simp only [List.getElem?_toArray, List.getElem?_cons_succ, List.getElem?_cons_zero]; rfl)
          case hQSQqq27 => exact fun _ _ _ h => h
          case hwSQqq27 => rfl
          case hySQqq27 => (intro w hSw; (try dsimp only at hSw); go_simp; try with_reducible rfl)
          try simp only [Act.put, List.setIfInBounds_toArray, List.set_cons_zero, List.set_cons_succ]
          refine' wpAnyH_take (i := 8) (oi := _) (v := _) ?hSQqq28 (by kernel_rfl) (by kernel_rfl) (by kernel_rfl) ?hQSQqq28 (Or.inl ⟨?hwSQqq28, ?hySQqq28⟩) hHeld ?restSQqq28
          case hSQqq28 => (simp only [List.getElem?_toArray, List.getElem?_cons_succ, List.getElem?_cons_zero]; rfl)
          case hQSQqq28 => exact fun _ _ _ h => h
          case hwSQqq28 => rfl
          case hySQqq28 => (intro w hSw; (try dsimp only at hSw); go_simp; try with_reducible rfl)
          try simp only [Act.put, List.setIfInBounds_toArray, List.set_cons_zero, List.set_cons_succ]
          refine' wpAnyH_take (i := 9) (oi := _) (v := _) ?hSQqq29 (by kernel_rfl) (by kernel_rfl) (by kernel_rfl) ?hQSQqq29 (Or.inl ⟨?hwSQqq29, ?hySQqq29⟩) hHeld ?restSQqq29
          case hSQqq29 => (simp only [List.getElem?_toArray, List.getElem?_cons_succ, List.getElem?_cons_zero]; rfl)
          case hQSQqq29 => exact fun _ _ _ h => h
          case hwSQqq29 => rfl
          case hySQqq29 => (intro w hSw; (try dsimp only at hSw); go_simp; try with_reducible rfl)
          try simp only [Act.put, List.setIfInBounds_toArray, List.set_cons_zero, List.set_cons_succ]
          refine wpAnyH_ready (rs := [10]) (by kernel_rfl) (by simp) ?_
          refine' (AllReadyH.cons (o := _) ?hoQqq310 (fun K hK' => ?stQqq310) AllReadyH.nil)
          case hoQqq310 => (simp only [List.getElem?_toArray, List.getElem?_cons_succ, List.getElem?_cons_zero]; rfl)
          case stQqq310 =>
            go_simp
            refine hK'.out _ _ (hHeld.keepz (keep3 p8 _ _ _) hbd (by simp; omega)) (fun hHeld' => ?_)
            clear hK' K hHeld
            have hHeld := hHeld'
            clear hHeld'
            try simp only [Act.put]
            try simp only [Act.put, List.setIfInBounds_toArray, List.set_cons_zero, List.set_cons_succ]
            refine wpAnyH_done (by kernel_rfl) ?_ _
            clear hHeld c0 c1 c2 hfr hb6 hkw hke hrgd
            generalize ((V1.setCell ⟨p8, 0, none⟩ (.slice x0 x1 x2)).setCell ⟨p8, 1, none⟩ (.slice y0 y1 y2)).setCell ⟨p8, 2, none⟩ (.int .i64 zz) = wq at *
            go_wp2
            go_roundw
            case rel => exact ⟨k + 1, by omega, by omega, by go_num, hpl⟩
            case measure => simp [intOf]; omega
    · have hlt' : len ≤ k ∨ 40 ≤ k := by omega
      have HS := Lib.hid hS
      have hbd9 : (l.length : Int) + (dl.length : Int) ≤ L ∧ L ≤ 16 := ⟨hS.qe.hl, hS.qe.hm⟩
      clear hlt HR hS
      by_cases hc1 : k < len
      · have hk80' : ¬ k < 40 := by omega
        go_wp2_with fail
        refine (fork_q _ HS.out.qe).mono ?_
        rintro e v1 ⟨f, gf, rf, yf, af, cf, rfl, hqf, hkf, hf1, hf2, hf3, hf4⟩
        have hb6f := HS.out.b6.keeps hkf (by simp)
        clear b0 b1 b2
        obtain ⟨b0, b1, b2⟩ := blkq hb6f
        have hF := fk_0 HS.out hqf hkf hf1 hf2 hf3 hf4 rfl
        clear hqf hkf hf1 hf2 hf3 hf4 HS hb6f
        go_wp2_with fail
        generalize v1.alloc (.cells #[.slice s0 l.length k0, .slice s1 dl.length k1, .int .i64 L] 47) = v2 at *
        generalize v1.heap.size = p11 at *
        clear b0 b1 b2
        go_loopw [12] (fun i wr => ∃ k : Nat, k ≤ len2 ∧ k ≤ 40 ∧ i = .int .i64 k ∧ Fk w q p8 L g r y a1 c1 l dl (.slice s0 l.length k0) (.slice s1 dl.length k1) (.int .i64 L) f p11 wr) (fun i _ => 40 - (intOf i).toNat)
        case atStart => exact ⟨0, by omega, by omega, rfl, hF⟩
        case round =>
          clear hF
          obtain ⟨m, hml, hm40, rfl, hh⟩ := hrel
          obtain ⟨gf, rf, yf, af, cf, lf, df, v0, v1, v2, hT⟩ := hh.open_
          clear hh
          obtain ⟨t0, n0, t1, n1, rfl, rfl, rfl⟩ := pl_slice hT.t
          obtain ⟨b0, b1, b2⟩ := blkq hT.t.b6
          have hp6 := hT.t.b6.lt
          by_cases hlt : m < len2 ∧ m < 40
          · obtain ⟨hml', hm40'⟩ := hlt
            obtain ⟨b, off, rfl, hbl, hrg⟩ := deed_at HR2.out hT.t.kp m hml'
            rw [← dcl_eq] at hrg
            have hinf := dcl_info (numAt R2 m 0) (itAt R2 m) (numAt R2 m 8) (numAt R2 m 9)
            generalize numAt R2 m 0 = d at *
            generalize itAt R2 m = x at *
            generalize numAt R2 m 8 = st at *
            generalize numAt R2 m 9 = nn at *
            have hbr := Nat.lt_of_lt_of_le hbl hT.t.kp.size
            have hm0' : (0 : Int) ≤ (m : Int) := by omega
            have hm1' : (m : Int) < (len2 : Int) := by omega
            have hbs := hT.t.bs
            have HT := Lib.hid hT
            clear hT
            go_wp2_with fail
            have k9 : Keeps [] wr wr.drew := (Keeps.refl _ _).drew
            have hSd := HT.out.kk k9
            have hrgd := hrg.keepz k9 hbr (by simp)
            have hbd := Nat.lt_of_lt_of_le hbr k9.size
            obtain ⟨c0, c1, c2⟩ := blkq hSd.t.b6
            have hfr := hSd.t.b6.frozen
            clear HT hrg hbr k9 b0 b1 b2 hp6
            refine wp_region_held_drew (S := (fun V => V.rangeAt b (off + m * 10) (dcl d x st nn))) (by kernel_rfl) hrgd (fun hHeld => ?_)
            generalize wr.drew = U at *
            refine' wpAnyH_take (i := 0) (oi := _) (v := _) ?hAqa0 (by kernel_rfl) (by kernel_rfl) (by kernel_rfl) ?hQAqa0 (Or.inl ⟨?hwAqa0, ?hyAqa0⟩) hHeld ?restAqa0
            case hAqa0 => (simp only [List.getElem?_toArray, List.getElem?_cons_zero]; rfl)
            case hQAqa0 => exact fun _ _ _ h => h
            case hwAqa0 => rfl
            case hyAqa0 => (intro w hSw; (try dsimp only at hSw); go_simp; try with_reducible rfl)
            try simp only [Act.put, List.setIfInBounds_toArray, List.set_cons_zero, List.set_cons_succ]
            refine' wpAnyH_take (i := 2) (oi := _) (v := _) ?hAqa2 (by kernel_rfl) (by kernel_rfl) (by kernel_rfl) ?hQAqa2 (Or.inl ⟨?hwAqa2, ?hyAqa2⟩) hHeld ?restAqa2
            case hAqa2 => (simp only [List.getElem?_toArray, List.getElem?_cons_succ, List.getElem?_cons_zero]; rfl)
            case hQAqa2 => exact fun _ _ _ h => h
            case hwAqa2 => rfl
            case hyAqa2 => (intro w hSw; (try dsimp only at hSw); go_simp; try with_reducible rfl)
            try simp only [Act.put, List.setIfInBounds_toArray, List.set_cons_zero, List.set_cons_succ]
            refine' wpAnyH_take (i := 3) (oi := _) (v := _) ?hAqa3 (by kernel_rfl) (by kernel_rfl) (by kernel_rfl) ?hQAqa3 (Or.inl ⟨?hwAqa3, ?hyAqa3⟩) hHeld ?restAqa3
            case hAqa3 => (simp only [List.getElem?_toArray, List.getElem?_cons_succ, List.getElem?_cons_zero]; rfl)
            case hQAqa3 => exact fun _ _ _ h => h
            case hwAqa3 => rfl
            case hyAqa3 => (intro w hSw; (try dsimp only at hSw); go_simp; try with_reducible rfl)
            try simp only [Act.put, List.setIfInBounds_toArray, List.set_cons_zero, List.set_cons_succ]
            refine' wpAnyH_take (i := 4) (oi := _) (v := _) ?hAqa4 (by kernel_rfl) (by kernel_rfl) (by kernel_rfl) ?hQAqa4 (Or.inl ⟨?hwAqa4, ?hyAqa4⟩) hHeld ?restAqa4
            case hAqa4 => (simp only [List.getElem?_toArray, List.getElem?_cons_succ, List.getElem?_cons_zero]; rfl)
            case hQAqa4 => exact fun _ _ _ h => h
            case hwAqa4 => rfl
            case hyAqa4 => (intro w hSw; (try dsimp only at hSw); go_simp; try with_reducible rfl)
            try simp only [Act.put, List.setIfInBounds_toArray, List.set_cons_zero, List.set_cons_succ]
            refine' wpAnyH_take (i := 5) (oi := _) (v := .agg (dcl d x st nn).toArray) ?hAqa5 (by kernel_rfl) (by kernel_rfl) (by kernel_rfl) ?hQAqa5 ?hyAqa5 hHeld ?restAqa5
            case hAqa5 => (simp only [List.getElem?_toArray, List.getElem?_cons_succ, List.getElem?_cons_zero]; rfl)
            case hQAqa5 => exact fun _ _ _ h => h
            case hyAqa5 => exact yieldsIf_load_mid rfl _ _ rfl _ _ rfl (dcl d x st nn) _ (fun _ h => h) Try.underlying32 rfl hinf
            try simp only [Act.put, List.setIfInBounds_toArray, List.set_cons_zero, List.set_cons_succ]
            refine wpAnyH_ready (rs := [1]) (by kernel_rfl) (by simp) ?_
            refine' (AllReadyH.cons (o := _) ?hoQqa11 (fun K hK' => ?stQqa11) AllReadyH.nil)
            case hoQqa11 => (simp only [List.getElem?_toArray, List.getElem?_cons_succ, List.getElem?_cons_zero]; rfl)
            case stQqa11 =>
              go_simp
              refine hK'.out _ _ (hHeld) (fun hHeld' => ?_)
              clear hK' K hHeld
              have hHeld := hHeld'
              clear hHeld'
              try simp only [Act.put]
              try simp only [Act.put, List.setIfInBounds_toArray, List.set_cons_zero, List.set_cons_succ]
              refine wpAnyH_ready (rs := [6]) (by kernel_rfl) (by simp) ?_
              refine' (AllReadyH.cons (o := _) ?hoQqa26 (fun K hK' => ?stQqa26) AllReadyH.nil)
              case hoQqa26 => (simp only [List.getElem?_toArray, List.getElem?_cons_succ, List.getElem?_cons_zero]; rfl)
              case stQqa26 =>
                go_simp
                refine (step_any d x st nn _ _ hSd.t.qe (hSd.t.rf.more (by intro z hz; simp at hz ⊢; omega))).mono ?_
                intro e V1 hst
                have hke := hst.keep
                obtain ⟨x0, x1, x2, y0, y1, y2, zz, rfl, hb6, hpl⟩ := hSd.step hst
                clear hst
                dsimp only
                try go_wp2_with fail
                obtain ⟨c0, c1, c2⟩ := blkq hb6
                have hfr := hb6.frozen
                have hrgd := hrgd.keepz hke hbd (by simp; omega)
                have hbd := Nat.lt_of_lt_of_le hbd hke.size
                refine hK'.out _ _ (hrgd) (fun hHeld' => ?_)
                clear hK' K hHeld
                have hHeld := hHeld'
                clear hHeld'
                try simp only [Act.put]
                try simp only [Act.put, List.setIfInBounds_toArray, List.set_cons_zero, List.set_cons_succ]
                refine' wpAnyH_take (i := 7) (oi := _) (v := _) ?hSQqa27 (by kernel_rfl) (by kernel_rfl) (by kernel_rfl) ?hQSQqa27 (Or.inl ⟨?hwSQqa27, ?hySQqa27⟩) hHeld ?restSQqa27
                case hSQqa27 => (simp only [List.getElem?_toArray, List.getElem?_cons_succ, List.getElem?_cons_zero]; rfl)
                case hQSQqa27 => exact fun _ _ _ h => h
                case hwSQqa27 => rfl
                case hySQqa27 => (intro w hSw; (try dsimp only at hSw); go_simp; try with_reducible rfl)
                try simp only [Act.put, List.setIfInBounds_toArray, List.set_cons_zero, List.set_cons_succ]
                refine' wpAnyH_take (i := 8) (oi := _) (v := _) ?hSQqa28 (by kernel_rfl) (by kernel_rfl) (by kernel_rfl) ?hQSQqa28 (Or.inl ⟨?hwSQqa28, ?hySQqa28⟩) hHeld ?restSQqa28
                case hSQqa28 => (simp only [List.getElem?_toArray, List.getElem?_cons_succ, List.getElem?_cons_zero]; rfl)
                case hQSQqa28 => exact fun _ _ _ h => h
                case hwSQqa28 => rfl
                case hySQqa28 => (intro w hSw; (try dsimp only at hSw); go_simp; try with_reducible rfl)
                try simp only [Act.put, List.setIfInBounds_toArray, List.set_cons_zero, List.set_cons_succ]
                refine' wpAnyH_take (i := 9) (oi := _) (v := _) ?hSQqa29 (by kernel_rfl) (by kernel_rfl) (by kernel_rfl) ?hQSQqa29 (Or.inl ⟨?hwSQqa29, ?hySQqa29⟩) hHeld ?restSQqa29
                case hSQqa29 => (simp only [List.getElem?_toArray, List.getElem?_cons_succ, List.getElem?_cons_zero]; rfl)
                case hQSQqa29 => exact fun _ _ _ h => h
                case hwSQqa29 => rfl
                case hySQqa29 => (intro w hSw; (try dsimp only at hSw); go_simp; try with_reducible rfl)
                try simp only [Act.put, List.setIfInBounds_toArray, List.set_cons_zero, List.set_cons_succ]
                refine wpAnyH_ready (rs := [10]) (by kernel_rfl) (by simp) ?_
                refine' (AllReadyH.cons (o := _) ?hoQqa310 (fun K hK' => ?stQqa310) AllReadyH.nil)
                case hoQqa310 => (simp only [List.getElem?_toArray, List.getElem?_cons_succ, List.getElem?_cons_zero]; rfl)
                case stQqa310 =>
                  go_simp
                  refine hK'.out _ _ (hHeld.keepz (keep3 p11 _ _ _) hbd (by simp; omega)) (fun hHeld' => ?_)
                  clear hK' K hHeld
                  have hHeld := hHeld'
                  clear hHeld'
                  try simp only [Act.put]
                  try simp only [Act.put, List.setIfInBounds_toArray, List.set_cons_zero, List.set_cons_succ]
                  refine' wpAnyH_take (i := 11) (oi := _) (v := _) ?hUQqa311 (by kernel_rfl) (by kernel_rfl) (by kernel_rfl) ?hQUQqa311 (Or.inl ⟨?hwUQqa311, ?hyUQqa311⟩) hHeld ?restUQqa311
                  case hUQqa311 => (simp only [List.getElem?_toArray, List.getElem?_cons_succ, List.getElem?_cons_zero]; rfl)
                  case hQUQqa311 => exact fun _ _ _ h => h
                  case hwUQqa311 => rfl
                  case hyUQqa311 => (intro w hSw; (try dsimp only at hSw); go_simp; try with_reducible rfl)
                  try simp only [Act.put, List.setIfInBounds_toArray, List.set_cons_zero, List.set_cons_succ]
                  refine wpAnyH_done (by kernel_rfl) ?_ _
                  clear hHeld c0 c1 c2 hfr hb6 hke hrgd
                  generalize ((V1.setCell ⟨p11, 0, none⟩ (.slice x0 x1 x2)).setCell ⟨p11, 1, none⟩ (.slice y0 y1 y2)).setCell ⟨p11, 2, none⟩ (.int .i64 zz) = wq at *
                  go_wp2
                  go_roundw
                  case rel => exact ⟨m + 1, by omega, by omega, by go_num, hpl⟩
                  case measure => simp [intOf]; omega
          · have hlt2 : len2 ≤ m ∨ 40 ≤ m := by omega
            have hb8 := hT.sb
            have HT := Lib.hid hT
            clear hlt hT HR2
            by_cases hc2 : m < len2
            · have hm9 : ¬ m < 40 := by omega
              go_wp2_with fail
              refine (headz _).mono ?_
              rintro e v5 ⟨rfl, hk5⟩
              have hT6 := HT.out.kk hk5
              clear b0 b1 b2 hk5 HT hb8
              have HT := Lib.hid hT6
              clear hT6
              go_wp2_with fail
              refine (live_any _).mono ?_
              rintro e v8 ⟨rfl, hk8⟩
              have hK := (Keeps.refl [] v5).alloc (.cells #[.int .i64 0, .int .u8 0, .int .u8 0, .int .i64 0, .int .i64 0, .int .i64 0, .bool false] 30) |>.trans hk8
              have hT := HT.out.kk hK
              obtain ⟨b0, b1, b2⟩ := blkq hT.sb
              obtain ⟨c0, c1, c2⟩ := blkq hT.t.b6
              clear hT
              go_wp2_with fail
              refine (told_any _ _ (HT.out.sq.kp hK) (HT.out.rx.kp hK)).mono ?_
              rintro e v9 ⟨rfl, hk9⟩
              have hK := hK.trans hk9
              clear b0 b1 b2 c0 c1 c2
              have hT := HT.out.kk hK
              obtain ⟨b0, b1, b2⟩ := blkq hT.sb
              obtain ⟨c0, c1, c2⟩ := blkq hT.t.b6
              clear hT
              go_wp2_with fail
              refine (told_any _ _ (HT.out.t.qe.kp hK) (HT.out.t.rf.kp hK)).mono ?_
              rintro e v10 ⟨rfl, hk10⟩
              have hK := hK.trans hk10
              clear b0 b1 b2 c0 c1 c2
              go_wp2_with fail
              refine (putz _).mono ?_
              rintro e v11 ⟨rfl, hk11⟩
              have hK := hK.trans hk11
              go_wp2_with fail
              refine (finish_nil 0 0 _).mono ?_
              rintro e v12 ⟨rfl, rfl⟩
              go_wp2_with fail
              refine (settle_nil _).mono ?_
              rintro e v12 ⟨rfl, rfl⟩
              go_wp2_with fail
              refine (waits_nil _).mono ?_
              rintro e v12 ⟨rfl, rfl⟩
              go_wp2_with fail
              refine (backlog_nil _).mono ?_
              rintro e v12 ⟨rfl, hk12⟩
              have hK := hK.trans hk12
              go_wp2_with fail
              refine (len_qnil _).mono ?_
              rintro e v13 ⟨rfl, rfl⟩
              go_wp2_with fail
              refine (post_nil _).mono ?_
              rintro e v13 ⟨rfl, rfl⟩
              go_wp2_with fail
              refine (fork_qnil _).mono ?_
              rintro e v13 ⟨rfl, rfl⟩
              have HK := Lib.hid hK
              clear hK
              go_wp2
              go_ret
              exact ⟨rfl, (HT.out.t.kp.trans HK.out).all⟩
            · skip
              go_wp2_with fail
              refine (headz _).mono ?_
              rintro e v5 ⟨rfl, hk5⟩
              have hT6 := HT.out.kk hk5
              clear b0 b1 b2 hk5 HT hb8
              have HT := Lib.hid hT6
              clear hT6
              go_wp2_with fail
              refine (live_any _).mono ?_
              rintro e v8 ⟨rfl, hk8⟩
              have hK := (Keeps.refl [] v5).alloc (.cells #[.int .i64 0, .int .u8 0, .int .u8 0, .int .i64 0, .int .i64 0, .int .i64 0, .bool false] 30) |>.trans hk8
              have hT := HT.out.kk hK
              obtain ⟨b0, b1, b2⟩ := blkq hT.sb
              obtain ⟨c0, c1, c2⟩ := blkq hT.t.b6
              clear hT
              go_wp2_with fail
              refine (told_any _ _ (HT.out.sq.kp hK) (HT.out.rx.kp hK)).mono ?_
              rintro e v9 ⟨rfl, hk9⟩
              have hK := hK.trans hk9
              clear b0 b1 b2 c0 c1 c2
              have hT := HT.out.kk hK
              obtain ⟨b0, b1, b2⟩ := blkq hT.sb
              obtain ⟨c0, c1, c2⟩ := blkq hT.t.b6
              clear hT
              go_wp2_with fail
              refine (told_any _ _ (HT.out.t.qe.kp hK) (HT.out.t.rf.kp hK)).mono ?_
              rintro e v10 ⟨rfl, hk10⟩
              have hK := hK.trans hk10
              clear b0 b1 b2 c0 c1 c2
              go_wp2_with fail
              refine (putz _).mono ?_
              rintro e v11 ⟨rfl, hk11⟩
              have hK := hK.trans hk11
              go_wp2_with fail
              refine (finish_nil 0 0 _).mono ?_
              rintro e v12 ⟨rfl, rfl⟩
              go_wp2_with fail
              refine (settle_nil _).mono ?_
              rintro e v12 ⟨rfl, rfl⟩
              go_wp2_with fail
              refine (waits_nil _).mono ?_
              rintro e v12 ⟨rfl, rfl⟩
              go_wp2_with fail
              refine (backlog_nil _).mono ?_
              rintro e v12 ⟨rfl, hk12⟩
              have hK := hK.trans hk12
              go_wp2_with fail
              refine (len_qnil _).mono ?_
              rintro e v13 ⟨rfl, rfl⟩
              go_wp2_with fail
              refine (post_nil _).mono ?_
              rintro e v13 ⟨rfl, rfl⟩
              go_wp2_with fail
              refine (fork_qnil _).mono ?_
              rintro e v13 ⟨rfl, rfl⟩
              have HK := Lib.hid hK
              clear hK
              go_wp2
              go_ret
              exact ⟨rfl, (HT.out.t.kp.trans HK.out).all⟩
      · skip
        go_wp2_with fail
        refine (fork_q _ HS.out.qe).mono ?_
        rintro e v1 ⟨f, gf, rf, yf, af, cf, rfl, hqf, hkf, hf1, hf2, hf3, hf4⟩
        have hb6f := HS.out.b6.keeps hkf (by simp)
        clear b0 b1 b2
        obtain ⟨b0, b1, b2⟩ := blkq hb6f
        have hF := fk_0 HS.out hqf hkf hf1 hf2 hf3 hf4 rfl
        clear hqf hkf hf1 hf2 hf3 hf4 HS hb6f
        go_wp2_with fail
        generalize v1.alloc (.cells #[.slice s0 l.length k0, .slice s1 dl.length k1, .int .i64 L] 47) = v2 at *
        generalize v1.heap.size = p11 at *
        clear b0 b1 b2
        go_loopw [12] (fun i wr => ∃ k : Nat, k ≤ len2 ∧ k ≤ 40 ∧ i = .int .i64 k ∧ Fk w q p8 L g r y a1 c1 l dl (.slice s0 l.length k0) (.slice s1 dl.length k1) (.int .i64 L) f p11 wr) (fun i _ => 40 - (intOf i).toNat)
        case atStart => exact ⟨0, by omega, by omega, rfl, hF⟩
        case round =>
          clear hF
          obtain ⟨m, hml, hm40, rfl, hh⟩ := hrel
          obtain ⟨gf, rf, yf, af, cf, lf, df, v0, v1, v2, hT⟩ := hh.open_
          clear hh
          obtain ⟨t0, n0, t1, n1, rfl, rfl, rfl⟩ := pl_slice hT.t
          obtain ⟨b0, b1, b2⟩ := blkq hT.t.b6
          have hp6 := hT.t.b6.lt
          by_cases hlt : m < len2 ∧ m < 40
          · obtain ⟨hml', hm40'⟩ := hlt
            obtain ⟨b, off, rfl, hbl, hrg⟩ := deed_at HR2.out hT.t.kp m hml'
            rw [← dcl_eq] at hrg
            have hinf := dcl_info (numAt R2 m 0) (itAt R2 m) (numAt R2 m 8) (numAt R2 m 9)
            generalize numAt R2 m 0 = d at *
            generalize itAt R2 m = x at *
            generalize numAt R2 m 8 = st at *
            generalize numAt R2 m 9 = nn at *
            have hbr := Nat.lt_of_lt_of_le hbl hT.t.kp.size
            have hm0' : (0 : Int) ≤ (m : Int) := by omega
            have hm1' : (m : Int) < (len2 : Int) := by omega
            have hbs := hT.t.bs
            have HT := Lib.hid hT
            clear hT
            go_wp2_with fail
            have k9 : Keeps [] wr wr.drew := (Keeps.refl _ _).drew
            have hSd := HT.out.kk k9
            have hrgd := hrg.keepz k9 hbr (by simp)
            have hbd := Nat.lt_of_lt_of_le hbr k9.size
            obtain ⟨c0, c1, c2⟩ := blkq hSd.t.b6
            have hfr := hSd.t.b6.frozen
            clear HT hrg hbr k9 b0 b1 b2 hp6
            refine wp_region_held_drew (S := (fun V => V.rangeAt b (off + m * 10) (dcl d x st nn))) (by kernel_rfl) hrgd (fun hHeld => ?_)
            generalize wr.drew = U at *
            refine' wpAnyH_take (i := 0) (oi := _) (v := _) ?hAqb0 (by kernel_rfl) (by kernel_rfl) (by kernel_rfl) ?hQAqb0 (Or.inl ⟨?hwAqb0, ?hyAqb0⟩) hHeld ?restAqb0
            case hAqb0 => (simp only [List.getElem?_toArray, List.getElem?_cons_zero]; rfl)
            case hQAqb0 => exact fun _ _ _ h => h
            case hwAqb0 => rfl
            case hyAqb0 => (intro w hSw; (try dsimp only at hSw); go_simp; try with_reducible rfl)
            try simp only [Act.put, List.setIfInBounds_toArray, List.set_cons_zero, List.set_cons_succ]
            refine' wpAnyH_take (i := 2) (oi := _) (v := _) ?hAqb2 (by kernel_rfl) (by kernel_rfl) (by kernel_rfl) ?hQAqb2 (Or.inl ⟨?hwAqb2, ?hyAqb2⟩) hHeld ?restAqb2
            case hAqb2 => (simp only [List.getElem?_toArray, List.getElem?_cons_succ, List.getElem?_cons_zero]; rfl)
            case hQAqb2 => exact fun _ _ _ h => h
            case hwAqb2 => rfl
            case hyAqb2 => (intro w hSw; (try dsimp only at hSw); go_simp; try with_reducible rfl)
            try simp only [Act.put, List.setIfInBounds_toArray, List.set_cons_zero, List.set_cons_succ]
            refine' wpAnyH_take (i := 3) (oi := _) (v := _) ?hAqb3 (by kernel_rfl) (by kernel_rfl) (by kernel_rfl) ?hQAqb3 (Or.inl ⟨?hwAqb3, ?hyAqb3⟩) hHeld ?restAqb3
            case hAqb3 => (simp only [List.getElem?_toArray, List.getElem?_cons_succ, List.getElem?_cons_zero]; rfl)
            case hQAqb3 => exact fun _ _ _ h => h
            case hwAqb3 => rfl
            case hyAqb3 => (intro w hSw; (try dsimp only at hSw); go_simp; try with_reducible rfl)
            try simp only [Act.put, List.setIfInBounds_toArray, List.set_cons_zero, List.set_cons_succ]
            refine' wpAnyH_take (i := 4) (oi := _) (v := _) ?hAqb4 (by kernel_rfl) (by kernel_rfl) (by kernel_rfl) ?hQAqb4 (Or.inl ⟨?hwAqb4, ?hyAqb4⟩) hHeld ?restAqb4
            case hAqb4 => (simp only [List.getElem?_toArray, List.getElem?_cons_succ, List.getElem?_cons_zero]; rfl)
            case hQAqb4 => exact fun _ _ _ h => h
            case hwAqb4 => rfl
            case hyAqb4 => (intro w hSw; (try dsimp only at hSw); go_simp; try with_reducible rfl)
            try simp only [Act.put, List.setIfInBounds_toArray, List.set_cons_zero, List.set_cons_succ]
            refine' wpAnyH_take (i := 5) (oi := _) (v := .agg (dcl d x st nn).toArray) ?hAqb5 (by kernel_rfl) (by kernel_rfl) (by kernel_rfl) ?hQAqb5 ?hyAqb5 hHeld ?restAqb5
            case hAqb5 => (simp only [List.getElem?_toArray, List.getElem?_cons_succ, List.getElem?_cons_zero]; rfl)
            case hQAqb5 => exact fun _ _ _ h => h
            case hyAqb5 => exact yieldsIf_load_mid rfl _ _ rfl _ _ rfl (dcl d x st nn) _ (fun _ h => h) Try.underlying32 rfl hinf
            try simp only [Act.put, List.setIfInBounds_toArray, List.set_cons_zero, List.set_cons_succ]
            refine wpAnyH_ready (rs := [1]) (by kernel_rfl) (by simp) ?_
            refine' (AllReadyH.cons (o := _) ?hoQqb11 (fun K hK' => ?stQqb11) AllReadyH.nil)
            case hoQqb11 => (simp only [List.getElem?_toArray, List.getElem?_cons_succ, List.getElem?_cons_zero]; rfl)
            case stQqb11 =>
              go_simp
              refine hK'.out _ _ (hHeld) (fun hHeld' => ?_)
              clear hK' K hHeld
              have hHeld := hHeld'
              clear hHeld'
              try simp only [Act.put]
              try simp only [Act.put, List.setIfInBounds_toArray, List.set_cons_zero, List.set_cons_succ]
              refine wpAnyH_ready (rs := [6]) (by kernel_rfl) (by simp) ?_
              refine' (AllReadyH.cons (o := _) ?hoQqb26 (fun K hK' => ?stQqb26) AllReadyH.nil)
              case hoQqb26 => (simp only [List.getElem?_toArray, List.getElem?_cons_succ, List.getElem?_cons_zero]; rfl)
              case stQqb26 =>
                go_simp
                refine (step_any d x st nn _ _ hSd.t.qe (hSd.t.rf.more (by intro z hz; simp at hz ⊢; omega))).mono ?_
                intro e V1 hst
                have hke := hst.keep
                obtain ⟨x0, x1, x2, y0, y1, y2, zz, rfl, hb6, hpl⟩ := hSd.step hst
                clear hst
                dsimp only
                try go_wp2_with fail
                obtain ⟨c0, c1, c2⟩ := blkq hb6
                have hfr := hb6.frozen
                have hrgd := hrgd.keepz hke hbd (by simp; omega)
                have hbd := Nat.lt_of_lt_of_le hbd hke.size
                refine hK'.out _ _ (hrgd) (fun hHeld' => ?_)
                clear hK' K hHeld
                have hHeld := hHeld'
                clear hHeld'
                try simp only [Act.put]
                try simp only [Act.put, List.setIfInBounds_toArray, List.set_cons_zero, List.set_cons_succ]
                refine' wpAnyH_take (i := 7) (oi := _) (v := _) ?hSQqb27 (by kernel_rfl) (by kernel_rfl) (by kernel_rfl) ?hQSQqb27 (Or.inl ⟨?hwSQqb27, ?hySQqb27⟩) hHeld ?restSQqb27
                case hSQqb27 => (simp only [List.getElem?_toArray, List.getElem?_cons_succ, List.getElem?_cons_zero]; rfl)
                case hQSQqb27 => exact fun _ _ _ h => h
                case hwSQqb27 => rfl
                case hySQqb27 => (intro w hSw; (try dsimp only at hSw); go_simp; try with_reducible rfl)
                try simp only [Act.put, List.setIfInBounds_toArray, List.set_cons_zero, List.set_cons_succ]
                refine' wpAnyH_take (i := 8) (oi := _) (v := _) ?hSQqb28 (by kernel_rfl) (by kernel_rfl) (by kernel_rfl) ?hQSQqb28 (Or.inl ⟨?hwSQqb28, ?hySQqb28⟩) hHeld ?restSQqb28
                case hSQqb28 => (simp only [List.getElem?_toArray, List.getElem?_cons_succ, List.getElem?_cons_zero]; rfl)
                case hQSQqb28 => exact fun _ _ _ h => h
                case hwSQqb28 => rfl
                case hySQqb28 => (intro w hSw; (try dsimp only at hSw); go_simp; try with_reducible rfl)
                try simp only [Act.put, List.setIfInBounds_toArray, List.set_cons_zero, List.set_cons_succ]
                refine' wpAnyH_take (i := 9) (oi := _) (v := _) ?hSQqb29 (by kernel_rfl) (by kernel_rfl) (by kernel_rfl) ?hQSQqb29 (Or.inl ⟨?hwSQqb29, ?hySQqb29⟩) hHeld ?restSQqb29
                case hSQqb29 => (simp only [List.getElem?_toArray, List.getElem?_cons_succ, List.getElem?_cons_zero]; rfl)
                case hQSQqb29 => exact fun _ _ _ h => h
                case hwSQqb29 => rfl
                case hySQqb29 => (intro w hSw; (try dsimp only at hSw); go_simp; try with_reducible rfl)
                try simp only [Act.put, List.setIfInBounds_toArray, List.set_cons_zero, List.set_cons_succ]
                refine wpAnyH_ready (rs := [10]) (by kernel_rfl) (by simp) ?_
                refine' (AllReadyH.cons (o := _) ?hoQqb310 (fun K hK' => ?stQqb310) AllReadyH.nil)
                case hoQqb310 => (simp only [List.getElem?_toArray, List.getElem?_cons_succ, List.getElem?_cons_zero]; rfl)
                case stQqb310 =>
                  go_simp
                  refine hK'.out _ _ (hHeld.keepz (keep3 p11 _ _ _) hbd (by simp; omega)) (fun hHeld' => ?_)
                  clear hK' K hHeld
                  have hHeld := hHeld'
                  clear hHeld'
                  try simp only [Act.put]
                  try simp only [Act.put, List.setIfInBounds_toArray, List.set_cons_zero, List.set_cons_succ]
                  refine' wpAnyH_take (i := 11) (oi := _) (v := _) ?hUQqb311 (by kernel_rfl) (by kernel_rfl) (by kernel_rfl) ?hQUQqb311 (Or.inl ⟨?hwUQqb311, ?hyUQqb311⟩) hHeld ?restUQqb311
                  case hUQqb311 => (simp only [List.getElem?_toArray, List.getElem?_cons_succ, List.getElem?_cons_zero]; rfl)
                  case hQUQqb311 => exact fun _ _ _ h => h
                  case hwUQqb311 => rfl
                  case hyUQqb311 => (intro w hSw; (try dsimp only at hSw); go_simp; try with_reducible rfl)
                  try simp only [Act.put, List.setIfInBounds_toArray, List.set_cons_zero, List.set_cons_succ]
                  refine wpAnyH_done (by kernel_rfl) ?_ _
                  clear hHeld c0 c1 c2 hfr hb6 hke hrgd
                  generalize ((V1.setCell ⟨p11, 0, none⟩ (.slice x0 x1 x2)).setCell ⟨p11, 1, none⟩ (.slice y0 y1 y2)).setCell ⟨p11, 2, none⟩ (.int .i64 zz) = wq at *
                  go_wp2
                  go_roundw
                  case rel => exact ⟨m + 1, by omega, by omega, by go_num, hpl⟩
                  case measure => simp [intOf]; omega
          · have hlt2 : len2 ≤ m ∨ 40 ≤ m := by omega
            have hb8 := hT.sb
            have HT := Lib.hid hT
            clear hlt hT HR2
            by_cases hc2 : m < len2
            · have hm9 : ¬ m < 40 := by omega
              go_wp2_with fail
              refine (headz _).mono ?_
              rintro e v5 ⟨rfl, hk5⟩
              have hT6 := HT.out.kk hk5
              clear b0 b1 b2 hk5 HT hb8
              have HT := Lib.hid hT6
              clear hT6
              go_wp2_with fail
              refine (live_any _).mono ?_
              rintro e v8 ⟨rfl, hk8⟩
              have hK := (Keeps.refl [] v5).alloc (.cells #[.int .i64 0, .int .u8 0, .int .u8 0, .int .i64 0, .int .i64 0, .int .i64 0, .bool false] 30) |>.trans hk8
              have hT := HT.out.kk hK
              obtain ⟨b0, b1, b2⟩ := blkq hT.sb
              obtain ⟨c0, c1, c2⟩ := blkq hT.t.b6
              clear hT
              go_wp2_with fail
              refine (told_any _ _ (HT.out.sq.kp hK) (HT.out.rx.kp hK)).mono ?_
              rintro e v9 ⟨rfl, hk9⟩
              have hK := hK.trans hk9
              clear b0 b1 b2 c0 c1 c2
              have hT := HT.out.kk hK
              obtain ⟨b0, b1, b2⟩ := blkq hT.sb
              obtain ⟨c0, c1, c2⟩ := blkq hT.t.b6
              clear hT
              go_wp2_with fail
              refine (told_any _ _ (HT.out.t.qe.kp hK) (HT.out.t.rf.kp hK)).mono ?_
              rintro e v10 ⟨rfl, hk10⟩
              have hK := hK.trans hk10
              clear b0 b1 b2 c0 c1 c2
              go_wp2_with fail
              refine (putz _).mono ?_
              rintro e v11 ⟨rfl, hk11⟩
              have hK := hK.trans hk11
              go_wp2_with fail
              refine (finish_nil 0 0 _).mono ?_
              rintro e v12 ⟨rfl, rfl⟩
              go_wp2_with fail
              refine (settle_nil _).mono ?_
              rintro e v12 ⟨rfl, rfl⟩
              go_wp2_with fail
              refine (waits_nil _).mono ?_
              rintro e v12 ⟨rfl, rfl⟩
              go_wp2_with fail
              refine (backlog_nil _).mono ?_
              rintro e v12 ⟨rfl, hk12⟩
              have hK := hK.trans hk12
              go_wp2_with fail
              refine (len_qnil _).mono ?_
              rintro e v13 ⟨rfl, rfl⟩
              go_wp2_with fail
              refine (post_nil _).mono ?_
              rintro e v13 ⟨rfl, rfl⟩
              go_wp2_with fail
              refine (fork_qnil _).mono ?_
              rintro e v13 ⟨rfl, rfl⟩
              have HK := Lib.hid hK
              clear hK
              go_wp2
              go_ret
              exact ⟨rfl, (HT.out.t.kp.trans HK.out).all⟩
            · skip
              go_wp2_with fail
              refine (headz _).mono ?_
              rintro e v5 ⟨rfl, hk5⟩
              have hT6 := HT.out.kk hk5
              clear b0 b1 b2 hk5 HT hb8
              have HT := Lib.hid hT6
              clear hT6
              go_wp2_with fail
              refine (live_any _).mono ?_
              rintro e v8 ⟨rfl, hk8⟩
              have hK := (Keeps.refl [] v5).alloc (.cells #[.int .i64 0, .int .u8 0, .int .u8 0, .int .i64 0, .int .i64 0, .int .i64 0, .bool false] 30) |>.trans hk8
              have hT := HT.out.kk hK
              obtain ⟨b0, b1, b2⟩ := blkq hT.sb
              obtain ⟨c0, c1, c2⟩ := blkq hT.t.b6
              clear hT
              go_wp2_with fail
              refine (told_any _ _ (HT.out.sq.kp hK) (HT.out.rx.kp hK)).mono ?_
              rintro e v9 ⟨rfl, hk9⟩
              have hK := hK.trans hk9
              clear b0 b1 b2 c0 c1 c2
              have hT := HT.out.kk hK
              obtain ⟨b0, b1, b2⟩ := blkq hT.sb
              obtain ⟨c0, c1, c2⟩ := blkq hT.t.b6
              clear hT
              go_wp2_with fail
              refine (told_any _ _ (HT.out.t.qe.kp hK) (HT.out.t.rf.kp hK)).mono ?_
              rintro e v10 ⟨rfl, hk10⟩
              have hK := hK.trans hk10
              clear b0 b1 b2 c0 c1 c2
              go_wp2_with fail
              refine (putz _).mono ?_
              rintro e v11 ⟨rfl, hk11⟩
              have hK := hK.trans hk11
              go_wp2_with fail
              refine (finish_nil 0 0 _).mono ?_
              rintro e v12 ⟨rfl, rfl⟩
              go_wp2_with fail
              refine (settle_nil _).mono ?_
              rintro e v12 ⟨rfl, rfl⟩
              go_wp2_with fail
              refine (waits_nil _).mono ?_
              rintro e v12 ⟨rfl, rfl⟩
              go_wp2_with fail
              refine (backlog_nil _).mono ?_
              rintro e v12 ⟨rfl, hk12⟩
              have hK := hK.trans hk12
              go_wp2_with fail
              refine (len_qnil _).mono ?_
              rintro e v13 ⟨rfl, rfl⟩
              go_wp2_with fail
              refine (post_nil _).mono ?_
              rintro e v13 ⟨rfl, rfl⟩
              go_wp2_with fail
              refine (fork_qnil _).mono ?_
              rintro e v13 ⟨rfl, rfl⟩
              have HK := Lib.hid hK
              clear hK
              go_wp2
              go_ret
              exact ⟨rfl, (HT.out.t.kp.trans HK.out).all⟩
end Qp
end Go.Proofs.Ytaepcedcjhliaaa

