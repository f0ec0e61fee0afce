/- The law's step: a frame that waits is taken. -/
import Derived.Test.YtdbkgpnbmafpmaaNicS
namespace Go.Proofs.Ytdbkgpnbmafpmaa
open Go.RowKit Go.Maps Go.Deep
namespace Nc
open Sm Fr
open PlainAid (bt)
theorem there_kp {w w' : World} {g o n : Nat} (h : w.there g o n) (hk : Keeps [] w w') (hg : g < w.heap.size) : w'.there g o n := fun u hu => by
  obtain ⟨h1, h2⟩ := h u hu
  exact ⟨by rw [hk.cell (p := ⟨g, o + u, none⟩) hg (by simp)]; exact h1, by rw [hk.frozen (p := ⟨g, o + u, none⟩) hg (by simp)]; exact h2⟩
section
variable {w w1 w' : World} {d m y c n j : Nat} {od od' : Int} {a la : Option Addr} {lg : List Sn} {L : List Pt} {lb G F : List Nat} {Ps : List RP} {xs : List Pr}
attribute [local irreducible] Nx
set_option maxRecDepth 100000 in
set_option maxHeartbeats 2000000 in
theorem step_1c (lc : Nat) (k to_ ti : Int) (te : ByteArray) (x : Pt) (f : FiF.It) (t : List FiF.It) (h : Stp w d m y od a c lg L la n lb Ps G xs j) (hk : (Lit.int .i64 k).wf = true) (hp : pt? L k = some x) (hw : x.ws = f :: t) :
    Calls Try.prog 19 #[.pointer (some ⟨d, 0, none⟩), .slice la n lc, .agg (deed 1 k to_ ti te)] w fun e w' => e = .returned (.bool true) ∧ Nx w d m (foot d m y L) la n lb G xs (j + 1) od w' := by
  have hk0 : Keeps [] w (w.alloc (.cells #[.int .i64 1, .int .i64 k, .int .i64 to_, .int .i64 ti, .string te] 54)) := (Keeps.refl _ _).alloc _
  have h0 := h.kp hk0
  have HO := Lib.hid (rowner_any la n lc Ps k _ h0.rw.rr h0.n8)
  obtain ⟨i, p, hoi, hil, hxi, hpi, e1, e2, e3, e4, e5, e6⟩ := h.oi_some hp
  rw [hoi] at HO
  have HT := Lib.hid (take_dev k _ h0.dv hk)
  unfold IsTake at HT
  rw [take_some hp hw] at HT
  dsimp only at HT
  have H0 := Lib.hid h0
  have HK := Lib.hid hk0
  have hi0 : (0 : Int) ≤ (i : Int) := by omega
  have hpx := h.dv.pt x (pt_mem hp).1
  have hq := hpx.q.dr0
  have hl16 := hpx.l2
  rw [hw] at e5 hq
  rw [e5] at e6
  simp only [List.length_cons] at e5 e6 hq
  have hdr := h.sd.dr x (pt_mem hp).1
  have HX := Lib.hid (And.intro hxi (And.intro hpi (And.intro (pt_mem hp).1 (And.intro hw hdr))))
  clear h h0 hk0 hoi
  unfold deed
  go_enter Try.func19, Try.ntmps19
  go_wp2_with fail
  refine HO.out.mono ?_
  rintro e v ⟨rfl, rfl⟩
  go_wp2_with fail
  refine HT.out.mono ?_
  clear HO HT
  rintro e w1 ⟨rfl, hto⟩
  obtain ⟨y', a', c', hf⟩ := H0.out.half hto
  simp only [fv]
  have hka : Keeps [] w1 (w1.alloc (.cells #[.int .i64 f.to, .int .i64 f.fr, .string f.data] 39)) := (Keeps.refl [] w1).alloc _
  have hB2 := Blk.new w1 39 #[.int .i64 f.to, .int .i64 f.fr, .string f.data]
  generalize hW2 : w1.alloc (.cells #[.int .i64 f.to, .int .i64 f.fr, .string f.data] 39) = w2 at *
  obtain ⟨g, rfl, _, hg, _, c0, c1, c2, c3, c4⟩ := (hf.rw.keeps hka (by simp)).cells hpi
  obtain ⟨_, _, _, _, _, _, hrd⟩ := (hf.dc.keeps hka (by simp)).eq i x p hxi hpi
  rw [hw, e5] at hrd
  rw [e1] at c0
  rw [e2] at c1
  rw [e3] at c2
  rw [e4] at c4
  rw [e5] at c3
  have hF : ∀ b ∈ lb ++ foot d m y' (upd L { x with ws := t }) ++ G, b < w2.heap.size := by
    intro b hb
    have hz := hka.size
    simp only [List.mem_append] at hb
    rcases hb with (hb | hb) | hb
    · have := hf.rw.lt b hb; omega
    · have := hf.dv.lt b hb; omega
    · have := hf.hG b hb; omega
  have HRT := Lib.hid (rtake_any x.ow x.ma x.li x.dr p.wa p.wc w2 hrd hF (by omega) e6)
  have hth : w2.there g (i * 5) 5 := by
    obtain ⟨g', e, _, _, _, _, h6⟩ := (hf.rw.keeps hka (by simp)).at_ hpi
    injection e with e; injection e with e
    subst e
    exact h6
  have hgl : g < w1.heap.size := by
    obtain ⟨g', e, _, h3, _⟩ := hf.rw.at_ hpi
    injection e with e; injection e with e
    subst e
    exact h3
  have HF := Lib.hid (And.intro hf (And.intro hka (And.intro hB2 (And.intro hth (And.intro hg hgl)))))
  have hne : ((t.length : Int) + 1 == 0) = false := by simp; omega
  subst hW2
  clear hto hf hka hB2 hth hpx hq hrd hF e1 e2 e3 e4 e5 e6 hxi hpi hp hw hdr hg hgl
  go_wp2_with fail
  refine HRT.out.mono ?_
  clear HRT
  rintro e w3 ⟨a3, c3', rfl, hrd3, hc3, hk3⟩
  have hk5 : Keeps [] w3 ((w3.alloc (.cells #[.int .i64 x.ow, .int .i64 x.ma, .int .i64 x.li, .slice a3 t.length c3', .int .i64 x.dr] 45)).alloc (.cells #[.int .i64 f.to, .int .i64 f.fr, .string f.data] 65)) := ((Keeps.refl [] w3).alloc _).alloc _
  have hB3 := Blk.new (w3.alloc (.cells #[.int .i64 x.ow, .int .i64 x.ma, .int .i64 x.li, .slice a3 t.length c3', .int .i64 x.dr] 45)) 65 #[.int .i64 f.to, .int .i64 f.fr, .string f.data]
  obtain ⟨hf, hka, hB2, hth, hg, hgl⟩ := HF.out
  have hk25 := hk3.trans hk5
  have hth5 := there_kp hth hk25 hg
  have hb5 := hB2.keeps hk25 (by simp)
  have hz3 : (w3.alloc (.cells #[.int .i64 x.ow, .int .i64 x.ma, .int .i64 x.li, .slice a3 t.length c3', .int .i64 x.dr] 45)).heap.size = w3.heap.size + 1 := by simp
  rw [hz3] at hB3
  have hg3 : g < w3.heap.size := Nat.lt_of_lt_of_le hg hk3.size
  have hrd5 := hrd3.keeps hk5 (by simp)
  have hk15 := hka.trans hk25
  have HW := Lib.hid (And.intro hf (And.intro hth5 (And.intro hb5 (And.intro hB3 (And.intro hgl (And.intro hg3 (And.intro hrd5 (And.intro hk15 hc3))))))))
  clear hf hka hB2 hth hg hgl hk25 hth5 hb5 hB3 hg3 hrd5 hk15 hc3 HF hk5 hk3 hrd3 hz3 c0 c1 c2 c3 c4
  go_wp2_with (refine wpList_store_rp rfl _ _ rfl g (i * 5) ⟨x.ow, x.ma, x.li, a3, t.length, c3', x.dr⟩ rfl rfl HW.out.2.1 ?_; intro w6 hw6; have hst := HW.out.1.fin (w3 := (w3.alloc (.cells #[.int .i64 x.ow, .int .i64 x.ma, .int .i64 x.li, .slice a3 t.length c3', .int .i64 x.dr] 45)).alloc (.cells #[.int .i64 f.to, .int .i64 f.fr, .string f.data] 65)) (p' := ⟨x.ow, x.ma, x.li, a3, t.length, c3', x.dr⟩) (j := j + 1) (xs := xs) H0.out.dv.ap HX.out.1 (pop_same x t) HX.out.2.1 HW.out.2.2.2.2.2.2.2.1 rfl rfl rfl rfl rfl rfl HW.out.2.2.2.2.2.2.2.2 HW.out.2.2.2.2.2.2.1 (by have := H0.out.sd.turn HX.out.2.2.1 (pop_same x t) H0.out.dv.ap (by have := HX.out.2.2.2.2; show x.dr ≤ (j : Int) + 1; omega); rwa [show (j : Int) + 1 = ((j + 1 : Nat) : Int) by omega] at this) (by have := H0.out.lg; omega); have hkw : Keeps [g] ((w3.alloc (.cells #[.int .i64 x.ow, .int .i64 x.ma, .int .i64 x.li, .slice a3 t.length c3', .int .i64 x.dr] 45)).alloc (.cells #[.int .i64 f.to, .int .i64 f.fr, .string f.data] 65)) w6 := (by rw [hw6]; exact keeps_set _ _ _ _); have hb6 := HW.out.2.2.1.keeps hkw (by have := HW.out.2.2.2.2.1; simp; omega); have hb7 := HW.out.2.2.2.1.keeps hkw (by have := HW.out.2.2.2.2.2.1; simp; omega); rw [← hw6] at hst; have HST := Lib.hid hst; have s0 : w6.cell? ⟨w1.heap.size, 0, none⟩ = some (.int .i64 f.to) := hb6.cell 0; have s1 : w6.cell? ⟨w1.heap.size, 1, none⟩ = some (.int .i64 f.fr) := hb6.cell 1; have s2 : w6.cell? ⟨w1.heap.size, 2, none⟩ = some (.string f.data) := hb6.cell 2; have t0 : w6.cell? ⟨w3.heap.size + 1, 0, none⟩ = some (.int .i64 f.to) := hb7.cell 0; have t1 : w6.cell? ⟨w3.heap.size + 1, 1, none⟩ = some (.int .i64 f.fr) := hb7.cell 1; have t2 : w6.cell? ⟨w3.heap.size + 1, 2, none⟩ = some (.string f.data) := hb7.cell 2; have hl6 := hb6.lt; have hl7 := hb7.lt; clear hst hw6 hkw hb6 hb7)
  go_ret
  exact ⟨rfl, (nx_mk ⟨_, _, _, _, _, _, HST.out.1, HST.out.2, HW.out.1.ft⟩).from HK.out⟩
end
end Nc
end Go.Proofs.Ytdbkgpnbmafpmaa
