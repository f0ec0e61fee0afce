/- The law's step: bytes come; a frame is taken. -/
import Derived.Test.YtdbkgpnbmafpmaaNicR
namespace Go.Proofs.Ytdbkgpnbmafpmaa
open Go.RowKit Go.Maps Go.Deep
namespace Nc
open Sm Fr
open PlainAid (bt)
def deed (o k to_ ti : Int) (te : ByteArray) : Array Value := #[.int .i64 o, .int .i64 k, .int .i64 to_, .int .i64 ti, .string te]
section
variable {w w1 w' : World} {d m y c n j : Nat} {od od' : Int} {a la : Option Addr} {lg : List Sn} {L : List Pt} {lb G F : List Nat} {Ps : List RP} {xs : List Pr}
theorem Nx.from (h : Nx w1 d m F la n lb G xs j od' w') (hk : Keeps [] w w1) : Nx w d m F la n lb G xs j od' w' := by
  obtain ⟨y', a', c', lg', L', Ps', h1, h2, h3⟩ := h
  have := hk.size
  exact ⟨y', a', c', lg', L', Ps', h1, (hk.more (by simp)).trans h2, fun b hb => by rcases h3 b hb with h4 | h4; exact .inl h4; exact .inr (by omega)⟩
theorem Nx.then (h : Nx w d m F la n lb G xs j od' w1) (hk : Keeps [] w1 w') : Nx w d m F la n lb G xs j od' w' := by
  obtain ⟨y', a', c', lg', L', Ps', h1, h2, h3⟩ := h
  exact ⟨y', a', c', lg', L', Ps', h1.kp hk, h2.trans (hk.more (by simp)), h3⟩
theorem Stp.oi_none (h : Stp w d m y od a c lg L la n lb Ps G xs j) {k : Int} (hp : pt? L k = none) : oi Ps k = -1 := by
  have := Nc.oi_none (xs := L.map key) rfl hp
  rw [← doc_key h.dc, ← oi_key] at this
  exact this
theorem Stp.oi_some (h : Stp w d m y od a c lg L la n lb Ps G xs j) {k : Int} {x : Pt} (hp : pt? L k = some x) : ∃ (i : Nat) (p : RP), oi Ps k = i ∧ (i : Int) < (n : Int) ∧ L[i]? = some x ∧ Ps[i]? = some p ∧ (p.ow = x.ow ∧ p.ma = x.ma ∧ p.li = x.li ∧ p.dr = x.dr ∧ p.wn = x.ws.length ∧ p.wn ≤ p.wc) := by
  obtain ⟨i, h1, h2⟩ := oi_pt (xs := L.map key) rfl hp
  rw [← doc_key h.dc, ← oi_key] at h1
  obtain ⟨p, h3, e1, e2, e3, e4, e5, e6, _⟩ := h.dc.at_ h2
  refine ⟨i, p, h1, ?_, h2, h3, e1, e2, e3, e4, e5, e6⟩
  have := (List.getElem?_eq_some_iff.1 h3).1
  have := h.rw.rr.1
  omega
theorem step_0 (lc : Nat) (k to_ ti : Int) (te : ByteArray) (h : Stp w d m y od a c lg L la n lb Ps G xs j) (hj : j ≤ 1000) (hm : te.size ≤ 9223372036854775807) :
    Calls Try.prog 19 #[.pointer (some ⟨d, 0, none⟩), .slice la n lc, .agg (deed 0 k to_ ti te)] w fun e w' => e = .returned (.bool true) ∧ Nx w d m (foot d m y L) la n lb G xs (j + 1) (od + odd1 Ps te) w' := by
  have hk0 : Keeps [] w (w.alloc (.cells #[.int .i64 0, .int .i64 k, .int .i64 to_, .int .i64 ti, .string te] 54)) := (Keeps.refl _ _).alloc _
  have HC := Lib.hid (come_law lc te (h.kp hk0) hj hm)
  have HK := Lib.hid hk0
  clear h hk0
  unfold deed
  go_enter Try.func19, Try.ntmps19
  go_wp2_with fail
  refine HC.out.mono ?_
  rintro e w1 ⟨rfl, hn⟩
  have HN := Lib.hid (hn.from HK.out)
  clear hn
  go_wp2
  go_ret
  exact ⟨rfl, HN.out⟩
attribute [local irreducible] Nx
set_option maxRecDepth 100000 in
set_option maxHeartbeats 1000000 in
theorem step_1a (lc : Nat) (k to_ ti : Int) (te : ByteArray) (h : Stp w d m y od a c lg L la n lb Ps G xs j) (hk : (Lit.int .i64 k).wf = true) (hp : pt? L k = none) :
    Calls Try.prog 19 #[.pointer (some ⟨d, 0, none⟩), .slice la n lc, .agg (deed 1 k to_ ti te)] w fun e w' => e = .returned (.bool true) ∧ Nx w d m (foot d m y L) la n lb G xs (j + 1) od w' := by
  have hk0 : Keeps [] w (w.alloc (.cells #[.int .i64 1, .int .i64 k, .int .i64 to_, .int .i64 ti, .string te] 54)) := (Keeps.refl _ _).alloc _
  have h0 := h.kp hk0
  have HO := Lib.hid (rowner_any la n lc Ps k _ h0.rw.rr h0.n8)
  rw [h.oi_none hp] at HO
  have HT := Lib.hid (take_dev k _ h0.dv hk)
  unfold IsTake at HT
  rw [take_none hp] at HT
  dsimp only at HT
  have H0 := Lib.hid h0
  have HK := Lib.hid hk0
  clear h h0 hk0
  unfold deed
  go_enter Try.func19, Try.ntmps19
  go_wp2_with fail
  refine HO.out.mono ?_
  rintro e v ⟨rfl, rfl⟩
  go_wp2_with fail
  refine HT.out.mono ?_
  clear HO HT
  rintro e w1 ⟨rfl, hto⟩
  obtain ⟨y', a', c', hf⟩ := H0.out.half hto
  have HF := Lib.hid hf
  clear hto hf
  simp only [fv, f0]
  go_wp2
  go_ret
  refine ⟨rfl, ?_⟩
  exact (HF.out.same ((Keeps.refl [] _).alloc _) (by have := H0.out.sd.more (j' := ((j + 1 : Nat) : Int)) (by omega); exact this) (by have := H0.out.lg; omega)).from HK.out
set_option maxRecDepth 100000 in
set_option maxHeartbeats 1000000 in
theorem step_1b (lc : Nat) (k to_ ti : Int) (te : ByteArray) (x : Pt) (h : Stp w d m y od a c lg L la n lb Ps G xs j) (hk : (Lit.int .i64 k).wf = true) (hp : pt? L k = some x) (hw : x.ws = []) :
    Calls Try.prog 19 #[.pointer (some ⟨d, 0, none⟩), .slice la n lc, .agg (deed 1 k to_ ti te)] w fun e w' => e = .returned (.bool true) ∧ Nx w d m (foot d m y L) la n lb G xs (j + 1) od w' := by
  have hk0 : Keeps [] w (w.alloc (.cells #[.int .i64 1, .int .i64 k, .int .i64 to_, .int .i64 ti, .string te] 54)) := (Keeps.refl _ _).alloc _
  have h0 := h.kp hk0
  have HO := Lib.hid (rowner_any la n lc Ps k _ h0.rw.rr h0.n8)
  obtain ⟨i, p, hoi, hil, hxi, hpi, _, _, _, _, e5, _⟩ := h.oi_some hp
  rw [hoi] at HO
  have HT := Lib.hid (take_dev k _ h0.dv hk)
  unfold IsTake at HT
  rw [take_empty hp hw] at HT
  dsimp only at HT
  have H0 := Lib.hid h0
  have HK := Lib.hid hk0
  have hi0 : (0 : Int) ≤ (i : Int) := by omega
  rw [hw] at e5
  clear h h0 hk0 hoi
  unfold deed
  go_enter Try.func19, Try.ntmps19
  go_wp2_with fail
  refine HO.out.mono ?_
  rintro e v ⟨rfl, rfl⟩
  go_wp2_with fail
  refine HT.out.mono ?_
  clear HO HT
  rintro e w1 ⟨rfl, hto⟩
  obtain ⟨y', a', c', hf⟩ := H0.out.half hto
  obtain ⟨g, rfl, _, hg, _, _, _, _, c3, _⟩ := (hf.rw.keeps ((Keeps.refl [] w1).alloc (.cells #[.int .i64 0, .int .i64 0, .string ⟨#[]⟩] 39)) (by simp)).cells hpi
  rw [e5] at c3
  have c3 : (w1.alloc (.cells #[.int .i64 0, .int .i64 0, .string ⟨#[]⟩] 39)).cell? ⟨g, i * 5 + 3, none⟩ = some (.slice p.wa 0 p.wc) := c3
  have HF := Lib.hid hf
  clear hto hf hp hw hxi hpi e5 hg
  simp only [fv, f0]
  go_wp2
  go_ret
  refine ⟨rfl, ?_⟩
  exact (HF.out.same ((Keeps.refl [] _).alloc _) (by have := H0.out.sd.more (j' := ((j + 1 : Nat) : Int)) (by omega); exact this) (by have := H0.out.lg; omega)).from HK.out
end
end Nc
end Go.Proofs.Ytdbkgpnbmafpmaa
