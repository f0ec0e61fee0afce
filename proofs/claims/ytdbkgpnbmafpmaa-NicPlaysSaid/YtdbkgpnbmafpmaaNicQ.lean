/- told: do all ports tell what the document's do? -/
import Derived.Test.YtdbkgpnbmafpmaaNicP
namespace Go.Proofs.Ytdbkgpnbmafpmaa
open Go.RowKit Go.Maps Go.Deep
namespace Nc
open Sm Fr
theorem RowP.cells {w : World} {la : Option Addr} {n : Nat} {lb : List Nat} {Ps : List RP} {i : Nat} {p : RP} (h : RowP w la n lb Ps) (hp : Ps[i]? = some p) : ∃ g, la = some ⟨g, 0, none⟩ ∧ lb = [g] ∧ g < w.heap.size ∧ i < n ∧ w.cell? ⟨g, i * 5, none⟩ = some (.int .i64 p.ow) ∧ w.cell? ⟨g, i * 5 + 1, none⟩ = some (.int .i64 p.ma) ∧ w.cell? ⟨g, i * 5 + 2, none⟩ = some (.int .i64 p.li) ∧ w.cell? ⟨g, i * 5 + 3, none⟩ = some (.slice p.wa p.wn p.wc) ∧ w.cell? ⟨g, i * 5 + 4, none⟩ = some (.int .i64 p.dr) := by
  obtain ⟨g, e, h2, h3, h4, h5, _⟩ := h.at_ hp
  exact ⟨g, e, h2, h3, h4, h5 0 _ rfl, h5 1 _ rfl, h5 2 _ rfl, h5 3 _ rfl, h5 4 _ rfl⟩
set_option maxRecDepth 100000 in
set_option maxHeartbeats 1000000 in
theorem told_any {w : World} {d m y c n : Nat} {od : Int} {a la : Option Addr} {lg : List Sn} {L : List Pt} {lb X : List Nat} {Ps : List RP} (lc : Nat) (h : Dev w d m od y a c lg L) (hr : RowP w la n lb Ps) (hd : Doc w X L Ps) (hn : n ≤ 8) :
    Calls Try.prog 20 #[.pointer (some ⟨d, 0, none⟩), .slice la n lc] w fun e w' => e = .returned (.bool true) ∧ Drawn w w' := by
  have hl := hd.ln
  have hl2 := hr.rr.1
  have HD := Lib.hid h
  have HR := Lib.hid hr
  have HDC := Lib.hid hd
  clear h hr hd
  go_enter Try.func20, Try.ntmps20
  go_wp2
  go_loopw [5] (fun i wr => ∃ j : Nat, j ≤ n ∧ i = .int .i64 j ∧ Drawn w wr) (fun i _ => n - (intOf i).toNat)
  case atStart => exact ⟨0, by omega, rfl, Drawn.refl _⟩
  case round =>
    obtain ⟨j, hj, rfl, hdr⟩ := hrel
    have HDR := Lib.hid hdr
    have hkr : Keeps [] w wr := (Keeps.refl [] w).drawn hdr
    by_cases hlt : j < n
    · obtain ⟨x, hx⟩ : ∃ x, L[j]? = some x := ⟨_, List.getElem?_eq_getElem (by omega)⟩
      obtain ⟨p, hp, e1, e2, e3, e4, e5, _⟩ := HDC.out.at_ hx
      obtain ⟨g, rfl, _, hg, _, c0, c1, c2, c3, c4⟩ := (HR.out.keeps hkr (by simp)).cells hp
      have hxm := List.mem_of_getElem? hx
      have hpt := pt_of HD.out.ap hxm
      have hpx := HD.out.pt x hxm
      have hwf : (Lit.int .i64 x.ow).wf = true := WalkArith.wf_i64 (by have := hpx.o1; have := hpx.o2; omega)
      have HW := Lib.hid (fun nq => waits_any x.ow (wr.drewN nq) (HD.out.kp (hkr.drewN nq)) hwf)
      have HP := Lib.hid (fun nq => drops_dev x.ow (wr.drewN nq) (HD.out.kp (hkr.drewN nq)) hwf)
      rw [hpt] at HW HP
      dsimp only at HW HP
      rw [e1] at c0
      rw [e4] at c4
      rw [e5] at c3
      have hj0 : (0 : Int) ≤ (j : Int) := by omega
      have hj1 : (j : Int) < (n : Int) := by omega
      clear hdr hkr e1 e2 e3 e4 e5 hx hp hxm hpt hpx c1 c2 hwf
      generalize x.ow = ow at *
      generalize x.ws.length = wn at *
      generalize x.dr = dr at *
      go_wp2_with fail
      go_quiet ((first | (go_at_call 14; with_reducible exact quiet_eq (HW.out _)) | (go_at_call 15; with_reducible exact quiet_eq (HP.out _))))
      go_wp2
      go_roundw
      case rel => exact ⟨j + 1, by omega, by go_num, HDR.out.draws _⟩
      case measure => simp [intOf]; omega
    · obtain rfl : j = n := by omega
      go_wp2
      go_ret
      exact ⟨rfl, HDR.out⟩
end Nc
end Go.Proofs.Ytdbkgpnbmafpmaa
