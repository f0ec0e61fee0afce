/- What parsing comes to; what is asked whatever is asked of frames (live); For; and the law FrameParses. -/
import Derived.Test.YtdbkgpnbmafpmaaFrameD
namespace Go.Proofs.Ytdbkgpnbmafpmaa
open Go.RowKit
attribute [local go_sem] Bw.and255 Bw.and65535
namespace Fr
open Sm Bi
open PlainAid (bt get_bt bt_nonneg bt_le)
def pE (s : ByteArray) : Int := if s.size < 3 then 5 else pErr s
def dat (s : ByteArray) : List UInt8 := (s.data.toList.take (s.size - 2)).drop 3
theorem pE_few (s : ByteArray) (h : s.size < 3) : pE s = 5 := by unfold pE; rw [if_pos h]
theorem pE_many (s : ByteArray) (h : ¬ s.size < 3) : pE s = pErr s := by unfold pE; rw [if_neg h]
theorem parse_bad (s : ByteArray) (W : World) (hm : s.size ≤ 9223372036854775807) (h : pE s ≠ 0) : Calls Try.prog 27 #[.string s] W (IsFr 0 0 [] (pE s) W) := by
  by_cases h3 : s.size < 3
  · rw [pE_few s h3]; exact parse_few s W h3 hm
  · rw [pE_many s h3] at h ⊢
    exact parse_many s W (by omega) hm _ (fun _ _ _ hh => hh) (fun h0 => absurd h0 h)
theorem parse_good (s : ByteArray) (W : World) (hm : s.size ≤ 9223372036854775807) (h : pE s = 0) : Calls Try.prog 27 #[.string s] W (IsFr (bt s 0) (bt s 1) (dat s) 0 W) := by
  by_cases h3 : s.size < 3
  · rw [pE_few s h3] at h; exact absurd h (by decide)
  · rw [pE_many s h3] at h
    exact parse_many s W (by omega) hm _ (fun h0 => absurd h h0) (fun _ _ _ hh => hh)
theorem rparse_bad (s : ByteArray) (W : World) (hm : s.size ≤ 9223372036854775807) (h : pE s ≠ 0) : Calls Try.prog 29 #[.string s] W (IsFr 0 0 [] (pE s) W) := by
  by_cases h3 : s.size < 3
  · rw [pE_few s h3]; exact rparse_few s W h3
  · rw [pE_many s h3] at h ⊢
    exact rparse_many s W (by omega) hm _ (fun _ _ _ hh => hh) (fun h0 => absurd h0 h)
theorem rparse_good (s : ByteArray) (W : World) (hm : s.size ≤ 9223372036854775807) (h : pE s = 0) : Calls Try.prog 29 #[.string s] W (IsFr (bt s 0) (bt s 1) (dat s) 0 W) := by
  by_cases h3 : s.size < 3
  · rw [pE_few s h3] at h; exact absurd h (by decide)
  · rw [pE_many s h3] at h
    exact rparse_many s W (by omega) hm _ (fun h0 => absurd h h0) (fun _ _ _ hh => hh)
theorem live_out : prOut 7 9 ⟨#[104, 105]⟩ = Cw.sealL [7, 9, 2, 104, 105] ∧ prErr 7 9 ⟨#[104, 105]⟩ = 0 := by
  obtain ⟨h1, h2⟩ := out_ok 7 9 ⟨#[104, 105]⟩ (by decide) (by decide) (by decide)
  exact ⟨h1, h2⟩
/-- Is it a frame for somebody? -/
def forV (s : ByteArray) (mac : Int) : Bool := decide (pE s = 0) && (bt s 0 == mac)
theorem bt_def (s : ByteArray) (k : Nat) (h : k < s.size) : bt s k = ((s.data.toList.getD k 0).toNat : Int) := by
  rw [bt_get s k h]
  simp [List.getD_eq_getElem?_getD, h]
  rfl
theorem head3 (l : List UInt8) (h : 3 ≤ l.length) : l = [l.getD 0 0, l.getD 1 0, l.getD 2 0] ++ l.drop 3 := by
  match l, h with
  | a :: b :: c :: r, _ => rfl
theorem good_facts (s : ByteArray) (h : pE s = 0) : 5 ≤ s.size ∧ s.size ≤ 37 ∧ (s.size : Int) = bt s 2 + 5 ∧ Cm.crc 65535#16 s.data.toList = 0#16 := by
  by_cases h3 : s.size < 3
  · rw [pE_few s h3] at h; exact absurd h (by decide)
  · rw [pE_many s h3] at h
    unfold pErr at h
    have h0 := bt_nonneg s 2
    by_cases a1 : 32 < bt s 2
    · rw [if_pos a1] at h; exact absurd h (by decide)
    · rw [if_neg a1] at h
      by_cases a2 : (s.size : Int) < bt s 2 + 5
      · rw [if_pos a2] at h; exact absurd h (by decide)
      · rw [if_neg a2] at h
        by_cases a3 : bt s 2 + 5 < (s.size : Int)
        · rw [if_pos a3] at h; exact absurd h (by decide)
        · rw [if_neg a3] at h
          by_cases a4 : Cm.crc 65535#16 s.data.toList = 0#16
          · exact ⟨by omega, by omega, by omega, a4⟩
          · rw [if_neg a4] at h; exact absurd h (by decide)
/-- What is parsed is printed as those bytes. -/
theorem back_print (s r : ByteArray) (h : pE s = 0) (hr : r.data.toList = dat s) : prOut (bt s 0) (bt s 1) r = s.data.toList ∧ prErr (bt s 0) (bt s 1) r = 0 := by
  obtain ⟨h5, h37, hsz, hc⟩ := good_facts s h
  have hlen : s.data.toList.length = s.size := by simp
  have hrs : r.size = s.size - 5 := by
    rw [size_of r _ hr]
    unfold dat
    rw [List.length_drop, List.length_take, hlen]
    omega
  have hok : ∀ k, okB (bt s k) = true := fun k => decide_eq_true ⟨bt_nonneg s k, bt_le s k⟩
  obtain ⟨e1, e2⟩ := out_ok (bt s 0) (bt s 1) r (hok 0) (hok 1) (by omega)
  refine ⟨?_, e2⟩
  rw [e1]
  have hl : frL (bt s 0) (bt s 1) r = s.data.toList.take (s.size - 2) := by
    have h3 := head3 (s.data.toList.take (s.size - 2)) (by rw [List.length_take, hlen]; omega)
    rw [h3]
    unfold frL
    rw [hr]
    unfold dat
    rw [bt_def s 0 (by omega), bt_def s 1 (by omega)]
    have h2 := bt_def s 2 (by omega)
    have hn : r.size = (s.data.toList.getD 2 0).toNat := by omega
    rw [hn]
    have g : ∀ k, k < 3 → (s.data.toList.take (s.size - 2)).getD k 0 = s.data.toList.getD k 0 := fun k hk => by
      rw [List.getD_eq_getElem?_getD, List.getD_eq_getElem?_getD, List.getElem?_take, if_pos (by omega)]
    rw [g 0 (by omega), g 1 (by omega), g 2 (by omega)]
    simp
  rw [hl]
  have := (Cw.seal_iff s.data.toList (by rw [hlen]; omega)).2 hc
  rwa [hlen] at this
end Fr
end Go.Proofs.Ytdbkgpnbmafpmaa
