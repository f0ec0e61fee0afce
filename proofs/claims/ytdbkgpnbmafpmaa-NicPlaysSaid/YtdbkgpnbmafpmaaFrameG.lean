/- The law FramePrints: its walk. -/
import Derived.Test.YtdbkgpnbmafpmaaFrameF
import Derived.Test.YtdbkgpnbmafpmaaRecs
namespace Go.Proofs.Ytdbkgpnbmafpmaa
open Go.RowKit
attribute [local go_sem] Bw.and255 Bw.and65535
namespace Fr
open Sm Bi
open PlainAid (bt get_bt bt_nonneg bt_le)
theorem byte_id (n : Int) (h0 : 0 ≤ n) (h1 : n ≤ 255) : ((UInt8.ofNat n.toNat).toNat : Int) = n := by
  simp
  omega
theorem getD_of {s : ByteArray} {l : List UInt8} (h : s.data.toList = l) (k : Nat) (hk : k < l.length) : bt s k = ((l.getD k 0).toNat : Int) := by
  rw [bt_def s k (by rw [size_of s l h]; exact hk), h]
theorem frL_len (to fr : Int) (d : ByteArray) : (frL to fr d).length = d.size + 3 := by
  unfold frL
  rw [List.length_append, Array.length_toList]
  show 3 + d.size = d.size + 3
  omega
theorem seal_get (l : List UInt8) (k : Nat) (hk : k < l.length) : (Cw.sealL l).getD k 0 = l.getD k 0 := by
  unfold Cw.sealL
  rw [List.getD_eq_getElem?_getD, List.getD_eq_getElem?_getD, List.getElem?_append_left hk]
/-- What a frame's bytes are parsed as. -/
theorem good_of (to fr : Int) (d t : ByteArray) (h1 : okB to = true) (h2 : okB fr = true) (h3 : d.size ≤ 32) (ht : t.data.toList = Cw.sealL (frL to fr d)) :
    t.size = d.size + 5 ∧ bt t 0 = to ∧ bt t 1 = fr ∧ bt t 2 = (d.size : Int) ∧ pE t = 0 ∧ dat t = d.data.toList := by
  obtain ⟨a0, a1⟩ := of_decide_eq_true h1
  obtain ⟨b0, b1⟩ := of_decide_eq_true h2
  have hz : t.size = d.size + 5 := by rw [size_of t _ ht, Cw.sealL_length, frL_len]
  have hl : (Cw.sealL (frL to fr d)).length = d.size + 5 := by rw [Cw.sealL_length, frL_len]
  have g : ∀ k, k < d.size + 3 → bt t k = (((frL to fr d).getD k 0).toNat : Int) := fun k hk => by
    rw [getD_of ht k (by rw [hl]; omega), seal_get _ _ (by rw [frL_len]; exact hk)]
  have e0 : bt t 0 = to := by rw [g 0 (by omega)]; exact byte_id to a0 a1
  have e1 : bt t 1 = fr := by rw [g 1 (by omega)]; exact byte_id fr b0 b1
  have e2 : bt t 2 = (d.size : Int) := by
    rw [g 2 (by omega)]
    exact byte_id (d.size : Int) (by omega) (by omega)
  have hc : Cm.crc 65535#16 t.data.toList = 0#16 := by rw [ht]; exact (Cw.openV_seal _).2
  refine ⟨hz, e0, e1, e2, ?_, ?_⟩
  · rw [pE_many t (by omega)]
    unfold pErr
    rw [e2, if_neg (by omega), if_neg (by omega), if_neg (by omega), if_pos hc]
  · unfold dat
    rw [ht, hz, show d.size + 5 - 2 = (frL to fr d).length from by rw [frL_len]; omega]
    unfold Cw.sealL
    rw [List.take_left]
    unfold frL
    simp
theorem pr_cases (to fr : Int) (d : ByteArray) : (okB to = true ∧ okB fr = true ∧ d.size ≤ 32 ∧ prErr to fr d = 0 ∧ prOut to fr d = Cw.sealL (frL to fr d)) ∨ prErr to fr d ≠ 0 := by
  by_cases h : okB to = true ∧ okB fr = true
  · by_cases h3 : d.size ≤ 32
    · obtain ⟨e1, e2⟩ := out_ok to fr d h.1 h.2 h3
      exact .inl ⟨h.1, h.2, h3, e2, e1⟩
    · right; rw [(out_long to fr d h.1 h.2 h3).2]; decide
  · right; rw [(out_bad to fr d h).2]; decide
attribute [local irreducible] prOut prErr pE dat forV sizeV
end Fr
end Go.Proofs.Ytdbkgpnbmafpmaa
