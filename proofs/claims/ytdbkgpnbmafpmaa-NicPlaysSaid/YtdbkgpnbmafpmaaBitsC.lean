/- The reference of bits, function by function. -/
import Derived.Test.YtdbkgpnbmafpmaaBitsB
namespace Go.Proofs.Ytdbkgpnbmafpmaa
open Go.RowKit
attribute [local go_sem] Bw.and255 Bw.and65535
namespace Bi
open Sm Pc
open PlainAid (bt get_bt bt_nonneg bt_le)

theorem tmod_facts (n b : Int) (h0 : 1 ≤ b) : -b < n.tmod b ∧ n.tmod b < b ∧ (n.tmod b < 0 → n.tmod b + b = n % b) ∧ (0 ≤ n.tmod b → n.tmod b = n % b) := by
  have hb : -b < n.tmod b ∧ n.tmod b < b := by
    rcases Int.le_total 0 n with h | h
    · rw [Int.tmod_eq_emod_of_nonneg h]
      have := Int.emod_nonneg n (show b ≠ 0 by omega)
      have := Int.emod_lt_of_pos n (show 0 < b by omega)
      omega
    · have e : n.tmod b = -((-n) % b) := by
        rw [← Int.tmod_eq_emod_of_nonneg (show 0 ≤ -n by omega), Int.neg_tmod]; omega
      have := Int.emod_nonneg (-n) (show b ≠ 0 by omega)
      have := Int.emod_lt_of_pos (-n) (show 0 < b by omega)
      omega
  have hm : n % b = n.tmod b % b := by
    have h := Int.mul_tdiv_add_tmod n b
    conv => lhs; rw [← h]
    rw [Int.add_comm, Int.add_mul_emod_self_left]
  refine ⟨hb.1, hb.2, fun h => ?_, fun h => ?_⟩
  · rw [hm, ← Int.add_emod_right, Int.emod_eq_of_lt (by omega) (by omega)]
  · rw [hm, Int.emod_eq_of_lt (by omega) (by omega)]
end Bi
end Go.Proofs.Ytdbkgpnbmafpmaa
