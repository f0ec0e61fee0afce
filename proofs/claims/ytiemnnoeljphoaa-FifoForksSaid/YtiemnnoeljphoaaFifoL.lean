/- What must be whatever is asked of queues (live). -/
import Derived.Test.YtiemnnoeljphoaaFifoID
namespace Go.Proofs.Ytiemnnoeljphoaa
open Go.RowKit
namespace Fi
open Sm
theorem live_any (w : World) : Calls Try.prog 9 #[] w fun e w' => e = .returned (.bool true) ∧ Keeps [] w w' := by
  go_enter Try.func9, Try.ntmps9
  go_wp2_with fail
  refine (FiI.new_any 2 _).mono ?_
  rintro e w1 ⟨rfl, h1, k1⟩
  rw [show FiI.lim16 2 = 2 from by decide] at h1
  generalize hg : w.heap.size = g at *
  have HG := Lib.hid hg
  clear hg
  have HC := Lib.hid (FiI.push_ok g g [] 2 0 1 w1 h1 (by simp))
  clear h1
  go_wp2_with fail
  refine HC.out.mono ?_
  clear HC
  rintro e w2 ⟨rfl, r2, h2, k2, hr2⟩
  have HC := Lib.hid (FiI.push_ok g r2 _ 2 0 2 w2 h2 (by simp))
  clear h2
  go_wp2_with fail
  refine HC.out.mono ?_
  clear HC
  rintro e w3 ⟨rfl, r3, h3, k3, hr3⟩
  have HC := Lib.hid (FiI.push_full g r3 _ 2 0 3 w3 h3 (by simp) (by decide))
  clear h3
  go_wp2_with fail
  refine HC.out.mono ?_
  clear HC
  rintro e w4 ⟨rfl, h4, k4⟩
  have HC := Lib.hid (FiI.pop_some g r3 1 [2] 2 (0 + 1) w4 h4)
  clear h4
  go_wp2_with fail
  refine HC.out.mono ?_
  clear HC
  rintro e w5 ⟨rfl, h5, k5⟩
  have HD := Lib.hid (FiI.drops_any g r3 [2] 2 (0 + 1) w5 h5)
  have HL := Lib.hid (FiI.len_any g r3 [2] 2 (0 + 1) w5 h5)
  clear h5
  go_wp2_with fail
  refine HD.out.mono ?_
  rintro e w6 ⟨rfl, rfl⟩
  go_wp2_with fail
  refine HL.out.mono ?_
  rintro e w6 ⟨rfl, rfl⟩
  have HK : Hid (Keeps [] w w5) := Lib.hid (by
    have hz := HG.out
    have z1 := k1.size
    have z2 := k2.size
    have z3 := k3.size
    have z4 := k4.size
    refine (((k1.next k2 ?_).next k3 ?_).next k4 ?_).next k5 ?_ <;> (intro x hx; right; simp at hx; omega))
  clear k1 k2 k3 k4 k5 hr2 hr3 HD HL
  go_wp2
  go_ret
  exact ⟨rfl, HK.out⟩
end Fi
end Go.Proofs.Ytiemnnoeljphoaa
