/- The program's tables: its walk. -/
import Derived.Test.YtjdhkpafbejodaaImI
import Derived.Test.YtjdhkpafbejodaaImJ
import Derived.Test.YtjdhkpafbejodaaImK
import Derived.WalkMore
namespace Go.Proofs.Ytjdhkpafbejodaa
open Go.RowKit
namespace Im
open Sm Bi
attribute [local irreducible] sB sT vB vT Ph0 Ph1 Ph2 Fin okσ
set_option maxRecDepth 100000 in
set_option maxHeartbeats 8000000 in
theorem tables_any (b : Nat) (s : ByteArray) (σ : Int × Int) (W : World) (hr : Bi.Rd W b s σ.1 σ.2) (ho : okσ s σ) (hm : s.size ≤ 9223372036854775807) (h0 : (σ = (2, 0) ∧ 2 ≤ s.size) ∨ (σ.2 = 5 ∧ s.size < 2)) :
    Calls Try.prog 21 #[.pointer (some ⟨b, 0, none⟩)] W (IsTab b s W) := by
  have hph0 := ph_0 h0
  have HPH0 := Lib.hid hph0
  have HR0 := Lib.hid (And.intro hr ho)
  clear hph0 h0 hr ho
  go_enter Try.func21, Try.ntmps21
  go_wp2
  refine wp_scope3 (J0 := fun a w => ∃ bc, Jt s W b W.heap.size bc Ph0 a w) (J1 := fun a w => ∃ bc, Jt s W b W.heap.size bc Ph1 a w) (J2 := fun a w => ∃ bc, Jt s W b W.heap.size bc Ph2 a w) (fun a _ => 512 + nOf a) (fun a _ => 256 + nOf a) (fun a _ => nOf a) rfl rfl rfl ?p2 ?p1 ?p0 ?first
  case p2 => exact tab_p2 rfl b s W hm rfl
  case p1 => exact fun H2 => tab_p1 rfl b s W hm rfl H2 rfl
  case p0 => exact fun H1 => tab_p0 rfl b s W hm rfl H1 rfl
  case first =>
    intro H0
    obtain ⟨hr, ho⟩ := HR0.out
    have hk0 : Keeps [] W (W.alloc (.cells #[.int .i64 0, .slice none 0 0, .slice none 0 0, .slice none 0 0] 28)) := (Keeps.refl _ _).alloc _
    have hbl := hr.lt
    have HC := Lib.hid (two0 (hr.keeps hk0 (by simp)) ho hm)
    have HK0 := Lib.hid hk0
    have HB0 := Lib.hid (Blk.new W 28 #[.int .i64 0, .slice none 0 0, .slice none 0 0, .slice none 0 0])
    clear hr ho hk0
    go_wp2_with fail
    refine HC.out.mono ?_
    clear HC
    rintro e U1 ⟨rfl, hr1, ho1, hk1⟩
    have hT := tc_0 (fr := vT s σ) hbl HK0.out HB0.out hr1 ho1 hk1
    have HT := Lib.hid hT
    clear hT hr1 hk1 ho1
    have HC := Lib.hid (byteR HT.out hm)
    go_wp2_with fail
    refine HC.out.mono ?_
    clear HC
    rintro e U2 ⟨rfl, hT, _⟩
    clear HT
    have HT := Lib.hid hT
    clear hT
    go_wp2
    go_step3
    go_step
    go_step
    refine H0 _ _ ?_
    exact ⟨_, _, _, _, _, _, _, _, _, _, _, _, _, _, rfl, rfl, rfl, rfl, rfl, rfl, HPH0.out, HT.out⟩
end Im
end Go.Proofs.Ytjdhkpafbejodaa
