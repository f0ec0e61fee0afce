/- A frame as bytes: the reference's Print. -/
import Derived.Test.YtdbkgpnbmafpmaaFrameA
namespace Go.Proofs.Ytdbkgpnbmafpmaa
open Go.RowKit
attribute [local go_sem] Bw.and255 Bw.and65535
namespace Fr
open Sm Bi
theorem three_bytes (w : World) (x y z : Int) : (convert 90 9 (.slice (some ⟨w.heap.size, 0, none⟩) 3 3)).run Try.prog (w.alloc (.cells #[.int .u8 x, .int .u8 y, .int .u8 z] 5)) = .ok (.string (strOfNums [x, y, z])) (w.alloc (.cells #[.int .u8 x, .int .u8 y, .int .u8 z] 5)) := by
  refine run_convert_bytes_arg (P := Try.prog) _ 90 5 Try.underlying90 Try.underlying5 _ 0 3 3 [x, y, z] rfl ?_ 9 Try.underlying9
  intro i hi
  have : i = 0 ∨ i = 1 ∨ i = 2 := by omega
  rcases this with rfl | rfl | rfl <;> simp
theorem head_of (to fr : Int) (d : ByteArray) : (strOfNums [to, fr, (d.size : Int)] ++ d).data.toList = frL to fr d := by
  simp [strOfNums, frL]
theorem rseal_x (x : ByteArray) (l : List UInt8) (V : World) (hx : x.data.toList = l) (h : l.length ≤ 400) : Calls Try.prog 39 #[.string x] V (Cw.IsText (Cw.sealL l) V) := by
  have := Cw.rseal_any x V (by rw [size_of x l hx]; exact h)
  rwa [hx] at this
set_option maxRecDepth 100000 in
set_option maxHeartbeats 1000000 in
theorem rprint_any (to fr : Int) (d : ByteArray) (W : World) (_hd : d.size ≤ 300) :
    Calls Try.prog 24 #[.agg #[.int .i64 to, .int .i64 fr, .string d]] W (IsPr (prOut to fr d) (prErr to fr d) W) := by
  cases h1 : okB to
  · obtain ⟨o1, o2⟩ := out_bad to fr d (by rw [h1]; simp)
    rw [o1, o2]
    have h := of_decide_eq_false h1
    clear o1 o2 h1
    by_cases h0 : to < 0
    · clear h
      go_enter Try.func24, Try.ntmps24
      go_wp2
      go_ret2
      exact ⟨⟨#[]⟩, rfl, rfl, (Below.refl _ _).alloc (Nat.le_refl _) _⟩
    · have h2 : 255 < to := by omega
      clear h
      go_enter Try.func24, Try.ntmps24
      go_wp2
      go_ret2
      exact ⟨⟨#[]⟩, rfl, rfl, (Below.refl _ _).alloc (Nat.le_refl _) _⟩
  · obtain ⟨t0, t1⟩ := of_decide_eq_true h1
    cases h2 : okB fr
    · obtain ⟨o1, o2⟩ := out_bad to fr d (by rw [h2]; simp)
      rw [o1, o2]
      have h := of_decide_eq_false h2
      clear o1 o2 h1 h2
      by_cases h0 : fr < 0
      · clear h
        go_enter Try.func24, Try.ntmps24
        go_wp2
        go_ret2
        exact ⟨⟨#[]⟩, rfl, rfl, (Below.refl _ _).alloc (Nat.le_refl _) _⟩
      · have h2 : 255 < fr := by omega
        clear h
        go_enter Try.func24, Try.ntmps24
        go_wp2
        go_ret2
        exact ⟨⟨#[]⟩, rfl, rfl, (Below.refl _ _).alloc (Nat.le_refl _) _⟩
    · obtain ⟨f0, f1⟩ := of_decide_eq_true h2
      by_cases h3 : d.size ≤ 32
      · obtain ⟨o1, o2⟩ := out_ok to fr d h1 h2 h3
        rw [o1, o2]
        clear o1 o2 h1 h2
        have hcv := three_bytes (W.alloc (.cells #[.int .i64 to, .int .i64 fr, .string d] 65)) to fr (d.size : Int)
        have hz : (W.alloc (.cells #[.int .i64 to, .int .i64 fr, .string d] 65)).heap.size = W.heap.size + 1 := by simp
        rw [hz] at hcv
        clear hz
        have HS := Lib.hid (fun V => rseal_x _ (frL to fr d) V (head_of to fr d) (by simp [frL]; omega))
        have hsum : (strOfNums [to, fr, (d.size : Int)]).size + d.size ≤ 9223372036854775807 := by
          have : (strOfNums [to, fr, (d.size : Int)]).size = 3 := strOfNums_size _
          omega
        go_enter Try.func24, Try.ntmps24
        go_wp2_with fail
        refine (HS.out _).mono ?_
        rintro e v1 ⟨r, rfl, hr, hb⟩
        have HR := Lib.hid hr
        clear hr HS hcv hsum
        go_wp2
        go_ret2
        refine ⟨r, rfl, HR.out, ?_⟩
        exact (((Below.refl _ W).alloc (Nat.le_refl _) _).alloc (by simp) _).trans (hb.mono (by simp; omega))
      · obtain ⟨o1, o2⟩ := out_long to fr d h1 h2 h3
        rw [o1, o2]
        clear o1 o2 h1 h2
        go_enter Try.func24, Try.ntmps24
        go_wp2
        go_ret2
        exact ⟨⟨#[]⟩, rfl, rfl, (Below.refl _ _).alloc (Nat.le_refl _) _⟩
end Fr
end Go.Proofs.Ytdbkgpnbmafpmaa
