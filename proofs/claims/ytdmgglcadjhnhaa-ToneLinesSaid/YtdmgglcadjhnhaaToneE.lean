/- The line of a text is read as it was. -/
import Derived.Test.YtdmgglcadjhnhaaToneD
namespace Go.Proofs.Ytdmgglcadjhnhaa
open Go.RowKit
namespace To
open Sm Ph
open PlainAid (bt get_bt bt_nonneg bt_le)
theorem u8_info : (Try.prog.info? 5).map (fun i => (i.zero, i.size, i.bytes)) = some (some (.int .u8 0), 1, 1) := by kernel_rfl
structure Rd (w wr : World) (s : ByteArray) (v : Value) (k : Nat) : Prop where
  own : wr.ownsRow w.heap.size 5 1 v (k / 4) (byv (s.data.toList.take (k / 4)))
  k : Keeps [] w wr
theorem add_off (g k : Nat) : (⟨g, 0, none⟩ : Addr).add k = ⟨g, k, none⟩ := by unfold Addr.add; split <;> simp_all
theorem byv_snoc (l : List UInt8) (c : UInt8) : byv (l ++ [c]) = byv l ++ [.int .u8 (c.toNat : Int)] := by simp [byv]
theorem reads1 (w : World) (x : Int) : Reads (w.alloc (.cells #[.int .u8 x] 5)) (w.heap.size + 1) 1 (some ⟨w.heap.size, 0, none⟩) 1 [.int .u8 x] := by
  refine ⟨rfl, fun _ => ⟨_, rfl, by simp, fun j u hu => ?_⟩⟩
  have hj : j = 0 := by
    rcases Nat.eq_zero_or_pos j with h | h
    · exact h
    · rw [List.getElem?_eq_none (by simp; omega)] at hu; cases hu
  subst hj
  simp at hu
  rw [add_off, ← hu]
  simp
def IsRead (w : World) (s : ByteArray) (e : Ending) (w' : World) : Prop := e = .returned (.tuple #[.string s, .int .i64 0, .int .i64 0]) ∧ Keeps [] w w'
attribute [local irreducible] sz arg syms
set_option maxRecDepth 100000 in
set_option maxHeartbeats 1000000 in
theorem read_any (s : ByteArray) (base : Nat) (a : Option Addr) (n c : Nat) (w : World) (hs : s.size ≤ 200) (hn : n = 4 * s.size) (h : w.ownsRow base 26 1 (.slice a n c) n (syms s.data.toList)) :
    Calls Try.prog 8 #[.slice a n c] w (IsRead w s) := by
  obtain ⟨i0, hi0, hz0, hz1, hz2⟩ := info_parts u8_info
  have HI := Lib.hid (And.intro hi0 (And.intro hz0 (And.intro hz1 hz2)))
  clear hi0 hz0 hz1 hz2
  have h0 : Rd w w s (.slice none 0 0) 0 := ⟨⟨by simp [byv], .inl ⟨rfl, rfl⟩⟩, Keeps.refl _ _⟩
  have HO := Lib.hid h
  have HN := Lib.hid hn
  have hn8 : n ≤ 800 := by omega
  clear h hn
  have HST := Lib.hid (arg_start s)
  go_enter Try.func8, Try.ntmps8
  go_wp2
  go_loopw [5, 6, 12] (fun v b i wr => ∃ (k : Nat) (a2 : Option Addr) (c2 : Nat), k ≤ n ∧ i = .int .i64 k ∧ b = .int .i64 (arg s k / 4) ∧ v = .slice a2 (k / 4) c2 ∧ Rd w wr s (.slice a2 (k / 4) c2) k) (fun _ _ i _ => n - (intOf i).toNat)
  case atStart => exact ⟨0, none, 0, by omega, rfl, by rw [HST.out], rfl, h0⟩
  case round =>
    clear h0
    obtain ⟨k, a2, c2, hk, rfl, rfl, rfl, hw⟩ := hrel
    by_cases hlt : k < n
    · have HW := Lib.hid hw
      obtain ⟨g, cap, hv, _, hglt⟩ := HO.out.form (by omega)
      injection hv with hv1 hv2 hv3
      subst hv1
      clear hv2 hv3
      have hc : wr.cell? ⟨g, k, none⟩ = some (.complex .f64 (sz (arg s k)).1 (sz (arg s k)).2) := by
        rw [hw.k.cell (p := ⟨g, k, none⟩) hglt (by simp), ← add_off]
        exact HO.out.cells (g := g) rfl k _ (syms_arg s k (by have := HN.out; omega))
      clear hw
      obtain ⟨b0, b1⟩ := arg_bd s k
      have hor := or_arg s k
      by_cases h3 : k % 4 = 3
      · have h3' : ((k : Int) % 4 == 3) = true := by simp; omega
        obtain ⟨hl1, hl2⟩ := arg_last s k h3
        have hq : k / 4 < s.size := by have := HN.out; omega
        have HXS : Hid (byv (s.data.toList.take (k / 4 + 1)) = byv (s.data.toList.take (k / 4)) ++ [.int .u8 (arg s k)]) := Lib.hid (by rw [take_snoc s _ hq, byv_snoc, hl2, bt_get s _ hq])
        have HL1 := Lib.hid hl1
        have hk4 : (k + 1) / 4 = k / 4 + 1 := by omega
        have HK4 := Lib.hid hk4
        clear hl1 hl2 hk4
        have hown2 := HW.out.own.alloc (.cells #[.int .u8 (arg s k)] 5)
        have hrd := reads1 wr (arg s k)
        have hz : w.heap.size ≤ wr.heap.size := HW.out.k.size
        have hq2 : k / 4 ≤ 200 := by omega
        go_wp2_with fail
        refine (says_any _ _).mono ?_
        rintro e w1 ⟨rfl, rfl⟩
        go_wp2_with (at_builtin; refine wpList_append_any _ rfl (.tmp 29) (.tmp 32) _ rfl w.heap.size 5 i0 _ 1 1 Try.underlying38 HI.out.1 HI.out.2.1 HI.out.2.2.1 HI.out.2.2.2 rfl (by decide) (.slice a2 (k / 4) c2) (k / 4) _ rfl hown2 _ _ 1 1 [.int .u8 (arg s k)] rfl hrd (by simp [Value.oneCell']) (by simp only [maxLen]; omega) (by omega) (by simp; omega) ?_; intro v2 w2 hown3 hg3 hat3; obtain ⟨a3, c3, hv2⟩ := own_form hown3; subst hv2; rw [← HXS.out] at hown3)
        have hlt2 : ∀ b, (Value.slice a2 (k / 4) c2).ownBlock = some b → w.heap.size ≤ b := fun b hb => (hown2.lt b hb).1
        have HNN : Hid (Rd w w2 s (.slice a3 ((k + 1) / 4) c3) (k + 1)) := Lib.hid ⟨by rw [HK4.out]; exact hown3, HW.out.k.next (((Keeps.refl _ wr).alloc _).grown hg3 (fun b hb => .inl (by rw [hb]; simp : b ∈ (Value.slice a2 (k / 4) c2).ownBlock.toList))) (fun b hb => .inr (hlt2 b (by simpa using hb)))⟩
        clear hown3 hg3 hat3 hlt2 hown2 hrd
        go_roundw
        case rel => exact ⟨k + 1, a3, c3, by omega, by go_num, by rw [HL1.out], by rw [HK4.out], HNN.out⟩
        case measure => simp [intOf]; omega
      · have h3' : ((k : Int) % 4 == 3) = false := by simp; omega
        have HNX := Lib.hid (arg_next s k h3)
        have HE4 : Hid ((k + 1) / 4 = k / 4) := Lib.hid (by omega)
        have HWW : Hid (Rd w wr s (.slice a2 (k / 4) c2) (k + 1)) := Lib.hid ⟨by rw [HE4.out]; exact HW.out.own, HW.out.k⟩
        go_wp2_with fail
        refine (says_any _ _).mono ?_
        rintro e w1 ⟨rfl, rfl⟩
        go_wp2_with fail
        go_roundw
        case rel => exact ⟨k + 1, a2, c2, by omega, by go_num, by rw [HNX.out], by rw [HE4.out], by rw [HE4.out]; exact HWW.out⟩
        case measure => simp [intOf]; omega
    · obtain rfl : k = n := by omega
      have hm4 : ((k : Int) % 4 != 0) = false := by have := HN.out; simp; omega
      have hstr : (⟨(s.data.toList.take (k / 4)).toArray⟩ : ByteArray) = s := by
        rw [List.take_of_length_le (by have := HN.out; simp; omega)]
      have hcv := own_back (P := Try.prog) wr w.heap.size 38 9 5 a2 (k / 4) c2 _ Try.underlying38 Try.underlying5 Try.underlying9 hw.own
      rw [hstr] at hcv
      have HK := Lib.hid hw.k
      clear hw hstr
      go_wp2
      go_ret3
      exact ⟨rfl, HK.out⟩
end To
end Go.Proofs.Ytdmgglcadjhnhaa
