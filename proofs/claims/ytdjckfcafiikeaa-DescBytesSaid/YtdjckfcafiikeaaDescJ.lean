/- A descriptor as bytes: the reference's Print. -/
import Derived.Test.YtdjckfcafiikeaaDescH
namespace Go.Proofs.Ytdjckfcafiikeaa
open Go.RowKit
attribute [local go_sem] Bw.and255 Bw.and65535
namespace De
open Sm Bi
def nth (a l g : Int) (k : Nat) : Int := if k = 0 then a else if k = 1 then l else g
def prPre (w st a l g : Int) (k : Nat) : List UInt8 := [UInt8.ofNat w.toNat, UInt8.ofNat st.toNat] ++ (if 0 < k then putL a else []) ++ (if 1 < k then putL l else []) ++ (if 2 < k then putL g else [])
theorem pre_s (w st a l g : Int) (k : Nat) (hk : k < 3) : prPre w st a l g (k + 1) = prPre w st a l g k ++ putL (nth a l g k) := by
  have : k = 0 ∨ k = 1 ∨ k = 2 := by omega
  rcases this with rfl | rfl | rfl <;> simp [prPre, nth]
theorem pre_len (w st a l g : Int) (k : Nat) : (prPre w st a l g k).length ≤ 8 := by
  unfold prPre putL
  simp only [List.length_append, List.length_cons, List.length_nil]
  split <;> split <;> split <;> simp
theorem pre_3 (w st a l g : Int) : prPre w st a l g 3 = prL w st a l g := by simp [prPre, prL]
theorem ok_of (a l g : Int) (h : ∀ j, j < 3 → in16 (nth a l g j) = true) : prOk a l g = true := by
  have h0 := h 0 (by omega)
  have h1 := h 1 (by omega)
  have h2 := h 2 (by omega)
  simp [nth] at h0 h1 h2
  simp [prOk, h0, h1, h2]
theorem bad_of (a l g : Int) (k : Nat) (hk : k < 3) (h : in16 (nth a l g k) = false) : prOk a l g = false := by
  have : k = 0 ∨ k = 1 ∨ k = 2 := by omega
  rcases this with rfl | rfl | rfl <;> simp [nth] at h <;> simp [prOk, h]
theorem out_ok (w st a l g : Int) (h : prOk a l g = true) : prOut w st a l g = prL w st a l g ∧ prErr a l g = 0 := by
  unfold prOut prErr; rw [if_pos h, if_pos h]; exact ⟨rfl, rfl⟩
theorem out_bad (w st a l g : Int) (h : prOk a l g = false) : prOut w st a l g = [] ∧ prErr a l g = 2 := by
  unfold prOut prErr; rw [h]; exact ⟨rfl, rfl⟩
/-- The three numbers' cells. -/
def Three (w : World) (b : Nat) (a l g : Int) : Prop := ∀ k, k < 3 → w.cell? ⟨b, k, none⟩ = some (.int .i64 (nth a l g k))
theorem Three.mk_ {w : World} {b : Nat} {a l g : Int} (h : Blk w b 3 #[.int .i64 a, .int .i64 l, .int .i64 g]) : Three w b a l g := fun k hk => by
  have : k = 0 ∨ k = 1 ∨ k = 2 := by omega
  rcases this with rfl | rfl | rfl
  · exact h.cell 0
  · exact h.cell 1
  · exact h.cell 2
theorem Three.below {w w' : World} {b : Nat} {a l g : Int} (h : Three w b a l g) (hb : Below w.heap.size w w') (hl : b < w.heap.size) : Three w' b a l g := fun k hk => (hb.cell (p := ⟨b, k, none⟩) hl).trans (h k hk)
/-- What stands at the head of a round. -/
def PrAt (w st a l g : Int) (W : World) (bd k : Nat) (r : ByteArray) (wr : World) : Prop := r.data.toList = prPre w st a l g k ∧ (∀ j, j < k → in16 (nth a l g j) = true) ∧ Three wr (bd + 1) a l g ∧ Below bd W wr ∧ bd + 1 < wr.heap.size
attribute [local irreducible] prOut prErr
set_option maxRecDepth 100000 in
set_option maxHeartbeats 1000000 in
theorem rprint_any (w st a l g : Int) (W : World) (_w0 : 0 ≤ w) (_w1 : w ≤ 255) (_s0 : 0 ≤ st) (_s1 : st ≤ 255) :
    Calls Try.prog 16 #[.agg #[.int .u8 w, .int .u8 st, .int .i64 a, .int .i64 l, .int .i64 g]] W (IsPr (prOut w st a l g) (prErr a l g) W) := by
  have hcv := two_bytes ((W.alloc (.cells #[.int .u8 w, .int .u8 st, .int .i64 a, .int .i64 l, .int .i64 g] 24)).alloc (.cells #[.int .i64 a, .int .i64 l, .int .i64 g] 3)) w st
  have h2 : ((W.alloc (.cells #[.int .u8 w, .int .u8 st, .int .i64 a, .int .i64 l, .int .i64 g] 24)).alloc (.cells #[.int .i64 a, .int .i64 l, .int .i64 g] 3)).heap.size = W.heap.size + 1 + 1 := by simp
  rw [h2] at hcv
  clear h2
  go_enter Try.func16, Try.ntmps16
  go_wp2
  have hT : Blk (((W.alloc (.cells #[.int .u8 w, .int .u8 st, .int .i64 a, .int .i64 l, .int .i64 g] 24)).alloc (.cells #[.int .i64 a, .int .i64 l, .int .i64 g] 3)).alloc (.cells #[.int .u8 w, .int .u8 st] 5)) (W.heap.size + 1) 3 #[.int .i64 a, .int .i64 l, .int .i64 g] := by
    have := (Blk.new (W.alloc (.cells #[.int .u8 w, .int .u8 st, .int .i64 a, .int .i64 l, .int .i64 g] 24)) 3 #[.int .i64 a, .int .i64 l, .int .i64 g]).alloc (.cells #[.int .u8 w, .int .u8 st] 5)
    rwa [show (W.alloc (.cells #[.int .u8 w, .int .u8 st, .int .i64 a, .int .i64 l, .int .i64 g] 24)).heap.size = W.heap.size + 1 from by simp] at this
  have hB : Below W.heap.size W (((W.alloc (.cells #[.int .u8 w, .int .u8 st, .int .i64 a, .int .i64 l, .int .i64 g] 24)).alloc (.cells #[.int .i64 a, .int .i64 l, .int .i64 g] 3)).alloc (.cells #[.int .u8 w, .int .u8 st] 5)) := (((Below.refl _ W).alloc (Nat.le_refl _) _).alloc (by simp) _).alloc (by simp; omega) _
  have hX := Three.mk_ hT
  have hlt : W.heap.size + 1 < (((W.alloc (.cells #[.int .u8 w, .int .u8 st, .int .i64 a, .int .i64 l, .int .i64 g] 24)).alloc (.cells #[.int .i64 a, .int .i64 l, .int .i64 g] 3)).alloc (.cells #[.int .u8 w, .int .u8 st] 5)).heap.size := hT.lt
  clear hT hcv
  generalize (((W.alloc (.cells #[.int .u8 w, .int .u8 st, .int .i64 a, .int .i64 l, .int .i64 g] 24)).alloc (.cells #[.int .i64 a, .int .i64 l, .int .i64 g] 3)).alloc (.cells #[.int .u8 w, .int .u8 st] 5)) = V at *
  generalize hbd : W.heap.size = bd at *
  have HBD := Lib.hid hbd
  clear hbd
  go_loopw [5, 6] (fun t i wr => ∃ (k : Nat) (r : ByteArray), k ≤ 3 ∧ i = .int .i64 k ∧ t = .string r ∧ PrAt w st a l g W bd k r wr) (fun _ i _ => 3 - (intOf i).toNat)
  case atStart => exact ⟨0, _, by omega, rfl, rfl, by simp [prPre]; rfl, fun j hj => by omega, hX, hB, hlt⟩
  case round =>
    clear hX hB hlt
    obtain ⟨k, r, hk, rfl, rfl, hr, hin, hX, hB, hlt⟩ := hrel
    have HR := Lib.hid hr
    have HIN := Lib.hid hin
    clear hr hin
    by_cases hk3 : k < 3
    · have hc := hX k hk3
      have HP := Lib.hid (pre_s w st a l g k hk3)
      have HBAD := Lib.hid (bad_of a l g k hk3)
      have HX := Lib.hid hX
      clear hX
      generalize hn : nth a l g k = n at *
      have HN := Lib.hid hn
      clear hn
      by_cases h16 : in16 n = true
      · obtain ⟨n0, n1⟩ := of_decide_eq_true h16
        have H16 := Lib.hid h16
        clear h16
        have HC := Lib.hid (fun V => rput_any n V)
        go_wp2_with fail
        refine (HC.out _).mono ?_
        rintro e v1 ⟨x, rfl, hx, hb⟩
        have hz : r.size + x.size ≤ 9223372036854775807 := by
          have h1 := size_of r _ HR.out
          have h2 := size_of x _ hx
          have h3 := pre_len w st a l g k
          simp only [putL, List.length_cons, List.length_nil] at h2
          omega
        have HXX := Lib.hid hx
        clear hx HC
        go_wp2
        go_roundw
        case rel =>
          refine ⟨k + 1, _, by omega, by go_num, rfl, ?_, ?_, HX.out.below hb hlt, hB.trans (hb.mono (by omega)), Nat.lt_of_lt_of_le hlt hb.size⟩
          · rw [HP.out, ← HR.out, ← HXX.out]; simp
          · intro j hj
            by_cases hjk : j = k
            · rw [hjk, HN.out]; exact H16.out
            · exact HIN.out j (by omega)
        case measure => simp [intOf]; omega
      · have hbad := HBAD.out (by simpa using h16)
        have h16' : ¬ (0 ≤ n ∧ n ≤ 65535) := fun hh => h16 (decide_eq_true hh)
        obtain ⟨ho, he⟩ := out_bad w st a l g hbad
        have HO := Lib.hid ho
        have HE := Lib.hid he
        clear h16 hbad ho he
        by_cases n0 : 0 ≤ n
        · have n1 : 65535 < n := by omega
          clear h16'
          go_wp2
          go_ret2
          exact ⟨⟨#[]⟩, (by rw [HE.out]; first | done | rfl), (by rw [HO.out]; first | done | rfl), by rw [HBD.out]; exact hB⟩
        · clear h16'
          go_wp2
          go_ret2
          exact ⟨⟨#[]⟩, (by rw [HE.out]; first | done | rfl), (by rw [HO.out]; first | done | rfl), by rw [HBD.out]; exact hB⟩
    · obtain rfl : k = 3 := by omega
      obtain ⟨ho, he⟩ := out_ok w st a l g (ok_of a l g HIN.out)
      have HO := Lib.hid ho
      have HE := Lib.hid he
      clear ho he
      go_wp2
      go_ret2
      exact ⟨_, (by rw [HE.out]; first | done | rfl), by rw [HO.out, HR.out, pre_3], by rw [HBD.out]; exact hB⟩
end De
end Go.Proofs.Ytdjckfcafiikeaa
