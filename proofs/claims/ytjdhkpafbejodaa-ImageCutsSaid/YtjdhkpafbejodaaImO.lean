/- The document: a number at a place; few rows; the numbers of a row. -/
import Derived.Test.YtjdhkpafbejodaaImN
namespace Go.Proofs.Ytjdhkpafbejodaa
open Go.RowKit
namespace Im
open Sm Bi
open PlainAid (bt get_bt bt_nonneg bt_le)
set_option maxRecDepth 100000 in
theorem at1_any (s : ByteArray) (a : Nat) (w : World) (h : a + 1 ≤ s.size) (hs : s.size ≤ 4000) :
    Calls Try.prog 23 #[.string s, .int .i64 a, .int .i64 1] w fun e w' => e = .returned (.int .i64 (b1 s.data.toList a)) ∧ w = w' := by
  rw [← bt_b1]
  have hg := get_bt s
  have h0 := bt_nonneg s a
  have h1 := bt_le s a
  have hc : ¬ (1 : Int) > (s.size : Int) - (a : Int) := by omega
  have ha0 : (0 : Int) ≤ (a : Int) := by omega
  have ha1 : (a : Int) < (s.size : Int) := by omega
  go_enter Try.func23, Try.ntmps23
  go_wp2
  go_ret
  exact ⟨rfl, rfl⟩
set_option maxRecDepth 100000 in
theorem at2_any (s : ByteArray) (a : Nat) (w : World) (h : a + 2 ≤ s.size) (hs : s.size ≤ 4000) :
    Calls Try.prog 23 #[.string s, .int .i64 a, .int .i64 2] w fun e w' => e = .returned (.int .i64 (b2 s.data.toList a)) ∧ w = w' := by
  have hv : b2 s.data.toList a = bt s a + 256 * bt s (a + 1) := by unfold b2; rw [← bt_b1, ← bt_b1]
  rw [hv]
  have hg := get_bt s
  have h0 := bt_nonneg s a
  have h1 := bt_le s a
  have h2 := bt_nonneg s (a + 1)
  have h3 := bt_le s (a + 1)
  clear hv
  have hc : ¬ (2 : Int) > (s.size : Int) - (a : Int) := by omega
  have ha0 : (0 : Int) ≤ (a : Int) := by omega
  have ha1 : (a : Int) + 1 < (s.size : Int) := by omega
  have hcast : ((a : Int) + 1).toNat = a + 1 := by omega
  go_enter Try.func23, Try.ntmps23
  go_wp2
  go_ret
  exact ⟨rfl, rfl⟩
/-- Few rows. -/
def fewC (c : Cfg) : Bool := decide (c.ws.length ≤ 60 ∧ c.ss.length ≤ 60 ∧ c.cs.length ≤ 60)
set_option maxRecDepth 100000 in
theorem few_any (c : Cfg) (a1 : Option Addr) (c1 : Nat) (a2 : Option Addr) (c2 : Nat) (a3 : Option Addr) (c3 : Nat) (W : World) :
    Calls Try.prog 13 #[cv c a1 c1 a2 c2 a3 c3] W fun e w' => e = .returned (.bool (fewC c)) ∧ Below W.heap.size W w' := by
  have HB := Lib.hid ((Below.refl W.heap.size W).alloc (Nat.le_refl _) (.cells #[.int .i64 c.fr, .slice a1 c.ws.length c1, .slice a2 c.ss.length c2, .slice a3 c.cs.length c3] 28))
  unfold cv fewC
  generalize c.ws.length = n1 at *
  generalize c.ss.length = n2 at *
  generalize c.cs.length = n3 at *
  by_cases h1 : n1 ≤ 60
  · by_cases h2 : n2 ≤ 60
    · by_cases h3 : n3 ≤ 60
      · have hd : decide (n1 ≤ 60 ∧ n2 ≤ 60 ∧ n3 ≤ 60) = true := decide_eq_true ⟨h1, h2, h3⟩
        rw [hd]
        have k1 : decide ((n1 : Int) ≤ 60) = true := decide_eq_true (by omega)
        have k2 : decide ((n2 : Int) ≤ 60) = true := decide_eq_true (by omega)
        have k3 : decide ((n3 : Int) ≤ 60) = true := decide_eq_true (by omega)
        clear h1 h2 h3 hd
        go_enter Try.func13, Try.ntmps13
        go_wp2
        go_ret
        exact ⟨rfl, HB.out⟩
      · have hd : decide (n1 ≤ 60 ∧ n2 ≤ 60 ∧ n3 ≤ 60) = false := decide_eq_false (fun h => h3 h.2.2)
        rw [hd]
        have k1 : decide ((n1 : Int) ≤ 60) = true := decide_eq_true (by omega)
        have k2 : decide ((n2 : Int) ≤ 60) = true := decide_eq_true (by omega)
        have k3 : decide ((n3 : Int) ≤ 60) = false := decide_eq_false (by omega)
        clear h1 h2 h3 hd
        go_enter Try.func13, Try.ntmps13
        go_wp2
        go_ret
        exact ⟨rfl, HB.out⟩
    · have hd : decide (n1 ≤ 60 ∧ n2 ≤ 60 ∧ n3 ≤ 60) = false := decide_eq_false (fun h => h2 h.2.1)
      rw [hd]
      have k1 : decide ((n1 : Int) ≤ 60) = true := decide_eq_true (by omega)
      have k2 : decide ((n2 : Int) ≤ 60) = false := decide_eq_false (by omega)
      clear h1 h2 hd
      go_enter Try.func13, Try.ntmps13
      go_wp2
      go_ret
      exact ⟨rfl, HB.out⟩
  · have hd : decide (n1 ≤ 60 ∧ n2 ≤ 60 ∧ n3 ≤ 60) = false := decide_eq_false (fun h => h1 h.1)
    rw [hd]
    have k1 : decide ((n1 : Int) ≤ 60) = false := decide_eq_false (by omega)
    clear h1 hd
    go_enter Try.func13, Try.ntmps13
    go_wp2
    go_ret
    exact ⟨rfl, HB.out⟩
/-- A number's cells. -/
def nmc (x : Nm) : List Value := [.int .i64 x.1, .int .i64 x.2]
def nmf (l : List Nm) : List Value := l.flatMap nmc
theorem nmf_app (a b : List Nm) : nmf (a ++ b) = nmf a ++ nmf b := by simp [nmf]
theorem nmf_cell (l : List Nm) : ∀ u ∈ nmf l, u.oneCell' = true := by
  intro u hu
  simp only [nmf, List.mem_flatMap, nmc] at hu
  obtain ⟨x, _, hx⟩ := hu
  simp at hx
  rcases hx with rfl | rfl <;> rfl
theorem nmf_len : ∀ (l : List Nm), (nmf l).length = l.length * 2
  | [] => rfl
  | x :: t => by
    rw [show nmf (x :: t) = nmc x ++ nmf t from rfl, List.length_append, nmf_len t, show (nmc x).length = 2 from rfl, List.length_cons]
    omega
theorem nmf_get : ∀ (l : List Nm) (k : Nat) (x : Nm), l[k]? = some x → (nmf l)[k * 2]? = some (.int .i64 x.1) ∧ (nmf l)[k * 2 + 1]? = some (.int .i64 x.2)
  | y :: t, 0, x, h => by
    simp at h
    subst h
    exact ⟨rfl, rfl⟩
  | y :: t, k + 1, x, h => by
    have := nmf_get t k x (by simpa using h)
    rw [show nmf (y :: t) = nmc y ++ nmf t from rfl, Nat.succ_mul]
    rw [List.getElem?_append_right (by rw [show (nmc y).length = 2 from rfl]; omega), List.getElem?_append_right (by rw [show (nmc y).length = 2 from rfl]; omega)]
    rw [show (nmc y).length = 2 from rfl, show k * 2 + 2 - 2 = k * 2 by omega, show k * 2 + 2 + 1 - 2 = k * 2 + 1 by omega]
    exact this
set_option maxRecDepth 100000 in
theorem rrow_any (o f t : Int) (w : World) :
    Calls Try.prog 40 #[.int .i64 o, .int .i64 f, .int .i64 t] w fun e w' => e = .returned (.slice (some ⟨w.heap.size, 0, none⟩) 3 3) ∧ w' = w.alloc (.cells (nmf (rowN wsh [o, f, t])).toArray 58) := by
  go_enter Try.func40, Try.ntmps40
  go_wp2
  go_ret
  exact ⟨rfl, rfl⟩
theorem nm_info : (Try.prog.info? 58).map (fun i => (i.zero, i.size, i.bytes)) = some (some (.agg #[.int .i64 0, .int .i64 0]), 2, 16) := by kernel_rfl
end Im
end Go.Proofs.Ytjdhkpafbejodaa
