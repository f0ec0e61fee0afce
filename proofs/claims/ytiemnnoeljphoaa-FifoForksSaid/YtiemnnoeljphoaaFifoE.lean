/- Queues of strings: the first things, that go. -/
import Derived.Test.YtiemnnoeljphoaaFifoSD
import Derived.Test.YtiemnnoeljphoaaApp
namespace Go.Proofs.Ytiemnnoeljphoaa
open Go.RowKit
namespace FiS
open Sm
def strs (l : List ByteArray) : List Value := l.map fun s => .string s
theorem own_form {w : World} {base size n : Nat} {e : TypeId} {v : Value} {xs : List Value} (h : w.ownsRow base e size v n xs) : ∃ a c, v = .slice a n c := by
  rcases h.2 with ⟨rfl, rfl⟩ | ⟨g, cap, cur, rfl, _⟩
  · exact ⟨_, _, rfl⟩
  · exact ⟨_, _, rfl⟩
theorem reads1 (w : World) (x : ByteArray) : Reads (w.alloc (.cells #[.string x] 9)) (w.heap.size + 1) 1 (some ⟨w.heap.size, 0, none⟩) 1 (strs [x]) := by
  refine ⟨rfl, fun _ => ⟨_, rfl, by simp, fun j u hu => ?_⟩⟩
  have hj : j = 0 := by
    rcases Nat.eq_zero_or_pos j with h | h
    · exact h
    · simp [strs] at hu; rw [List.getElem?_eq_none (by simp; omega)] at hu; cases hu
  subst hj
  simp [strs] at hu
  have : (⟨w.heap.size, 0, none⟩ : Addr).add 0 = ⟨w.heap.size, 0, none⟩ := by unfold Addr.add; simp
  rw [this, ← hu]
  simp
def slen : Value → Nat
  | .slice _ n _ => n
  | _ => 0
/-- The things that went, and the queue that is left. -/
structure Went (w wr : World) (g r : Nat) (l : List ByteArray) (lim dr : Int) (v : Value) (j : Nat) : Prop where
  own : wr.ownsRow w.heap.size 9 1 v j (strs (l.take j))
  q : Qu wr g r (l.drop j) lim dr
  k : Keeps [g, r] w wr
  jl : j ≤ l.length
def IsTake (g r : Nat) (l : List ByteArray) (lim dr n : Int) (w : World) (e : Ending) (w' : World) : Prop :=
  ∃ a j c, e = .returned (.slice a j c) ∧ Went w w' g r l lim dr (.slice a j c) j ∧ (j : Int) ≤ max n 0 ∧ ((j : Int) = n ∨ n < 0 ∧ j = 0 ∨ j = l.length)
theorem str_info : (Try.prog.info? 9).map (fun i => (i.zero, i.size, i.bytes)) = some (some (.string ⟨#[]⟩), 1, 16) := by kernel_rfl
theorem one_strs (l : List ByteArray) : ∀ u ∈ strs l, u.oneCell' = true := by
  intro u hu
  simp only [strs, List.mem_map] at hu
  obtain ⟨x, _, rfl⟩ := hu
  rfl
set_option maxRecDepth 100000 in
set_option maxHeartbeats 2000000 in
theorem take_any (g r : Nat) (l : List ByteArray) (lim dr n : Int) (w : World) (h : Qu w g r l lim dr) (hl : l.length ≤ 65536) :
    Calls Try.prog 8 #[.pointer (some ⟨g, 0, none⟩), .int .i64 n] w (IsTake g r l lim dr n w) := by
  obtain ⟨i0, hi0, hz0, hz1, hz2⟩ := info_parts str_info
  have HI := Lib.hid (And.intro hi0 (And.intro hz0 (And.intro hz1 hz2)))
  clear hi0 hz0 hz1 hz2
  have h0 : Went w w g r l lim dr (.slice none 0 0) 0 := ⟨⟨rfl, .inl ⟨rfl, rfl⟩⟩, h, Keeps.refl _ _, Nat.zero_le _⟩
  obtain ⟨hg, hr⟩ := h.lt
  clear h
  go_enter Try.func8, Try.ntmps8
  go_wp2
  go_loopw [5] (fun v wr => ∃ (a : Option Addr) (j c : Nat), v = .slice a j c ∧ (j : Int) ≤ max n 0 ∧ Went w wr g r l lim dr (.slice a j c) j) (fun v _ => l.length + 1 - slen v)
  case atStart => exact ⟨none, 0, 0, rfl, by omega, h0⟩
  case round =>
    clear h0
    obtain ⟨a, j, c, rfl, hjn, hw⟩ := hrel
    have hjl := hw.jl
    by_cases hlt : (j : Int) < n
    · rcases hd : l.drop j with _ | ⟨x, t⟩
      · have hq := hw.q
        rw [hd] at hq
        have HW := Lib.hid hw
        have hjj : j = l.length := by
          have := congrArg List.length hd
          simp at this
          omega
        have HJ := Lib.hid hjj
        have HC := Lib.hid (pop_none g r lim dr wr hq)
        clear hw hq hd hjj
        go_wp2_with fail
        refine HC.out.mono ?_
        clear HC
        rintro e v1 ⟨rfl, rfl⟩
        go_wp2
        go_ret
        exact ⟨_, _, _, rfl, HW.out, hjn, .inr (.inr HJ.out)⟩
      · have hq := hw.q
        rw [hd] at hq
        have hj1 : j < l.length := by
          have := congrArg List.length hd
          simp at this
          omega
        have hx : l[j]? = some x := by
          have := congrArg (fun z => z[0]?) hd
          simpa using this
        have ht : l.drop (j + 1) = t := by
          rw [← List.drop_drop, hd]; rfl
        have hxs : strs (l.take (j + 1)) = strs (l.take j) ++ strs [x] := by
          rw [List.take_add_one, hx]; simp [strs]
        have HXS := Lib.hid hxs
        have HT := Lib.hid ht
        have HW := Lib.hid hw
        have HC := Lib.hid (pop_some g r x t lim dr wr hq)
        clear hw hq hd hx ht hxs
        go_wp2_with fail
        refine HC.out.mono ?_
        clear HC
        rintro e v1 ⟨rfl, hq1, hk1⟩
        have hown1 : v1.ownsRow w.heap.size 9 1 (.slice a j c) j (strs (l.take j)) := ownsRow_keeps HW.out.own hk1 (fun b hb => by
          have := HW.out.own.lt b hb
          simp
          omega)
        have hrd := reads1 v1 x
        have hown2 := hown1.alloc (.cells #[.string x] 9)
        have hz : w.heap.size ≤ v1.heap.size := Nat.le_trans HW.out.k.size hk1.size
        have HK1 := Lib.hid (HW.out.k.trans hk1)
        have HQ1 := Lib.hid hq1
        clear hown1 hq1 hk1
        go_wp2_with (at_builtin; refine wpList_append_any _ rfl (.tmp 19) (.tmp 21) _ rfl w.heap.size 9 i0 _ 1 16 Try.underlying28 HI.out.1 HI.out.2.1 HI.out.2.2.1 HI.out.2.2.2 rfl (by decide) (.slice a j c) j _ rfl hown2 _ _ 1 1 (strs [x]) rfl hrd (one_strs _) (by simp only [maxLen]; omega) (by omega) (by simp; omega) ?_; intro v2 w2 hown3 hg3 hat3; obtain ⟨a2, c2, hv2⟩ := own_form hown3; subst hv2; rw [← HXS.out] at hown3)
        have hlt2 : ∀ b, (Value.slice a j c).ownBlock = some b → w.heap.size ≤ b := fun b hb => (hown2.lt b hb).1
        have hk2 : Keeps (Value.slice a j c).ownBlock.toList v1 w2 := ((Keeps.refl _ v1).alloc _).grown hg3 (fun b hb => .inl (by rw [hb]; simp))
        have hnin : ∀ b, b < w.heap.size → b ∉ (Value.slice a j c).ownBlock.toList := fun b hb hm => by
          have := hlt2 b (by simpa using hm)
          omega
        have HN : Hid (Went w w2 g r l lim dr (.slice a2 (j + 1) c2) (j + 1)) := Lib.hid ⟨hown3, by rw [HT.out]; exact HQ1.out.keeps hk2 (hnin g hg) (hnin r hr), HK1.out.next hk2 (fun b hb => .inr (hlt2 b (by simpa using hb))), hj1⟩
        clear hown3 hg3 hat3 hk2 hnin hlt2 hown2 hrd
        go_roundw
        case rel => exact ⟨a2, j + 1, c2, rfl, by omega, HN.out⟩
        case measure => simp only [slen]; omega
    · have HW := Lib.hid hw
      clear hw
      go_wp2
      go_ret
      exact ⟨_, _, _, rfl, HW.out, hjn, by omega⟩
end FiS
end Go.Proofs.Ytiemnnoeljphoaa
