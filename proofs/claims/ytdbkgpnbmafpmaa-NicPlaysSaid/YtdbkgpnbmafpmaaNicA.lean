/- A map from owners to ports, in memory: what is looked up, what a store makes of it. -/
import Derived.Test.YtdbkgpnbmafpmaaQrFE
import Derived.Maps.Own
import Derived.Maps.OwnOps
import Derived.Maps.Views
namespace Go.Proofs.Ytdbkgpnbmafpmaa
open Go.RowKit Go.Maps
namespace Nc
open Sm
abbrev D0 := DataW Unit
/-- How a pointer reads. -/
def ptrR : Value → Option (D0 × List MemPlace)
  | .pointer none => some (.lit (.int .i64 (-1)), [])
  | .pointer (some ⟨b, 0, none⟩) => some (.lit (.int .i64 (b : Int)), [])
  | _ => none
def pv : Option Nat → Value
  | none => .pointer none
  | some b => .pointer (some ⟨b, 0, none⟩)
def pd : Option Nat → D0
  | none => .lit (.int .i64 (-1))
  | some b => .lit (.int .i64 (b : Int))
theorem ptr_pv (o : Option Nat) : ptrR (pv o) = some (pd o, []) := by cases o <;> rfl
theorem ptr_inv {v : Value} {o : Option Nat} {ps : List MemPlace} (h : ptrR v = some (pd o, ps)) : v = pv o := by
  unfold ptrR at h
  split at h
  · cases o with
    | none => rfl
    | some b => simp [pd] at h
  · cases o with
    | none => simp [pd] at h
    | some b => simp [pd] at h; simp [pv, h]
  · cases h
theorem mlaw : Keyed Try.prog 3 := int_keyed Try.underlying3
theorem zeroP (w : World) : (zeroValue 70).run Try.prog w = .ok (.pointer none) w := by kernel_rfl
/-- Block m is a map of at most n entries that holds F. -/
def MapP (w : World) (m n : Nat) (F : Int → Option Nat) : Prop :=
  ∃ D : D0, w.ownsMap Try.prog 3 ptrR m n D ∧ IsMap D ∧ ∀ k : Int, (Lit.int .i64 k).wf = true → D.atKey (.int .i64 k) (.lit (.int .i64 (-1))) = pd (F k)
section
variable {w w' : World} {m n : Nat} {F : Int → Option Nat} {S : List Nat}
theorem MapP.keeps (h : MapP w m n F) (hk : Keeps S w w') (hm : m ∉ S) : MapP w' m n F := by
  obtain ⟨D, ⟨es, clock, hb, h1, h2, h3⟩, h4, h5⟩ := h
  exact ⟨D, ⟨es, clock, (hk.block m (Array.getElem?_eq_some_iff.1 hb).1 hm).trans hb, h1, h2, h3⟩, h4, h5⟩
theorem MapP.lt (h : MapP w m n F) : m < w.heap.size := by
  obtain ⟨D, h1, _⟩ := h
  exact h1.lt
theorem MapP.mono {n' : Nat} (h : MapP w m n F) (hn : n ≤ n') : MapP w m n' F := by
  obtain ⟨D, h1, h2⟩ := h
  exact ⟨D, h1.mono hn, h2⟩
theorem MapP.made (w : World) : MapP (w.alloc (.map #[] 0)) w.heap.size 0 (fun _ => none) :=
  ⟨.map [], World.ownsMap_made w _ _ _, isMap_empty, fun _ _ => rfl⟩
theorem MapP.look (h : MapP w m n F) (k : Int) (hk : (Lit.int .i64 k).wf = true) : (Instr.lookup 66 (.map (some m)) (.int .i64 k) false).run Try.prog w = .ok (pv (F k)) w := by
  obtain ⟨D, h1, h2, h3⟩ := h
  obtain ⟨v, ps, hrun, hv⟩ := h1.lookup mlaw Try.underlying66 (zeroP w) (zd := .lit (.int .i64 (-1))) (zp := []) rfl (keyOf_int_mk Try.underlying3 hk)
  rw [h3 k hk] at hv
  rw [hrun, ptr_inv hv]
theorem MapP.store (h : MapP w m n F) (k : Int) (hk : (Lit.int .i64 k).wf = true) (p : Nat) (hn : n < maxLen) :
    ∃ w', (Instr.mapUpdate 66 (.map (some m)) (.int .i64 k) (.pointer (some ⟨p, 0, none⟩))).run Try.prog w = .ok () w' ∧ MapP w' m (n + 1) (fun j => if j = k then some p else F j) ∧ w.grownBy w' (some m) := by
  obtain ⟨D, h1, h2, h3⟩ := h
  obtain ⟨w', hrun, ho, hg⟩ := h1.update mlaw Try.underlying66 hn (keyOf_int_mk Try.underlying3 hk) (ptr_pv (some p))
  refine ⟨w', hrun, ⟨_, ho, h2.put _ _, fun j hj => ?_⟩, hg⟩
  by_cases e : j = k
  · subst e
    rw [atKey_put_same h2 (by trivial)]
    show pd (some p) = pd (if j = j then some p else F j)
    rw [if_pos rfl]
  · rw [atKey_put_other (by intro h9; injection h9 with _ h9; exact e h9), h3 j hj]
    show pd (F j) = pd (if j = k then some p else F j)
    rw [if_neg e]
end
end Nc
end Go.Proofs.Ytdbkgpnbmafpmaa
