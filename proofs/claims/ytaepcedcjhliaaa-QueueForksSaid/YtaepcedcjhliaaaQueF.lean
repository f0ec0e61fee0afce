/- The deeds that come in. -/
import Derived.Test.YtaepcedcjhliaaaQueE
import Derived.Test.YtaepcedcjhliaaaNest
namespace Go.Proofs.Ytaepcedcjhliaaa
open Go.RowKit Go.ChangeShapes Go.WideShapes
namespace Qp
open Sm FiT
abbrev deedK : List TypeDesc := [.int .i64, .int .i64, .int .u8, .int .u8, .int .i64, .int .i64, .int .i64, .bool, .int .i64, .int .i64]
theorem sub_get {cs : List Value} {o m i : Nat} {v : Value} (h : ((cs.drop o).take m)[i]? = some v) : cs[o + i]? = some v := by
  rw [List.getElem?_take] at h
  split at h
  · rw [List.getElem?_drop] at h; exact h
  · cases h
theorem deeds_of {H : Type} {enc : TypeId × Value → H} {w : World} {base : Nat} {spare : Nat → Bool} {held : Bool} {a : Option Addr} {len cap : Nat} {d : DataW H} {p : List MemPlace}
    (h : DataW.Trod enc Try.prog w base spare held 22 (.slice a len cap) d p) : ∃ R, Recs w a len cap deedK R := by
  refine recs_flat deedK Try.underlying22 (by kernel_rfl) (fun cs h j k hj => ?_) h
  have uD := Try.underlying32
  have uI := Try.underlying30
  have uS := Try.underlying28
  have hx := h.field uD 1 1 7 _ rfl rfl (by kernel_rfl)
  have hd := hx.field uI 1 1 5 _ rfl rfl (by kernel_rfl)
  rcases j with _ | _ | _ | _ | _ | _ | _ | _ | _ | _ | j
  · simp at hj; subst hj; exact h.cell uD 0 0 _ _ rfl rfl (by kernel_rfl) Try.underlying3 (.inl ⟨_, rfl⟩)
  · simp at hj; subst hj; obtain ⟨v, e, hv⟩ := hx.cell uI 0 0 _ _ rfl rfl (by kernel_rfl) Try.underlying3 (.inl ⟨_, rfl⟩); have e' := sub_get e; exact ⟨v, e', hv⟩
  · simp at hj; subst hj; obtain ⟨v, e, hv⟩ := hd.cell uS 0 0 _ _ rfl rfl (by kernel_rfl) Try.underlying26 (.inl ⟨_, rfl⟩); have e' := sub_get (sub_get e); exact ⟨v, e', hv⟩
  · simp at hj; subst hj; obtain ⟨v, e, hv⟩ := hd.cell uS 1 1 _ _ rfl rfl (by kernel_rfl) Try.underlying5 (.inl ⟨_, rfl⟩); have e' := sub_get (sub_get e); exact ⟨v, e', hv⟩
  · simp at hj; subst hj; obtain ⟨v, e, hv⟩ := hd.cell uS 2 2 _ _ rfl rfl (by kernel_rfl) Try.underlying3 (.inl ⟨_, rfl⟩); have e' := sub_get (sub_get e); exact ⟨v, e', hv⟩
  · simp at hj; subst hj; obtain ⟨v, e, hv⟩ := hd.cell uS 3 3 _ _ rfl rfl (by kernel_rfl) Try.underlying3 (.inl ⟨_, rfl⟩); have e' := sub_get (sub_get e); exact ⟨v, e', hv⟩
  · simp at hj; subst hj; obtain ⟨v, e, hv⟩ := hd.cell uS 4 4 _ _ rfl rfl (by kernel_rfl) Try.underlying3 (.inl ⟨_, rfl⟩); have e' := sub_get (sub_get e); exact ⟨v, e', hv⟩
  · simp at hj; subst hj; obtain ⟨v, e, hv⟩ := hx.cell uI 2 6 _ _ rfl rfl (by kernel_rfl) Try.underlying4 (.inr (.inr rfl)); have e' := sub_get e; exact ⟨v, e', hv⟩
  · simp at hj; subst hj; exact h.cell uD 2 8 _ _ rfl rfl (by kernel_rfl) Try.underlying3 (.inl ⟨_, rfl⟩)
  · simp at hj; subst hj; exact h.cell uD 3 9 _ _ rfl rfl (by kernel_rfl) Try.underlying3 (.inl ⟨_, rfl⟩)
  · simp at hj
/-- A deed's item. -/
def itAt (R : Nat → Nat → Value) (i : Nat) : It := ⟨numAt R i 1, numAt R i 2, numAt R i 3, numAt R i 4, numAt R i 5, numAt R i 6, (match R i 7 with | .bool b => b | _ => false)⟩
/-- The deed that stands at place k, a while later. -/
theorem deed_at {w wr : World} {a : Option Addr} {len cap : Nat} {R : Nat → Nat → Value} (hR : Recs w a len cap deedK R) (hk : Keeps [] w wr) (k : Nat) (h : k < len) :
    ∃ b off, a = some ⟨b, off, none⟩ ∧ b < w.heap.size ∧ wr.rangeAt b (off + k * 10) ([.int .i64 (numAt R k 0)] ++ cs (itAt R k) ++ [.int .i64 (numAt R k 8), .int .i64 (numAt R k 9)]) := by
  obtain ⟨b, off, rfl, hbl, hc⟩ := hR.at_ (by omega) (by decide)
  refine ⟨b, off, rfl, hbl, fun j v hv => ?_⟩
  have hcell : ∀ (j : Nat) (kd : TypeDesc), deedK[j]? = some kd → wr.cell? ⟨b, off + k * 10 + j, none⟩ = some (R k j) ∧ cellOk kd (R k j) := fun j kd hj => by
    obtain ⟨h1, h2⟩ := hc k h j kd hj
    refine ⟨?_, h2⟩
    rw [show off + k * 10 + j = off + (k * deedK.length + j) from by show off + k * 10 + j = off + (k * 10 + j); omega]
    exact (hk.cell (p := ⟨b, _, none⟩) hbl (by simp)).trans h1
  rcases j with _ | _ | _ | _ | _ | _ | _ | _ | _ | _ | j
  · obtain ⟨h1, h2⟩ := hcell 0 _ rfl; rw [h1, (numAt_of h2).1]; exact hv
  · obtain ⟨h1, h2⟩ := hcell 1 _ rfl; rw [h1, (numAt_of h2).1]; exact hv
  · obtain ⟨h1, h2⟩ := hcell 2 _ rfl; rw [h1, (numAt_of h2).1]; exact hv
  · obtain ⟨h1, h2⟩ := hcell 3 _ rfl; rw [h1, (numAt_of h2).1]; exact hv
  · obtain ⟨h1, h2⟩ := hcell 4 _ rfl; rw [h1, (numAt_of h2).1]; exact hv
  · obtain ⟨h1, h2⟩ := hcell 5 _ rfl; rw [h1, (numAt_of h2).1]; exact hv
  · obtain ⟨h1, h2⟩ := hcell 6 _ rfl; rw [h1, (numAt_of h2).1]; exact hv
  · obtain ⟨h1, n, h2⟩ := hcell 7 _ rfl
    have hb : (itAt R k).bad = n := by unfold itAt; rw [h2]
    rw [h1, h2, ← hb]; exact hv
  · obtain ⟨h1, h2⟩ := hcell 8 _ rfl; rw [h1, (numAt_of h2).1]; exact hv
  · obtain ⟨h1, h2⟩ := hcell 9 _ rfl; rw [h1, (numAt_of h2).1]; exact hv
  · simp [cs] at hv
end Qp
end Go.Proofs.Ytaepcedcjhliaaa
