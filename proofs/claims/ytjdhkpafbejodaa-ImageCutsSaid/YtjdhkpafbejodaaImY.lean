/- Tables that come in by value. -/
import Derived.Test.YtjdhkpafbejodaaImN
import Derived.Test.YtjdhkpafbejodaaRecs
import Derived.Test.YtjdhkpafbejodaaNest
import Derived.Lib.SmallJoins
namespace Go.Proofs.Ytjdhkpafbejodaa
open Go.RowKit Go.ChangeShapes Go.WideShapes Go.Deep Go.Joins
namespace Im
open Sm Bi
def rowsOf (R : Nat → Nat → Value) (q n : Nat) : List (List Int) := (List.range n).map fun i => (List.range q).map fun j => numAt R i j
theorem rowsOf_len (R : Nat → Nat → Value) (q n : Nat) : (rowsOf R q n).length = n := by simp [rowsOf]
theorem ri_recs {w : World} {a : Option Addr} {len cap q : Nat} {ks : List TypeDesc} {R : Nat → Nat → Value} (h : Recs w a len cap ks R) (hq : ks = List.replicate q (.int .i64)) (h0 : 0 < q) : RI w q a (rowsOf R q len) := by
  have hl : ks.length = q := by rw [hq]; simp
  refine ⟨fun r hr => ?_, fun hne => ?_⟩
  · simp only [rowsOf, List.mem_map] at hr
    obtain ⟨i, _, rfl⟩ := hr
    simp
  · have hpos : 0 < len := by
      rcases Nat.eq_zero_or_pos len with h9 | h9
      · subst h9; exact absurd rfl hne
      · exact h9
    obtain ⟨b, off, e, hb, hc⟩ := h.at_ hpos (by omega)
    refine ⟨b, off, e, hb, fun i r hr j x hx => ?_⟩
    have hi : i < len := by
      have := (List.getElem?_eq_some_iff.1 hr).1
      rw [rowsOf_len] at this
      exact this
    have hri : r = (List.range q).map fun j => numAt R i j := by
      simp only [rowsOf, List.getElem?_map, List.getElem?_range hi, Option.map_some] at hr
      exact (Option.some.inj hr).symm
    subst hri
    have hj : j < q := by
      have := (List.getElem?_eq_some_iff.1 hx).1
      simpa using this
    have hxe : x = numAt R i j := by
      simp only [List.getElem?_map, List.getElem?_range hj, Option.map_some] at hx
      exact (Option.some.inj hx).symm
    have hk : ks[j]? = some (.int .i64) := by rw [hq, List.getElem?_replicate, if_pos hj]
    obtain ⟨c1, c2⟩ := hc i hi j _ hk
    rw [hl] at c1
    rw [Nat.add_assoc, c1, (numAt_of c2).1, hxe]
section
variable {H : Type} {enc : TypeId × Value → H} {w : World} {base : Nat} {spare : Nat → Bool} {held : Bool}
theorem slice_of {t e : TypeId} {v : Value} {cs : List Value} (ht : Try.prog.underlying t = some (.slice e)) (h : TrodE enc Try.prog w base spare held t cs) (hc : cs = [v]) : ∃ (a : Option Addr) (len cap : Nat) (d : DataW H) (p : List MemPlace), v = .slice a len cap ∧ DataW.Trod enc Try.prog w base spare held t (.slice a len cap) d p := by
  subst hc
  obtain ⟨fuel, ⟨d, p⟩, hf⟩ := h
  rcases open_slice ht hf with ⟨hcs, _⟩ | ⟨x, l, c, m, n, D, Pl, hcs, _⟩
  · simp at hcs
    subst hcs
    exact ⟨none, 0, 0, d, p, rfl, fuel, by simpa [Value.cells] using hf⟩
  · simp at hcs
    subst hcs
    exact ⟨some x, l, c, d, p, rfl, fuel, by simpa [Value.cells] using hf⟩
theorem win_of {a : Option Addr} {len cap : Nat} {d : DataW H} {p : List MemPlace} (h : DataW.Trod enc Try.prog w base spare held 24 (.slice a len cap) d p) : ∃ X, X.length = len ∧ RI w 3 a X := by
  obtain ⟨R, hR⟩ := recs_of ([.int .i64, .int .i64, .int .i64] : List TypeDesc) Try.underlying24 Try.underlying51 (by kernel_rfl) (by kernel_rfl) rfl (by
    intro j f k hf hk
    rcases j with _ | _ | _ | j <;> simp at hf hk <;> subst hf <;> subst hk <;> exact Try.underlying3) h
  exact ⟨_, rowsOf_len _ _ _, ri_recs hR (q := 3) rfl (by decide)⟩
theorem slot_of {a : Option Addr} {len cap : Nat} {d : DataW H} {p : List MemPlace} (h : DataW.Trod enc Try.prog w base spare held 25 (.slice a len cap) d p) : ∃ X, X.length = len ∧ RI w 3 a X := by
  obtain ⟨R, hR⟩ := recs_of ([.int .i64, .int .i64, .int .i64] : List TypeDesc) Try.underlying25 Try.underlying52 (by kernel_rfl) (by kernel_rfl) rfl (by
    intro j f k hf hk
    rcases j with _ | _ | _ | j <;> simp at hf hk <;> subst hf <;> subst hk <;> exact Try.underlying3) h
  exact ⟨_, rowsOf_len _ _ _, ri_recs hR (q := 3) rfl (by decide)⟩
theorem cli_of {a : Option Addr} {len cap : Nat} {d : DataW H} {p : List MemPlace} (h : DataW.Trod enc Try.prog w base spare held 26 (.slice a len cap) d p) : ∃ X, X.length = len ∧ RI w 10 a X := by
  obtain ⟨R, hR⟩ := recs_of ([.int .i64, .int .i64, .int .i64, .int .i64, .int .i64, .int .i64, .int .i64, .int .i64, .int .i64, .int .i64] : List TypeDesc) Try.underlying26 Try.underlying54 (by kernel_rfl) (by kernel_rfl) rfl (by
    intro j f k hf hk
    rcases j with _ | _ | _ | _ | _ | _ | _ | _ | _ | _ | j <;> simp at hf hk <;> subst hf <;> subst hk <;> exact Try.underlying3) h
  exact ⟨_, rowsOf_len _ _ _, ri_recs hR (q := 10) rfl (by decide)⟩
theorem tables_of {r : Reach} {b0 : Nat} {v : Value} {d : DataW H} {p : List MemPlace} (hv : Value.okWide Try.prog w r b0 28 v) (h : DataW.Trod enc Try.prog w base spare held 28 v d p) :
    ∃ (c : Cfg) (a1 : Option Addr) (c1 : Nat) (a2 : Option Addr) (c2 : Nat) (a3 : Option Addr) (c3 : Nat), v = cv c a1 c1 a2 c2 a3 c3 ∧ CfR w c a1 a2 a3 := by
  have uC := Try.underlying28
  obtain ⟨cs, rfl, hsz⟩ := okWide_struct uC hv
  have hcz : Try.prog.cellsOf 28 = 4 := by kernel_rfl
  rw [hcz] at hsz
  obtain ⟨l⟩ := cs
  obtain ⟨x0, x1, x2, x3, rfl⟩ : ∃ x0 x1 x2 x3, l = [x0, x1, x2, x3] := by
    have hl : l.length = 4 := by simpa using hsz
    match l, hl with
    | [x0, x1, x2, x3], _ => exact ⟨x0, x1, x2, x3, rfl⟩
  have hT : TrodE enc Try.prog w base spare held 28 [x0, x1, x2, x3] := by
    obtain ⟨fuel, hf⟩ := h
    exact ⟨fuel, _, by simpa [Value.cells] using hf⟩
  obtain ⟨v0, e0, n, hn, _⟩ := (hT.field uC 0 0 1 _ rfl rfl (by kernel_rfl)).leaf Try.underlying3 (.inl ⟨_, rfl⟩)
  have g0 : x0 = v0 := by simpa using e0
  subst g0
  subst hn
  obtain ⟨a1, n1, c1, d1, p1, e1, t1⟩ := slice_of Try.underlying24 (hT.field uC 1 1 1 _ rfl rfl (by kernel_rfl)) (v := x1) rfl
  obtain ⟨a2, n2, c2, d2, p2, e2, t2⟩ := slice_of Try.underlying25 (hT.field uC 2 2 1 _ rfl rfl (by kernel_rfl)) (v := x2) rfl
  obtain ⟨a3, n3, c3, d3, p3, e3, t3⟩ := slice_of Try.underlying26 (hT.field uC 3 3 1 _ rfl rfl (by kernel_rfl)) (v := x3) rfl
  subst e1
  subst e2
  subst e3
  obtain ⟨X1, l1, r1⟩ := win_of t1
  obtain ⟨X2, l2, r2⟩ := slot_of t2
  obtain ⟨X3, l3, r3⟩ := cli_of t3
  subst l1
  subst l2
  subst l3
  exact ⟨⟨n, X1, X2, X3⟩, a1, c1, a2, c2, a3, c3, rfl, r1, r2, r3⟩
end
end Im
end Go.Proofs.Ytjdhkpafbejodaa
