/- The law DescChecks: what a closed descriptor is. -/
import Derived.Test.YtdjckfcafiikeaaDescS
import Derived.Deep.RegionHeld3
namespace Go.Proofs.Ytdjckfcafiikeaa
open Go.RowKit
attribute [local go_sem] Bw.and255 Bw.and65535
namespace De
open Sm Bi
def IsDesc (w st a l g : Int) (W : World) (e : Ending) (W' : World) : Prop := e = .returned (.agg #[.int .u8 w, .int .u8 st, .int .i64 a, .int .i64 l, .int .i64 g]) ∧ Below W.heap.size W W'
def IsNum (n : Int) (W : World) (e : Ending) (W' : World) : Prop := e = .returned (.int .i64 n) ∧ W = W'
theorem two_lh (n : Int) (W : World) : Calls Try.prog 21 #[.int .i64 (n % 256), .int .i64 (n / 256 % 256)] W (IsNum (n % 256 + 256 * (n / 256 % 256)) W) := by
  have := two_any (n % 256) (n / 256 % 256) W
  rw [show n % 256 % 256 = n % 256 from by omega, show n / 256 % 256 % 256 = n / 256 % 256 from by omega] at this
  exact this
theorem join_in (n : Int) : IntKind.i64.wrap (n % 256 + 256 * (n / 256 % 256)) = n % 256 + 256 * (n / 256 % 256) := IntWalk.i64_in _ (by omega)
theorem low_is (x n : Int) (h : x % 256 = n) (W : World) : Calls Try.prog 20 #[.int .i64 x] W (IsNum n W) := by
  subst h; exact low_any x W
theorem high_is (x n : Int) (h : x / 256 % 256 = n) (W : World) : Calls Try.prog 22 #[.int .i64 x] W (IsNum n W) := by
  subst h; exact high_any x W
theorem rlow_is (x n : Int) (h : x % 256 = n) (W : World) : Calls Try.prog 13 #[.int .i64 x] W (IsNum n W) := by
  subst h; exact rlow_any x W
theorem rhigh_is (x n : Int) (h : x / 256 % 256 = n) (W : World) : Calls Try.prog 14 #[.int .i64 x] W (IsNum n W) := by
  subst h; exact rhigh_any x W
theorem two_is (x p q : Int) (h : x % 256 = p) (h' : x / 256 % 256 = q) (W : World) : Calls Try.prog 21 #[.int .i64 p, .int .i64 q] W (IsNum (p + 256 * q) W) := by
  subst h; subst h'; exact two_lh x W
theorem closed_any (w st a l g x n s p q : Int) (hs : x % 256 = s) (hp : n % 256 = p) (hq : n / 256 % 256 = q) (W : World) : Calls Try.prog 12 #[.agg #[.int .u8 w, .int .u8 st, .int .i64 a, .int .i64 l, .int .i64 g], .int .i64 x, .int .i64 n] W (IsDesc w s a (p + 256 * q) g W) := by
  have H1 := Lib.hid (fun V => low_is x s hs V)
  have H2 := Lib.hid (fun V => low_is n p hp V)
  have H3 := Lib.hid (fun V => high_is n q hq V)
  have H4 := Lib.hid (fun V => two_is n p q hp hq V)
  have s0 : 0 ≤ s := by omega
  have s1 : s ≤ 255 := by omega
  clear hs hp hq
  go_enter Try.func12, Try.ntmps12
  go_wp2_with fail
  refine (H1.out _).mono ?_
  rintro e w1 ⟨rfl, rfl⟩
  go_wp2_with fail
  refine (H2.out _).mono ?_
  rintro e w1 ⟨rfl, rfl⟩
  go_wp2_with fail
  refine (H3.out _).mono ?_
  rintro e w1 ⟨rfl, rfl⟩
  go_wp2_with fail
  refine (H4.out _).mono ?_
  rintro e w1 ⟨rfl, rfl⟩
  go_wp2
  refine bodyPost_ret (v := .agg #[.int .u8 w, .int .u8 s, .int .i64 a, .int .i64 (p + 256 * q), .int .i64 g]) (by simp [results, Try.results12, go_sem]) rfl ⟨rfl, ?_⟩
  repeat (refine Below.setCell ?_ (by simp) _)
  exact ((Below.refl _ W).alloc (Nat.le_refl _) _).alloc (by simp) _
/-- The four structs of the law's walk, and what was there before. -/
structure Four (W V : World) (bd b1 : Nat) (D C X : Array Value) : Prop where
  d : Blk V bd 24 D
  c : Blk V (bd + 1) 26 C
  x : Blk V b1 24 X
  y : Blk V (b1 + 1) 24 X
  b : Below bd W V
theorem Four.keep {W V V' : World} {bd b1 : Nat} {D C X : Array Value} (h : Four W V bd b1 D C X) (hb : Below V.heap.size V V') : Four W V' bd b1 D C X :=
  ⟨h.d.below hb h.d.lt, h.c.below hb h.c.lt, h.x.below hb h.x.lt, h.y.below hb h.y.lt, h.b.trans (hb.mono (Nat.le_of_lt h.d.lt))⟩
theorem Four.all {W V : World} {bd b1 : Nat} {w st a l g b0 size b2 b3 b4 b5 b6 b7 b8 sec s p q : Int} (h : Four W V bd b1 #[.int .u8 w, .int .u8 st, .int .i64 a, .int .i64 l, .int .i64 g] #[.int .i64 b0, .int .i64 size, .int .i64 b2, .int .i64 b3, .int .i64 b4, .int .i64 b5, .int .i64 b6, .int .i64 b7, .int .i64 b8, .int .i64 sec] #[.int .u8 w, .int .u8 s, .int .i64 a, .int .i64 (p + 256 * q), .int .i64 g]) :
    Hid (Four W V bd b1 #[.int .u8 w, .int .u8 st, .int .i64 a, .int .i64 l, .int .i64 g] #[.int .i64 b0, .int .i64 size, .int .i64 b2, .int .i64 b3, .int .i64 b4, .int .i64 b5, .int .i64 b6, .int .i64 b7, .int .i64 b8, .int .i64 sec] #[.int .u8 w, .int .u8 s, .int .i64 a, .int .i64 (p + 256 * q), .int .i64 g]) ∧ V.cell? ⟨bd, 0, none⟩ = some (.int .u8 w) ∧ V.cell? ⟨bd, 1, none⟩ = some (.int .u8 st) ∧ V.cell? ⟨bd, 2, none⟩ = some (.int .i64 a) ∧ V.cell? ⟨bd, 3, none⟩ = some (.int .i64 l) ∧ V.cell? ⟨bd, 4, none⟩ = some (.int .i64 g) ∧ V.cell? ⟨bd + 1, 0, none⟩ = some (.int .i64 b0) ∧ V.cell? ⟨bd + 1, 1, none⟩ = some (.int .i64 size) ∧ V.cell? ⟨bd + 1, 2, none⟩ = some (.int .i64 b2) ∧ V.cell? ⟨bd + 1, 3, none⟩ = some (.int .i64 b3) ∧ V.cell? ⟨bd + 1, 4, none⟩ = some (.int .i64 b4) ∧ V.cell? ⟨bd + 1, 5, none⟩ = some (.int .i64 b5) ∧ V.cell? ⟨bd + 1, 6, none⟩ = some (.int .i64 b6) ∧ V.cell? ⟨bd + 1, 7, none⟩ = some (.int .i64 b7) ∧ V.cell? ⟨bd + 1, 8, none⟩ = some (.int .i64 b8) ∧ V.cell? ⟨bd + 1, 9, none⟩ = some (.int .i64 sec) ∧ V.cell? ⟨b1, 0, none⟩ = some (.int .u8 w) ∧ V.cell? ⟨b1, 1, none⟩ = some (.int .u8 s) ∧ V.cell? ⟨b1, 2, none⟩ = some (.int .i64 a) ∧ V.cell? ⟨b1, 3, none⟩ = some (.int .i64 (p + 256 * q)) ∧ V.cell? ⟨b1, 4, none⟩ = some (.int .i64 g) ∧ V.cell? ⟨b1 + 1, 0, none⟩ = some (.int .u8 w) ∧ V.cell? ⟨b1 + 1, 1, none⟩ = some (.int .u8 s) ∧ V.cell? ⟨b1 + 1, 2, none⟩ = some (.int .i64 a) ∧ V.cell? ⟨b1 + 1, 3, none⟩ = some (.int .i64 (p + 256 * q)) ∧ V.cell? ⟨b1 + 1, 4, none⟩ = some (.int .i64 g) :=
  ⟨h, h.d.cell 0, h.d.cell 1, h.d.cell 2, h.d.cell 3, h.d.cell 4, h.c.cell 0, h.c.cell 1, h.c.cell 2, h.c.cell 3, h.c.cell 4, h.c.cell 5, h.c.cell 6, h.c.cell 7, h.c.cell 8, h.c.cell 9, h.x.cell 0, h.x.cell 1, h.x.cell 2, h.x.cell 3, h.x.cell 4, h.y.cell 0, h.y.cell 1, h.y.cell 2, h.y.cell 3, h.y.cell 4⟩
section
variable {P : Program} {ops : Array Oper} {Q : Exit → Act → World → Prop} {md : Region.Mode} {S : World → Prop}
/-- An operation that a decided '&&' or '||' leaves out. -/
theorem wpAnyH_off {i : Nat} {d : Option Tmp} {fuel : Nat} {listed : Array Bool} {a : Act} {w : World} (hi : (ops[i]?).map (·.dst) = some d)
    (hs : Region.noSelect ops = true) (hf : Region.free md ops listed i = true) (hr : (Region.ready md ops listed).contains i = true)
    (hQ : ∀ c a w, Q (.panic c) (a.put d undef) w → Q (.panic c) a w) (hw : (ops[i]?).map (fun o => Region.wanted o (yielded ops a.tmps)) = some false) (hS : S w)
    (h : wpAnyH P md ops Q S fuel (listed.setIfInBounds i true) (a.put d undef) w) : wpAnyH P md ops Q S (fuel + 1) listed a w := by
  cases ho : ops[i]? with
  | none => rw [ho] at hi; cases hi
  | some o =>
    rw [ho] at hi hw
    injection hi with hi
    injection hw with hw
    subst hi
    exact wpAnyH_take ho hs hf hr hQ (Or.inr ⟨hw, rfl⟩) hS h
end
theorem what_cases (w : Int) : w = 1 ∨ w = 2 ∨ w = 3 ∨ w = 4 ∨ w = 5 ∨ w = 6 ∨ ((w == 1) = false ∧ (w == 2) = false ∧ (w == 3) = false ∧ (w == 4) = false ∧ (w == 5) = false ∧ (w == 6) = false ∧ fillsB w = false ∧ readsB w = false) := by
  by_cases h : w = 1 ∨ w = 2 ∨ w = 3 ∨ w = 4 ∨ w = 5 ∨ w = 6
  · rcases h with rfl | rfl | rfl | rfl | rfl | rfl <;> simp
  · unfold fillsB readsB
    simp
    omega
theorem fills_below (w : Int) (W : World) : Calls Try.prog 10 #[.int .u8 w] W fun e W' => e = .returned (.bool (fillsB w)) ∧ Below W.heap.size W W' :=
  (fills_any w W).mono fun _ _ ⟨h, e⟩ => ⟨h, e ▸ Below.refl _ _⟩
theorem reads_below (w : Int) (W : World) : Calls Try.prog 11 #[.int .u8 w] W fun e W' => e = .returned (.bool (readsB w)) ∧ Below W.heap.size W W' :=
  (reads_any w W).mono fun _ _ ⟨h, e⟩ => ⟨h, e ▸ Below.refl _ _⟩
end De
end Go.Proofs.Ytdjckfcafiikeaa
