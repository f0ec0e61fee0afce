/- The program's tables: what lies in memory; a scope with three labels. -/
import Derived.Test.YtjdhkpafbejodaaImF
import Derived.Test.YtjdhkpafbejodaaImE
import Derived.Test.YtjdhkpafbejodaaReg
import Derived.ScopeJumps
namespace Go.Proofs.Ytjdhkpafbejodaa
open Go.RowKit
namespace Im
open Sm Bi
set_option linter.unusedVariables false
/-- As Q; by a goto to one of three labels: what is to hold there. -/
def Ex3 (J0 J1 J2 : Act → World → Prop) (Q : Exit → Act → World → Prop) : Exit → Act → World → Prop
  | .goto l, a, w => (l = 0 ∧ J0 a w) ∨ (l = 1 ∧ J1 a w) ∨ (l = 2 ∧ J2 a w)
  | e, a, w => Q e a w
section
variable {P : Program} {a : Act} {w : World} {Q : Exit → Act → World → Prop} {J0 J1 J2 K0 K1 K2 : Act → World → Prop}
theorem Ex3.imp (h0 : ∀ a w, J0 a w → K0 a w) (h1 : ∀ a w, J1 a w → K1 a w) (h2 : ∀ a w, J2 a w → K2 a w) : ∀ (e : Exit) (a : Act) (w : World), Ex3 J0 J1 J2 Q e a w → Ex3 K0 K1 K2 Q e a w := fun e a w h => by
  cases e with
  | goto l =>
    rcases h with ⟨e, h⟩ | ⟨e, h⟩ | ⟨e, h⟩
    · exact Or.inl ⟨e, h0 _ _ h⟩
    · exact Or.inr (Or.inl ⟨e, h1 _ _ h⟩)
    · exact Or.inr (Or.inr ⟨e, h2 _ _ h⟩)
  | normal => exact h
  | exit id => exact h
  | ret => exact h
  | panic c => exact h
  | outgrown => exact h
/-- A scope with three labels: what holds at each, and measures that every pass lowers. -/
theorem wp_scope3 {c R0 R1 R2 : Code} (μ0 μ1 μ2 : Act → World → Nat) (hf0 : findLabel c 0 = some (Code.seq Code.skip R0)) (hf1 : findLabel c 1 = some (Code.seq Code.skip R1)) (hf2 : findLabel c 2 = some (Code.seq Code.skip R2))
    (p2 : ∀ a w, J2 a w → R2.wp P (Ex3 (fun a' w' => J0 a' w' ∧ μ0 a' w' < μ2 a w) (fun a' w' => J1 a' w' ∧ μ1 a' w' < μ2 a w) (fun a' w' => J2 a' w' ∧ μ2 a' w' < μ2 a w) Q) a w)
    (p1 : (∀ a w, J2 a w → R2.wp P (Ex3 (fun a' w' => J0 a' w' ∧ μ0 a' w' < μ2 a w) (fun a' w' => J1 a' w' ∧ μ1 a' w' < μ2 a w) (fun a' w' => J2 a' w' ∧ μ2 a' w' < μ2 a w) Q) a w) →
      ∀ a w, J1 a w → R1.wp P (Ex3 (fun a' w' => J0 a' w' ∧ μ0 a' w' < μ1 a w) (fun a' w' => J1 a' w' ∧ μ1 a' w' < μ1 a w) (fun a' w' => J2 a' w' ∧ μ2 a' w' < μ1 a w) Q) a w)
    (p0 : (∀ a w, J1 a w → R1.wp P (Ex3 (fun a' w' => J0 a' w' ∧ μ0 a' w' < μ1 a w) (fun a' w' => J1 a' w' ∧ μ1 a' w' < μ1 a w) (fun a' w' => J2 a' w' ∧ μ2 a' w' < μ1 a w) Q) a w) →
      ∀ a w, J0 a w → R0.wp P (Ex3 (fun a' w' => J0 a' w' ∧ μ0 a' w' < μ0 a w) (fun a' w' => J1 a' w' ∧ μ1 a' w' < μ0 a w) (fun a' w' => J2 a' w' ∧ μ2 a' w' < μ0 a w) Q) a w)
    (first : (∀ a w, J0 a w → R0.wp P (Ex3 J0 J1 J2 Q) a w) → c.wp P (Ex3 J0 J1 J2 Q) a w) : (Code.scope c).wp P Q a w := by
  have H1 := p1 p2
  have H0 := p0 H1
  intro b k cs
  have key : ∀ n a w, ((J0 a w ∧ μ0 a w = n) → ∃ e a' w', Q e a' w' ∧ Arrives P (lone (b.at a (.code (Code.seq Code.skip R0) :: .inScope c :: k)) cs w) b k cs e a' w') ∧ ((J1 a w ∧ μ1 a w = n) → ∃ e a' w', Q e a' w' ∧ Arrives P (lone (b.at a (.code (Code.seq Code.skip R1) :: .inScope c :: k)) cs w) b k cs e a' w') ∧ ((J2 a w ∧ μ2 a w = n) → ∃ e a' w', Q e a' w' ∧ Arrives P (lone (b.at a (.code (Code.seq Code.skip R2) :: .inScope c :: k)) cs w) b k cs e a' w') := by
    intro n
    induction n using Nat.strongRecOn with
    | _ n ih =>
      have g0 : gotoIn 0 (.inScope c :: k) = some (.code (Code.seq Code.skip R0) :: .inScope c :: k) := by simp [gotoIn, hf0]
      have g1 : gotoIn 1 (.inScope c :: k) = some (.code (Code.seq Code.skip R1) :: .inScope c :: k) := by simp [gotoIn, hf1]
      have g2 : gotoIn 2 (.inScope c :: k) = some (.code (Code.seq Code.skip R2) :: .inScope c :: k) := by simp [gotoIn, hf2]
      have step : ∀ (R : Code) a w, R.wp P (Ex3 (fun a' w' => J0 a' w' ∧ μ0 a' w' < n) (fun a' w' => J1 a' w' ∧ μ1 a' w' < n) (fun a' w' => J2 a' w' ∧ μ2 a' w' < n) Q) a w → ∃ e a' w', Q e a' w' ∧ Arrives P (lone (b.at a (.code R :: .inScope c :: k)) cs w) b k cs e a' w' := by
        intro R a w hR
        obtain ⟨e, a₁, w₁, hq, harr⟩ := hR b (.inScope c :: k) cs
        cases e with
        | normal => exact ⟨.normal, a₁, w₁, hq, Steps.trans harr (.one step_inScope)⟩
        | exit id => exact ⟨.exit id, a₁, w₁, hq, fun k' hk => harr k' (by simp [exitTo, hk])⟩
        | goto l =>
          rcases hq with ⟨rfl, hJ, hl⟩ | ⟨rfl, hJ, hl⟩ | ⟨rfl, hJ, hl⟩
          · obtain ⟨e₂, a₂, w₂, hq₂, harr₂⟩ := (ih _ hl a₁ w₁).1 ⟨hJ, rfl⟩
            exact ⟨e₂, a₂, w₂, hq₂, .of_steps (harr _ g0) harr₂⟩
          · obtain ⟨e₂, a₂, w₂, hq₂, harr₂⟩ := (ih _ hl a₁ w₁).2.1 ⟨hJ, rfl⟩
            exact ⟨e₂, a₂, w₂, hq₂, .of_steps (harr _ g1) harr₂⟩
          · obtain ⟨e₂, a₂, w₂, hq₂, harr₂⟩ := (ih _ hl a₁ w₁).2.2 ⟨hJ, rfl⟩
            exact ⟨e₂, a₂, w₂, hq₂, .of_steps (harr _ g2) harr₂⟩
        | ret => exact ⟨_, a₁, w₁, hq, harr⟩
        | panic ch => exact ⟨_, a₁, w₁, hq, harr⟩
        | outgrown => exact ⟨_, a₁, w₁, hq, harr⟩
      intro a w
      refine ⟨fun ⟨hJ, hn⟩ => ?_, fun ⟨hJ, hn⟩ => ?_, fun ⟨hJ, hn⟩ => ?_⟩
      · subst hn; exact step _ a w (wp_seq (wp_skip (H0 a w hJ)))
      · subst hn; exact step _ a w (wp_seq (wp_skip (H1 a w hJ)))
      · subst hn; exact step _ a w (wp_seq (wp_skip (p2 a w hJ)))
  have f0 := first (fun a w hJ => Code.wp_mono (Ex3.imp (fun _ _ h => h.1) (fun _ _ h => h.1) (fun _ _ h => h.1)) (H0 a w hJ))
  obtain ⟨e, a₁, w₁, hq, harr⟩ := f0 b (.inScope c :: k) cs
  cases e with
  | normal => exact ⟨.normal, a₁, w₁, hq, .head step_scope (Steps.trans harr (.one step_inScope))⟩
  | exit id => exact ⟨.exit id, a₁, w₁, hq, fun k' hk => .head step_scope (harr k' (by simp [exitTo, hk]))⟩
  | goto l =>
    rcases hq with ⟨rfl, hJ⟩ | ⟨rfl, hJ⟩ | ⟨rfl, hJ⟩
    · obtain ⟨e₂, a₂, w₂, hq₂, harr₂⟩ := (key _ a₁ w₁).1 ⟨hJ, rfl⟩
      exact ⟨e₂, a₂, w₂, hq₂, .of_steps (.head step_scope (harr _ (by simp [gotoIn, hf0]))) harr₂⟩
    · obtain ⟨e₂, a₂, w₂, hq₂, harr₂⟩ := (key _ a₁ w₁).2.1 ⟨hJ, rfl⟩
      exact ⟨e₂, a₂, w₂, hq₂, .of_steps (.head step_scope (harr _ (by simp [gotoIn, hf1]))) harr₂⟩
    · obtain ⟨e₂, a₂, w₂, hq₂, harr₂⟩ := (key _ a₁ w₁).2.2 ⟨hJ, rfl⟩
      exact ⟨e₂, a₂, w₂, hq₂, .of_steps (.head step_scope (harr _ (by simp [gotoIn, hf2]))) harr₂⟩
  | ret => exact ⟨_, a₁, w₁, hq, .of_steps (.one step_scope) harr⟩
  | panic ch => exact ⟨_, a₁, w₁, hq, .of_steps (.one step_scope) harr⟩
  | outgrown => exact ⟨_, a₁, w₁, hq, .of_steps (.one step_scope) harr⟩
end
/-! Memory. -/
def rwc (r : List Int) : List Value := r.map (.int .i64 ·)
def rwf (X : List (List Int)) : List Value := X.flatMap rwc
theorem rwf_app (X Y : List (List Int)) : rwf (X ++ Y) = rwf X ++ rwf Y := by simp [rwf]
theorem rwf_one (r : List Int) : rwf [r] = rwc r := by simp [rwf]
theorem rwc_cell (r : List Int) : ∀ u ∈ rwc r, u.oneCell' = true := by
  intro u hu
  simp only [rwc, List.mem_map] at hu
  obtain ⟨x, _, rfl⟩ := hu
  rfl
theorem rwf_get {q : Nat} : ∀ (X : List (List Int)), (∀ r ∈ X, r.length = q) → ∀ (i : Nat) r, X[i]? = some r → ∀ (j : Nat) x, r[j]? = some x → (rwf X)[i * q + j]? = some (.int .i64 x)
  | [], _, i, r, h, _, _, _ => by simp at h
  | y :: X, hl, i, r, h, j, x, hx => by
    have hy := hl y (by simp)
    have e : rwf (y :: X) = rwc y ++ rwf X := by simp [rwf]
    have hj := (List.getElem?_eq_some_iff.1 hx).1
    rw [e]
    rcases i with _ | i
    · simp at h
      subst h
      rw [Nat.zero_mul, Nat.zero_add, List.getElem?_append_left (by simpa [rwc] using hj)]
      simp [rwc, hx]
    · simp at h
      rw [List.getElem?_append_right (by simp [rwc, hy, Nat.succ_mul]; omega)]
      rw [show (i + 1) * q + j - (rwc y).length = i * q + j from by simp [rwc, hy, Nat.succ_mul]; omega]
      exact rwf_get X (fun r hr => hl r (by simp [hr])) i r h j x hx
theorem rwf_len {q : Nat} : ∀ (X : List (List Int)), (∀ r ∈ X, r.length = q) → (rwf X).length = X.length * q
  | [], _ => by simp [rwf]
  | y :: X, hl => by
    have e : rwf (y :: X) = rwc y ++ rwf X := by simp [rwf]
    rw [e, List.length_append, rwf_len X (fun r hr => hl r (by simp [hr])), List.length_cons, Nat.succ_mul]
    simp [rwc, hl y (by simp)]
    omega
theorem ri_own {w : World} {B q n c : Nat} {e : TypeId} {a : Option Addr} {X : List (List Int)} (h : w.ownsRow B e q (.slice a n c) n (rwf X)) (hn : X.length = n) (hl : ∀ r ∈ X, r.length = q) : RI w q a X := by
  refine ⟨hl, fun h0 => ?_⟩
  have hp : 0 < n := by
    rw [← hn]
    exact List.length_pos_iff.2 h0
  obtain ⟨b, cap, hv, _, hlt⟩ := h.form hp
  injection hv with e1
  subst e1
  refine ⟨b, 0, rfl, hlt, fun i r hr j x hx => ?_⟩
  have hi := (List.getElem?_eq_some_iff.1 hr).1
  have hj := (List.getElem?_eq_some_iff.1 hx).1
  rw [hl r (List.mem_of_getElem? hr)] at hj
  have hb : i * q + j < n * q := by
    have : (i + 1) * q ≤ n * q := Nat.mul_le_mul_right _ (by omega)
    rw [Nat.succ_mul] at this
    omega
  rw [Nat.zero_add, h.cellAt (i * q + j) hb]
  exact rwf_get X hl i r hr j x hx
theorem row_ne {w : World} {B1 B2 s1 s2 n1 n2 : Nat} {e1 e2 : TypeId} {v1 v2 : Value} {x1 x2 : List Value} (h1 : w.ownsRow B1 e1 s1 v1 n1 x1) (h2 : w.ownsRow B2 e2 s2 v2 n2 x2) (hne : e1 ≠ e2) : ∀ g, v2.ownBlock = some g → v1.ownBlock ≠ some g := by
  intro g hg
  rcases h2.2 with ⟨rfl, _⟩ | ⟨g', cap, cur, rfl, _, hh, _⟩
  · cases hg
  · have : g' = g := by simpa [Value.ownBlock] using hg
    subst this
    exact own_blk_ne h1 (t := e2) (cs := cur) hh hne
theorem row_grown {w w' : World} {B size n : Nat} {e : TypeId} {v : Value} {xs : List Value} {row : Option Nat} (h : w.ownsRow B e size v n xs) (hg : w.grownBy w' row) (hne : ∀ g, v.ownBlock = some g → row ≠ some g) : w'.ownsRow B e size v n xs := by
  have hk : Keeps (match row with | some g => [g] | none => []) w w' := (Keeps.refl _ w).grown hg (fun k e => by subst e; simp)
  refine ownsRow_keeps h hk (fun g hgb => ?_)
  have := hne g hgb
  cases row with
  | none => simp
  | some x => simp; intro e; exact this (by rw [e])
/-- The tables under way: the reader in block b, the result in rc, the tables in bc. -/
structure Tc (w0 w : World) (b rc bc : Nat) (s : ByteArray) (σ : Int × Int) (fr : Int) (X1 X2 X3 : List (List Int)) (a1 : Option Addr) (c1 : Nat) (a2 : Option Addr) (c2 : Nat) (a3 : Option Addr) (c3 : Nat) : Prop where
  rd : Bi.Rd w b s σ.1 σ.2
  ok : okσ s σ
  rb : Blk w rc 28 #[.int .i64 0, .slice none 0 0, .slice none 0 0, .slice none 0 0]
  bk : Blk w bc 28 #[.int .i64 fr, .slice a1 X1.length c1, .slice a2 X2.length c2, .slice a3 X3.length c3]
  o1 : w.ownsRow w0.heap.size 51 3 (.slice a1 X1.length c1) X1.length (rwf X1)
  o2 : w.ownsRow w0.heap.size 52 3 (.slice a2 X2.length c2) X2.length (rwf X2)
  o3 : w.ownsRow w0.heap.size 54 10 (.slice a3 X3.length c3) X3.length (rwf X3)
  kp : Keeps [b] w0 w
  hb : b < w0.heap.size
  h1 : w0.heap.size ≤ rc
  h2 : w0.heap.size ≤ bc
  h3 : rc ≠ bc
  l1 : ∀ r ∈ X1, r.length = 3
  l2 : ∀ r ∈ X2, r.length = 3
  l3 : ∀ r ∈ X3, r.length = 10
section
variable {w0 w w' V V' : World} {b rc bc : Nat} {s : ByteArray} {σ σ' : Int × Int} {fr : Int} {X1 X2 X3 : List (List Int)} {a1 a2 a3 : Option Addr} {c1 c2 c3 : Nat}
theorem Tc.same (h : Tc w0 w b rc bc s σ fr X1 X2 X3 a1 c1 a2 c2 a3 c3) (hk : Keeps [] w w') : Tc w0 w' b rc bc s σ fr X1 X2 X3 a1 c1 a2 c2 a3 c3 :=
  ⟨h.rd.keeps hk (by simp), h.ok, h.rb.keeps hk (by simp), h.bk.keeps hk (by simp), ownsRow_keeps h.o1 hk (by simp), ownsRow_keeps h.o2 hk (by simp), ownsRow_keeps h.o3 hk (by simp), h.kp.next hk (by simp), h.hb, h.h1, h.h2, h.h3, h.l1, h.l2, h.l3⟩
theorem Tc.read (h : Tc w0 w b rc bc s σ fr X1 X2 X3 a1 c1 a2 c2 a3 c3) (hr : Bi.Rd w' b s σ'.1 σ'.2) (ho : okσ s σ') (hk : Keeps [b] w w') : Tc w0 w' b rc bc s σ' fr X1 X2 X3 a1 c1 a2 c2 a3 c3 := by
  have hb := h.hb
  have g1 := h.h1
  have g2 := h.h2
  exact ⟨hr, ho, h.rb.keeps hk (by simp; omega), h.bk.keeps hk (by simp; omega), ownsRow_keeps h.o1 hk (fun k e => by have := (h.o1.lt k e).1; simp; omega), ownsRow_keeps h.o2 hk (fun k e => by have := (h.o2.lt k e).1; simp; omega), ownsRow_keeps h.o3 hk (fun k e => by have := (h.o3.lt k e).1; simp; omega), h.kp.trans hk, h.hb, h.h1, h.h2, h.h3, h.l1, h.l2, h.l3⟩
theorem Tc.low (h : Tc w0 w b rc bc s σ fr X1 X2 X3 a1 c1 a2 c2 a3 c3) : w0.heap.size ≤ w.heap.size ∧ rc < w.heap.size ∧ bc < w.heap.size ∧ b < w.heap.size := ⟨h.kp.size, h.rb.lt, h.bk.lt, h.rd.lt⟩
theorem byteR (h : Tc w0 V b rc bc s σ fr X1 X2 X3 a1 c1 a2 c2 a3 c3) (hm : s.size ≤ 9223372036854775807) :
    Calls Try.prog 39 #[.pointer (some ⟨b, 0, none⟩)] V (fun e V' => e = .returned (.int .i64 (vB s σ)) ∧ Tc w0 V' b rc bc s (sB s σ) fr X1 X2 X3 a1 c1 a2 c2 a3 c3 ∧ V.heap.size ≤ V'.heap.size) := by
  refine (byte_any b s σ.1 σ.2 V h.rd h.ok.1 h.ok.2 hm).mono ?_
  rintro e V' ⟨rfl, h1, h2⟩
  exact ⟨rfl, h.read (σ' := sB s σ) h1 (sB_ok h.ok) h2, h2.size⟩
theorem twoR (h : Tc w0 V b rc bc s σ fr X1 X2 X3 a1 c1 a2 c2 a3 c3) (hm : s.size ≤ 9223372036854775807) :
    Calls Try.prog 38 #[.pointer (some ⟨b, 0, none⟩)] V (fun e V' => e = .returned (.int .i64 (vT s σ)) ∧ Tc w0 V' b rc bc s (sT s σ) fr X1 X2 X3 a1 c1 a2 c2 a3 c3 ∧ V.heap.size ≤ V'.heap.size) := by
  refine (rtwo_any b s σ.1 σ.2 V h.rd h.ok.1 h.ok.2 hm).mono ?_
  rintro e V' ⟨rfl, h1, h2⟩
  exact ⟨rfl, h.read (σ' := sT s σ) h1 (sT_ok h.ok) h2, h2.size⟩
theorem errR (h : Tc w0 V b rc bc s σ fr X1 X2 X3 a1 c1 a2 c2 a3 c3) :
    Calls Try.prog 20 #[.pointer (some ⟨b, 0, none⟩)] V (fun e V' => e = .returned (.int .i64 σ.2) ∧ Tc w0 V' b rc bc s σ fr X1 X2 X3 a1 c1 a2 c2 a3 c3 ∧ V.heap.size ≤ V'.heap.size) := by
  refine (err_any b s σ.1 σ.2 V h.rd).mono ?_
  rintro e V' ⟨rfl, hd⟩
  have hk := (Keeps.refl [] V).drawn hd
  exact ⟨rfl, h.same hk, hk.size⟩
theorem Tc.grow1 {r : List Int} {p : Option Addr} {cc : Nat} (h : Tc w0 V b rc bc s σ fr X1 X2 X3 a1 c1 a2 c2 a3 c3) (hr : r.length = 3) (hown : V'.ownsRow w0.heap.size 51 3 (.slice p (X1.length + 1) cc) (X1.length + 1) (rwf X1 ++ rwc r)) (hg : V.grownBy V' (Value.slice a1 X1.length c1).ownBlock) :
    Tc w0 (V'.setCell ⟨bc, 1, none⟩ (.slice p (X1.length + 1) cc)) b rc bc s σ fr (X1 ++ [r]) X2 X3 p cc a2 c2 a3 c3 := by
  have hlow := h.low
  have hown9 : V'.ownsRow w0.heap.size 51 3 (.slice p (X1 ++ [r]).length cc) (X1 ++ [r]).length (rwf (X1 ++ [r])) := by
    rw [List.length_append, rwf_app, rwf_one]
    exact hown
  have hbl : ∀ g, (Value.slice a1 X1.length c1).ownBlock = some g → w0.heap.size ≤ g := fun g e => (h.o1.lt g e).1
  have hrd := Blk.grown h.rd hg (fun e => by have := hbl b e.symm; have := h.hb; omega)
  have hrb := h.rb.grown hg (fun e => own_blk_ne h.o1 h.rb (by decide) e.symm)
  have hbk := h.bk.grown hg (fun e => own_blk_ne h.o1 h.bk (by decide) e.symm)
  have q2 := row_grown h.o2 hg (fun g e => row_ne h.o1 h.o2 (by decide) g e)
  have q3 := row_grown h.o3 hg (fun g e => row_ne h.o1 h.o3 (by decide) g e)
  have hk : Keeps [b] w0 V' := h.kp.grown hg (fun k e => .inr (hbl k e))
  have hbr := h.hb
  have hb2 := h.h2
  have hbset := hbk.set_ 1 (.slice p (X1.length + 1) cc)
  refine ⟨hrd.far (p := ⟨bc, 1, none⟩) (by show b ≠ bc; omega) _, h.ok, hrb.far (p := ⟨bc, 1, none⟩) h.h3 _, ?_, ?_, ?_, ?_, hk.setCell (p := ⟨bc, 1, none⟩) (.inr h.h2) _, h.hb, h.h1, h.h2, h.h3, ?_, ?_, ?_⟩
  · rw [List.length_append]
    exact hbset
  · exact ownsRow_setCell hown9 _ _ (own_blk_ne hown9 hbk (by decide))
  · exact ownsRow_setCell q2 _ _ (own_blk_ne q2 hbk (by decide))
  · exact ownsRow_setCell q3 _ _ (own_blk_ne q3 hbk (by decide))
  · intro x hx; rcases List.mem_append.1 hx with hx | hx; exact h.l1 x hx; (simp at hx; rw [hx]; exact hr)
  · exact h.l2
  · exact h.l3
theorem Tc.grow2 {r : List Int} {p : Option Addr} {cc : Nat} (h : Tc w0 V b rc bc s σ fr X1 X2 X3 a1 c1 a2 c2 a3 c3) (hr : r.length = 3) (hown : V'.ownsRow w0.heap.size 52 3 (.slice p (X2.length + 1) cc) (X2.length + 1) (rwf X2 ++ rwc r)) (hg : V.grownBy V' (Value.slice a2 X2.length c2).ownBlock) :
    Tc w0 (V'.setCell ⟨bc, 2, none⟩ (.slice p (X2.length + 1) cc)) b rc bc s σ fr X1 (X2 ++ [r]) X3 a1 c1 p cc a3 c3 := by
  have hlow := h.low
  have hown9 : V'.ownsRow w0.heap.size 52 3 (.slice p (X2 ++ [r]).length cc) (X2 ++ [r]).length (rwf (X2 ++ [r])) := by
    rw [List.length_append, rwf_app, rwf_one]
    exact hown
  have hbl : ∀ g, (Value.slice a2 X2.length c2).ownBlock = some g → w0.heap.size ≤ g := fun g e => (h.o2.lt g e).1
  have hrd := Blk.grown h.rd hg (fun e => by have := hbl b e.symm; have := h.hb; omega)
  have hrb := h.rb.grown hg (fun e => own_blk_ne h.o2 h.rb (by decide) e.symm)
  have hbk := h.bk.grown hg (fun e => own_blk_ne h.o2 h.bk (by decide) e.symm)
  have q1 := row_grown h.o1 hg (fun g e => row_ne h.o2 h.o1 (by decide) g e)
  have q3 := row_grown h.o3 hg (fun g e => row_ne h.o2 h.o3 (by decide) g e)
  have hk : Keeps [b] w0 V' := h.kp.grown hg (fun k e => .inr (hbl k e))
  have hbr := h.hb
  have hb2 := h.h2
  have hbset := hbk.set_ 2 (.slice p (X2.length + 1) cc)
  refine ⟨hrd.far (p := ⟨bc, 2, none⟩) (by show b ≠ bc; omega) _, h.ok, hrb.far (p := ⟨bc, 2, none⟩) h.h3 _, ?_, ?_, ?_, ?_, hk.setCell (p := ⟨bc, 2, none⟩) (.inr h.h2) _, h.hb, h.h1, h.h2, h.h3, ?_, ?_, ?_⟩
  · rw [List.length_append]
    exact hbset
  · exact ownsRow_setCell q1 _ _ (own_blk_ne q1 hbk (by decide))
  · exact ownsRow_setCell hown9 _ _ (own_blk_ne hown9 hbk (by decide))
  · exact ownsRow_setCell q3 _ _ (own_blk_ne q3 hbk (by decide))
  · exact h.l1
  · intro x hx; rcases List.mem_append.1 hx with hx | hx; exact h.l2 x hx; (simp at hx; rw [hx]; exact hr)
  · exact h.l3
theorem Tc.grow3 {r : List Int} {p : Option Addr} {cc : Nat} (h : Tc w0 V b rc bc s σ fr X1 X2 X3 a1 c1 a2 c2 a3 c3) (hr : r.length = 10) (hown : V'.ownsRow w0.heap.size 54 10 (.slice p (X3.length + 1) cc) (X3.length + 1) (rwf X3 ++ rwc r)) (hg : V.grownBy V' (Value.slice a3 X3.length c3).ownBlock) :
    Tc w0 (V'.setCell ⟨bc, 3, none⟩ (.slice p (X3.length + 1) cc)) b rc bc s σ fr X1 X2 (X3 ++ [r]) a1 c1 a2 c2 p cc := by
  have hlow := h.low
  have hown9 : V'.ownsRow w0.heap.size 54 10 (.slice p (X3 ++ [r]).length cc) (X3 ++ [r]).length (rwf (X3 ++ [r])) := by
    rw [List.length_append, rwf_app, rwf_one]
    exact hown
  have hbl : ∀ g, (Value.slice a3 X3.length c3).ownBlock = some g → w0.heap.size ≤ g := fun g e => (h.o3.lt g e).1
  have hrd := Blk.grown h.rd hg (fun e => by have := hbl b e.symm; have := h.hb; omega)
  have hrb := h.rb.grown hg (fun e => own_blk_ne h.o3 h.rb (by decide) e.symm)
  have hbk := h.bk.grown hg (fun e => own_blk_ne h.o3 h.bk (by decide) e.symm)
  have q1 := row_grown h.o1 hg (fun g e => row_ne h.o3 h.o1 (by decide) g e)
  have q2 := row_grown h.o2 hg (fun g e => row_ne h.o3 h.o2 (by decide) g e)
  have hk : Keeps [b] w0 V' := h.kp.grown hg (fun k e => .inr (hbl k e))
  have hbr := h.hb
  have hb2 := h.h2
  have hbset := hbk.set_ 3 (.slice p (X3.length + 1) cc)
  refine ⟨hrd.far (p := ⟨bc, 3, none⟩) (by show b ≠ bc; omega) _, h.ok, hrb.far (p := ⟨bc, 3, none⟩) h.h3 _, ?_, ?_, ?_, ?_, hk.setCell (p := ⟨bc, 3, none⟩) (.inr h.h2) _, h.hb, h.h1, h.h2, h.h3, ?_, ?_, ?_⟩
  · rw [List.length_append]
    exact hbset
  · exact ownsRow_setCell q1 _ _ (own_blk_ne q1 hbk (by decide))
  · exact ownsRow_setCell q2 _ _ (own_blk_ne q2 hbk (by decide))
  · exact ownsRow_setCell hown9 _ _ (own_blk_ne hown9 hbk (by decide))
  · exact h.l1
  · exact h.l2
  · intro x hx; rcases List.mem_append.1 hx with hx | hx; exact h.l3 x hx; (simp at hx; rw [hx]; exact hr)
theorem tc_own {B q : Nat} {e : TypeId} {r : List Int} (w : World) (hr : r.length = q) : Reads (w.alloc (.cells (rwc r).toArray e)) (w.heap.size + 1) q (some ⟨w.heap.size, 0, none⟩) 1 (rwc r) := by
  refine ⟨by simp [rwc, hr], fun _ => ⟨_, rfl, by simp, fun j u hu => ?_⟩⟩
  have e : (⟨w.heap.size, 0, none⟩ : Addr).add j = ⟨w.heap.size, j, none⟩ := by unfold Addr.add; by_cases h0 : j = 0 <;> simp [h0]
  rw [e, (Blk.new w _ _).cell]
  simpa using hu
theorem win_info : (Try.prog.info? 51).map (fun i => (i.zero, i.size, i.bytes)) = some (some (.agg #[.int .i64 0, .int .i64 0, .int .i64 0]), 3, 24) := by kernel_rfl
theorem slot_info : (Try.prog.info? 52).map (fun i => (i.zero, i.size, i.bytes)) = some (some (.agg #[.int .i64 0, .int .i64 0, .int .i64 0]), 3, 24) := by kernel_rfl
theorem cli_info : (Try.prog.info? 54).map (fun i => (i.zero, i.size, i.bytes)) = some (some (.agg #[.int .i64 0, .int .i64 0, .int .i64 0, .int .i64 0, .int .i64 0, .int .i64 0, .int .i64 0, .int .i64 0, .int .i64 0, .int .i64 0]), 10, 80) := by kernel_rfl
end
end Im
end Go.Proofs.Ytjdhkpafbejodaa
