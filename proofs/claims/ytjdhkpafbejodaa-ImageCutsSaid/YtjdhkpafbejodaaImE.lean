/- The program's Print: the tables. -/
import Derived.Test.YtjdhkpafbejodaaImD
import Derived.Deep.CutBlock
namespace Go.Proofs.Ytjdhkpafbejodaa
open Go.RowKit
namespace Im
open Sm Bi
set_option linter.unusedVariables false
/-- Rows of numbers in memory, k to a row. -/
def RI (w : World) (k : Nat) (a : Option Addr) (rows : List (List Int)) : Prop :=
  (∀ r ∈ rows, r.length = k) ∧ (rows ≠ [] → ∃ b off, a = some ⟨b, off, none⟩ ∧ b < w.heap.size ∧ ∀ (i : Nat) r, rows[i]? = some r → ∀ (j : Nat) x, r[j]? = some x → w.cell? ⟨b, off + i * k + j, none⟩ = some (.int .i64 x))
theorem RI.keep {w w' : World} {k : Nat} {a : Option Addr} {rows : List (List Int)} (h : RI w k a rows) (hk : Below w.heap.size w w') : RI w' k a rows := by
  refine ⟨h.1, fun h0 => ?_⟩
  obtain ⟨b, off, e, hb, hc⟩ := h.2 h0
  exact ⟨b, off, e, Nat.lt_of_lt_of_le hb hk.size, fun i r hr j x hx => (hk.cell (p := ⟨b, off + i * k + j, none⟩) hb).trans (hc i r hr j x hx)⟩
theorem RI.low {w w' : World} {k B : Nat} {a : Option Addr} {rows : List (List Int)} (h : RI w k a rows) (hk : Below B w w') (hB : w.heap.size ≤ B) : RI w' k a rows := h.keep (hk.mono hB)
structure CfR (w : World) (c : Cfg) (a1 a2 a3 : Option Addr) : Prop where
  r1 : RI w 3 a1 c.ws
  r2 : RI w 3 a2 c.ss
  r3 : RI w 10 a3 c.cs
theorem CfR.wf {w : World} {c : Cfg} {a1 a2 a3 : Option Addr} (h : CfR w c a1 a2 a3) : Wf c := ⟨h.r1.1, h.r2.1, h.r3.1⟩
theorem CfR.keep {w w' : World} {c : Cfg} {a1 a2 a3 : Option Addr} (h : CfR w c a1 a2 a3) (hk : Below w.heap.size w w') : CfR w' c a1 a2 a3 := ⟨h.r1.keep hk, h.r2.keep hk, h.r3.keep hk⟩
theorem ri3 {w : World} {a : Option Addr} {rows : List (List Int)} (h : RI w 3 a rows) {k : Nat} (hk : k < rows.length) :
    ∃ b off x y z, a = some ⟨b, off, none⟩ ∧ b < w.heap.size ∧ rows[k]? = some [x, y, z] ∧ w.cell? ⟨b, off + k * 3, none⟩ = some (.int .i64 x) ∧ w.cell? ⟨b, off + k * 3 + 1, none⟩ = some (.int .i64 y) ∧ w.cell? ⟨b, off + k * 3 + 2, none⟩ = some (.int .i64 z) := by
  obtain ⟨b, off, e, hb, hc⟩ := h.2 (by intro h9; rw [h9] at hk; simp at hk)
  have hr := List.getElem?_eq_getElem hk
  have hl := h.1 _ (List.getElem_mem hk)
  generalize rows[k] = r at *
  obtain ⟨x, y, z, rfl⟩ : ∃ x y z, r = [x, y, z] := by
    rcases r with _ | ⟨x, _ | ⟨y, _ | ⟨z, _ | ⟨u, r⟩⟩⟩⟩ <;> simp at hl
    exact ⟨x, y, z, rfl⟩
  exact ⟨b, off, x, y, z, e, hb, hr, hc k _ hr 0 x rfl, hc k _ hr 1 y rfl, hc k _ hr 2 z rfl⟩
theorem ri10 {w : World} {a : Option Addr} {rows : List (List Int)} (h : RI w 10 a rows) {k : Nat} (hk : k < rows.length) :
    ∃ b off x0 x1 x2 x3 x4 x5 x6 x7 x8 x9, a = some ⟨b, off, none⟩ ∧ b < w.heap.size ∧ rows[k]? = some [x0, x1, x2, x3, x4, x5, x6, x7, x8, x9] ∧ w.cell? ⟨b, off + k * 10, none⟩ = some (.int .i64 x0) ∧ w.cell? ⟨b, off + k * 10 + 1, none⟩ = some (.int .i64 x1) ∧ w.cell? ⟨b, off + k * 10 + 2, none⟩ = some (.int .i64 x2) ∧ w.cell? ⟨b, off + k * 10 + 3, none⟩ = some (.int .i64 x3) ∧ w.cell? ⟨b, off + k * 10 + 4, none⟩ = some (.int .i64 x4) ∧ w.cell? ⟨b, off + k * 10 + 5, none⟩ = some (.int .i64 x5) ∧ w.cell? ⟨b, off + k * 10 + 6, none⟩ = some (.int .i64 x6) ∧ w.cell? ⟨b, off + k * 10 + 7, none⟩ = some (.int .i64 x7) ∧ w.cell? ⟨b, off + k * 10 + 8, none⟩ = some (.int .i64 x8) ∧ w.cell? ⟨b, off + k * 10 + 9, none⟩ = some (.int .i64 x9) := by
  obtain ⟨b, off, e, hb, hc⟩ := h.2 (by intro h9; rw [h9] at hk; simp at hk)
  have hr := List.getElem?_eq_getElem hk
  have hl := h.1 _ (List.getElem_mem hk)
  generalize rows[k] = r at *
  obtain ⟨x0, x1, x2, x3, x4, x5, x6, x7, x8, x9, rfl⟩ : ∃ x0 x1 x2 x3 x4 x5 x6 x7 x8 x9, r = [x0, x1, x2, x3, x4, x5, x6, x7, x8, x9] := by
    rcases r with _ | ⟨x0, _ | ⟨x1, _ | ⟨x2, _ | ⟨x3, _ | ⟨x4, _ | ⟨x5, _ | ⟨x6, _ | ⟨x7, _ | ⟨x8, _ | ⟨x9, _ | ⟨u, r⟩⟩⟩⟩⟩⟩⟩⟩⟩⟩⟩ <;> simp at hl
    exact ⟨x0, x1, x2, x3, x4, x5, x6, x7, x8, x9, rfl⟩
  exact ⟨b, off, x0, x1, x2, x3, x4, x5, x6, x7, x8, x9, e, hb, hr, hc k _ hr 0 x0 rfl, hc k _ hr 1 x1 rfl, hc k _ hr 2 x2 rfl, hc k _ hr 3 x3 rfl, hc k _ hr 4 x4 rfl, hc k _ hr 5 x5 rfl, hc k _ hr 6 x6 rfl, hc k _ hr 7 x7 rfl, hc k _ hr 8 x8 rfl, hc k _ hr 9 x9 rfl⟩
def pOut (c : Cfg) : List UInt8 := if (nums c).all okN = true then Cw.sealL (encN (nums c)) else []
def pErr (c : Cfg) : Int := if (nums c).all okN = true then 0 else 2
def IsPr (l : List UInt8) (n : Int) (W : World) (e : Ending) (W' : World) : Prop := ∃ r : ByteArray, e = .returned (.tuple #[.string r, .int .i64 n]) ∧ r.data.toList = l ∧ Below W.heap.size W W'
/-- The state of Print: the tables' box in block bx, the writer behind it. -/
structure Prn (W w : World) (bx : Nat) (cv : Array Value) (c : Cfg) (a1 a2 a3 : Option Addr) (l : List Nm) : Prop where
  wt : WtS w (bx + 1) (bx + 1) (run (0, []) l)
  bk : Blk w bx 28 cv
  bl : Below bx W w
  hz : bx + 1 < w.heap.size
  rr : CfR w c a1 a2 a3
  hw : W.heap.size = bx
section
variable {W w w' : World} {bx : Nat} {cv : Array Value} {c : Cfg} {a1 a2 a3 : Option Addr} {l : List Nm}
theorem Prn.len (h : Prn W w bx cv c a1 a2 a3 l) : (run (0, []) l).2.length ≤ 2 * l.length := by have := run_len l (0, []); simpa using this
theorem Prn.step (h : Prn W w bx cv c a1 a2 a3 l) (hc : CfR W c a1 a2 a3) {e : Ending} {x : List Nm} (hs : IsWs (bx + 1) (bx + 1) (run (run (0, []) l) x) w e w') : Prn W w' bx cv c a1 a2 a3 (l ++ x) := by
  obtain ⟨_, h1, h2, h3, _⟩ := hs
  have hz := h.hz
  have hb := h.bl.trans (h2.mono (by omega))
  exact ⟨by rw [run_app]; exact h1, h.bk.below h2 (by omega), hb, by omega, hc.keep (by rw [h.hw]; exact hb), h.hw⟩
theorem Prn.alloc (h : Prn W w bx cv c a1 a2 a3 l) (hc : CfR W c a1 a2 a3) (o : Obj) : Prn W (w.alloc o) bx cv c a1 a2 a3 l := by
  have hz := h.hz
  have hb : Below bx W (w.alloc o) := h.bl.alloc (by omega) o
  exact ⟨by have := h.wt; unfold WtS at this ⊢; exact this.keeps ((Below.refl _ _).alloc (Nat.le_refl _) _), h.bk.alloc o, hb, by simp; omega, hc.keep (by rw [h.hw]; exact hb), h.hw⟩
theorem Prn.one (h : Prn W w bx cv c a1 a2 a3 l) (hc : CfR W c a1 a2 a3) {e : Ending} {x : Nm} (hs : IsWs (bx + 1) (bx + 1) (wst (run (0, []) l) x) w e w') : Prn W w' bx cv c a1 a2 a3 (l ++ [x]) := h.step hc hs
theorem Prn.row (h : Prn W w bx cv c a1 a2 a3 l) (hc : CfR W c a1 a2 a3) {e : Ending} {x y z : Int} (hs : IsWs (bx + 1) (bx + 1) (wst (wst (wst (run (0, []) l) (x, 1)) (y, 2)) (z, 2)) w e w') : Prn W w' bx cv c a1 a2 a3 (l ++ rowN wsh [x, y, z]) := h.step hc hs
theorem prn_0 (W : World) (c1 c2 c3 : Nat) (hc : CfR W c a1 a2 a3) : Prn W ((W.alloc (.cells cv 28)).alloc (.cells #[.int .i64 0, .slice none 0 0] 63)) W.heap.size cv c a1 a2 a3 [] := by
  have hb : Below W.heap.size W ((W.alloc (.cells cv 28)).alloc (.cells #[.int .i64 0, .slice none 0 0] 63)) := ((Below.refl _ _).alloc (Nat.le_refl _) _).alloc (by simp) _
  refine ⟨⟨none, 0, ?_, rfl, .inl ⟨rfl, rfl⟩⟩, (Blk.new _ _ _).alloc _, hb, by simp, hc.keep hb, rfl⟩
  have := Blk.new (W.alloc (.cells cv 28)) 63 #[.int .i64 0, .slice none 0 0]
  rw [World.size_alloc] at this
  exact this
theorem Prn.bound (h : Prn W w bx cv c a1 a2 a3 l) (hl : l.length ≤ 1900) : (run (0, []) l).2.length ≤ 900000 := by have := h.len; omega
end
theorem p_ok {c : Cfg} (h : (nums c).all okN = true) : pOut c = Cw.sealL (encN (nums c)) ∧ pErr c = 0 := by unfold pOut pErr; rw [if_pos h, if_pos h]; exact ⟨rfl, rfl⟩
theorem p_bad {c : Cfg} (h : ¬ (nums c).all okN = true) : pOut c = [] ∧ pErr c = 2 := by unfold pOut pErr; rw [if_neg h, if_neg h]; exact ⟨rfl, rfl⟩
theorem wbytes_ok (base bw : Nat) (l : List UInt8) (w : World) (h : WtS w base bw (0, l)) :
    Calls Try.prog 31 #[.pointer (some ⟨bw, 0, none⟩)] w fun e w' => e = .returned (.string ⟨l.toArray⟩) ∧ w = w' := wbytes_any base bw 0 l w h
theorem werr_ok (base bw : Nat) (l : List UInt8) (w : World) (h : WtS w base bw (0, l)) :
    Calls Try.prog 29 #[.pointer (some ⟨bw, 0, none⟩)] w fun e w' => e = .returned (.int .i64 0) ∧ w = w' := werr_any base bw 0 l w h
theorem wt_bad {c : Cfg} {w : World} {base bw : Nat} (h : ¬ (nums c).all okN = true) (hw : WtS w base bw (run (0, []) (nums c))) : ∃ l, Wt w base bw 2 l := by
  have := run_bad (nums c) [] (by simpa using h)
  unfold WtS at hw
  rw [this] at hw
  exact ⟨_, hw⟩
theorem enc_bound (l : List Nm) : (encN l).length ≤ 2 * l.length := by
  induction l with
  | nil => simp [encN]
  | cons x t ih => rw [encN_cons, List.length_append]; have := bytesN_len x; simp; omega
attribute [local irreducible] wst WtS run L1 L2 L3
theorem seal_l (l : List UInt8) (V : World) (h : l.length ≤ 9000) : Calls Try.prog 30 #[.string ⟨l.toArray⟩] V (Cw.IsText (Cw.sealL l) V) := by
  have := Cw.seal_any ⟨l.toArray⟩ V (by show l.toArray.size ≤ 9000; simpa using h)
  simpa using this
set_option maxRecDepth 100000 in
set_option maxHeartbeats 4000000 in
theorem print_any (c : Cfg) (a1 : Option Addr) (c1 : Nat) (a2 : Option Addr) (c2 : Nat) (a3 : Option Addr) (c3 : Nat) (W : World) (hr : CfR W c a1 a2 a3) (h1 : c.ws.length ≤ 255) (h2 : c.ss.length ≤ 255) (h3 : c.cs.length ≤ 255) (hN : (nums c).length ≤ 1900) :
    Calls Try.prog 11 #[.agg #[.int .i64 c.fr, .slice a1 c.ws.length c1, .slice a2 c.ss.length c2, .slice a3 c.cs.length c3]] W (IsPr (pOut c) (pErr c) W) := by
  obtain ⟨n1, e1⟩ : ∃ n, c.ws.length = n := ⟨_, rfl⟩
  obtain ⟨n2, e2⟩ : ∃ n, c.ss.length = n := ⟨_, rfl⟩
  obtain ⟨n3, e3⟩ : ∃ n, c.cs.length = n := ⟨_, rfl⟩
  obtain ⟨fr, ef⟩ : ∃ n, c.fr = n := ⟨_, rfl⟩
  rw [e1] at h1 ⊢
  rw [e2] at h2 ⊢
  rw [e3] at h3 ⊢
  rw [ef]
  have HE := Lib.hid (And.intro e1 (And.intro e2 (And.intro e3 ef)))
  have HR := Lib.hid hr
  have HN := Lib.hid hN
  clear e1 e2 e3 ef hr hN
  go_enter Try.func11, Try.ntmps11
  obtain ⟨mx, hmx⟩ : ∃ mx : Int, (if (if n1 < n2 then (n2 : Int) else (n1 : Int)) < (n3 : Int) then (n3 : Int) else if n1 < n2 then (n2 : Int) else (n1 : Int)) = mx := ⟨_, rfl⟩
  have hmb : mx ≤ 255 := by
    rw [← hmx]
    split
    · omega
    · split <;> omega
  have hP := prn_0 (cv := #[.int .i64 fr, .slice a1 n1 c1, .slice a2 n2 c2, .slice a3 n3 c3]) W c1 c2 c3 HR.out
  have HC := Lib.hid (wbyteN 67 hP.wt (Nat.le_refl _) (by have := hP.hz; omega) (by have := hP.bound (by simp); omega))
  have HP := Lib.hid hP
  clear hP
  go_wp2_with fail
  refine HC.out.mono ?_
  clear HC
  intro e v1 hs
  have hP := HP.out.one HR.out hs
  obtain ⟨rfl, _⟩ := hs
  clear HP
  obtain ⟨bx, hbx⟩ : ∃ bx, W.heap.size = bx := ⟨_, rfl⟩
  rw [hbx] at hP ⊢
  clear hbx hmx
  have HC := Lib.hid (wbyteN 1 hP.wt (Nat.le_refl _) (by have := hP.hz; omega) (by have := hP.bound (by simp); omega))
  have HP := Lib.hid hP
  clear hP
  go_wp2_with fail
  refine HC.out.mono ?_
  clear HC
  intro e v2 hs
  have hP := HP.out.one HR.out hs
  obtain ⟨rfl, _⟩ := hs
  clear HP
  have q0 : v2.cell? ⟨bx, 0, none⟩ = some (.int .i64 fr) := hP.bk.cell 0
  have HC := Lib.hid (wtwoN fr hP.wt (Nat.le_refl _) (by have := hP.hz; omega) (by have := hP.bound (by simp); omega))
  have HP := Lib.hid hP
  clear hP
  go_wp2_with fail
  refine HC.out.mono ?_
  clear HC q0
  intro e v3 hs
  have hP := HP.out.one HR.out hs
  obtain ⟨rfl, _⟩ := hs
  clear HP
  have q1 : v3.cell? ⟨bx, 1, none⟩ = some (.slice a1 n1 c1) := hP.bk.cell 1
  have HC := Lib.hid (wbyteN (n1 : Int) hP.wt (Nat.le_refl _) (by have := hP.hz; omega) (by have := hP.bound (by simp); omega))
  have HP := Lib.hid hP
  clear hP
  go_wp2_with fail
  refine HC.out.mono ?_
  clear HC q1
  intro e v4 hs
  have hP := HP.out.one HR.out hs
  obtain ⟨rfl, _⟩ := hs
  clear HP
  have hl1 : ([] ++ [((67 : Int), 1)] ++ [((1 : Int), 1)] ++ [(fr, 2)] ++ [((n1 : Int), 1)] : List Nm) = L1 c 0 := by
    rw [L1_0, ← HE.out.2.2.2, ← HE.out.1]; rfl
  rw [hl1] at hP
  have q1 : v4.cell? ⟨bx, 1, none⟩ = some (.slice a1 n1 c1) := hP.bk.cell 1
  have HP := Lib.hid hP
  clear hP hl1
  go_wp2_with fail
  go_loopw [41] (fun i wr => ∃ k : Nat, k ≤ n1 ∧ i = .int .i64 k ∧ Prn W wr bx #[.int .i64 fr, .slice a1 n1 c1, .slice a2 n2 c2, .slice a3 n3 c3] c a1 a2 a3 (L1 c k)) (fun i _ => n1 - (intOf i).toNat)
  case atStart => exact ⟨0, by omega, rfl, HP.out⟩
  case round =>
    obtain ⟨k, hk, rfl, hP⟩ := hrel
    clear HP q1
    by_cases hlt : k < n1
    · obtain ⟨b, off, x, y, z, rfl, hb, hrow, p0, p1, p2⟩ := ri3 hP.rr.r1 (k := k) (by rw [HE.out.1]; exact hlt)
      have hki0 : (0 : Int) ≤ (k : Int) := by omega
      have hki1 : (k : Int) < (n1 : Int) := by omega
      have hPa := hP.alloc HR.out (.cells #[.int .i64 x, .int .i64 y, .int .i64 z] 51)
      have HC := Lib.hid (row_any (bx + 1) (bx + 1) _ x y z _ hPa.wt (Nat.le_refl _) (by have := hPa.hz; omega) (hPa.bound (by have := (L_len c k).1; have := HN.out; omega)))
      have HP := Lib.hid hPa
      have HW := Lib.hid hrow
      clear hP hPa hrow
      go_wp2_with fail
      refine HC.out.mono ?_
      clear HC
      intro e w5 hs
      have hP := HP.out.row HR.out hs
      rw [← L1_s c HW.out] at hP
      obtain ⟨rfl, _⟩ := hs
      have HP2 := Lib.hid hP
      clear hP p0 p1 p2 HP
      go_wp2
      go_roundw
      case rel => exact ⟨k + 1, by omega, by go_num, HP2.out⟩
      case measure => simp [intOf]; omega
    · obtain rfl : n1 = k := by omega
      have q2 : wr.cell? ⟨bx, 2, none⟩ = some (.slice a2 n2 c2) := hP.bk.cell 2
      have HC := Lib.hid (wbyteN (n2 : Int) hP.wt (Nat.le_refl _) (by have := hP.hz; omega) (by have := hP.bound (by have := (L_len c n1).1; have := HN.out; omega); omega))
      have HP := Lib.hid hP
      clear hP
      go_wp2_with fail
      refine HC.out.mono ?_
      clear HC q2
      intro e v5 hs
      have hP := HP.out.one HR.out hs
      obtain ⟨rfl, _⟩ := hs
      clear HP
      have hl2 : L1 c n1 ++ [((n2 : Int), 1)] = L2 c 0 := by rw [← HE.out.1, ← HE.out.2.1]; exact L1_n c
      rw [hl2] at hP
      have q2 : v5.cell? ⟨bx, 2, none⟩ = some (.slice a2 n2 c2) := hP.bk.cell 2
      have HP := Lib.hid hP
      clear hP hl2
      go_wp2_with fail
      go_loopw [62] (fun i wr => ∃ k : Nat, k ≤ n2 ∧ i = .int .i64 k ∧ Prn W wr bx #[.int .i64 fr, .slice a1 n1 c1, .slice a2 n2 c2, .slice a3 n3 c3] c a1 a2 a3 (L2 c k)) (fun i _ => n2 - (intOf i).toNat)
      case atStart => exact ⟨0, by omega, rfl, HP.out⟩
      case round =>
        obtain ⟨k, hk, rfl, hP⟩ := hrel
        clear HP q2
        by_cases hlt : k < n2
        · obtain ⟨b, off, x, y, z, rfl, hb, hrow, p0, p1, p2⟩ := ri3 hP.rr.r2 (k := k) (by rw [HE.out.2.1]; exact hlt)
          have hki0 : (0 : Int) ≤ (k : Int) := by omega
          have hki1 : (k : Int) < (n2 : Int) := by omega
          have hPa := hP.alloc HR.out (.cells #[.int .i64 x, .int .i64 y, .int .i64 z] 52)
          have HC := Lib.hid (row_any (bx + 1) (bx + 1) _ x y z _ hPa.wt (Nat.le_refl _) (by have := hPa.hz; omega) (hPa.bound (by have := (L_len c k).2.1; have := HN.out; omega)))
          have HP := Lib.hid hPa
          have HW := Lib.hid hrow
          clear hP hPa hrow
          go_wp2_with fail
          refine HC.out.mono ?_
          clear HC
          intro e w5 hs
          have hP := HP.out.row HR.out hs
          rw [← L2_s c HW.out] at hP
          obtain ⟨rfl, _⟩ := hs
          have HP2 := Lib.hid hP
          clear hP p0 p1 p2 HP
          go_wp2
          go_roundw
          case rel => exact ⟨k + 1, by omega, by go_num, HP2.out⟩
          case measure => simp [intOf]; omega
        · obtain rfl : n2 = k := by omega
          have q3 : wr.cell? ⟨bx, 3, none⟩ = some (.slice a3 n3 c3) := hP.bk.cell 3
          have HC := Lib.hid (wbyteN (n3 : Int) hP.wt (Nat.le_refl _) (by have := hP.hz; omega) (by have := hP.bound (by have := (L_len c n2).2.1; have := HN.out; omega); omega))
          have HP := Lib.hid hP
          clear hP
          go_wp2_with fail
          refine HC.out.mono ?_
          clear HC q3
          intro e v6 hs
          have hP := HP.out.one HR.out hs
          obtain ⟨rfl, _⟩ := hs
          clear HP
          have hl3 : L2 c n2 ++ [((n3 : Int), 1)] = L3 c 0 := by rw [← HE.out.2.1, ← HE.out.2.2.1]; exact L2_n c
          rw [hl3] at hP
          have q3 : v6.cell? ⟨bx, 3, none⟩ = some (.slice a3 n3 c3) := hP.bk.cell 3
          have HP := Lib.hid hP
          clear hP hl3
          go_wp2_with fail
          go_loopw [83] (fun i wr => ∃ k : Nat, k ≤ n3 ∧ i = .int .i64 k ∧ Prn W wr bx #[.int .i64 fr, .slice a1 n1 c1, .slice a2 n2 c2, .slice a3 n3 c3] c a1 a2 a3 (L3 c k)) (fun i _ => n3 - (intOf i).toNat)
          case atStart => exact ⟨0, by omega, rfl, HP.out⟩
          case round =>
            obtain ⟨k, hk, rfl, hP⟩ := hrel
            clear HP q3
            by_cases hlt : k < n3
            · obtain ⟨b, off, x0, x1, x2, x3, x4, x5, x6, x7, x8, x9, rfl, hb, hrow, p0, p1, p2, p3, p4, p5, p6, p7, p8, p9⟩ := ri10 hP.rr.r3 (k := k) (by rw [HE.out.2.2.1]; exact hlt)
              have hki0 : (0 : Int) ≤ (k : Int) := by omega
              have hki1 : (k : Int) < (n3 : Int) := by omega
              have hPa := hP.alloc HR.out (.cells #[.int .i64 x0, .int .i64 x1, .int .i64 x2, .int .i64 x3, .int .i64 x4, .int .i64 x5, .int .i64 x6, .int .i64 x7, .int .i64 x8, .int .i64 x9] 54)
              have HC := Lib.hid (client_any (bx + 1) (bx + 1) _ x0 x1 x2 x3 x4 x5 x6 x7 x8 x9 _ hPa.wt (Nat.le_refl _) (by have := hPa.hz; omega) (hPa.bound (by have := (L_len c k).2.2; have := HN.out; omega)))
              have HP := Lib.hid hPa
              have HW := Lib.hid hrow
              clear hP hPa hrow
              go_wp2_with fail
              refine HC.out.mono ?_
              clear HC
              intro e w5 hs
              have hP := HP.out.step HR.out hs
              rw [← L3_s c HW.out] at hP
              obtain ⟨rfl, _⟩ := hs
              have HP2 := Lib.hid hP
              clear hP p0 p1 p2 p3 p4 p5 p6 p7 p8 p9 HP
              go_wp2
              go_roundw
              case rel => exact ⟨k + 1, by omega, by go_num, HP2.out⟩
              case measure => simp [intOf]; omega
            · obtain rfl : n3 = k := by omega
              have hln : L3 c n3 = nums c := by rw [← HE.out.2.2.1]; exact L3_n c
              rw [hln] at hP
              have hwt := hP.wt
              have he := run_err01 (nums c) []
              by_cases hok : (nums c).all okN = true
              · have HO := Lib.hid (p_ok hok)
                rw [run_ok _ _ hok, List.nil_append] at hwt
                have HW := Lib.hid (werr_ok (bx + 1) (bx + 1) _ _ hwt)
                have HB := Lib.hid (wbytes_ok (bx + 1) (bx + 1) _ _ hwt)
                have HS := Lib.hid (seal_l (encN (nums c)) wr (by have := enc_bound (nums c); have := HN.out; omega))
                have HZ := Lib.hid (And.intro hP.bl hP.hw)
                clear hP hwt he hln hok
                go_wp2_with fail
                refine HW.out.mono ?_
                rintro e v ⟨rfl, rfl⟩
                go_wp2_with fail
                refine HB.out.mono ?_
                rintro e v ⟨rfl, rfl⟩
                go_wp2_with fail
                refine HS.out.mono ?_
                clear HW HB HS
                rintro e v9 ⟨r, rfl, hr, hb⟩
                have HR9 := Lib.hid (And.intro hr hb)
                clear hr hb
                go_wp2
                go_ret2
                exact ⟨r, by rw [HO.out.2]; rfl, by rw [HO.out.1]; exact HR9.out.1, by rw [HZ.out.2]; exact HZ.out.1.trans (HR9.out.2.mono (by have := HZ.out.1.size; rw [HZ.out.2] at this; exact this))⟩
              · have HO := Lib.hid (p_bad hok)
                have hwt2 := wt_bad hok hwt
                obtain ⟨lx, hlx⟩ := hwt2
                have HW := Lib.hid (werr_any (bx + 1) (bx + 1) 2 _ _ hlx)
                have HZ := Lib.hid (And.intro hP.bl hP.hw)
                clear hP hwt he hln hok hlx
                go_wp2_with fail
                refine HW.out.mono ?_
                rintro e v ⟨rfl, rfl⟩
                clear HW
                go_wp2
                go_ret2
                exact ⟨⟨#[]⟩, by rw [HO.out.2]; rfl, by rw [HO.out.1], by rw [HZ.out.2]; exact HZ.out.1⟩
end Im
end Go.Proofs.Ytjdhkpafbejodaa
