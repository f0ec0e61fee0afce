/- A device in memory; its simple methods: Owner, find, Waits, Drops, Odd. Queues of campanile/frame.Frame: a fork. A device: what a port's turn makes of it; Waits, Drops, Odd, Take, Log. Plain facts on the bit operations of int: a mask, and the operations on numbers that are not negative. How many bits of a number are 1: one by one, and by striking the lowest. The package bits, function by function: numbers as bytes, and the reader. The reader's other methods, and the reference of bits. The reference of bits, function by function. The law BitsParts: its walk; and what is asked whatever is asked (live). A block of the call's own that holds bytes: what is known of it, what a store makes of it, how a text becomes such a block and such a block a text. -/
import Derived.Test.YtdbkgpnbmafpmaaZfAB
import Derived.Test.YtdbkgpnbmafpmaaZfAA
import Derived.WalkKit
import Derived.Laws.IdiomStrings
namespace Go.Proofs.Ytdbkgpnbmafpmaa
open Go.RowKit Go.Maps
namespace Nc
open Sm
/-- A port: its owner, address, limit; its block, its queue's, its room's; what waits; what was dropped. -/
structure Pt where
  ow : Int
  ma : Int
  li : Int
  p : Nat
  g : Nat
  r : Nat
  ws : List FiF.It
  dr : Int
/-- What was sent. -/
structure Sn where
  ti : Int
  ow : Int
  da : ByteArray
def snc (x : Sn) : List Value := [.int .i64 x.ti, .int .i64 x.ow, .string x.da]
def sflat (l : List Sn) : List Value := l.flatMap snc
def fnd (L : List Pt) (k : Int) : Option Nat := (L.find? (fun x => x.ow == k)).map (·.p)
def own (L : List Pt) (mac : Int) : Int := ((L.find? (fun x => x.ma == mac)).map (·.ow)).getD 0
def bks (x : Pt) : List Nat := [x.p, x.g, x.r]
structure PtOk (w : World) (x : Pt) : Prop where
  b : Blk w x.p 74 #[.int .i64 x.ow, .int .i64 x.ma, .int .i64 x.li, .pointer (some ⟨x.g, 0, none⟩)]
  q : FiF.Qu w x.g x.r x.ws x.li x.dr
  o1 : 1 ≤ x.ow
  o2 : x.ow ≤ 8
  m1 : 0 ≤ x.ma
  m2 : x.ma ≤ 255
  l1 : 0 ≤ x.li
  l2 : x.li ≤ 16
  pg : x.p ≠ x.g
  pr : x.p ≠ x.r
/-- The log: nil, or a row in block y. -/
def Lg (w : World) (d y : Nat) (a : Option Addr) (c : Nat) (l : List Sn) : Prop :=
  (a = none ∧ c = 0 ∧ l = [] ∧ y = d) ∨ (a = some ⟨y, 0, none⟩ ∧ w.ownsRow 0 50 3 (.slice a l.length c) l.length (sflat l))
structure Apart (x y : Pt) : Prop where
  ow : x.ow ≠ y.ow
  ma : x.ma ≠ y.ma
  bk : ∀ b ∈ bks x, b ∉ bks y
structure Dev (w : World) (d m : Nat) (od : Int) (y : Nat) (a : Option Addr) (c : Nat) (lg : List Sn) (L : List Pt) : Prop where
  b : Blk w d 68 #[.map (some m), .int .i64 od, .slice a lg.length c]
  mp : MapP w m L.length (fnd L)
  lg : Lg w d y a c lg
  pt : ∀ x ∈ L, PtOk w x
  ap : L.Pairwise Apart
  fr : ∀ x ∈ L, ∀ b ∈ bks x, b ≠ d ∧ b ≠ m ∧ b ≠ y
  dm : d ≠ m
  ym : y ≠ m
  ln : L.length ≤ 8
/-- The blocks of a device. -/
def foot (d m y : Nat) (L : List Pt) : List Nat := d :: m :: y :: L.flatMap bks
section
variable {w w' : World} {d m y c : Nat} {od : Int} {a : Option Addr} {lg : List Sn} {L : List Pt} {S : List Nat} {x : Pt}
theorem mem_foot {b : Nat} : b ∈ foot d m y L ↔ b = d ∨ b = m ∨ b = y ∨ ∃ x ∈ L, b ∈ bks x := by simp [foot, List.mem_flatMap]
theorem Lg.keeps (h : Lg w d y a c lg) (hk : Keeps S w w') (hy : y ∉ S) : Lg w' d y a c lg := by
  rcases h with h | ⟨rfl, h⟩
  · exact .inl h
  · exact .inr ⟨rfl, ownsRow_keeps h hk (fun k e => by simp [Value.ownBlock] at e; subst e; exact hy)⟩
theorem PtOk.keeps (h : PtOk w x) (hk : Keeps S w w') (hS : ∀ b ∈ bks x, b ∉ S) : PtOk w' x :=
  ⟨h.b.keeps hk (hS _ (by simp [bks])), h.q.keeps hk (hS _ (by simp [bks])) (hS _ (by simp [bks])), h.o1, h.o2, h.m1, h.m2, h.l1, h.l2, h.pg, h.pr⟩
theorem Dev.keeps (h : Dev w d m od y a c lg L) (hk : Keeps S w w') (hS : ∀ b ∈ foot d m y L, b ∉ S) : Dev w' d m od y a c lg L :=
  ⟨h.b.keeps hk (hS _ (by simp [foot])), h.mp.keeps hk (hS _ (by simp [foot])), h.lg.keeps hk (hS _ (by simp [foot])), fun x hx => (h.pt x hx).keeps hk (fun b hb => hS b (mem_foot.2 (.inr (.inr (.inr ⟨x, hx, hb⟩))))), h.ap, h.fr, h.dm, h.ym, h.ln⟩
theorem Dev.kp (h : Dev w d m od y a c lg L) (hk : Keeps [] w w') : Dev w' d m od y a c lg L := h.keeps hk (by simp)
theorem Lg.lt (h : Lg w d y a c lg) (hd : d < w.heap.size) : y < w.heap.size := by
  rcases h with ⟨_, _, _, rfl⟩ | ⟨rfl, h⟩
  · exact hd
  · exact (h.lt y rfl).2
theorem Dev.lt (h : Dev w d m od y a c lg L) : ∀ b ∈ foot d m y L, b < w.heap.size := by
  intro b hb
  rcases mem_foot.1 hb with rfl | rfl | rfl | ⟨x, hx, hb⟩
  · exact h.b.lt
  · exact h.mp.lt
  · exact h.lg.lt h.b.lt
  · have hp := h.pt x hx
    simp only [bks, List.mem_cons, List.not_mem_nil, or_false] at hb
    rcases hb with rfl | rfl | rfl
    · exact hp.b.lt
    · exact hp.q.lt.1
    · exact hp.q.lt.2
theorem Dev.cells (h : Dev w d m od y a c lg L) : w.cell? ⟨d, 0, none⟩ = some (.map (some m)) ∧ w.cell? ⟨d, 1, none⟩ = some (.int .i64 od) ∧ w.cell? ⟨d, 2, none⟩ = some (.slice a lg.length c) ∧ ∀ i, w.frozen? ⟨d, i, none⟩ = false := ⟨h.b.cell 0, h.b.cell 1, h.b.cell 2, h.b.frozen⟩
theorem PtOk.cells (h : PtOk w x) : w.cell? ⟨x.p, 0, none⟩ = some (.int .i64 x.ow) ∧ w.cell? ⟨x.p, 1, none⟩ = some (.int .i64 x.ma) ∧ w.cell? ⟨x.p, 2, none⟩ = some (.int .i64 x.li) ∧ w.cell? ⟨x.p, 3, none⟩ = some (.pointer (some ⟨x.g, 0, none⟩)) := ⟨h.b.cell 0, h.b.cell 1, h.b.cell 2, h.b.cell 3⟩
/-- Whose port it is. -/
theorem fnd_some {k : Int} {p : Nat} (h : fnd L k = some p) : ∃ x ∈ L, x.ow = k ∧ x.p = p ∧ L.find? (fun x => x.ow == k) = some x := by
  unfold fnd at h
  rcases he : L.find? (fun x => x.ow == k) with _ | x
  · rw [he] at h; cases h
  · rw [he] at h
    simp at h
    exact ⟨x, List.mem_of_find?_eq_some he, by simpa using List.find?_some he, h, he⟩
theorem fnd_none {k : Int} (h : fnd L k = none) : ∀ x ∈ L, x.ow ≠ k := by
  unfold fnd at h
  rcases he : L.find? (fun x => x.ow == k) with _ | x
  · intro x hx e
    have := List.find?_eq_none.1 he x hx
    simp [e] at this
  · rw [he] at h; cases h
theorem pw_ow (h : L.Pairwise Apart) : ∀ x ∈ L, ∀ z ∈ L, x.ow = z.ow → x = z := by
  intro x hx z hz e
  obtain ⟨i, hi, rfl⟩ := List.getElem_of_mem hx
  obtain ⟨j, hj, rfl⟩ := List.getElem_of_mem hz
  rw [List.pairwise_iff_getElem] at h
  rcases Nat.lt_trichotomy i j with h1 | h1 | h1
  · exact absurd e (h i j hi hj h1).ow
  · subst h1; rfl
  · exact absurd e.symm (h j i hj hi h1).ow
theorem pw_ma (h : L.Pairwise Apart) : ∀ x ∈ L, ∀ z ∈ L, x.ma = z.ma → x = z := by
  intro x hx z hz e
  obtain ⟨i, hi, rfl⟩ := List.getElem_of_mem hx
  obtain ⟨j, hj, rfl⟩ := List.getElem_of_mem hz
  rw [List.pairwise_iff_getElem] at h
  rcases Nat.lt_trichotomy i j with h1 | h1 | h1
  · exact absurd e (h i j hi hj h1).ma
  · subst h1; rfl
  · exact absurd e.symm (h j i hj hi h1).ma
theorem fnd_of (h : L.Pairwise Apart) (hx : x ∈ L) : fnd L x.ow = some x.p := by
  rcases he : fnd L x.ow with _ | p
  · exact absurd rfl (fnd_none he x hx)
  · obtain ⟨z, hz, e, rfl, _⟩ := fnd_some he
    rw [pw_ow h x hx z hz e.symm]
theorem own_of (h : L.Pairwise Apart) (hx : x ∈ L) : own L x.ma = x.ow := by
  unfold own
  rcases he : L.find? (fun z => z.ma == x.ma) with _ | z
  · have := List.find?_eq_none.1 he x hx
    simp at this
  · have h1 := List.mem_of_find?_eq_some he
    have h2 : z.ma = x.ma := by simpa using List.find?_some he
    rw [he]
    show z.ow = x.ow
    rw [pw_ma h z h1 x hx h2]
theorem own_no {mac : Int} (h : ∀ x ∈ L, x.ma ≠ mac) : own L mac = 0 := by
  unfold own
  rw [List.find?_eq_none.2 (fun x hx => by simpa using h x hx)]
  rfl
end
theorem may_any (o n k : Int) (w : World) : Calls Try.prog 25 #[.agg #[.int .i64 o, .int .i64 n, .int .i64 k]] w fun e w' => e = .returned (.bool (decide (1 ≤ o ∧ o ≤ 8 ∧ 0 ≤ n ∧ n ≤ 255 ∧ 0 ≤ k ∧ k ≤ 16))) ∧ Keeps [] w w' := by
  by_cases h1 : 1 ≤ o
  · by_cases h2 : o ≤ 8
    · by_cases h3 : 0 ≤ n
      · by_cases h4 : n ≤ 255
        · by_cases h5 : 0 ≤ k
          · by_cases h6 : k ≤ 16
            all_goals
              go_enter Try.func25, Try.ntmps25
              go_wp2
              go_ret
              exact ⟨by first | (rw [decide_eq_true (by omega)]; rfl) | (rw [decide_eq_false (by omega)]; rfl), (Keeps.refl _ _).alloc _⟩
          · go_enter Try.func25, Try.ntmps25
            go_wp2
            go_ret
            exact ⟨by first | (rw [decide_eq_true (by omega)]; rfl) | (rw [decide_eq_false (by omega)]; rfl), (Keeps.refl _ _).alloc _⟩
        · go_enter Try.func25, Try.ntmps25
          go_wp2
          go_ret
          exact ⟨by first | (rw [decide_eq_true (by omega)]; rfl) | (rw [decide_eq_false (by omega)]; rfl), (Keeps.refl _ _).alloc _⟩
      · go_enter Try.func25, Try.ntmps25
        go_wp2
        go_ret
        exact ⟨by first | (rw [decide_eq_true (by omega)]; rfl) | (rw [decide_eq_false (by omega)]; rfl), (Keeps.refl _ _).alloc _⟩
    · go_enter Try.func25, Try.ntmps25
      go_wp2
      go_ret
      exact ⟨by first | (rw [decide_eq_true (by omega)]; rfl) | (rw [decide_eq_false (by omega)]; rfl), (Keeps.refl _ _).alloc _⟩
  · go_enter Try.func25, Try.ntmps25
    go_wp2
    go_ret
    exact ⟨by first | (rw [decide_eq_true (by omega)]; rfl) | (rw [decide_eq_false (by omega)]; rfl), (Keeps.refl _ _).alloc _⟩
section
variable {d m y c : Nat} {od : Int} {a : Option Addr} {lg : List Sn} {L : List Pt}
set_option maxRecDepth 100000 in
theorem owner_any (mac : Int) (w : World) (h : Dev w d m od y a c lg L) : Calls Try.prog 23 #[.pointer (some ⟨d, 0, none⟩), .int .i64 mac] w fun e w' => e = .returned (.int .i64 (own L mac)) ∧ w = w' := by
  obtain ⟨c0, _, _, _⟩ := h.cells
  have H := Lib.hid h
  clear h
  go_enter Try.func23, Try.ntmps23
  go_wp2_with fail
  go_loopw [5] (fun i wr => ∃ k : Nat, 1 ≤ k ∧ k ≤ 9 ∧ i = .int .i64 k ∧ wr = w ∧ ∀ x ∈ L, x.ma = mac → (k : Int) ≤ x.ow) (fun i _ => 9 - (intOf i).toNat)
  case atStart => exact ⟨1, by omega, by omega, rfl, rfl, fun x hx _ => (H.out.pt x hx).o1⟩
  case round =>
    obtain ⟨k, hk1, hk9, rfl, rfl, hno⟩ := hrel
    have HN := Lib.hid hno
    clear hno
    by_cases hk8 : k ≤ 8
    · have hlk := H.out.mp.look (k : Int) (WalkArith.wf_i64 (by omega))
      rcases hf : fnd L (k : Int) with _ | p
      · rw [hf] at hlk
        have hN := fnd_none hf
        have HF := Lib.hid hN
        clear hN hf
        simp only [pv] at hlk
        go_wp2
        go_roundw
        case rel => exact ⟨k + 1, by omega, by omega, by go_num, trivial, fun x hx he => by have := HN.out x hx he; have := HF.out x hx; omega⟩
        case measure => simp [intOf]; omega
      · obtain ⟨x, hx, hxo, hxp, _⟩ := fnd_some hf
        rw [hf] at hlk
        simp only [pv] at hlk
        obtain ⟨p0, p1, _, _⟩ := (H.out.pt x hx).cells
        rw [hxp] at p0 p1
        by_cases hm : x.ma = mac
        · have ho := own_of H.out.ap hx
          rw [hm, hxo] at ho
          have HO := Lib.hid ho
          rw [hm] at p1
          clear ho hf hm hxo hxp hx p0
          go_wp2
          go_ret
          exact ⟨by rw [HO.out]; rfl, rfl⟩
        · have hm2 : (x.ma == mac) = false := by simpa using hm
          have HE : Hid (∀ z ∈ L, z.ma = mac → z.ow ≠ (k : Int)) := Lib.hid (fun z hz hzm e => by
            have := pw_ow H.out.ap z hz x hx (e.trans hxo.symm)
            subst this
            exact hm hzm)
          generalize x.ma = xm at *
          clear hf hxo hxp p0 hm hx
          go_wp2
          go_roundw
          case rel => exact ⟨k + 1, by omega, by omega, by go_num, trivial, fun x hx he => by have := HN.out x hx he; have := HE.out x hx he; omega⟩
          case measure => simp [intOf]; omega
    · obtain rfl : k = 9 := by omega
      have ho : own L mac = 0 := own_no (fun x hx e => by have := HN.out x hx e; have := (H.out.pt x hx).o2; omega)
      have HO := Lib.hid ho
      clear ho
      go_wp2
      go_ret
      exact ⟨by rw [HO.out]; rfl, rfl⟩
theorem owner_nil (mac : Int) (w : World) : Calls Try.prog 23 #[.pointer none, .int .i64 mac] w fun e w' => e = .returned (.int .i64 0) ∧ w = w' := by
  go_enter Try.func23, Try.ntmps23
  go_wp2
  go_loopw [5] (fun i wr => i = .int .i64 1 ∧ wr = w) (fun _ _ => 0)
  case atStart => exact ⟨rfl, rfl⟩
  case round =>
    obtain ⟨rfl, rfl⟩ := hrel
    go_wp2
    go_ret
    exact ⟨rfl, rfl⟩
theorem find_any (k : Int) (w : World) (h : Dev w d m od y a c lg L) (hk : (Lit.int .i64 k).wf = true) : Calls Try.prog 30 #[.pointer (some ⟨d, 0, none⟩), .int .i64 k] w fun e w' => e = .returned (.tuple #[pv (fnd L k), .int .i64 (match fnd L k with | none => 7 | some _ => 0)]) ∧ w = w' := by
  obtain ⟨c0, _, _, _⟩ := h.cells
  have hlk := h.mp.look k hk
  clear h
  rcases hf : fnd L k with _ | p
  · rw [hf] at hlk
    simp only [pv] at hlk ⊢
    clear hf
    go_enter Try.func30, Try.ntmps30
    go_wp2
    refine bodyPost_ret (v := .tuple #[.pointer none, .int .i64 7]) (by simp [results, Try.results30, go_sem]) rfl ?_
    exact ⟨rfl, rfl⟩
  · rw [hf] at hlk
    simp only [pv] at hlk ⊢
    clear hf
    go_enter Try.func30, Try.ntmps30
    go_wp2
    refine bodyPost_ret (v := .tuple #[.pointer (some ⟨p, 0, none⟩), .int .i64 0]) (by simp [results, Try.results30, go_sem]) rfl ?_
    exact ⟨rfl, rfl⟩
theorem find_nil (k : Int) (w : World) : Calls Try.prog 30 #[.pointer none, .int .i64 k] w fun e w' => e = .returned (.tuple #[.pointer none, .int .i64 1]) ∧ w = w' := by
  go_enter Try.func30, Try.ntmps30
  go_wp2
  refine bodyPost_ret (v := .tuple #[.pointer none, .int .i64 1]) (by simp [results, Try.results30, go_sem]) rfl ?_
  exact ⟨rfl, rfl⟩
end
end Nc
end Go.Proofs.Ytdbkgpnbmafpmaa
namespace Go.Proofs.Ytdbkgpnbmafpmaa
open Go.RowKit
namespace FiF
open Sm
def flt (l : List It) : List Value := l.flatMap cs
theorem flt_len (l : List It) : (flt l).length = l.length * 3 := by
  induction l with
  | nil => rfl
  | cons x t ih => simp only [flt, List.flatMap_cons, List.length_append, cs_len, List.length_cons] at ih ⊢; omega
theorem flt_all (l : List It) : ∀ u ∈ flt l, u.oneCell' = true := by
  intro u hu
  simp only [flt, List.mem_flatMap] at hu
  obtain ⟨x, _, hx⟩ := hu
  exact cs_all x u hx
theorem flt_get (l : List It) : ∀ (i : Nat) (x : It), l[i]? = some x → ∀ j, j < 3 → (flt l)[i * 3 + j]? = (cs x)[j]? := by
  induction l with
  | nil => intro i x h; simp at h
  | cons y t ih =>
    intro i x h j hj
    have e : flt (y :: t) = cs y ++ flt t := by simp [flt]
    rw [e]
    rcases i with _ | i
    · simp at h
      subst h
      rw [Nat.zero_mul, Nat.zero_add, List.getElem?_append_left (by rw [cs_len]; exact hj)]
    · simp at h
      rw [List.getElem?_append_right (by rw [cs_len]; omega), cs_len]
      rw [show (i + 1) * 3 + j - 3 = i * 3 + j from by omega]
      exact ih i x h j hj
def room_l (len : Nat) (R : Nat → It) : List It := (List.range len).map R
theorem room_at (len : Nat) (R : Nat → It) (i : Nat) (h : i < len) : (room_l len R)[i]? = some (R i) := by simp [room_l, h]
theorem room_len (len : Nat) (R : Nat → It) : (room_l len R).length = len := by simp [room_l]
theorem room_reads {w : World} {r len : Nat} {R : Nat → It} (h : Room w r len R) : Reads w w.heap.size 3 (some ⟨r, 0, none⟩) len (flt (room_l len R)) := by
  refine ⟨by rw [flt_len, room_len], fun _ => ⟨_, rfl, h.lt, fun j u hu => ?_⟩⟩
  have hj : j < len * 3 := by
    have := (List.getElem?_eq_some_iff.1 hu).1
    rwa [flt_len, room_len] at this
  have hi : j / 3 < len := by omega
  have hm : j % 3 < 3 := Nat.mod_lt _ (by decide)
  have hd : j / 3 * 3 + j % 3 = j := by omega
  have h1 := flt_get (room_l len R) (j / 3) _ (room_at len R _ hi) (j % 3) hm
  rw [hd, hu] at h1
  have e2 : (⟨r, 0, none⟩ : Addr).add j = ⟨r, j, none⟩ := by unfold Addr.add; by_cases h0 : j = 0 <;> simp [h0]
  rw [e2]
  have := h.at_ (j / 3) hi (j % 3) u h1.symm
  rwa [hd] at this
theorem own_room {w : World} {B len c : Nat} {p : Option Addr} {R : Nat → It} (h : w.ownsRow B 39 3 (.slice p len c) len (flt (room_l len R))) (hl : 0 < len) : ∃ b, p = some ⟨b, 0, none⟩ ∧ B ≤ b ∧ Room w b len R := by
  obtain ⟨b, cap, hv, hb, hlt⟩ := h.form hl
  injection hv with e1
  subst e1
  refine ⟨b, rfl, hb, fun i hi j v hv => ?_, fun i hi j hj => h.frozenAt _, hlt⟩
  have hj : j < 3 := by have := (List.getElem?_eq_some_iff.1 hv).1; rwa [cs_len] at this
  rw [h.cellAt (i * 3 + j) (by have : (i + 1) * 3 ≤ len * 3 := Nat.mul_le_mul_right _ hi; omega), flt_get _ i _ (room_at len R i hi) j hj]
  exact hv
theorem own_emptyF (w : World) (base : Nat) (hb : base ≤ w.heap.size) (e : TypeId) (size : Nat) : (w.alloc (.cells #[] e)).ownsRow base e size (.slice (some ⟨w.heap.size, 0, none⟩) 0 0) 0 [] := by
  refine ⟨by simp, .inr ⟨w.heap.size, 0, #[], rfl, hb, heap_alloc_new w _, Nat.le_refl _, by decide, by simp, by simp⟩⟩
theorem own_formF {w : World} {base size n : Nat} {e : TypeId} {v : Value} {xs : List Value} (h : w.ownsRow base e size v n xs) : ∃ a c, v = .slice a n c := by
  rcases h.2 with ⟨rfl, rfl⟩ | ⟨g, cap, cur, rfl, _⟩
  · exact ⟨_, _, rfl⟩
  · exact ⟨_, _, rfl⟩
def IsClone (len : Nat) (R : Nat → It) (w : World) (e : Ending) (w' : World) : Prop :=
  ∃ b c, e = .returned (.slice (some ⟨b, 0, none⟩) len c) ∧ Room w' b len R ∧ Keeps [] w w' ∧ w.heap.size ≤ b
theorem nil_eq (n c : Nat) (w : World) : (binOp .eql 91 (.slice none n c) (.slice none 0 0)).run Try.prog w = .ok (.bool true) w := by kernel_rfl
theorem nil_ne (a : Addr) (n c : Nat) (w : World) : (binOp .eql 91 (.slice (some a) n c) (.slice none 0 0)).run Try.prog w = .ok (.bool false) w := by kernel_rfl
theorem clone_nil (n c : Nat) (w : World) : Calls Try.prog 54 #[.slice none n c] w fun e w' => e = .returned (.slice none 0 0) ∧ w = w' := by
  have hne := nil_eq
  go_enter Try.func54, Try.ntmps54
  go_wp2
  go_ret
  exact ⟨rfl, rfl⟩
attribute [local irreducible] cs
set_option maxRecDepth 100000 in
set_option maxHeartbeats 1000000 in
theorem clone_room (r len c : Nat) (R : Nat → It) (w : World) (h : Room w r len R) (hl : 0 < len) (hm : len ≤ 65536) :
    Calls Try.prog 54 #[.slice (some ⟨r, 0, none⟩) len c] w (IsClone len R w) := by
  obtain ⟨i0, hi0, hz0, hz1, hz2⟩ := info_parts elem_all
  have HI := Lib.hid (And.intro hi0 (And.intro hz0 (And.intro hz1 hz2)))
  clear hi0 hz0 hz1 hz2
  have HR := Lib.hid (room_reads h)
  clear h
  have hown0 := own_emptyF w w.heap.size (Nat.le_refl _) 39 3
  have hrd0 := HR.out.alloc (Nat.le_refl _) (.cells #[] 39)
  have hk0 : Keeps [] w (w.alloc (.cells #[] 39)) := (Keeps.refl _ _).alloc _
  have hne := nil_ne
  go_enter Try.func54, Try.ntmps54
  go_wp2_with (at_builtin; refine wpList_append_any _ rfl (.tmp 5) (.tmp 6) _ rfl w.heap.size 39 i0 _ 3 32 Try.underlying91 HI.out.1 HI.out.2.1 HI.out.2.2.1 HI.out.2.2.2 rfl (by decide) (.slice (some ⟨w.heap.size, 0, none⟩) 0 0) 0 _ rfl hown0 _ _ len c _ rfl hrd0 (flt_all _) (by simp only [maxLen]; omega) (by omega) (by simp) ?_; intro v2 w2 hown2 hg2 hat2; obtain ⟨p2, c2, hv2⟩ := own_formF hown2; subst hv2; rw [Nat.zero_add, List.nil_append] at hown2; have hk2 := hk0.grown hg2 (fun b hb => .inr (by have := (hown0.lt b hb).1; exact this)))
  go_ret
  obtain ⟨b, rfl, hb, hroom⟩ := own_room hown2 hl
  exact ⟨b, c2, rfl, hroom, hk2, hb⟩
def IsFork (l : List It) (lim dr : Int) (w : World) (e : Ending) (w' : World) : Prop :=
  e = .returned (.pointer (some ⟨w.heap.size, 0, none⟩)) ∧ ∃ r, Qu w' w.heap.size r l lim dr ∧ Keeps [] w w' ∧ w.heap.size ≤ r
theorem fork_nil (w : World) : Calls Try.prog 38 #[.pointer none] w fun e w' => e = .returned (.pointer none) ∧ w = w' := by
  go_enter Try.func38, Try.ntmps38
  go_wp2
  go_ret
  exact ⟨rfl, rfl⟩
set_option maxRecDepth 100000 in
set_option maxHeartbeats 1000000 in
theorem fork_any (g r : Nat) (l : List It) (lim dr : Int) (w : World) (h : Qu w g r l lim dr) :
    Calls Try.prog 38 #[.pointer (some ⟨g, 0, none⟩)] w (IsFork l lim dr w) := by
  obtain ⟨A, len, c, f, R, h1, h2, h3, h4, h5, h6, h7⟩ := h
  obtain ⟨c0, c1, c2, c3, c4, cf⟩ := h1.cells
  have hgl := h1.q.lt
  have hf := h1.hf
  have hn := h1.hn
  have hlen := h1.hlen
  have hroom := h1.room
  have HB := Lib.hid (Blk.new w 93 #[.slice A len c, .int .i64 (f : Int), .int .i64 (l.length : Int), .int .i64 lim, .int .i64 dr])
  have hk0 : Keeps [] w (w.alloc (.cells #[.slice A len c, .int .i64 (f : Int), .int .i64 (l.length : Int), .int .i64 lim, .int .i64 dr] 93)) := (Keeps.refl _ _).alloc _
  have H2 := Lib.hid h2
  clear h1 h2
  rcases hroom with ⟨hl0, rfl, _⟩ | ⟨hl0, rfl, _, hrm⟩
  · subst hl0
    have hl1 : l.length = 0 := by omega
    have hl2 : l = [] := List.eq_nil_of_length_eq_zero hl1
    subst hl2
    go_enter Try.func38, Try.ntmps38
    go_wp2_with fail
    refine (clone_nil 0 c _).mono ?_
    rintro e w1 ⟨rfl, rfl⟩
    go_wp2
    go_ret
    refine ⟨rfl, w.heap.size, ⟨none, 0, 0, f, R, ⟨Blk.new _ _ _, .inl ⟨rfl, rfl, rfl⟩, by simpa using hf, hn, hlen⟩, H2.out, h3, h4, h5, h6, h7⟩, (Keeps.refl _ _).alloc _, Nat.le_refl _⟩
  · have HR := Lib.hid hrm
    clear hrm
    go_enter Try.func38, Try.ntmps38
    go_wp2_with fail
    refine (clone_room r len c R _ ((HR.out).keeps hk0 (by simp)) hl0 hlen).mono ?_
    rintro e w1 ⟨b, c2, rfl, hr2, hk2, hb⟩
    have hb1 := HB.out.keeps hk2 (by simp)
    have hbc := hb1.cell 0
    have hbf := hb1.frozen
    have hsz : w.heap.size < b := by simp at hb; omega
    clear HB
    go_wp2
    go_ret
    refine ⟨rfl, b, ⟨some ⟨b, 0, none⟩, len, c2, f, R, ⟨hb1.set_ 0 (.slice (some ⟨b, 0, none⟩) len c2), .inr ⟨hl0, rfl, by omega, hr2.keeps ((Keeps.refl [w.heap.size] w1).setCell (p := ⟨w.heap.size, 0, none⟩) (by simp) _) (by simp; omega)⟩, hf, hn, hlen⟩, H2.out, h3, h4, h5, h6, h7⟩, (hk0.next hk2 (by simp)).setCell (p := ⟨w.heap.size, 0, none⟩) (.inr (Nat.le_refl _)) _, by omega⟩
end FiF
end Go.Proofs.Ytdbkgpnbmafpmaa
namespace Go.Proofs.Ytdbkgpnbmafpmaa
open Go.RowKit Go.Maps
attribute [local go_sem] FiF.cs
namespace Nc
open Sm
/-- The list with one port turned. -/
def upd (L : List Pt) (x' : Pt) : List Pt := L.map (fun z => if z.ow = x'.ow then x' else z)
/-- A port that is the same but for what waits and was dropped. -/
structure Same (x x' : Pt) : Prop where
  ow : x'.ow = x.ow
  ma : x'.ma = x.ma
  li : x'.li = x.li
  p : x'.p = x.p
  g : x'.g = x.g
section
variable {w w' : World} {d m y c : Nat} {od : Int} {a : Option Addr} {lg : List Sn} {L : List Pt} {S : List Nat} {x x' : Pt}
theorem upd_len : (upd L x').length = L.length := by simp [upd]
theorem upd_mem {z : Pt} (h : z ∈ upd L x') : (z = x' ∧ ∃ z0 ∈ L, z0.ow = x'.ow) ∨ (z ∈ L ∧ z.ow ≠ x'.ow) := by
  simp only [upd, List.mem_map] at h
  obtain ⟨z0, h0, e⟩ := h
  by_cases ho : z0.ow = x'.ow
  · rw [if_pos ho] at e; exact .inl ⟨e.symm, z0, h0, ho⟩
  · rw [if_neg ho] at e; subst e; exact .inr ⟨h0, ho⟩
theorem upd_find (hs : Same x x') (hx : x ∈ L) (hp : L.Pairwise Apart) (f : Pt → Bool) (hf : f x' = f x) : (upd L x').find? f = (L.find? f).map (fun z => if z.ow = x'.ow then x' else z) := by
  unfold upd
  rw [List.find?_map]
  have : (L.find? (f ∘ fun z => if z.ow = x'.ow then x' else z)) = L.find? f := by
    have hall : ∀ z ∈ L, (f ∘ fun z => if z.ow = x'.ow then x' else z) z = f z := by
      intro z hz
      show f (if z.ow = x'.ow then x' else z) = f z
      by_cases ho : z.ow = x'.ow
      · rw [if_pos ho, hf, pw_ow hp z hz x hx (ho.trans hs.ow)]
      · rw [if_neg ho]
    clear hp hx
    induction L with
    | nil => rfl
    | cons z t ih =>
      rw [List.find?_cons, List.find?_cons, hall z (by simp), ih (fun u hu => hall u (by simp [hu]))]
  rw [this]
theorem upd_fnd (hs : Same x x') (hx : x ∈ L) (hp : L.Pairwise Apart) : fnd (upd L x') = fnd L := by
  funext k
  unfold fnd
  rw [upd_find hs hx hp _ (by rw [hs.ow])]
  rcases he : L.find? (fun z => z.ow == k) with _ | z
  · rw [he]; rfl
  · rw [he]
    simp only [Option.map_some]
    by_cases ho : z.ow = x'.ow
    · rw [if_pos ho, hs.p, pw_ow hp z (List.mem_of_find?_eq_some he) x hx (ho.trans hs.ow)]
    · rw [if_neg ho]
theorem upd_own (hs : Same x x') (hx : x ∈ L) (hp : L.Pairwise Apart) : own (upd L x') = own L := by
  funext k
  unfold own
  rw [upd_find hs hx hp _ (by rw [hs.ma])]
  rcases he : L.find? (fun z => z.ma == k) with _ | z
  · rw [he]; rfl
  · rw [he]
    simp only [Option.map_some, Option.getD_some]
    by_cases ho : z.ow = x'.ow
    · rw [if_pos ho]; exact ho.symm
    · rw [if_neg ho]
/-- What a call makes of a device. -/
def To (d m : Nat) (F : List Nat) (od : Int) (lg : List Sn) (L : List Pt) (w w' : World) : Prop :=
  ∃ y a c, Dev w' d m od y a c lg L ∧ Keeps F w w' ∧ ∀ b ∈ foot d m y L, b ∈ F ∨ w.heap.size ≤ b
theorem To.refl (h : Dev w d m od y a c lg L) (hk : Keeps [] w w') : To d m (foot d m y L) od lg L w w' := ⟨y, a, c, h.kp hk, hk.more (by simp), fun b hb => .inl hb⟩
theorem To.then {w1 : World} {F : List Nat} (h : To d m F od lg L w w1) (hk : Keeps [] w1 w') : To d m F od lg L w w' := by
  obtain ⟨y, a, c, h1, h2, h3⟩ := h
  exact ⟨y, a, c, h1.kp hk, h2.next hk (by simp), h3⟩
theorem To.from {w1 : World} {F : List Nat} (h : To d m F od lg L w1 w') (hk : Keeps [] w w1) : To d m F od lg L w w' := by
  obtain ⟨y, a, c, h1, h2, h3⟩ := h
  have := hk.size
  exact ⟨y, a, c, h1, (hk.more (by simp)).trans h2, fun b hb => by rcases h3 b hb with h | h; exact .inl h; exact .inr (by omega)⟩
theorem bk_sub (hx : x ∈ L) : ∀ b ∈ bks x, b ∈ foot d m y L := fun b hb => mem_foot.2 (.inr (.inr (.inr ⟨x, hx, hb⟩)))
/-- One port has turned. -/
theorem Dev.turn (h : Dev w d m od y a c lg L) (hx : x ∈ L) (hs : Same x x') (hk : Keeps [x.g, x.r] w w') (hr : x'.r = x.r ∨ w.heap.size ≤ x'.r) (hq : FiF.Qu w' x'.g x'.r x'.ws x'.li x'.dr) : To d m (foot d m y L) od lg (upd L x') w w' := by
  have hfx := h.fr x hx
  have hpx := h.pt x hx
  have hlt := h.lt
  have hg := hfx x.g (by simp [bks])
  have hrr := hfx x.r (by simp [bks])
  have hpl := hpx.b.lt
  have hok : PtOk w' x' := by
    refine ⟨?_, hq, hs.ow ▸ hpx.o1, hs.ow ▸ hpx.o2, hs.ma ▸ hpx.m1, hs.ma ▸ hpx.m2, hs.li ▸ hpx.l1, hs.li ▸ hpx.l2, ?_, ?_⟩
    · rw [hs.p, hs.ow, hs.ma, hs.li, hs.g]
      exact hpx.b.keeps hk (by simp; exact ⟨hpx.pg, hpx.pr⟩)
    · rw [hs.p, hs.g]; exact hpx.pg
    · rw [hs.p]
      rcases hr with e | e
      · rw [e]; exact hpx.pr
      · omega
  have hbx : ∀ b ∈ bks x', b ∈ bks x ∨ w.heap.size ≤ b := by
    intro b hb
    simp only [bks, List.mem_cons, List.not_mem_nil, or_false] at hb ⊢
    rcases hb with rfl | rfl | rfl
    · exact .inl (.inl hs.p)
    · exact .inl (.inr (.inl hs.g))
    · rcases hr with e | e
      · exact .inl (.inr (.inr e))
      · exact .inr e
  have hother : ∀ z ∈ L, z.ow ≠ x'.ow → ∀ b ∈ bks z, b ∉ bks x := by
    intro z hz hne b hb hbx
    obtain ⟨i, hi, rfl⟩ := List.getElem_of_mem hz
    obtain ⟨j, hj, rfl⟩ := List.getElem_of_mem hx
    have hp := h.ap
    rw [List.pairwise_iff_getElem] at hp
    rcases Nat.lt_trichotomy i j with h1 | h1 | h1
    · exact (hp i j hi hj h1).bk b hb hbx
    · subst h1; exact hne hs.ow.symm
    · exact (hp j i hj hi h1).bk b hbx hb
  have hothw : ∀ z ∈ L, z.ow ≠ x'.ow → ∀ b ∈ bks z, b ∉ bks x' := by
    intro z hz hne b hb hbx'
    rcases hbx b hbx' with h1 | h1
    · exact hother z hz hne b hb h1
    · have := hlt b (bk_sub hz b hb); omega
  refine ⟨y, a, c, ⟨h.b.keeps hk (by simp; exact ⟨Ne.symm hg.1, Ne.symm hrr.1⟩), ?_, h.lg.keeps hk (by simp; exact ⟨Ne.symm hg.2.2, Ne.symm hrr.2.2⟩), ?_, ?_, ?_, h.dm, h.ym, by rw [upd_len]; exact h.ln⟩, ?_, ?_⟩
  · rw [upd_len, upd_fnd hs hx h.ap]
    exact h.mp.keeps hk (by simp; exact ⟨Ne.symm hg.2.1, Ne.symm hrr.2.1⟩)
  · intro z hz
    rcases upd_mem hz with ⟨rfl, _⟩ | ⟨hz0, hne⟩
    · exact hok
    · refine (h.pt z hz0).keeps hk (fun b hb => ?_)
      have := hother z hz0 hne b hb
      simp only [bks, List.mem_cons, List.not_mem_nil, or_false, not_or] at this ⊢
      exact this.2
  · unfold upd
    rw [List.pairwise_map]
    refine h.ap.imp_of_mem ?_
    intro u v hu hv huv
    by_cases h1 : u.ow = x'.ow
    · rw [if_pos h1]
      by_cases h2 : v.ow = x'.ow
      · exact absurd (h1.trans h2.symm) huv.ow
      · rw [if_neg h2]
        have hux := pw_ow h.ap u hu x hx (h1.trans hs.ow)
        subst hux
        exact ⟨fun e => h2 e.symm, by rw [hs.ma]; exact huv.ma, fun b hb hbv => hothw v hv h2 b hbv hb⟩
    · rw [if_neg h1]
      by_cases h2 : v.ow = x'.ow
      · rw [if_pos h2]
        have hvx := pw_ow h.ap v hv x hx (h2.trans hs.ow)
        subst hvx
        exact ⟨h1, by rw [hs.ma]; exact huv.ma, fun b hb => hothw u hu h1 b hb⟩
      · rw [if_neg h2]; exact huv
  · intro z hz b hb
    rcases upd_mem hz with ⟨rfl, _⟩ | ⟨hz0, _⟩
    · rcases hbx b hb with h1 | h1
      · exact hfx b h1
      · have h2 := hlt d (by simp [foot])
        have h3 := hlt m (by simp [foot])
        have h4 := hlt y (by simp [foot])
        refine ⟨?_, ?_, ?_⟩ <;> omega
    · exact h.fr z hz0 b hb
  · refine hk.more ?_
    intro b hb
    exact bk_sub hx b (by simp only [bks, List.mem_cons, List.not_mem_nil, or_false] at hb ⊢; exact .inr hb)
  · intro b hb
    rcases mem_foot.1 hb with rfl | rfl | rfl | ⟨z, hz, hbz⟩
    · exact .inl (by simp [foot])
    · exact .inl (by simp [foot])
    · exact .inl (by simp [foot])
    · rcases upd_mem hz with ⟨rfl, _⟩ | ⟨hz0, _⟩
      · rcases hbx b hbz with h1 | h1
        · exact .inl (bk_sub hx b h1)
        · exact .inr h1
      · exact .inl (bk_sub hz0 b hbz)
end
/-- The port of an owner. -/
def pt? (L : List Pt) (k : Int) : Option Pt := L.find? (fun x => x.ow == k)
theorem fnd_pt (L : List Pt) (k : Int) : fnd L k = (pt? L k).map (·.p) := rfl
section
variable {d m y c : Nat} {od : Int} {a : Option Addr} {lg : List Sn} {L : List Pt}
theorem pt_mem {x : Pt} {k : Int} (h : pt? L k = some x) : x ∈ L ∧ x.ow = k := ⟨List.mem_of_find?_eq_some h, by have := List.find?_some h; simpa using this⟩
theorem waits_any (k : Int) (w : World) (h : Dev w d m od y a c lg L) (hk : (Lit.int .i64 k).wf = true) :
    Calls Try.prog 14 #[.pointer (some ⟨d, 0, none⟩), .int .i64 k] w fun e w' => e = .returned (.int .i64 (match pt? L k with | none => 0 | some x => (x.ws.length : Int))) ∧ w = w' := by
  have HF := Lib.hid (find_any k w h hk)
  rw [fnd_pt] at HF
  rcases hp : pt? L k with _ | x
  · rw [hp] at HF
    clear h
    go_enter Try.func14, Try.ntmps14
    go_wp2_with fail
    refine HF.out.mono ?_
    rintro e w' ⟨rfl, rfl⟩
    simp only [Option.map_none, pv]
    go_wp2
    go_ret
    exact ⟨rfl, rfl⟩
  · rw [hp] at HF
    obtain ⟨hx, _⟩ := pt_mem hp
    obtain ⟨_, _, _, p3⟩ := (h.pt x hx).cells
    have HL := Lib.hid (FiF.len_any x.g x.r x.ws x.li x.dr w (h.pt x hx).q)
    clear h
    go_enter Try.func14, Try.ntmps14
    go_wp2_with fail
    refine HF.out.mono ?_
    rintro e w' ⟨rfl, rfl⟩
    simp only [Option.map_some, pv]
    go_wp2_with fail
    refine HL.out.mono ?_
    rintro e w' ⟨rfl, rfl⟩
    go_wp2
    go_ret
    exact ⟨rfl, rfl⟩
theorem drops_dev (k : Int) (w : World) (h : Dev w d m od y a c lg L) (hk : (Lit.int .i64 k).wf = true) :
    Calls Try.prog 15 #[.pointer (some ⟨d, 0, none⟩), .int .i64 k] w fun e w' => e = .returned (.int .i64 (match pt? L k with | none => 0 | some x => x.dr)) ∧ w = w' := by
  have HF := Lib.hid (find_any k w h hk)
  rw [fnd_pt] at HF
  rcases hp : pt? L k with _ | x
  · rw [hp] at HF
    clear h
    go_enter Try.func15, Try.ntmps15
    go_wp2_with fail
    refine HF.out.mono ?_
    rintro e w' ⟨rfl, rfl⟩
    simp only [Option.map_none, pv]
    go_wp2
    go_ret
    exact ⟨rfl, rfl⟩
  · rw [hp] at HF
    obtain ⟨hx, _⟩ := pt_mem hp
    obtain ⟨_, _, _, p3⟩ := (h.pt x hx).cells
    have HL := Lib.hid (FiF.drops_any x.g x.r x.ws x.li x.dr w (h.pt x hx).q)
    clear h
    go_enter Try.func15, Try.ntmps15
    go_wp2_with fail
    refine HF.out.mono ?_
    rintro e w' ⟨rfl, rfl⟩
    simp only [Option.map_some, pv]
    go_wp2_with fail
    refine HL.out.mono ?_
    rintro e w' ⟨rfl, rfl⟩
    go_wp2
    go_ret
    exact ⟨rfl, rfl⟩
theorem odd_any (w : World) (h : Dev w d m od y a c lg L) : Calls Try.prog 21 #[.pointer (some ⟨d, 0, none⟩)] w fun e w' => e = .returned (.int .i64 od) ∧ w = w' := by
  obtain ⟨_, c1, _, _⟩ := h.cells
  clear h
  go_enter Try.func21, Try.ntmps21
  go_wp2
  go_ret
  exact ⟨rfl, rfl⟩
end
end Nc
end Go.Proofs.Ytdbkgpnbmafpmaa
namespace Go.Proofs.Ytdbkgpnbmafpmaa
namespace Bw

theorem wrap_nat (n : Nat) (h : n < 2 ^ 63) : IntKind.i64.wrap (n : Int) = n := by
  rw [IntKind.wrap_i64]; omega

theorem mask (x : Int) (i : Nat) (hi : i ≤ 62) : bits .and .i64 x (2 ^ i - 1) = x % 2 ^ i := by
  have hc : ((2 : Int) ^ i - 1) = ((2 ^ i - 1 : Nat) : Int) := by
    have := Nat.two_pow_pos i
    rw [Int.natCast_sub this]; simp
  have hlt : 2 ^ i ≤ 2 ^ 62 := Nat.pow_le_pow_right (by decide) hi
  have e1 : (BitVec.ofInt 64 ((2 ^ i - 1 : Nat) : Int)).toNat = 2 ^ i - 1 := by
    rw [BitVec.ofInt_natCast, BitVec.toNat_ofNat]; exact Nat.mod_eq_of_lt (by omega)
  rw [hc]
  show IntKind.i64.wrap ((BitVec.ofInt 64 x &&& BitVec.ofInt 64 ((2 ^ i - 1 : Nat) : Int)).toNat : Int) = _
  rw [BitVec.toNat_and, e1, Nat.and_two_pow_sub_one_eq_mod]
  have hb : (BitVec.ofInt 64 x).toNat % 2 ^ i < 2 ^ 63 := by
    have := Nat.mod_lt (BitVec.ofInt 64 x).toNat (Nat.two_pow_pos i)
    omega
  rw [wrap_nat _ hb, BitVec.toNat_ofInt, Int.natCast_emod]
  have : (((x % (2 ^ 64 : Nat)).toNat : Nat) : Int) = x % (2 ^ 64 : Nat) := Int.toNat_of_nonneg (Int.emod_nonneg _ (by decide))
  rw [this]
  have hd : ((2 ^ i : Nat) : Int) ∣ ((2 ^ 64 : Nat) : Int) := by
    exact Int.natCast_dvd_natCast.2 (Nat.pow_dvd_pow 2 (by omega))
  have := Int.emod_emod_of_dvd x hd
  rw [this]; simp

theorem and1 (x : Int) : bits .and .i64 x 1 = x % 2 := mask x 1 (by decide)
theorem and3 (x : Int) : bits .and .i64 x 3 = x % 4 := mask x 2 (by decide)
theorem and7 (x : Int) : bits .and .i64 x 7 = x % 8 := mask x 3 (by decide)
theorem and15 (x : Int) : bits .and .i64 x 15 = x % 16 := mask x 4 (by decide)
theorem and255 (x : Int) : bits .and .i64 x 255 = x % 256 := mask x 8 (by decide)
theorem and65535 (x : Int) : bits .and .i64 x 65535 = x % 65536 := mask x 16 (by decide)

theorem ofInt_nat (a : Nat) (ha : a < 2 ^ 63) : (BitVec.ofInt 64 (a : Int)).toNat = a := by
  rw [BitVec.ofInt_natCast, BitVec.toNat_ofNat]; exact Nat.mod_eq_of_lt (by omega)
theorem xor_nat (a b : Nat) (ha : a < 2 ^ 63) (hb : b < 2 ^ 63) : bits .xor .i64 (a : Int) (b : Int) = ((a ^^^ b : Nat) : Int) := by
  have hx : a ^^^ b < 2 ^ 63 := Nat.xor_lt_two_pow ha hb
  show IntKind.i64.wrap ((BitVec.ofInt 64 (a : Int) ^^^ BitVec.ofInt 64 (b : Int)).toNat : Int) = _
  rw [BitVec.toNat_xor, ofInt_nat a ha, ofInt_nat b hb, wrap_nat _ hx]
theorem or_nat (a b : Nat) (ha : a < 2 ^ 63) (hb : b < 2 ^ 63) : bits .or .i64 (a : Int) (b : Int) = ((a ||| b : Nat) : Int) := by
  have hx : a ||| b < 2 ^ 63 := Nat.or_lt_two_pow ha hb
  show IntKind.i64.wrap ((BitVec.ofInt 64 (a : Int) ||| BitVec.ofInt 64 (b : Int)).toNat : Int) = _
  rw [BitVec.toNat_or, ofInt_nat a ha, ofInt_nat b hb, wrap_nat _ hx]
theorem and_nat (a b : Nat) (ha : a < 2 ^ 63) (hb : b < 2 ^ 63) : bits .and .i64 (a : Int) (b : Int) = ((a &&& b : Nat) : Int) := by
  have hx : a &&& b < 2 ^ 63 := Nat.and_lt_two_pow _ hb
  show IntKind.i64.wrap ((BitVec.ofInt 64 (a : Int) &&& BitVec.ofInt 64 (b : Int)).toNat : Int) = _
  rw [BitVec.toNat_and, ofInt_nat a ha, ofInt_nat b hb, wrap_nat _ hx]

/-- The bits of two numbers of 63 bits, as a function of numbers. -/
def xorI (x y : Int) : Int := ((x.toNat ^^^ y.toNat : Nat) : Int)
theorem xor_in (x y : Int) (h : 0 ≤ x ∧ x ≤ 9223372036854775807 ∧ 0 ≤ y ∧ y ≤ 9223372036854775807) : bits .xor .i64 x y = xorI x y := by
  obtain ⟨a, rfl⟩ := Int.eq_ofNat_of_zero_le h.1
  obtain ⟨b, rfl⟩ := Int.eq_ofNat_of_zero_le h.2.2.1
  rw [xor_nat a b (by omega) (by omega)]; rfl
end Bw
end Go.Proofs.Ytdbkgpnbmafpmaa
namespace Go.Proofs.Ytdbkgpnbmafpmaa
namespace Pc
/-- Of the lowest k bits. -/
def pc : Nat → Nat → Nat
  | 0, _ => 0
  | k + 1, n => n % 2 + pc k (n / 2)
theorem pc_zero (k : Nat) : pc k 0 = 0 := by
  induction k with
  | zero => rfl
  | succ k ih => simp [pc, ih]
theorem and_odd (m : Nat) : (2 * m + 1) &&& (2 * m) = 2 * m := by
  have h1 : ((2 * m + 1) &&& (2 * m)) / 2 = m := by
    rw [Nat.and_div_two, show (2 * m + 1) / 2 = m from by omega, show 2 * m / 2 = m from by omega, Nat.and_self]
  have h2 : ((2 * m + 1) &&& (2 * m)) % 2 = 0 := by
    have := Nat.and_mod_two_pow (a := 2 * m + 1) (b := 2 * m) (n := 1)
    rw [show 2 ^ 1 = 2 from rfl] at this
    rw [this, show 2 * m % 2 = 0 from by omega, Nat.and_zero]
  omega
theorem and_even (m : Nat) (h : 0 < m) : (2 * m) &&& (2 * m - 1) = 2 * (m &&& (m - 1)) := by
  have h1 : ((2 * m) &&& (2 * m - 1)) / 2 = m &&& (m - 1) := by
    rw [Nat.and_div_two, show (2 * m) / 2 = m from by omega, show (2 * m - 1) / 2 = m - 1 from by omega]
  have h2 : ((2 * m) &&& (2 * m - 1)) % 2 = 0 := by
    have := Nat.and_mod_two_pow (a := 2 * m) (b := 2 * m - 1) (n := 1)
    rw [show 2 ^ 1 = 2 from rfl] at this
    rw [this, show 2 * m % 2 = 0 from by omega, Nat.zero_and]
  omega
theorem pc_strike (k : Nat) : ∀ n, 0 < n → n < 2 ^ k → pc k (n &&& (n - 1)) + 1 = pc k n := by
  induction k with
  | zero => intro n h0 h1; omega
  | succ k ih =>
    intro n h0 h1
    have hp : 2 ^ (k + 1) = 2 * 2 ^ k := by rw [Nat.pow_succ]; omega
    by_cases hodd : n % 2 = 1
    · obtain ⟨m, rfl⟩ : ∃ m, n = 2 * m + 1 := ⟨n / 2, by omega⟩
      rw [show 2 * m + 1 - 1 = 2 * m from by omega, and_odd]
      simp only [pc]
      rw [show 2 * m % 2 = 0 from by omega, show 2 * m / 2 = m from by omega, show (2 * m + 1) % 2 = 1 from by omega, show (2 * m + 1) / 2 = m from by omega]
      omega
    · obtain ⟨m, rfl⟩ : ∃ m, n = 2 * m := ⟨n / 2, by omega⟩
      rw [and_even m (by omega)]
      simp only [pc]
      rw [show 2 * (m &&& (m - 1)) % 2 = 0 from by omega, show 2 * (m &&& (m - 1)) / 2 = m &&& (m - 1) from by omega, show 2 * m % 2 = 0 from by omega, show 2 * m / 2 = m from by omega]
      have := ih m (by omega) (by omega)
      omega
theorem pc_le (k n : Nat) : pc k n ≤ k := by
  induction k generalizing n with
  | zero => simp [pc]
  | succ k ih => have := ih (n / 2); simp only [pc]; omega
end Pc
end Go.Proofs.Ytdbkgpnbmafpmaa
namespace Go.Proofs.Ytdbkgpnbmafpmaa
open Go.RowKit
attribute [local go_sem] Bw.and255 Bw.and65535
namespace Bi
open Sm Pc
open PlainAid (bt get_bt bt_nonneg bt_le)

theorem low_any (n : Int) (w : World) : Calls Try.prog 60 #[.int .i64 n] w fun e w' => e = .returned (.int .i64 (n % 256)) ∧ w = w' := by
  go_enter Try.func60, Try.ntmps60
  go_wp2
  go_ret
  exact ⟨rfl, rfl⟩
theorem high_any (n : Int) (w : World) : Calls Try.prog 59 #[.int .i64 n] w fun e w' => e = .returned (.int .i64 (n / 256 % 256)) ∧ w = w' := by
  go_enter Try.func59, Try.ntmps59
  go_wp2
  go_ret
  exact ⟨rfl, rfl⟩
theorem join (x y : Int) (hx0 : 0 ≤ x) (hx1 : x ≤ 255) (hy0 : 0 ≤ y) (hy1 : y ≤ 255) : bits .or .i64 x (y * 256) = x + 256 * y := by
  obtain ⟨a, rfl⟩ := Int.eq_ofNat_of_zero_le hx0
  obtain ⟨b, rfl⟩ := Int.eq_ofNat_of_zero_le hy0
  have := Bw.or_nat a (b * 256) (by omega) (by omega)
  rw [show (((b * 256 : Nat)) : Int) = (b : Int) * 256 from by omega] at this
  rw [this, Nat.or_comm, nat_join 8 (b * 256) a (by omega) (by omega)]
  omega
def IsText (l : List UInt8) (w : World) (e : Ending) (w' : World) : Prop := ∃ r : ByteArray, e = .returned (.string r) ∧ r.data.toList = l ∧ Below w.heap.size w w'
theorem two_bytes (w : World) (x y : Int) : (convert 90 9 (.slice (some ⟨w.heap.size, 0, none⟩) 2 2)).run Try.prog (w.alloc (.cells #[.int .u8 x, .int .u8 y] 5)) = .ok (.string (strOfNums [x, y])) (w.alloc (.cells #[.int .u8 x, .int .u8 y] 5)) := by
  refine run_convert_bytes_arg (P := Try.prog) _ 90 5 Try.underlying90 Try.underlying5 _ 0 2 2 [x, y] rfl ?_ 9 Try.underlying9
  intro i hi
  have : i = 0 ∨ i = 1 := by omega
  rcases this with rfl | rfl <;> simp
/-- A number's two bytes. -/
def putL (n : Int) : List UInt8 := [UInt8.ofNat (n % 256).toNat, UInt8.ofNat (n / 256 % 256).toNat]
theorem putL_of (n : Int) : (strOfNums [n % 256, n / 256 % 256]).data.toList = putL n := rfl
/-- Where a reader stands behind so many bytes more, and its error. -/
def rdAt (s : ByteArray) (a err n : Int) : Int := if err = 0 ∧ 0 ≤ n ∧ n ≤ s.size - a then a + n else a
def rdErr (s : ByteArray) (a err n : Int) : Int := if err ≠ 0 then err else if n < 0 then 2 else if s.size - a < n then 5 else 0
def rdText (s : ByteArray) (a err n : Int) : ByteArray := if err = 0 ∧ 0 ≤ n ∧ n ≤ s.size - a then s.extract a.toNat (a + n).toNat else ⟨#[]⟩
def Rd (w : World) (b : Nat) (s : ByteArray) (a err : Int) : Prop := Blk w b 111 #[.int .i64 err, .string s, .int .i64 a]
theorem Rd.cells {w : World} {b : Nat} {s : ByteArray} {a err : Int} (h : Rd w b s a err) :
    w.cell? ⟨b, 0, none⟩ = some (.int .i64 err) ∧ w.cell? ⟨b, 1, none⟩ = some (.string s) ∧ w.cell? ⟨b, 2, none⟩ = some (.int .i64 a) ∧ ∀ j, w.frozen? ⟨b, j, none⟩ = false :=
  ⟨h.cell 0, h.cell 1, h.cell 2, h.frozen⟩
theorem Rd.setErr {w : World} {b : Nat} {s : ByteArray} {a err : Int} (h : Rd w b s a err) (x : Int) : Rd (w.setCell ⟨b, 0, none⟩ (.int .i64 x)) b s a x := by
  have := Blk.set_ h 0 (.int .i64 x)
  simpa [Rd] using this
theorem Rd.setAt {w : World} {b : Nat} {s : ByteArray} {a err : Int} (h : Rd w b s a err) (x : Int) : Rd (w.setCell ⟨b, 2, none⟩ (.int .i64 x)) b s x err := by
  have := Blk.set_ h 2 (.int .i64 x)
  simpa [Rd] using this
def IsRd (b : Nat) (s : ByteArray) (a err : Int) (v : Value) (w : World) (e : Ending) (w' : World) : Prop := e = .returned v ∧ Rd w' b s a err ∧ Keeps [b] w w'
theorem new_any (s : ByteArray) (w : World) : Calls Try.prog 40 #[.string s] w fun e w' => e = .returned (.pointer (some ⟨w.heap.size, 0, none⟩)) ∧ Rd w' w.heap.size s 0 0 ∧ Keeps [] w w' := by
  go_enter Try.func40, Try.ntmps40
  go_wp2
  go_ret
  exact ⟨rfl, Blk.new _ _ _, (Keeps.refl _ _).alloc _⟩
theorem take_any (b : Nat) (s : ByteArray) (a err n : Int) (w : World) (h : Rd w b s a err) (ha : 0 ≤ a) (hs : a ≤ s.size) (hm : s.size ≤ 9223372036854775807) (hn : n ≤ 9223372036854775807) :
    Calls Try.prog 56 #[.pointer (some ⟨b, 0, none⟩), .int .i64 n] w (IsRd b s (rdAt s a err n) (rdErr s a err n) (.string (rdText s a err n)) w) := by
  obtain ⟨c0, c1, c2, cf⟩ := h.cells
  by_cases he : err = 0
  · subst he
    by_cases h0 : n < 0
    · have e1 : rdAt s a 0 n = a := by unfold rdAt; rw [if_neg (by omega)]
      have e2 : rdErr s a 0 n = 2 := by unfold rdErr; rw [if_neg (by omega), if_pos h0]
      have e3 : rdText s a 0 n = ⟨#[]⟩ := by unfold rdText; rw [if_neg (by omega)]
      rw [e1, e2, e3]
      clear e1 e2 e3
      go_enter Try.func56, Try.ntmps56
      go_wp2
      go_ret
      exact ⟨rfl, h.setErr 2, (Keeps.refl _ _).setCell (.inl (by simp)) _⟩
    · obtain ⟨k, rfl⟩ := Int.eq_ofNat_of_zero_le ha
      obtain ⟨m, rfl⟩ := Int.eq_ofNat_of_zero_le (show 0 ≤ n by omega)
      clear h0 ha
      by_cases h1 : (s.size : Int) - k < m
      · have e1 : rdAt s k 0 m = k := by unfold rdAt; rw [if_neg (by omega)]
        have e2 : rdErr s k 0 m = 5 := by unfold rdErr; rw [if_neg (by omega), if_neg (by omega), if_pos h1]
        have e3 : rdText s k 0 m = ⟨#[]⟩ := by unfold rdText; rw [if_neg (by omega)]
        rw [e1, e2, e3]
        clear e1 e2 e3
        go_enter Try.func56, Try.ntmps56
        go_wp2
        have hw : IntKind.i64.wrap ((s.size : Int) - k) = (s.size : Int) - k := IntWalk.i64_in _ (by omega)
        go_quiet (fail)
        clear hw
        go_wp2
        go_ret
        exact ⟨rfl, Rd.setErr (Blk.drewN h _) 5, ((Keeps.refl _ _).drewN _).setCell (.inl (by simp)) _⟩
      · have e1 : rdAt s k 0 m = k + m := by unfold rdAt; rw [if_pos (by omega)]
        have e2 : rdErr s k 0 m = 0 := by unfold rdErr; rw [if_neg (by omega), if_neg (by omega), if_neg h1]
        have e3 : rdText s k 0 m = s.extract k (k + m) := by unfold rdText; rw [if_pos (by omega)]; rfl
        rw [e1, e2, e3]
        clear e1 e2 e3
        have hkm : k + m ≤ s.size := by omega
        go_enter Try.func56, Try.ntmps56
        go_wp2
        have hw : IntKind.i64.wrap ((s.size : Int) - k) = (s.size : Int) - k := IntWalk.i64_in _ (by omega)
        go_quiet (fail)
        clear hw
        go_wp2
        have hw : IntKind.i64.wrap ((k : Int) + m) = (k : Int) + m := IntWalk.i64_in _ (by omega)
        have hw2 : (0 : Int) ≤ (k : Int) + m := by omega
        have hw3 : ((k : Int) + m).toNat = k + m := by omega
        go_quiet (fail)
        clear hw hw2 hw3
        go_wp2
        go_ret
        exact ⟨rfl, Rd.setAt (Blk.drewN h _) _, ((Keeps.refl _ _).drewN _).setCell (.inl (by simp)) _⟩
  · have e1 : rdAt s a err n = a := by unfold rdAt; rw [if_neg (by omega)]
    have e2 : rdErr s a err n = err := by unfold rdErr; rw [if_pos he]
    have e3 : rdText s a err n = ⟨#[]⟩ := by unfold rdText; rw [if_neg (by omega)]
    rw [e1, e2, e3]
    have hb : (err != 0) = true := by rw [bne_iff_ne]; exact he
    clear e1 e2 e3 he
    go_enter Try.func56, Try.ntmps56
    go_wp2
    go_ret
    exact ⟨rfl, h, Keeps.refl _ _⟩
end Bi
end Go.Proofs.Ytdbkgpnbmafpmaa
namespace Go.Proofs.Ytdbkgpnbmafpmaa
open Go.RowKit
attribute [local go_sem] Bw.and255 Bw.and65535
namespace Bi
open Sm Pc
open PlainAid (bt get_bt bt_nonneg bt_le)

theorem Rd.alloc {w : World} {b : Nat} {s : ByteArray} {a err : Int} (h : Rd w b s a err) (o : Obj) : Rd (w.alloc o) b s a err := Blk.alloc h o
theorem Rd.keeps {S : List Nat} {w w' : World} {b : Nat} {s : ByteArray} {a err : Int} (h : Rd w b s a err) (hk : Keeps S w w') (hb : b ∉ S) : Rd w' b s a err := Blk.keeps h hk hb
theorem Rd.drawn {w w' : World} {b : Nat} {s : ByteArray} {a err : Int} (h : Rd w b s a err) (hd : Drawn w w') : Rd w' b s a err := Blk.drawn h hd
theorem Rd.drewN {w : World} {b : Nat} {s : ByteArray} {a err : Int} (h : Rd w b s a err) (n : Nat) : Rd (w.drewN n) b s a err := Blk.drewN h n
theorem Rd.lt {w : World} {b : Nat} {s : ByteArray} {a err : Int} (h : Rd w b s a err) : b < w.heap.size := Blk.lt h
theorem Rd.drew {w : World} {b : Nat} {s : ByteArray} {a err : Int} (h : Rd w b s a err) : Rd w.drew b s a err := Blk.drew h
def rdByte (s : ByteArray) (a err : Int) : Int := if err = 0 ∧ 1 ≤ s.size - a then bt s a.toNat else 0
def rdTwo (s : ByteArray) (a err : Int) : Int := if err = 0 ∧ 2 ≤ s.size - a then bt s a.toNat + 256 * bt s (a.toNat + 1) else 0
theorem text_no (s : ByteArray) (a err n : Int) (h : ¬ (err = 0 ∧ 0 ≤ n ∧ n ≤ s.size - a)) : rdText s a err n = ⟨#[]⟩ := by unfold rdText; rw [if_neg h]
theorem text_yes (s : ByteArray) (k m : Nat) (h : (m : Int) ≤ s.size - (k : Int)) : rdText s k 0 m = s.extract k (k + m) := by unfold rdText; rw [if_pos (by omega)]; rfl
theorem bt_extract (s : ByteArray) (k m j : Nat) (h : k + m ≤ s.size) (hj : j < m) : bt (s.extract k (k + m)) j = bt s (k + j) := by
  have h1 : j < (s.extract k (k + m)).size := by simp; omega
  rw [bt_get _ _ h1, bt_get _ _ (by omega)]
  congr 2
  exact ByteArray.getElem_extract h1
theorem ex_size (s : ByteArray) (k m : Nat) (h : k + m ≤ s.size) : (s.extract k (k + m)).size = m := by simp; omega

theorem byte_any (b : Nat) (s : ByteArray) (a err : Int) (w : World) (h : Rd w b s a err) (ha : 0 ≤ a) (hs : a ≤ s.size) (hm : s.size ≤ 9223372036854775807) :
    Calls Try.prog 41 #[.pointer (some ⟨b, 0, none⟩)] w (IsRd b s (rdAt s a err 1) (rdErr s a err 1) (.int .i64 (rdByte s a err)) w) := by
  by_cases hok : err = 0 ∧ (1 : Int) ≤ s.size - a
  · obtain ⟨rfl, h1⟩ := hok
    obtain ⟨k, rfl⟩ := Int.eq_ofNat_of_zero_le ha
    have e1 : rdByte s k 0 = bt s k := by unfold rdByte; rw [if_pos ⟨rfl, h1⟩]; rfl
    have ht : rdText s k 0 1 = s.extract k (k + 1) := text_yes s k 1 h1
    have hx := bt_extract s k 1 0 (by omega) (by decide)
    have hz := ex_size s k 1 (by omega)
    have b0 := bt_nonneg s k
    have b1 := bt_le s k
    have HT := Lib.hid (take_any b s k 0 1 w h ha hs hm (by decide))
    have hg := get_bt (s.extract k (k + 1))
    have hne : (s.extract k (k + 1)).toList.isEmpty = false := snonempty fun he => by
      have := congrArg List.length he
      simp only [Array.length_toList] at this
      change (s.extract k (k + 1)).size = 0 at this
      omega
    rw [e1]
    clear e1
    go_enter Try.func41, Try.ntmps41
    go_wp2_with fail
    refine HT.out.mono ?_
    rw [ht]
    clear ht HT
    generalize s.extract k (k + 1) = x at *
    rintro e w1 ⟨rfl, h1', hk⟩
    have hz0 : 0 < x.size := by omega
    rw [Nat.add_zero] at hx
    clear hz
    go_wp2
    go_ret
    exact ⟨rfl, h1', hk⟩
  · have e1 : rdByte s a err = 0 := by unfold rdByte; rw [if_neg hok]
    have ht : rdText s a err 1 = ⟨#[]⟩ := text_no _ _ _ _ (by omega)
    have HT := take_any b s a err 1 w h ha hs hm (by decide)
    rw [ht] at HT
    have HT2 := Lib.hid HT
    rw [e1]
    clear e1 ht HT hok
    go_enter Try.func41, Try.ntmps41
    go_wp2_with fail
    refine HT2.out.mono ?_
    rintro e w1 ⟨rfl, h1', hk⟩
    go_wp2
    go_ret
    exact ⟨rfl, h1', hk⟩

def rdLeft (s : ByteArray) (a err : Int) : Int := if err = 0 then s.size - a else 0
theorem err_any (b : Nat) (s : ByteArray) (a err : Int) (w : World) (h : Rd w b s a err) :
    Calls Try.prog 43 #[.pointer (some ⟨b, 0, none⟩)] w (Quiet (.int .i64 err) w) := by
  obtain ⟨c0, c1, c2, cf⟩ := h.cells
  go_enter Try.func43, Try.ntmps43
  go_wp2
  go_ret
  exact ⟨rfl, Drawn.refl _⟩
end Bi
end Go.Proofs.Ytdbkgpnbmafpmaa
namespace Go.Proofs.Ytdbkgpnbmafpmaa
open Go.RowKit
attribute [local go_sem] Bw.and255 Bw.and65535
namespace Bi
open Sm Pc
open PlainAid (bt get_bt bt_nonneg bt_le)

theorem tmod_facts (n b : Int) (h0 : 1 ≤ b) : -b < n.tmod b ∧ n.tmod b < b ∧ (n.tmod b < 0 → n.tmod b + b = n % b) ∧ (0 ≤ n.tmod b → n.tmod b = n % b) := by
  have hb : -b < n.tmod b ∧ n.tmod b < b := by
    rcases Int.le_total 0 n with h | h
    · rw [Int.tmod_eq_emod_of_nonneg h]
      have := Int.emod_nonneg n (show b ≠ 0 by omega)
      have := Int.emod_lt_of_pos n (show 0 < b by omega)
      omega
    · have e : n.tmod b = -((-n) % b) := by
        rw [← Int.tmod_eq_emod_of_nonneg (show 0 ≤ -n by omega), Int.neg_tmod]; omega
      have := Int.emod_nonneg (-n) (show b ≠ 0 by omega)
      have := Int.emod_lt_of_pos (-n) (show 0 < b by omega)
      omega
  have hm : n % b = n.tmod b % b := by
    have h := Int.mul_tdiv_add_tmod n b
    conv => lhs; rw [← h]
    rw [Int.add_comm, Int.add_mul_emod_self_left]
  refine ⟨hb.1, hb.2, fun h => ?_, fun h => ?_⟩
  · rw [hm, ← Int.add_emod_right, Int.emod_eq_of_lt (by omega) (by omega)]
  · rw [hm, Int.emod_eq_of_lt (by omega) (by omega)]
end Bi
end Go.Proofs.Ytdbkgpnbmafpmaa
namespace Go.Proofs.Ytdbkgpnbmafpmaa
open Go.RowKit
attribute [local go_sem] Bw.and255 Bw.and65535
namespace Bi
open Sm Pc
open PlainAid (bt get_bt bt_nonneg bt_le)

theorem put513 : putL 513 = [1, 2] := by decide +kernel
theorem l1 : rdAt ⟨#[1, 2, 3]⟩ 0 0 2 = 2 ∧ rdErr ⟨#[1, 2, 3]⟩ 0 0 2 = 0 ∧ rdTwo ⟨#[1, 2, 3]⟩ 0 0 = 513 := by decide +kernel
theorem l2 : rdAt ⟨#[1, 2, 3]⟩ 2 0 1 = 3 ∧ rdErr ⟨#[1, 2, 3]⟩ 2 0 1 = 0 ∧ rdByte ⟨#[1, 2, 3]⟩ 2 0 = 3 := by decide +kernel
theorem l3 : rdAt ⟨#[1, 2, 3]⟩ 3 0 1 = 3 ∧ rdErr ⟨#[1, 2, 3]⟩ 3 0 1 = 5 ∧ rdByte ⟨#[1, 2, 3]⟩ 3 0 = 0 := by decide +kernel
theorem live_r2 (b : Nat) (w : World) (h : Rd w b ⟨#[1, 2, 3]⟩ 2 0) : Calls Try.prog 41 #[.pointer (some ⟨b, 0, none⟩)] w (IsRd b ⟨#[1, 2, 3]⟩ 3 0 (.int .i64 3) w) := by
  have := byte_any b _ 2 0 w h (by decide) (by decide) (by decide)
  rw [l2.1, l2.2.1, l2.2.2] at this
  exact this
theorem live_r3 (b : Nat) (w : World) (h : Rd w b ⟨#[1, 2, 3]⟩ 3 0) : Calls Try.prog 41 #[.pointer (some ⟨b, 0, none⟩)] w (IsRd b ⟨#[1, 2, 3]⟩ 3 5 (.int .i64 0) w) := by
  have := byte_any b _ 3 0 w h (by decide) (by decide) (by decide)
  rw [l3.1, l3.2.1, l3.2.2] at this
  exact this
end Bi
end Go.Proofs.Ytdbkgpnbmafpmaa
namespace Go.Proofs.Ytdbkgpnbmafpmaa
open Go.RowKit
namespace Sm

/-- Block b holds these bytes at its head, and they may be written. -/
def Bytes (w : World) (b : Nat) (l : List UInt8) : Prop := ∀ j, j < l.length → w.cell? ⟨b, j, none⟩ = some (.int .u8 ((l.getD j 0).toNat : Int)) ∧ w.frozen? ⟨b, j, none⟩ = false
theorem Bytes.cell {w : World} {b : Nat} {l : List UInt8} (h : Bytes w b l) (j : Nat) (hj : j < l.length) : w.cell? ⟨b, j, none⟩ = some (.int .u8 ((l.getD j 0).toNat : Int)) := (h j hj).1
theorem Bytes.free {w : World} {b : Nat} {l : List UInt8} (h : Bytes w b l) (j : Nat) (hj : j < l.length) : w.frozen? ⟨b, j, none⟩ = false := (h j hj).2
theorem Bytes.drew {w : World} {b : Nat} {l : List UInt8} (h : Bytes w b l) : Bytes w.drew b l := fun j hj => by
  have := h j hj
  simpa using this
theorem Bytes.below {w w' : World} {b : Nat} {l : List UInt8} (h : Bytes w b l) (hb : Below w.heap.size w w') (hlt : b < w.heap.size) : Bytes w' b l := fun j hj => by
  rw [hb.cell (p := ⟨b, j, none⟩) hlt, hb.frozen (p := ⟨b, j, none⟩) hlt]
  exact h j hj
theorem Bytes.set {w : World} {b : Nat} {l : List UInt8} (h : Bytes w b l) (i : Nat) (hi : i < l.length) (x : Int) (c : UInt8) (hx : x = c.toNat) : Bytes (w.setCell ⟨b, i, none⟩ (.int .u8 x)) b (l.set i c) := fun j hj => by
  simp only [List.length_set] at hj
  refine ⟨?_, by rw [World.frozen?_setCell]; exact h.free j hj⟩
  by_cases e : j = i
  · subst e
    rw [World.cell?_setCell_same w _ _ (h.cell j hj), List.getD_eq_getElem?_getD, List.getElem?_set_self hj, hx]; rfl
  · rw [World.cell?_setCell_other w _ _ _ (by intro hh; injection hh; omega), h.cell j hj]
    simp only [List.getD_eq_getElem?_getD]
    rw [List.getElem?_set_ne (by omega)]
/-- A text as a new block. -/
theorem bytes_made {P : Program} (w : World) (src dst e : TypeId) (s : ByteArray) (hs : P.underlying src = some .string) (hd : P.underlying dst = some (.slice e)) (he : P.underlying e = some (.int .u8)) :
    ∃ cap o, (convert src dst (.string s)).run P w = .ok (.slice (some ⟨w.heap.size, 0, none⟩) s.size cap) (w.drew.alloc o) ∧ Bytes (w.drew.alloc o) w.heap.size s.data.toList := by
  refine ⟨_, _, run_bytes_of_string w src dst e s hs hd he, fun j hj => ?_⟩
  have hj' : j < s.data.size := by simpa using hj
  have hz : w.drew.heap.size = w.heap.size := rfl
  have hsz : s.data.size ≤ (bytesRow s (grownCap w s.size 0 e)).size := by unfold bytesRow; simp
  constructor
  · have := World.cell?_alloc_mark w.drew (bytesRow s (grownCap w s.size 0 e)) e ((bytesRow s (grownCap w s.size 0 e)).size, (bytesRow s (grownCap w s.size 0 e)).size + 1) j
    rw [hz] at this
    rw [this, bytesRow_at s _ j hj']
    simp [List.getD_eq_getElem?_getD, Array.getElem?_eq_getElem hj']
  · have := World.frozen?_alloc_mark w.drew (bytesRow s (grownCap w s.size 0 e)) e (bytesRow s (grownCap w s.size 0 e)).size ((bytesRow s (grownCap w s.size 0 e)).size + 1) j
    rw [hz] at this
    rw [this]
    simp
    omega
/-- Such a block as a text. -/
theorem bytes_back {P : Program} (w : World) (src dst e : TypeId) (b n cap : Nat) (l : List UInt8) (hs : P.underlying src = some (.slice e)) (he : P.underlying e = some (.int .u8)) (hd : P.underlying dst = some .string)
    (h : Bytes w b l) (hn : l.length = n) : (convert src dst (.slice (some ⟨b, 0, none⟩) n cap)).run P w = .ok (.string ⟨l.toArray⟩) w := by
  subst hn
  refine run_convert_bytes_back w src dst e ⟨b, 0, none⟩ cap l hs he hd fun j hj => ?_
  have : (⟨b, 0, none⟩ : Addr).add j = ⟨b, j, none⟩ := by unfold Addr.add; split <;> simp_all
  rw [this, h.cell j hj]
  simp [List.getD_eq_getElem?_getD, hj]
end Sm
end Go.Proofs.Ytdbkgpnbmafpmaa
