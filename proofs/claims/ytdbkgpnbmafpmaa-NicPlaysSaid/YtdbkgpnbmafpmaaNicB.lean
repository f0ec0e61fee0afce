/- A device in memory; its simple methods: Owner, find, Waits, Drops, Odd. -/
import Derived.Test.YtdbkgpnbmafpmaaNicA
import Derived.Test.YtdbkgpnbmafpmaaApp
namespace Go.Proofs.Ytdbkgpnbmafpmaa
open Go.RowKit Go.Maps
namespace Nc
open Sm
/-- A port: its owner, address, limit; its block, its queue's, its room's; what waits; what was dropped. -/
structure Pt where
  ow : Int
  ma : Int
  li : Int
  p : Nat
  g : Nat
  r : Nat
  ws : List FiF.It
  dr : Int
/-- What was sent. -/
structure Sn where
  ti : Int
  ow : Int
  da : ByteArray
def snc (x : Sn) : List Value := [.int .i64 x.ti, .int .i64 x.ow, .string x.da]
def sflat (l : List Sn) : List Value := l.flatMap snc
def fnd (L : List Pt) (k : Int) : Option Nat := (L.find? (fun x => x.ow == k)).map (·.p)
def own (L : List Pt) (mac : Int) : Int := ((L.find? (fun x => x.ma == mac)).map (·.ow)).getD 0
def bks (x : Pt) : List Nat := [x.p, x.g, x.r]
structure PtOk (w : World) (x : Pt) : Prop where
  b : Blk w x.p 74 #[.int .i64 x.ow, .int .i64 x.ma, .int .i64 x.li, .pointer (some ⟨x.g, 0, none⟩)]
  q : FiF.Qu w x.g x.r x.ws x.li x.dr
  o1 : 1 ≤ x.ow
  o2 : x.ow ≤ 8
  m1 : 0 ≤ x.ma
  m2 : x.ma ≤ 255
  l1 : 0 ≤ x.li
  l2 : x.li ≤ 16
  pg : x.p ≠ x.g
  pr : x.p ≠ x.r
/-- The log: nil, or a row in block y. -/
def Lg (w : World) (d y : Nat) (a : Option Addr) (c : Nat) (l : List Sn) : Prop :=
  (a = none ∧ c = 0 ∧ l = [] ∧ y = d) ∨ (a = some ⟨y, 0, none⟩ ∧ w.ownsRow 0 50 3 (.slice a l.length c) l.length (sflat l))
structure Apart (x y : Pt) : Prop where
  ow : x.ow ≠ y.ow
  ma : x.ma ≠ y.ma
  bk : ∀ b ∈ bks x, b ∉ bks y
structure Dev (w : World) (d m : Nat) (od : Int) (y : Nat) (a : Option Addr) (c : Nat) (lg : List Sn) (L : List Pt) : Prop where
  b : Blk w d 68 #[.map (some m), .int .i64 od, .slice a lg.length c]
  mp : MapP w m L.length (fnd L)
  lg : Lg w d y a c lg
  pt : ∀ x ∈ L, PtOk w x
  ap : L.Pairwise Apart
  fr : ∀ x ∈ L, ∀ b ∈ bks x, b ≠ d ∧ b ≠ m ∧ b ≠ y
  dm : d ≠ m
  ym : y ≠ m
  ln : L.length ≤ 8
/-- The blocks of a device. -/
def foot (d m y : Nat) (L : List Pt) : List Nat := d :: m :: y :: L.flatMap bks
section
variable {w w' : World} {d m y c : Nat} {od : Int} {a : Option Addr} {lg : List Sn} {L : List Pt} {S : List Nat} {x : Pt}
theorem mem_foot {b : Nat} : b ∈ foot d m y L ↔ b = d ∨ b = m ∨ b = y ∨ ∃ x ∈ L, b ∈ bks x := by simp [foot, List.mem_flatMap]
theorem Lg.keeps (h : Lg w d y a c lg) (hk : Keeps S w w') (hy : y ∉ S) : Lg w' d y a c lg := by
  rcases h with h | ⟨rfl, h⟩
  · exact .inl h
  · exact .inr ⟨rfl, ownsRow_keeps h hk (fun k e => by simp [Value.ownBlock] at e; subst e; exact hy)⟩
theorem PtOk.keeps (h : PtOk w x) (hk : Keeps S w w') (hS : ∀ b ∈ bks x, b ∉ S) : PtOk w' x :=
  ⟨h.b.keeps hk (hS _ (by simp [bks])), h.q.keeps hk (hS _ (by simp [bks])) (hS _ (by simp [bks])), h.o1, h.o2, h.m1, h.m2, h.l1, h.l2, h.pg, h.pr⟩
theorem Dev.keeps (h : Dev w d m od y a c lg L) (hk : Keeps S w w') (hS : ∀ b ∈ foot d m y L, b ∉ S) : Dev w' d m od y a c lg L :=
  ⟨h.b.keeps hk (hS _ (by simp [foot])), h.mp.keeps hk (hS _ (by simp [foot])), h.lg.keeps hk (hS _ (by simp [foot])), fun x hx => (h.pt x hx).keeps hk (fun b hb => hS b (mem_foot.2 (.inr (.inr (.inr ⟨x, hx, hb⟩))))), h.ap, h.fr, h.dm, h.ym, h.ln⟩
theorem Dev.kp (h : Dev w d m od y a c lg L) (hk : Keeps [] w w') : Dev w' d m od y a c lg L := h.keeps hk (by simp)
theorem Lg.lt (h : Lg w d y a c lg) (hd : d < w.heap.size) : y < w.heap.size := by
  rcases h with ⟨_, _, _, rfl⟩ | ⟨rfl, h⟩
  · exact hd
  · exact (h.lt y rfl).2
theorem Dev.lt (h : Dev w d m od y a c lg L) : ∀ b ∈ foot d m y L, b < w.heap.size := by
  intro b hb
  rcases mem_foot.1 hb with rfl | rfl | rfl | ⟨x, hx, hb⟩
  · exact h.b.lt
  · exact h.mp.lt
  · exact h.lg.lt h.b.lt
  · have hp := h.pt x hx
    simp only [bks, List.mem_cons, List.not_mem_nil, or_false] at hb
    rcases hb with rfl | rfl | rfl
    · exact hp.b.lt
    · exact hp.q.lt.1
    · exact hp.q.lt.2
theorem Dev.cells (h : Dev w d m od y a c lg L) : w.cell? ⟨d, 0, none⟩ = some (.map (some m)) ∧ w.cell? ⟨d, 1, none⟩ = some (.int .i64 od) ∧ w.cell? ⟨d, 2, none⟩ = some (.slice a lg.length c) ∧ ∀ i, w.frozen? ⟨d, i, none⟩ = false := ⟨h.b.cell 0, h.b.cell 1, h.b.cell 2, h.b.frozen⟩
theorem PtOk.cells (h : PtOk w x) : w.cell? ⟨x.p, 0, none⟩ = some (.int .i64 x.ow) ∧ w.cell? ⟨x.p, 1, none⟩ = some (.int .i64 x.ma) ∧ w.cell? ⟨x.p, 2, none⟩ = some (.int .i64 x.li) ∧ w.cell? ⟨x.p, 3, none⟩ = some (.pointer (some ⟨x.g, 0, none⟩)) := ⟨h.b.cell 0, h.b.cell 1, h.b.cell 2, h.b.cell 3⟩
/-- Whose port it is. -/
theorem fnd_some {k : Int} {p : Nat} (h : fnd L k = some p) : ∃ x ∈ L, x.ow = k ∧ x.p = p ∧ L.find? (fun x => x.ow == k) = some x := by
  unfold fnd at h
  rcases he : L.find? (fun x => x.ow == k) with _ | x
  · rw [he] at h; cases h
  · rw [he] at h
    simp at h
    exact ⟨x, List.mem_of_find?_eq_some he, by simpa using List.find?_some he, h, he⟩
theorem fnd_none {k : Int} (h : fnd L k = none) : ∀ x ∈ L, x.ow ≠ k := by
  unfold fnd at h
  rcases he : L.find? (fun x => x.ow == k) with _ | x
  · intro x hx e
    have := List.find?_eq_none.1 he x hx
    simp [e] at this
  · rw [he] at h; cases h
theorem pw_ow (h : L.Pairwise Apart) : ∀ x ∈ L, ∀ z ∈ L, x.ow = z.ow → x = z := by
  intro x hx z hz e
  obtain ⟨i, hi, rfl⟩ := List.getElem_of_mem hx
  obtain ⟨j, hj, rfl⟩ := List.getElem_of_mem hz
  rw [List.pairwise_iff_getElem] at h
  rcases Nat.lt_trichotomy i j with h1 | h1 | h1
  · exact absurd e (h i j hi hj h1).ow
  · subst h1; rfl
  · exact absurd e.symm (h j i hj hi h1).ow
theorem pw_ma (h : L.Pairwise Apart) : ∀ x ∈ L, ∀ z ∈ L, x.ma = z.ma → x = z := by
  intro x hx z hz e
  obtain ⟨i, hi, rfl⟩ := List.getElem_of_mem hx
  obtain ⟨j, hj, rfl⟩ := List.getElem_of_mem hz
  rw [List.pairwise_iff_getElem] at h
  rcases Nat.lt_trichotomy i j with h1 | h1 | h1
  · exact absurd e (h i j hi hj h1).ma
  · subst h1; rfl
  · exact absurd e.symm (h j i hj hi h1).ma
theorem fnd_of (h : L.Pairwise Apart) (hx : x ∈ L) : fnd L x.ow = some x.p := by
  rcases he : fnd L x.ow with _ | p
  · exact absurd rfl (fnd_none he x hx)
  · obtain ⟨z, hz, e, rfl, _⟩ := fnd_some he
    rw [pw_ow h x hx z hz e.symm]
theorem own_of (h : L.Pairwise Apart) (hx : x ∈ L) : own L x.ma = x.ow := by
  unfold own
  rcases he : L.find? (fun z => z.ma == x.ma) with _ | z
  · have := List.find?_eq_none.1 he x hx
    simp at this
  · have h1 := List.mem_of_find?_eq_some he
    have h2 : z.ma = x.ma := by simpa using List.find?_some he
    rw [he]
    show z.ow = x.ow
    rw [pw_ma h z h1 x hx h2]
theorem own_no {mac : Int} (h : ∀ x ∈ L, x.ma ≠ mac) : own L mac = 0 := by
  unfold own
  rw [List.find?_eq_none.2 (fun x hx => by simpa using h x hx)]
  rfl
end
theorem may_any (o n k : Int) (w : World) : Calls Try.prog 25 #[.agg #[.int .i64 o, .int .i64 n, .int .i64 k]] w fun e w' => e = .returned (.bool (decide (1 ≤ o ∧ o ≤ 8 ∧ 0 ≤ n ∧ n ≤ 255 ∧ 0 ≤ k ∧ k ≤ 16))) ∧ Keeps [] w w' := by
  by_cases h1 : 1 ≤ o
  · by_cases h2 : o ≤ 8
    · by_cases h3 : 0 ≤ n
      · by_cases h4 : n ≤ 255
        · by_cases h5 : 0 ≤ k
          · by_cases h6 : k ≤ 16
            all_goals
              go_enter Try.func25, Try.ntmps25
              go_wp2
              go_ret
              exact ⟨by first | (rw [decide_eq_true (by omega)]; rfl) | (rw [decide_eq_false (by omega)]; rfl), (Keeps.refl _ _).alloc _⟩
          · go_enter Try.func25, Try.ntmps25
            go_wp2
            go_ret
            exact ⟨by first | (rw [decide_eq_true (by omega)]; rfl) | (rw [decide_eq_false (by omega)]; rfl), (Keeps.refl _ _).alloc _⟩
        · go_enter Try.func25, Try.ntmps25
          go_wp2
          go_ret
          exact ⟨by first | (rw [decide_eq_true (by omega)]; rfl) | (rw [decide_eq_false (by omega)]; rfl), (Keeps.refl _ _).alloc _⟩
      · go_enter Try.func25, Try.ntmps25
        go_wp2
        go_ret
        exact ⟨by first | (rw [decide_eq_true (by omega)]; rfl) | (rw [decide_eq_false (by omega)]; rfl), (Keeps.refl _ _).alloc _⟩
    · go_enter Try.func25, Try.ntmps25
      go_wp2
      go_ret
      exact ⟨by first | (rw [decide_eq_true (by omega)]; rfl) | (rw [decide_eq_false (by omega)]; rfl), (Keeps.refl _ _).alloc _⟩
  · go_enter Try.func25, Try.ntmps25
    go_wp2
    go_ret
    exact ⟨by first | (rw [decide_eq_true (by omega)]; rfl) | (rw [decide_eq_false (by omega)]; rfl), (Keeps.refl _ _).alloc _⟩
section
variable {d m y c : Nat} {od : Int} {a : Option Addr} {lg : List Sn} {L : List Pt}
set_option maxRecDepth 100000 in
theorem owner_any (mac : Int) (w : World) (h : Dev w d m od y a c lg L) : Calls Try.prog 23 #[.pointer (some ⟨d, 0, none⟩), .int .i64 mac] w fun e w' => e = .returned (.int .i64 (own L mac)) ∧ w = w' := by
  obtain ⟨c0, _, _, _⟩ := h.cells
  have H := Lib.hid h
  clear h
  go_enter Try.func23, Try.ntmps23
  go_wp2_with fail
  go_loopw [5] (fun i wr => ∃ k : Nat, 1 ≤ k ∧ k ≤ 9 ∧ i = .int .i64 k ∧ wr = w ∧ ∀ x ∈ L, x.ma = mac → (k : Int) ≤ x.ow) (fun i _ => 9 - (intOf i).toNat)
  case atStart => exact ⟨1, by omega, by omega, rfl, rfl, fun x hx _ => (H.out.pt x hx).o1⟩
  case round =>
    obtain ⟨k, hk1, hk9, rfl, rfl, hno⟩ := hrel
    have HN := Lib.hid hno
    clear hno
    by_cases hk8 : k ≤ 8
    · have hlk := H.out.mp.look (k : Int) (WalkArith.wf_i64 (by omega))
      rcases hf : fnd L (k : Int) with _ | p
      · rw [hf] at hlk
        have hN := fnd_none hf
        have HF := Lib.hid hN
        clear hN hf
        simp only [pv] at hlk
        go_wp2
        go_roundw
        case rel => exact ⟨k + 1, by omega, by omega, by go_num, trivial, fun x hx he => by have := HN.out x hx he; have := HF.out x hx; omega⟩
        case measure => simp [intOf]; omega
      · obtain ⟨x, hx, hxo, hxp, _⟩ := fnd_some hf
        rw [hf] at hlk
        simp only [pv] at hlk
        obtain ⟨p0, p1, _, _⟩ := (H.out.pt x hx).cells
        rw [hxp] at p0 p1
        by_cases hm : x.ma = mac
        · have ho := own_of H.out.ap hx
          rw [hm, hxo] at ho
          have HO := Lib.hid ho
          rw [hm] at p1
          clear ho hf hm hxo hxp hx p0
          go_wp2
          go_ret
          exact ⟨by rw [HO.out]; rfl, rfl⟩
        · have hm2 : (x.ma == mac) = false := by simpa using hm
          have HE : Hid (∀ z ∈ L, z.ma = mac → z.ow ≠ (k : Int)) := Lib.hid (fun z hz hzm e => by
            have := pw_ow H.out.ap z hz x hx (e.trans hxo.symm)
            subst this
            exact hm hzm)
          generalize x.ma = xm at *
          clear hf hxo hxp p0 hm hx
          go_wp2
          go_roundw
          case rel => exact ⟨k + 1, by omega, by omega, by go_num, trivial, fun x hx he => by have := HN.out x hx he; have := HE.out x hx he; omega⟩
          case measure => simp [intOf]; omega
    · obtain rfl : k = 9 := by omega
      have ho : own L mac = 0 := own_no (fun x hx e => by have := HN.out x hx e; have := (H.out.pt x hx).o2; omega)
      have HO := Lib.hid ho
      clear ho
      go_wp2
      go_ret
      exact ⟨by rw [HO.out]; rfl, rfl⟩
theorem owner_nil (mac : Int) (w : World) : Calls Try.prog 23 #[.pointer none, .int .i64 mac] w fun e w' => e = .returned (.int .i64 0) ∧ w = w' := by
  go_enter Try.func23, Try.ntmps23
  go_wp2
  go_loopw [5] (fun i wr => i = .int .i64 1 ∧ wr = w) (fun _ _ => 0)
  case atStart => exact ⟨rfl, rfl⟩
  case round =>
    obtain ⟨rfl, rfl⟩ := hrel
    go_wp2
    go_ret
    exact ⟨rfl, rfl⟩
theorem find_any (k : Int) (w : World) (h : Dev w d m od y a c lg L) (hk : (Lit.int .i64 k).wf = true) : Calls Try.prog 30 #[.pointer (some ⟨d, 0, none⟩), .int .i64 k] w fun e w' => e = .returned (.tuple #[pv (fnd L k), .int .i64 (match fnd L k with | none => 7 | some _ => 0)]) ∧ w = w' := by
  obtain ⟨c0, _, _, _⟩ := h.cells
  have hlk := h.mp.look k hk
  clear h
  rcases hf : fnd L k with _ | p
  · rw [hf] at hlk
    simp only [pv] at hlk ⊢
    clear hf
    go_enter Try.func30, Try.ntmps30
    go_wp2
    refine bodyPost_ret (v := .tuple #[.pointer none, .int .i64 7]) (by simp [results, Try.results30, go_sem]) rfl ?_
    exact ⟨rfl, rfl⟩
  · rw [hf] at hlk
    simp only [pv] at hlk ⊢
    clear hf
    go_enter Try.func30, Try.ntmps30
    go_wp2
    refine bodyPost_ret (v := .tuple #[.pointer (some ⟨p, 0, none⟩), .int .i64 0]) (by simp [results, Try.results30, go_sem]) rfl ?_
    exact ⟨rfl, rfl⟩
theorem find_nil (k : Int) (w : World) : Calls Try.prog 30 #[.pointer none, .int .i64 k] w fun e w' => e = .returned (.tuple #[.pointer none, .int .i64 1]) ∧ w = w' := by
  go_enter Try.func30, Try.ntmps30
  go_wp2
  refine bodyPost_ret (v := .tuple #[.pointer none, .int .i64 1]) (by simp [results, Try.results30, go_sem]) rfl ?_
  exact ⟨rfl, rfl⟩
end
end Nc
end Go.Proofs.Ytdbkgpnbmafpmaa
