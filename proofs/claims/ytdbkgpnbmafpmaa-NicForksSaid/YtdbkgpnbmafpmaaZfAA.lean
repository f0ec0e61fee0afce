/- Small lemmas for walks: texts held against each other, worlds that only drew, worlds below which nothing turned. Memory: a block that is known whole, and what a call keeps: all that was there but some blocks that it names. Queues of campanile/frame.Frame: what a queue is in memory; where a thing stands; what a queue tells. For regions that draw their order, walked by hand: an operation that is left out; a condition that asks nothing. For regions that draw their order, walked by hand: a stronger condition from some operation on. Results that lie in a cell of their own. Queues of campanile/frame.Frame: the i'th thing; the first thing, that goes. -/
import Derived.Test.YtdbkgpnbmafpmaaProg
import Derived.WalkKit
import Derived.WalkLawsBesides
import Derived.WalkSpells
import Derived.PlainAid
import Derived.Outline
import Derived.Lib.Hide
import Derived.Handy
import Derived.Deep.QuietTactic
import Derived.BigQuiet
import Derived.Laws.BytesArg
import Derived.Deep.Draws
import Derived.Laws.Rows
import Derived.Deep.MidRow
import Derived.Deep.RegionHeld3
namespace Go.Proofs.Ytdbkgpnbmafpmaa
open Go.RowKit
namespace Sm

theorem seq_true {r s : ByteArray} (h : r.data.toList = s.data.toList) : (r.toList == s.toList) = true := by
  rw [ByteArray.toList_eq, ByteArray.toList_eq, h]; simp
theorem seq_false {r s : ByteArray} (h : ¬ r.data.toList = s.data.toList) : (r.toList == s.toList) = false := by
  rw [ByteArray.toList_eq, ByteArray.toList_eq]; simpa using h
theorem seq_lit {r : ByteArray} {l : List UInt8} (h : r.data.toList = l) : (r.toList == l) = true := by rw [ByteArray.toList_eq, h]; simp
theorem sempty {r : ByteArray} (h : r.data.toList = []) : r.toList.isEmpty = true := by rw [ByteArray.toList_eq, h]; rfl
theorem snonempty {r : ByteArray} (h : ¬ r.data.toList = []) : r.toList.isEmpty = false := by
  rw [ByteArray.toList_eq]; simpa using h
theorem ret_int {k : IntKind} {a b : Int} (h : a = b) : Ending.returned (.int k a) = .returned (.int k b) := by rw [h]
theorem ret_bool {a b : Bool} (h : a = b) : Ending.returned (.bool a) = .returned (.bool b) := by rw [h]
theorem ret_str {a b : ByteArray} (h : a = b) : Ending.returned (.string a) = .returned (.string b) := by rw [h]
theorem size_of (x : ByteArray) (l : List UInt8) (hx : x.data.toList = l) : x.size = l.length := by rw [← hx]; simp
theorem take_snoc (s : ByteArray) (k : Nat) (h : k < s.size) : s.data.toList.take (k + 1) = s.data.toList.take k ++ [s[k]] := by
  rw [List.take_succ_eq_append_getElem (by simpa using h)]; rfl
theorem bt_get (s : ByteArray) (k : Nat) (h : k < s.size) : PlainAid.bt s k = (s[k].toNat : Int) := (PlainAid.get_bt s k h).symm

/-- A world that has only drawn since. -/
def Drawn (w w' : World) : Prop := ∃ q, w' = w.drewN q
theorem Drawn.refl (w : World) : Drawn w w := ⟨0, rfl⟩
theorem Drawn.draws {w w' : World} (h : Drawn w w') (n : Nat) : Drawn w (w'.drewN n) := by
  obtain ⟨q, rfl⟩ := h
  exact ⟨q + n, by rw [World.drewN_drewN]⟩
theorem Drawn.draw {w w' : World} (h : Drawn w w') : Drawn w w'.drew := h.draws 1
theorem Drawn.trans {a b c : World} (h : Drawn a b) (k : Drawn b c) : Drawn a c := by
  obtain ⟨q, rfl⟩ := k
  exact h.draws q
theorem Drawn.below {w w' : World} (h : Drawn w w') (B : Nat) : Below B w w' := by
  obtain ⟨q, rfl⟩ := h
  exact below_drewN (Below.refl _ _) q
theorem Drawn.cell {w w' : World} (h : Drawn w w') (p : Addr) : w'.cell? p = w.cell? p := by
  obtain ⟨q, rfl⟩ := h
  simp
theorem quiet_eq {P : Program} {f : FuncId} {args : Array Value} {w : World} {n : Nat} {v : Value}
    (h : Calls P f args (w.drewN n) fun e w' => e = .returned v ∧ w.drewN n = w') : Calls P f args (w.drewN n) fun e w'' => e = .returned v ∧ ∃ m, w'' = w.drewN m :=
  h.mono fun _ _ ⟨he, hm⟩ => ⟨he, n, hm.symm⟩
/-- Returns a value, and the world has only drawn. -/
def Quiet (v : Value) (w : World) (e : Ending) (w' : World) : Prop := e = .returned v ∧ Drawn w w'
theorem quiet_q {P : Program} {f : FuncId} {args : Array Value} {w : World} {n : Nat} {v : Value}
    (h : Calls P f args (w.drewN n) (Quiet v (w.drewN n))) : Calls P f args (w.drewN n) fun e w'' => e = .returned v ∧ ∃ m, w'' = w.drewN m :=
  h.mono fun _ _ ⟨he, m, hm⟩ => ⟨he, n + m, by rw [hm, World.drewN_drewN]⟩
/-- Two stretches of making, one behind the other. -/
theorem Below.next {a b c : World} (h : Below a.heap.size a b) (k : Below b.heap.size b c) : Below a.heap.size a c := h.trans (k.mono h.size)
end Sm
end Go.Proofs.Ytdbkgpnbmafpmaa
namespace Go.Proofs.Ytdbkgpnbmafpmaa
open Go.RowKit
namespace Sm

/-- Block g is just these cells, none frozen. -/
def Blk (w : World) (g : Nat) (t : TypeId) (cs : Array Value) : Prop := w.heap[g]? = some (.cells cs t (0, 0))
section
variable {w w' : World} {g : Nat} {t : TypeId} {cs : Array Value}
theorem Blk.lt (h : Blk w g t cs) : g < w.heap.size := by
  rcases Nat.lt_or_ge g w.heap.size with hlt | hge
  · exact hlt
  · unfold Blk at h; rw [Array.getElem?_eq_none hge] at h; cases h
theorem Blk.cell (h : Blk w g t cs) (i : Nat) : w.cell? ⟨g, i, none⟩ = cs[i]? := cell_of_row w g i cs t (0, 0) h
theorem Blk.frozen (h : Blk w g t cs) (i : Nat) : w.frozen? ⟨g, i, none⟩ = false := by
  unfold Blk at h
  simp [World.frozen?, h]
theorem Blk.new (w : World) (t : TypeId) (cs : Array Value) : Blk (w.alloc (.cells cs t)) w.heap.size t cs := heap_alloc_new w _
theorem Blk.drew (h : Blk w g t cs) : Blk w.drew g t cs := h
theorem Blk.drewN (h : Blk w g t cs) (n : Nat) : Blk (w.drewN n) g t cs := h
theorem Blk.drawn (h : Blk w g t cs) (hd : Drawn w w') : Blk w' g t cs := by obtain ⟨q, rfl⟩ := hd; exact h
theorem Blk.alloc (h : Blk w g t cs) (o : Obj) : Blk (w.alloc o) g t cs := (Below.heap_alloc w o g h.lt).trans h
theorem Blk.set_ (h : Blk w g t cs) (i : Nat) (u : Value) : Blk (w.setCell ⟨g, i, none⟩ u) g t (cs.setIfInBounds i u) := by
  unfold Blk at h ⊢
  simp [World.setCell, Array.getElem?_modify, h]
theorem Blk.far (h : Blk w g t cs) {p : Addr} (hp : g ≠ p.block) (u : Value) : Blk (w.setCell p u) g t cs := (Below.heap_setCell w p u g hp).trans h
theorem Blk.below {B : Nat} (h : Blk w g t cs) (hb : Below B w w') (hg : g < B) : Blk w' g t cs := (hb.block g hg).trans h
theorem Blk.ne_ {g' : Nat} {t' : TypeId} {cs' : Array Value} (h : Blk w g t cs) (h' : Blk w g' t' cs') (hne : t ≠ t') : g ≠ g' := by
  rintro rfl
  unfold Blk at h h'
  rw [h] at h'
  injection h' with h'
  injection h' with _ ht
  exact hne ht
end

/-- Below the heap's size every cell and every mark reads as it did: two rules for the walk. -/
theorem bcell {W w1 : World} (hb : Below W.heap.size W w1) : (∀ b o, b < W.heap.size → w1.cell? ⟨b, o, none⟩ = W.cell? ⟨b, o, none⟩) ∧ (∀ b o, b < W.heap.size → w1.frozen? ⟨b, o, none⟩ = W.frozen? ⟨b, o, none⟩) :=
  ⟨fun b o h => hb.cell (p := ⟨b, o, none⟩) h, fun b o h => hb.frozen (p := ⟨b, o, none⟩) h⟩
/-- What was there is there, but for the blocks of a list; streams and tape are as they were. -/
structure Keeps (S : List Nat) (w w' : World) : Prop where
  os : w'.os = w.os
  tape : w'.tape = w.tape
  output : w'.output = w.output
  size : w.heap.size ≤ w'.heap.size
  block : ∀ k, k < w.heap.size → k ∉ S → w'.heap[k]? = w.heap[k]?
section
variable {S T : List Nat} {a b c w w' : World}
theorem Keeps.refl (S : List Nat) (w : World) : Keeps S w w := ⟨rfl, rfl, rfl, Nat.le_refl _, fun _ _ _ => rfl⟩
theorem Keeps.next (h : Keeps S a b) (k : Keeps T b c) (hT : ∀ x ∈ T, x ∈ S ∨ a.heap.size ≤ x) : Keeps S a c :=
  ⟨k.os.trans h.os, k.tape.trans h.tape, k.output.trans h.output, Nat.le_trans h.size k.size, fun i hi hn =>
    (k.block i (Nat.lt_of_lt_of_le hi h.size) (fun hm => by rcases hT i hm with h1 | h1; exact hn h1; omega)).trans (h.block i hi hn)⟩
theorem Keeps.trans (h : Keeps S a b) (k : Keeps S b c) : Keeps S a c := h.next k fun _ hx => .inl hx
theorem Keeps.more (h : Keeps S a b) (hS : ∀ x ∈ S, x ∈ T) : Keeps T a b := ⟨h.os, h.tape, h.output, h.size, fun i hi hn => h.block i hi fun hm => hn (hS i hm)⟩
theorem Keeps.drew (h : Keeps S a b) : Keeps S a b.drew := ⟨h.os, h.tape, h.output, h.size, h.block⟩
theorem Keeps.drewN (h : Keeps S a b) (n : Nat) : Keeps S a (b.drewN n) := ⟨h.os, h.tape, h.output, h.size, h.block⟩
theorem Keeps.drawn (h : Keeps S a b) (hd : Drawn b c) : Keeps S a c := by obtain ⟨q, rfl⟩ := hd; exact h.drewN q
theorem Keeps.alloc (h : Keeps S a b) (o : Obj) : Keeps S a (b.alloc o) :=
  ⟨h.os, h.tape, h.output, Nat.le_trans h.size (by simp), fun i hi hn => (Below.heap_alloc b o i (Nat.lt_of_lt_of_le hi h.size)).trans (h.block i hi hn)⟩
theorem Keeps.setCell (h : Keeps S a b) {p : Addr} (hp : p.block ∈ S ∨ a.heap.size ≤ p.block) (u : Value) : Keeps S a (b.setCell p u) :=
  ⟨h.os, h.tape, h.output, by simpa [World.setCell] using h.size, fun i hi hn => (Below.heap_setCell b p u i (by
    rintro rfl
    rcases hp with hp | hp
    · exact hn hp
    · omega)).trans (h.block i hi hn)⟩
theorem Keeps.below (h : Keeps S a b) {B : Nat} (hB : B ≤ a.heap.size) (hS : ∀ x ∈ S, B ≤ x) : Below B a b :=
  ⟨h.os, h.tape, h.output, h.size, fun k hk => h.block k (by omega) fun hm => by have := hS k hm; omega⟩
theorem Keeps.all (h : Keeps [] a b) : Below a.heap.size a b := h.below (Nat.le_refl _) (by simp)
theorem Keeps.of_below (h : Below a.heap.size a b) (S : List Nat) : Keeps S a b := ⟨h.os, h.tape, h.output, h.size, fun k hk _ => h.block k hk⟩
theorem Blk.keeps {g : Nat} {t : TypeId} {cs : Array Value} (h : Blk w g t cs) (hk : Keeps S w w') (hg : g ∉ S) : Blk w' g t cs := (hk.block g h.lt hg).trans h
theorem Keeps.cell (h : Keeps S w w') {p : Addr} (hp : p.block < w.heap.size) (hn : p.block ∉ S) : w'.cell? p = w.cell? p := World.cell?_of_block (w := w) (h.block p.block hp hn)
theorem Keeps.frozen (h : Keeps S w w') {p : Addr} (hp : p.block < w.heap.size) (hn : p.block ∉ S) : w'.frozen? p = w.frozen? p := World.frozen?_of_block (w := w) (h.block p.block hp hn)
end
end Sm
end Go.Proofs.Ytdbkgpnbmafpmaa
namespace Go.Proofs.Ytdbkgpnbmafpmaa
open Go.RowKit
namespace FiF
open Sm

structure It where
  (to fr : Int)
  (data : ByteArray)
def cs (x : It) : List Value := [.int .i64 x.to, .int .i64 x.fr, .string x.data]
def z : It := ⟨0, 0, ⟨#[]⟩⟩
theorem cs_len (x : It) : (cs x).length = 3 := rfl
theorem cs_one (x : It) : (cs x).toArray.all (·.oneCell') = true := by simp [cs, Value.oneCell']
theorem cs_all (x : It) : ∀ u ∈ cs x, u.oneCell' = true := by simp [cs, Value.oneCell']
abbrev val (x : It) : Value := .agg (cs x).toArray
theorem info_all : (Try.prog.info? 39).map (fun i => (i.zero, i.size)) = some (some (val z), 3) := by kernel_rfl
theorem info_sz : (Try.prog.info? 39).map (·.size) = some 3 := by kernel_rfl
theorem info_cs (x : It) : (Try.prog.info? 39).map (·.size) = some (cs x).length := info_sz
theorem info_arr (x : It) : (Try.prog.info? 39).map (·.size) = some (cs x).toArray.size := info_sz
theorem keeps_cells {S : List Nat} {a : World} {g : Nat} (hg : g ∈ S ∨ a.heap.size ≤ g) : ∀ (vs : List Value) (o : Nat) (w : World), Keeps S a w → Keeps S a (w.setCells g o vs)
  | [], _, _, h => h
  | v :: vs, o, _, h => keeps_cells hg vs (o + 1) _ (h.setCell hg v)
theorem cell_cells {w : World} {g o : Nat} (vs : List Value) (p : Addr) (hp : p.block ≠ g) : (w.setCells g o vs).cell? p = w.cell? p := World.cell?_setCells_out g vs o w p (fun h _ => absurd h hp)
theorem blk_far {w : World} {b g o : Nat} {t : TypeId} {c : Array Value} (h : Blk w b t c) (hne : b ≠ g) (vs : List Value) : Blk (w.setCells g o vs) b t c :=
  h.keeps (keeps_cells (S := [g]) (.inl (by simp)) vs o w (Keeps.refl _ _)) (by simp; exact hne)
theorem blk_range {w : World} {b : Nat} {t : TypeId} (l : List Value) (h : Blk w b t l.toArray) : w.rangeAt b 0 l := fun j v hv => by
  rw [Nat.zero_add, h.cell]; simpa using hv
theorem blk_there {w : World} {b : Nat} {t : TypeId} {c : Array Value} (h : Blk w b t c) : w.there b 0 c.size := fun j hj => by
  rw [Nat.zero_add, h.cell, Array.getElem?_eq_getElem hj]; exact ⟨rfl, h.frozen j⟩
/-- A row of len places in block b. -/
structure Room (w : World) (b len : Nat) (R : Nat → It) : Prop where
  at_ : ∀ i, i < len → w.rangeAt b (i * 3) (cs (R i))
  free_ : ∀ i, i < len → ∀ j, j < 3 → w.frozen? ⟨b, i * 3 + j, none⟩ = false
  lt : b < w.heap.size
def updR (R : Nat → It) (k : Nat) (x : It) : Nat → It := fun i => if i = k then x else R i
theorem updR_at (R : Nat → It) (k : Nat) (x : It) : updR R k x k = x := by unfold updR; rw [if_pos rfl]
theorem updR_ne (R : Nat → It) (k i : Nat) (x : It) (h : i ≠ k) : updR R k x i = R i := by unfold updR; rw [if_neg h]
section
variable {w w' : World} {b len : Nat} {R : Nat → It} {S : List Nat}
theorem Room.there_ (h : Room w b len R) (i : Nat) (hi : i < len) : w.there b (i * 3) 3 := fun j hj =>
  ⟨World.rangeAt.isSome (h.at_ i hi) j hj, h.free_ i hi j hj⟩
theorem Room.keeps (h : Room w b len R) (hk : Keeps S w w') (hb : b ∉ S) : Room w' b len R :=
  ⟨fun i hi j v hv => (hk.cell (p := ⟨b, i * 3 + j, none⟩) h.lt hb).trans (h.at_ i hi j v hv), fun i hi j hj => (hk.frozen (p := ⟨b, i * 3 + j, none⟩) h.lt hb).trans (h.free_ i hi j hj), Nat.lt_of_lt_of_le h.lt hk.size⟩
theorem Room.store (h : Room w b len R) (k : Nat) (hk : k < len) (x : It) : Room (w.setCells b (k * 3) (cs x)) b len (updR R k x) := by
  refine ⟨fun i hi => ?_, fun i hi j hj => by rw [World.frozen?_setCells]; exact h.free_ i hi j hj, ?_⟩
  · by_cases hik : i = k
    · subst hik
      rw [updR_at]
      exact World.rangeAt_setCells_same w b (i * 3) _ (h.there_ i hi)
    · rw [updR_ne _ _ _ _ hik]
      refine World.rangeAt_setCells_apart (h.at_ i hi) b (k * 3) _ (.inr ?_)
      rw [cs_len, cs_len]
      omega
  · have := World.isSome_setCells b (cs x) (k * 3) w ⟨b, k * 3 + 0, none⟩ (h.there_ k hk 0 (by omega)).1
    obtain ⟨u, hu⟩ := Option.isSome_iff_exists.1 this
    exact World.block_lt_of_cell? _ _ hu
end
/-- A queue's block and room: n things from place f on, in a row of len places. -/
structure Qs (w : World) (g r : Nat) (A : Option Addr) (len c f n : Nat) (lim dr : Int) (R : Nat → It) : Prop where
  q : Blk w g 93 #[.slice A len c, .int .i64 (f : Int), .int .i64 (n : Int), .int .i64 lim, .int .i64 dr]
  room : (len = 0 ∧ A = none ∧ r = g) ∨ (0 < len ∧ A = some ⟨r, 0, none⟩ ∧ r ≠ g ∧ Room w r len R)
  hf : f < len ∨ (len = 0 ∧ f = 0)
  hn : n ≤ len
  hlen : len ≤ 65536
section
variable {w w' : World} {g r : Nat} {A : Option Addr} {len c f n : Nat} {lim dr : Int} {R : Nat → It} {S : List Nat}
theorem Qs.keeps (h : Qs w g r A len c f n lim dr R) (hk : Keeps S w w') (hg : g ∉ S) (hr : r ∉ S) : Qs w' g r A len c f n lim dr R :=
  ⟨h.q.keeps hk hg, h.room.imp id fun ⟨h1, h2, h3, h4⟩ => ⟨h1, h2, h3, h4.keeps hk hr⟩, h.hf, h.hn, h.hlen⟩
theorem Qs.cells (h : Qs w g r A len c f n lim dr R) : w.cell? ⟨g, 0, none⟩ = some (.slice A len c) ∧ w.cell? ⟨g, 1, none⟩ = some (.int .i64 (f : Int)) ∧ w.cell? ⟨g, 2, none⟩ = some (.int .i64 (n : Int)) ∧ w.cell? ⟨g, 3, none⟩ = some (.int .i64 lim) ∧ w.cell? ⟨g, 4, none⟩ = some (.int .i64 dr) ∧ ∀ i, w.frozen? ⟨g, i, none⟩ = false :=
  ⟨h.q.cell 0, h.q.cell 1, h.q.cell 2, h.q.cell 3, h.q.cell 4, h.q.frozen⟩
theorem Qs.drew (h : Qs w g r A len c f n lim dr R) : Qs w.drew g r A len c f n lim dr R := h.keeps (Keeps.refl [] w).drew (by simp) (by simp)
theorem Qs.drewN (h : Qs w g r A len c f n lim dr R) (m : Nat) : Qs (w.drewN m) g r A len c f n lim dr R := h.keeps ((Keeps.refl [] w).drewN m) (by simp) (by simp)
end
theorem Qs.rlt {w : World} {g r : Nat} {A : Option Addr} {len c f n : Nat} {lim dr : Int} {R : Nat → It} (h : Qs w g r A len c f n lim dr R) : r < w.heap.size := by
  rcases h.room with ⟨_, _, rfl⟩ | ⟨_, _, _, h4⟩
  · exact h.q.lt
  · exact h4.lt
/-- A queue that holds the things l. -/
def Qu (w : World) (g r : Nat) (l : List It) (lim dr : Int) : Prop :=
  ∃ A len c f R, Qs w g r A len c f l.length lim dr R ∧ (∀ i, i < l.length → l[i]? = some (R ((f + i) % len))) ∧ 0 ≤ lim ∧ lim ≤ 65536 ∧ (l.length : Int) ≤ lim ∧ 0 ≤ dr ∧ dr ≤ 100000
theorem Qu.keeps {w w' : World} {g r : Nat} {l : List It} {lim dr : Int} {S : List Nat} (h : Qu w g r l lim dr) (hk : Keeps S w w') (hg : g ∉ S) (hr : r ∉ S) : Qu w' g r l lim dr := by
  obtain ⟨A, len, c, f, R, h1, h2⟩ := h
  exact ⟨A, len, c, f, R, h1.keeps hk hg hr, h2⟩
theorem Qu.lt {w : World} {g r : Nat} {l : List It} {lim dr : Int} (h : Qu w g r l lim dr) : g < w.heap.size ∧ r < w.heap.size := by
  obtain ⟨A, len, c, f, R, h1, h2⟩ := h
  refine ⟨h1.q.lt, ?_⟩
  rcases h1.room with ⟨_, _, rfl⟩ | ⟨_, _, _, h4⟩
  · exact h1.q.lt
  · exact h4.lt
theorem Qu.dr0 {w : World} {g r : Nat} {l : List It} {lim dr : Int} (h : Qu w g r l lim dr) : 0 ≤ dr ∧ dr ≤ 100000 ∧ (l.length : Int) ≤ lim := by
  obtain ⟨A, len, c, f, R, h1, h2, h3, h4, h5, h6, h7⟩ := h
  exact ⟨h6, h7, h5⟩
theorem place_bd (f i len : Nat) (h : 0 < len) : (f + i) % len < len := Nat.mod_lt _ h
theorem tmod_place (f i len : Nat) : ((f : Int) + (i : Int)).tmod (len : Int) = (((f + i) % len : Nat) : Int) := by
  rw [← Int.natCast_add, Int.ofNat_tmod]
theorem at_any (g r : Nat) (A : Option Addr) (len c f n : Nat) (lim dr : Int) (R : Nat → It) (i : Nat) (w : World) (h : Qs w g r A len c f n lim dr R) (hl : 0 < len) (hi : i ≤ 65536) :
    Calls Try.prog 46 #[.pointer (some ⟨g, 0, none⟩), .int .i64 (i : Int)] w (Quiet (.int .i64 (((f + i) % len : Nat) : Int)) w) := by
  obtain ⟨c0, c1, _, _, _, _⟩ := h.cells
  have hf : f ≤ 65536 := by have := h.hf; have := h.hlen; omega
  have hlen := h.hlen
  have hs : IntKind.i64.wrap ((f : Int) + (i : Int)) = (f : Int) + (i : Int) := IntWalk.i64_in _ (by omega)
  have hp := place_bd f i len hl
  have HT := tmod_place f i len
  have hw : IntKind.i64.wrap (((f + i) % len : Nat) : Int) = (((f + i) % len : Nat) : Int) := IntWalk.i64_in _ (by omega)
  have h0 : ((len : Int) == 0) = false := by simp; omega
  have h00 : ¬ ((len : Int) = 0) := by omega
  clear h hf hp
  generalize (f + i) % len = p at *
  go_enter Try.func46, Try.ntmps46
  go_wp2_with fail
  go_quiet (fail)
  go_wp2
  go_ret
  exact ⟨rfl, nq, rfl⟩
theorem len_any (g r : Nat) (l : List It) (lim dr : Int) (w : World) (h : Qu w g r l lim dr) : Calls Try.prog 31 #[.pointer (some ⟨g, 0, none⟩)] w fun e w' => e = .returned (.int .i64 (l.length : Int)) ∧ w = w' := by
  obtain ⟨A, len, c, f, R, h1, _⟩ := h
  obtain ⟨_, _, c2, c3, c4, _⟩ := h1.cells
  clear h1
  go_enter Try.func31, Try.ntmps31
  go_wp2
  go_ret
  exact ⟨rfl, rfl⟩
theorem len_nil (w : World) : Calls Try.prog 31 #[.pointer none] w fun e w' => e = .returned (.int .i64 0) ∧ w = w' := by
  go_enter Try.func31, Try.ntmps31
  go_wp2
  go_ret
  exact ⟨rfl, rfl⟩
theorem drops_any (g r : Nat) (l : List It) (lim dr : Int) (w : World) (h : Qu w g r l lim dr) : Calls Try.prog 32 #[.pointer (some ⟨g, 0, none⟩)] w fun e w' => e = .returned (.int .i64 dr) ∧ w = w' := by
  obtain ⟨A, len, c, f, R, h1, _⟩ := h
  obtain ⟨_, _, c2, c3, c4, _⟩ := h1.cells
  clear h1
  go_enter Try.func32, Try.ntmps32
  go_wp2
  go_ret
  exact ⟨rfl, rfl⟩
theorem drops_nil (w : World) : Calls Try.prog 32 #[.pointer none] w fun e w' => e = .returned (.int .i64 0) ∧ w = w' := by
  go_enter Try.func32, Try.ntmps32
  go_wp2
  go_ret
  exact ⟨rfl, rfl⟩
def lim16 (o : Int) : Int := if o < 0 then 0 else if 65536 < o then 65536 else o
theorem qu_new (w : World) (lim : Int) (h0 : 0 ≤ lim) (h1 : lim ≤ 65536) : Qu (w.alloc (.cells #[.slice none 0 0, .int .i64 0, .int .i64 0, .int .i64 lim, .int .i64 0] 93)) w.heap.size w.heap.size [] lim 0 :=
  ⟨none, 0, 0, 0, fun _ => z, ⟨Blk.new _ _ _, .inl ⟨rfl, rfl, rfl⟩, .inr ⟨rfl, rfl⟩, Nat.le_refl _, by omega⟩, fun i hi => by simp at hi, h0, h1, by simpa using h0, by omega, by omega⟩
theorem new_any (o : Int) (w : World) :
    Calls Try.prog 26 #[.int .i64 o] w fun e w' => e = .returned (.pointer (some ⟨w.heap.size, 0, none⟩)) ∧ Qu w' w.heap.size w.heap.size [] (lim16 o) 0 ∧ Keeps [] w w' := by
  unfold lim16
  by_cases h0 : o < 0
  · rw [if_pos h0]
    go_enter Try.func26, Try.ntmps26
    go_wp2
    go_ret
    exact ⟨rfl, qu_new w 0 (by decide) (by decide), (Keeps.refl _ _).alloc _⟩
  · rw [if_neg h0]
    by_cases h1 : 65536 < o
    · rw [if_pos h1]
      go_enter Try.func26, Try.ntmps26
      go_wp2
      go_ret
      exact ⟨rfl, qu_new w 65536 (by decide) (by decide), (Keeps.refl _ _).alloc _⟩
    · rw [if_neg h1]
      go_enter Try.func26, Try.ntmps26
      go_wp2
      go_ret
      exact ⟨rfl, qu_new w o (by omega) (by omega), (Keeps.refl _ _).alloc _⟩
end FiF
end Go.Proofs.Ytdbkgpnbmafpmaa
namespace Go.Proofs.Ytdbkgpnbmafpmaa
open Go.RowKit
namespace Sm
def AnyW (_ : World) : Prop := True
section
variable {P : Program} {ops : Array Oper} {Q : Exit → Act → World → Prop} {md : Region.Mode} {S : World → Prop}
/-- An operation that a decided '&&' or '||' leaves out. -/
theorem wpAnyH_off {i : Nat} {d : Option Tmp} {fuel : Nat} {listed : Array Bool} {a : Act} {w : World} (hi : (ops[i]?).map (·.dst) = some d)
    (hs : Region.noSelect ops = true) (hf : Region.free md ops listed i = true) (hr : (Region.ready md ops listed).contains i = true)
    (hQ : ∀ c a w, Q (.panic c) (a.put d undef) w → Q (.panic c) a w) (hw : (ops[i]?).map (fun o => Region.wanted o (yielded ops a.tmps)) = some false) (hS : S w)
    (h : wpAnyH P md ops Q S fuel (listed.setIfInBounds i true) (a.put d undef) w) : wpAnyH P md ops Q S (fuel + 1) listed a w := by
  cases ho : ops[i]? with
  | none => rw [ho] at hi; cases hi
  | some o =>
    rw [ho] at hi hw
    injection hi with hi
    injection hw with hw
    subst hi
    exact wpAnyH_take ho hs hf hr hQ (Or.inr ⟨hw, rfl⟩) hS h
end
end Sm
end Go.Proofs.Ytdbkgpnbmafpmaa
namespace Go.Proofs.Ytdbkgpnbmafpmaa
open Go.RowKit
namespace Sm
section
variable {P : Program} {ops : Array Oper} {Q : Exit → Act → World → Prop} {md : Region.Mode} {S S' : World → Prop}
theorem wpAnyH_mono (hS : ∀ w, S' w → S w) : ∀ (fuel : Nat) (listed : Array Bool) (a : Act) (w : World), wpAnyH P md ops Q S' fuel listed a w → wpAnyH P md ops Q S fuel listed a w
  | 0, _, _, _, h => h
  | fuel + 1, _, _, _, h => ⟨h.1, fun i hi => wpOp_mono (fun _ w' h' => ⟨hS w' h'.1, wpAnyH_mono hS fuel _ _ w' h'.2⟩) (h.2 i hi)⟩
end
end Sm
end Go.Proofs.Ytdbkgpnbmafpmaa
namespace Go.Proofs.Ytdbkgpnbmafpmaa
open Go.RowKit
namespace Sm
theorem results_cell {fn : Func} {a : Tmp} {t : TypeId} (h : fn.results = #[.cell a t]) (tmps : Array Value) (P : Program) (w : World) {p : Addr} {v : Value} (ht : tmps.getD a undef = .pointer (some p)) (hl : (loadVar t p).run P w = .ok v w) :
    (results fn tmps).run P w = .ok v w := by
  have ht' : tmps[a]?.getD undef = .pointer (some p) := by rw [← ht]; simp
  simp [results, h, ht', asAddr, hl]
theorem results_cell2 {fn : Func} {a u : Tmp} {t : TypeId} (h : fn.results = #[.cell a t, .tmp u]) (tmps : Array Value) (P : Program) (w : World) {p : Addr} {v : Value} (ht : tmps.getD a undef = .pointer (some p)) (hl : (loadVar t p).run P w = .ok v w) :
    (results fn tmps).run P w = .ok (.tuple #[v, tmps.getD u undef]) w := by
  have ht' : tmps[a]?.getD undef = .pointer (some p) := by rw [← ht]; simp
  simp [results, h, ht', asAddr, hl]
end Sm
end Go.Proofs.Ytdbkgpnbmafpmaa
namespace Go.Proofs.Ytdbkgpnbmafpmaa
open Go.RowKit
namespace FiF
open Sm
theorem blk_all {w : World} {g : Nat} {t : TypeId} {c : Array Value} (h : Blk w g t c) (vs : List Value) (hl : vs.length = c.size) : Blk (w.setCells g 0 vs) g t vs.toArray := by
  have key : ∀ (vs : List Value) (o : Nat) (w : World) (c : Array Value), Blk w g t c → o + vs.length ≤ c.size → ∃ c', Blk (w.setCells g o vs) g t c' ∧ c'.size = c.size ∧ (∀ i, i < o → c'[i]? = c[i]?) ∧ (∀ i, i < vs.length → c'[o + i]? = vs[i]?) ∧ (∀ i, o + vs.length ≤ i → c'[i]? = c[i]?) := by
    intro vs
    induction vs with
    | nil => intro o w c h _; exact ⟨c, h, rfl, fun _ _ => rfl, fun i hi => by simp at hi, fun _ _ => rfl⟩
    | cons v vs ih =>
      intro o w c h ho
      simp only [List.length_cons] at ho
      obtain ⟨c', h1, h2, h3, h4, h5⟩ := ih (o + 1) _ _ (h.set_ o v) (by simp; omega)
      refine ⟨c', h1, by rw [h2]; simp, fun i hi => ?_, fun i hi => ?_, fun i hi => ?_⟩
      · rw [h3 i (by omega), Array.getElem?_setIfInBounds_ne (by omega)]
      · simp only [List.length_cons] at hi
        rcases Nat.eq_zero_or_pos i with h0 | h0
        · subst h0
          rw [Nat.add_zero, h3 o (by omega), Array.getElem?_setIfInBounds_self_of_lt (by omega)]
          rfl
        · have := h4 (i - 1) (by omega)
          rw [show o + 1 + (i - 1) = o + i from by omega] at this
          rw [this]
          obtain ⟨j, rfl⟩ : ∃ j, i = j + 1 := ⟨i - 1, by omega⟩
          simp
      · simp only [List.length_cons] at hi
        rw [h5 i (by omega), Array.getElem?_setIfInBounds_ne (by omega)]
  obtain ⟨c', h1, h2, _, h4, _⟩ := key vs 0 w c h (by omega)
  have : c' = vs.toArray := by
    apply Array.ext
    · simp; omega
    · intro i hi1 hi2
      have hi : i < vs.length := by simpa using hi2
      have := h4 i hi
      rw [Nat.zero_add, Array.getElem?_eq_getElem hi1, List.getElem?_eq_getElem hi] at this
      injection this
  rw [← this]
  exact h1
theorem wpList_store_blk {ops : Array Oper} {rest : List Oper} {op : Oper} {a : Act} {w : World} {Q : Exit → Act → World → Prop} (hgd : op.guard = none) (xo yo : Operand) (ho : op.op = .store 39 xo yo) (b : Nat) (c0 : Array Value) (it : It)
    (hx : a.eval xo = .pointer (some ⟨b, 0, none⟩)) (hy : a.eval yo = .agg (cs it).toArray) (hB : Blk w b 39 c0) (hc : c0.size = 3) (h : ∀ w', Blk w' b 39 (cs it).toArray → Keeps [b] w w' → wpList Try.prog ops Q rest (a.put op.dst undef) w') : wpList Try.prog ops Q (op :: rest) a w := by
  refine wpList_store_mid hgd 39 xo yo ho b 0 (cs it).toArray hx hy ?_ (info_arr it) (cs_one it) (h _ (blk_all hB (cs it) (by rw [cs_len, hc])) (keeps_cells (.inl (by simp)) _ _ _ (Keeps.refl _ _)))
  have := blk_there hB
  rw [hc] at this
  exact this
theorem wp_store_blk {op : Oper} {a : Act} {w : World} {K : Act → World → Prop} {Q : Exit → Act → World → Prop} (xo yo : Operand) (ho : op.op = .store 39 xo yo) (b : Nat) (c0 : Array Value) (it : It)
    (hx : a.eval xo = .pointer (some ⟨b, 0, none⟩)) (hy : a.eval yo = .agg (cs it).toArray) (hB : Blk w b 39 c0) (hc : c0.size = 3) (h : ∀ w', Blk w' b 39 (cs it).toArray → Keeps [b] w w' → K (a.put op.dst undef) w') : op.wp Try.prog a w K Q := by
  refine wp_store_mid 39 xo yo ho b 0 (cs it).toArray hx hy ?_ (info_arr it) (cs_one it) (h _ (blk_all hB (cs it) (by rw [cs_len, hc])) (keeps_cells (.inl (by simp)) _ _ _ (Keeps.refl _ _)))
  have := blk_there hB
  rw [hc] at this
  exact this
theorem wp_store_room {op : Oper} {a : Act} {w : World} {K : Act → World → Prop} {Q : Exit → Act → World → Prop} (xo yo : Operand) (ho : op.op = .store 39 xo yo) (b len : Nat) (R : Nat → It) (k : Nat) (it : It)
    (hx : a.eval xo = .pointer (some ⟨b, k * 3, none⟩)) (hy : a.eval yo = .agg (cs it).toArray) (hR : Room w b len R) (hk : k < len) (h : ∀ w', Room w' b len (updR R k it) → Keeps [b] w w' → K (a.put op.dst undef) w') : op.wp Try.prog a w K Q :=
  wp_store_mid 39 xo yo ho b (k * 3) (cs it).toArray hx hy (hR.there_ k hk) (info_arr it) (cs_one it) (h _ (hR.store k hk it) (keeps_cells (.inl (by simp)) _ _ _ (Keeps.refl _ _)))
theorem wpList_load_blk {ops : Array Oper} {rest : List Oper} {op : Oper} {a : Act} {w : World} {Q : Exit → Act → World → Prop} (hgd : op.guard = none) (xo : Operand) (ho : op.op = .load 39 xo) (b : Nat) (it : It)
    (hx : a.eval xo = .pointer (some ⟨b, 0, none⟩)) (hB : Blk w b 39 (cs it).toArray) (h : wpList Try.prog ops Q rest (a.put op.dst (.agg (cs it).toArray)) w) : wpList Try.prog ops Q (op :: rest) a w :=
  wpList_load_mid hgd 39 xo ho b 0 hx (cs it) _ (blk_range (cs it) hB) Try.underlying39 rfl (info_cs it) h
theorem load_blk {w : World} {b : Nat} (it : It) (hB : Blk w b 39 (cs it).toArray) : (loadVar 39 ⟨b, 0, none⟩).run Try.prog w = .ok (.agg (cs it).toArray) w :=
  run_loadVar_mid w b 0 39 (cs it) _ (blk_range (cs it) hB) Try.underlying39 rfl (info_cs it)
theorem Qu.kp {w w' : World} {g r : Nat} {l : List It} {lim dr : Int} (h : Qu w g r l lim dr) (hd : Keeps [] w w') : Qu w' g r l lim dr := h.keeps hd (by simp) (by simp)
def IsV (v : Value) (w : World) (e : Ending) (w' : World) : Prop := e = .returned v ∧ Keeps [] w w'
theorem peek_out (g r : Nat) (l : List It) (lim dr i : Int) (w : World) (h : Qu w g r l lim dr) (hi : i < 0 ∨ (l.length : Int) ≤ i) :
    Calls Try.prog 47 #[.pointer (some ⟨g, 0, none⟩), .int .i64 i] w (IsV (.tuple #[val z, .bool false]) w) := by
  obtain ⟨A, len, c, f, R, h1, _⟩ := h
  obtain ⟨_, _, c2, _, _, _⟩ := h1.cells
  have hgl := h1.q.lt
  clear h1
  by_cases h0 : i < 0
  · clear hi
    go_enter Try.func47, Try.ntmps47
    go_wp2
    refine bodyPost_ret (v := .tuple #[val z, .bool false]) (by simp [results, Try.results47, go_sem, cs, z]) rfl ?_
    exact ⟨rfl, ((Keeps.refl _ _).alloc _).alloc _⟩
  · have hi2 : (l.length : Int) ≤ i := by omega
    clear hi
    go_enter Try.func47, Try.ntmps47
    go_wp2
    refine bodyPost_ret (v := .tuple #[val z, .bool false]) (by simp [results, Try.results47, go_sem, cs, z]) rfl ?_
    exact ⟨rfl, ((Keeps.refl _ _).alloc _).alloc _⟩
theorem peek_nil (i : Int) (w : World) : Calls Try.prog 47 #[.pointer none, .int .i64 i] w (IsV (.tuple #[val z, .bool false]) w) := by
  go_enter Try.func47, Try.ntmps47
  go_wp2
  refine bodyPost_ret (v := .tuple #[val z, .bool false]) (by simp [results, Try.results47, go_sem, cs, z]) rfl ?_
  exact ⟨rfl, ((Keeps.refl _ _).alloc _).alloc _⟩
theorem z_arr : (cs z).toArray = #[.int .i64 0, .int .i64 0, .string ⟨#[]⟩] := rfl
attribute [local irreducible] cs
set_option maxRecDepth 100000 in
set_option maxHeartbeats 1000000 in
theorem peek_in (g r : Nat) (l : List It) (lim dr : Int) (i : Nat) (x : It) (w : World) (h : Qu w g r l lim dr) (hx : l[i]? = some x) :
    Calls Try.prog 47 #[.pointer (some ⟨g, 0, none⟩), .int .i64 (i : Int)] w (IsV (.tuple #[val x, .bool true]) w) := by
  have hi : i < l.length := (List.getElem?_eq_some_iff.1 hx).1
  obtain ⟨A, len, c, f, R, h1, h2, _⟩ := h
  have hxx := h2 i hi
  rw [hx] at hxx
  injection hxx with hxx
  have hn := h1.hn
  have hlen := h1.hlen
  rcases h1.room with ⟨h0, _, _⟩ | ⟨h0, hA, hne, hr⟩
  · omega
  · subst hA
    have hk0 : Keeps [] w (w.alloc (.cells #[.int .i64 0, .int .i64 0, .string ⟨#[]⟩] 39)).drew := ((Keeps.refl [] w).alloc _).drew
    have h1' := h1.keeps hk0 (by simp) (by simp)
    have HA := Lib.hid (at_any g r _ len c f _ lim dr R i _ h1' h0 (by omega))
    have hp := place_bd f i len h0
    have hc := (hr.keeps hk0 (by simp)).at_ _ hp
    have hgl := h1.q.lt
    have hrl := hr.lt
    rw [← hxx] at hc
    obtain ⟨_, _, d2, _, _, _⟩ := h1.cells
    obtain ⟨c0, _, c2, _, _, _⟩ := h1'.cells
    have hB : Blk (w.alloc (.cells #[.int .i64 0, .int .i64 0, .string ⟨#[]⟩] 39)).drew w.heap.size 39 (cs z).toArray := by rw [z_arr]; exact (Blk.new w 39 #[.int .i64 0, .int .i64 0, .string ⟨#[]⟩]).drew
    clear h2 hx hxx h1 h1' hr
    generalize (f + i) % len = p at *
    have hp0 : (0 : Int) ≤ (p : Int) := by omega
    have hp1 : (p : Int) < (len : Int) := by omega
    have hi0 : (i : Int) < (l.length : Int) := by omega
    generalize l.length = n at *
    go_enter Try.func47, Try.ntmps47
    go_wp2
    refine wp_region_held_drew (S := (fun V => V.cell? ⟨g, 0, none⟩ = some (.slice (some ⟨r, 0, none⟩) len c) ∧ V.rangeAt r (p * 3) (cs x) ∧ Keeps [] w V)) (by kernel_rfl) ⟨c0, hc, hk0⟩ (fun hHeld => ?_)
    refine' wpAnyH_take (i := 0) (oi := _) (v := _) ?hK0 (by kernel_rfl) (by kernel_rfl) (by kernel_rfl) ?hQK0 (Or.inl ⟨?hwK0, ?hyK0⟩) hHeld ?restK0
    case hK0 => (simp only [List.getElem?_toArray, List.getElem?_cons_zero]; rfl)
    case hQK0 => exact fun _ _ _ h => h
    case hwK0 => rfl
    case hyK0 => (intro w hSw; (try dsimp only at hSw); go_simp; try with_reducible rfl)
    try simp only [Act.put, List.setIfInBounds_toArray, List.set_cons_zero, List.set_cons_succ]
    refine' wpAnyH_take (i := 1) (oi := _) (v := _) ?hK1 (by kernel_rfl) (by kernel_rfl) (by kernel_rfl) ?hQK1 (Or.inl ⟨?hwK1, ?hyK1⟩) hHeld ?restK1
    case hK1 => (simp only [List.getElem?_toArray, List.getElem?_cons_succ, List.getElem?_cons_zero]; rfl)
    case hQK1 => exact fun _ _ _ h => h
    case hwK1 => rfl
    case hyK1 => (intro w hSw; (try dsimp only at hSw); go_simp; try with_reducible rfl)
    try simp only [Act.put, List.setIfInBounds_toArray, List.set_cons_zero, List.set_cons_succ]
    refine' wpAnyH_take (i := 2) (oi := _) (v := _) ?hK2 (by kernel_rfl) (by kernel_rfl) (by kernel_rfl) ?hQK2 (Or.inl ⟨?hwK2, ?hyK2⟩) hHeld ?restK2
    case hK2 => (simp only [List.getElem?_toArray, List.getElem?_cons_succ, List.getElem?_cons_zero]; rfl)
    case hQK2 => exact fun _ _ _ h => h
    case hwK2 => rfl
    case hyK2 => (intro w hSw; (try dsimp only at hSw); go_simp; try with_reducible rfl)
    try simp only [Act.put, List.setIfInBounds_toArray, List.set_cons_zero, List.set_cons_succ]
    refine' wpAnyH_take (i := 3) (oi := _) (v := _) ?hK3 (by kernel_rfl) (by kernel_rfl) (by kernel_rfl) ?hQK3 (Or.inl ⟨?hwK3, ?hyK3⟩) hHeld ?restK3
    case hK3 => (simp only [List.getElem?_toArray, List.getElem?_cons_succ, List.getElem?_cons_zero]; rfl)
    case hQK3 => exact fun _ _ _ h => h
    case hwK3 => rfl
    case hyK3 => (intro w hSw; (try dsimp only at hSw); go_simp; try with_reducible rfl)
    try simp only [Act.put, List.setIfInBounds_toArray, List.set_cons_zero, List.set_cons_succ]
    refine' wpAnyH_take (i := 4) (oi := _) (v := _) ?hK4 (by kernel_rfl) (by kernel_rfl) (by kernel_rfl) ?hQK4 (Or.inl ⟨?hwK4, ?hyK4⟩) hHeld ?restK4
    case hK4 => (simp only [List.getElem?_toArray, List.getElem?_cons_succ, List.getElem?_cons_zero]; rfl)
    case hQK4 => exact fun _ _ _ h => h
    case hwK4 => rfl
    case hyK4 => (intro w hSw; (try dsimp only at hSw); go_simp; try with_reducible rfl)
    try simp only [Act.put, List.setIfInBounds_toArray, List.set_cons_zero, List.set_cons_succ]
    refine' wpAnyH_take (i := 5) (oi := _) (v := _) ?hK5 (by kernel_rfl) (by kernel_rfl) (by kernel_rfl) ?hQK5 (Or.inl ⟨?hwK5, ?hyK5⟩) hHeld ?restK5
    case hK5 => (simp only [List.getElem?_toArray, List.getElem?_cons_succ, List.getElem?_cons_zero]; rfl)
    case hQK5 => exact fun _ _ _ h => h
    case hwK5 => rfl
    case hyK5 => (intro w hSw; (try dsimp only at hSw); go_simp; try with_reducible rfl)
    try simp only [Act.put, List.setIfInBounds_toArray, List.set_cons_zero, List.set_cons_succ]
    refine wpAnyH_ready (rs := [6]) (by kernel_rfl) (by simp) ?_
    refine AllReadyH.cons rfl (fun K hK => ?_) AllReadyH.nil
    go_simp
    refine (HA.out).mono ?_
    rintro e v9 ⟨rfl, hd9⟩
    try go_wp2_with fail
    refine hK.out _ _ (⟨(hd9.cell _).trans hHeld.1, fun j u hu => (hd9.cell _).trans (hHeld.2.1 j u hu), hHeld.2.2.drawn hd9⟩) (fun hHeld' => ?_)
    clear hK K hHeld
    have hHeld := hHeld'
    clear hHeld'
    try simp only [Act.put, List.setIfInBounds_toArray, List.set_cons_zero, List.set_cons_succ]
    refine' wpAnyH_take (i := 7) (oi := _) (v := _) ?hK7 (by kernel_rfl) (by kernel_rfl) (by kernel_rfl) ?hQK7 (Or.inl ⟨?hwK7, ?hyK7⟩) hHeld ?restK7
    case hK7 => (simp only [List.getElem?_toArray, List.getElem?_cons_succ, List.getElem?_cons_zero]; rfl)
    case hQK7 => exact fun _ _ _ h => h
    case hwK7 => rfl
    case hyK7 => (intro w hSw; (try dsimp only at hSw); go_simp; try with_reducible rfl)
    try simp only [Act.put, List.setIfInBounds_toArray, List.set_cons_zero, List.set_cons_succ]
    refine' wpAnyH_take (i := 8) (oi := _) (v := .agg (cs x).toArray) ?hK8 (by kernel_rfl) (by kernel_rfl) (by kernel_rfl) ?hQK8 ?hyK8 hHeld ?restK8
    case hK8 => (simp only [List.getElem?_toArray, List.getElem?_cons_succ, List.getElem?_cons_zero]; rfl)
    case hQK8 => exact fun _ _ _ h => h
    case hyK8 => (apply yieldsIf_load_mid (b := r) (o := p * 3) (cs := cs x); (case hw => rfl); (case ho => rfl); (case hx => rfl); (case hS => exact fun _ h => h.2.1); (case hu => exact Try.underlying39); (case hd => rfl); (case hi => exact info_cs _))
    try simp only [Act.put, List.setIfInBounds_toArray, List.set_cons_zero, List.set_cons_succ]
    refine wpAnyH_ready (rs := [9]) (by kernel_rfl) (by simp) ?_
    refine' AllReadyH.cons (o := _) ?hoK9 (fun K hK => ?stK9) AllReadyH.nil
    case hoK9 => (simp only [List.getElem?_toArray, List.getElem?_cons_succ, List.getElem?_cons_zero]; rfl)
    rw [if_pos (by rfl)]
    refine wp_store_mid _ _ _ rfl w.heap.size 0 (cs x).toArray rfl rfl (by have := blk_there (hB.drawn hd9); simpa [cs_len] using this) (info_arr x) (cs_one x) ?_
    refine hK.out _ _ (⟨(cell_cells _ _ (by show g ≠ w.heap.size; omega)).trans hHeld.1, World.rangeAt_setCells_apart hHeld.2.1 _ _ _ (.inl (by omega)), keeps_cells (.inr (Nat.le_refl _)) _ _ _ hHeld.2.2⟩) (fun hHeld' => ?_)
    clear hK K hHeld
    have hHeld := hHeld'
    clear hHeld'
    try simp only [Act.put]
    refine' wpAnyH_take (i := 10) (oi := _) (v := _) ?hK10 (by kernel_rfl) (by kernel_rfl) (by kernel_rfl) ?hQK10 (Or.inl ⟨?hwK10, ?hyK10⟩) hHeld ?restK10
    case hK10 => (simp only [List.getElem?_toArray, List.getElem?_cons_succ, List.getElem?_cons_zero]; rfl)
    case hQK10 => exact fun _ _ _ h => h
    case hwK10 => rfl
    case hyK10 => (intro w hSw; (try dsimp only at hSw); go_simp; try with_reducible rfl)
    try simp only [Act.put, List.setIfInBounds_toArray, List.set_cons_zero, List.set_cons_succ]
    refine wpAnyH_done (by kernel_rfl) ?_ _
    have hK := hHeld.2.2
    clear hHeld
    go_wp2
    have hl := run_loadVar_mid (P := Try.prog) _ w.heap.size 0 39 (cs x) _ (World.rangeAt_setCells_same v9 _ _ _ (by have := blk_there (hB.drawn hd9); simpa [cs_len] using this)) Try.underlying39 rfl (info_cs x)
    refine bodyPost_ret (results_cell2 rfl _ _ _ rfl hl) rfl ?_
    exact ⟨rfl, hK⟩
end FiF
end Go.Proofs.Ytdbkgpnbmafpmaa
