/- The writer, method by method. -/
import Derived.Test.YtjdhkpafbejodaaBitsD
import Derived.Test.YtjdhkpafbejodaaOwn
import Derived.Test.YtjdhkpafbejodaaApp
namespace Go.Proofs.Ytjdhkpafbejodaa
open Go.RowKit
attribute [local go_sem] Bw.and255 Bw.and65535
namespace Bi
open Sm Pc
/-- Bytes as cells. -/
def byteCells (l : List UInt8) : List Value := l.map fun c => .int .u8 (c.toNat : Int)
theorem byteCells_append (l m : List UInt8) : byteCells (l ++ m) = byteCells l ++ byteCells m := by simp [byteCells]
theorem byteCells_length (l : List UInt8) : (byteCells l).length = l.length := by simp [byteCells]
/-- A writer: its error, and the bytes that it owns. -/
def Wt (w : World) (base bw : Nat) (err : Int) (l : List UInt8) : Prop := ∃ a c, Blk w bw 63 #[.int .i64 err, .slice a l.length c] ∧ w.ownsRow base 5 1 (.slice a l.length c) l.length (byteCells l)
theorem Wt.keeps {w w' : World} {base bw : Nat} {err : Int} {l : List UInt8} (h : Wt w base bw err l) (hb : Below w.heap.size w w') : Wt w' base bw err l := by
  obtain ⟨a, c, h1, h2⟩ := h
  exact ⟨a, c, h1.below hb h1.lt, ownsRow_keeps h2 (Keeps.of_below hb []) (by simp)⟩
theorem byte_info : (Try.prog.info? 5).map (fun i => (i.zero, i.size, i.bytes)) = some (some (.int .u8 0), 1, 1) := by kernel_rfl
theorem own_form {w : World} {base size n : Nat} {e : TypeId} {v : Value} {xs : List Value} (h : w.ownsRow base e size v n xs) : ∃ a c, v = .slice a n c := by
  rcases h.2 with ⟨rfl, rfl⟩ | ⟨g, cap, cur, rfl, _⟩
  · exact ⟨_, _, rfl⟩
  · exact ⟨_, _, rfl⟩
/-- Blocks of other types than a writer's are as they were. -/
def Others (w w' : World) : Prop := ∀ (b : Nat) (T : TypeId) (cs : Array Value), T ≠ 5 → T ≠ 63 → Blk w b T cs → Blk w' b T cs
theorem Others.refl (w : World) : Others w w := fun _ _ _ _ _ h => h
theorem Others.trans {a b c : World} (h : Others a b) (k : Others b c) : Others a c := fun x T cs h1 h2 h3 => k x T cs h1 h2 (h x T cs h1 h2 h3)
theorem Others.alloc {a b : World} (h : Others a b) (o : Obj) : Others a (b.alloc o) := fun x T cs h1 h2 h3 => (h x T cs h1 h2 h3).alloc o
theorem Others.set {a b : World} (h : Others a b) {bw : Nat} {ws : Array Value} (hw : Blk b bw 63 ws) (i : Nat) (u : Value) : Others a (b.setCell ⟨bw, i, none⟩ u) := fun x T cs h1 h2 h3 => (h x T cs h1 h2 h3).far (p := ⟨bw, i, none⟩) ((h x T cs h1 h2 h3).ne_ hw h2) u
theorem Others.grown {a b c : World} (h : Others a b) {base n : Nat} {v : Value} {xs : List Value} (ho : b.ownsRow base 5 1 v n xs) (hg : b.grownBy c v.ownBlock) : Others a c := fun x T cs h1 h2 h3 => Blk.grown (h x T cs h1 h2 h3) hg (fun e => own_blk_ne ho (h x T cs h1 h2 h3) (Ne.symm h1) e.symm)
def IsWt (base bw : Nat) (err : Int) (l : List UInt8) (w : World) (e : Ending) (w' : World) : Prop := e = .returned (.tuple #[]) ∧ Wt w' base bw err l ∧ Below base w w' ∧ w.heap.size ≤ w'.heap.size ∧ Others w w'
theorem put_ok (base bw : Nat) (l nl : List UInt8) (A : Option Addr) (m c : Nat) (B : Nat) (w : World) (h : Wt w base bw 0 l) (hbase : base ≤ bw) (hr : Reads w B 1 A m (byteCells nl)) (hl : l.length ≤ 1000000) (hm : m ≤ 1000000) :
    Calls Try.prog 41 #[.pointer (some ⟨bw, 0, none⟩), .bool true, .slice A m c] w (IsWt base bw 0 (l ++ nl) w) := by
  obtain ⟨a, cv, hblk, hown⟩ := h
  have hlt := hblk.lt
  have c0 : w.cell? ⟨bw, 0, none⟩ = some (.int .i64 0) := hblk.cell 0
  have c1 : w.cell? ⟨bw, 1, none⟩ = some (.slice a l.length cv) := hblk.cell 1
  have cf := hblk.frozen
  have hmn : m = nl.length := by have := hr.1; rw [byteCells_length] at this; omega
  obtain ⟨i0, hi0, hz0, hz1, hz2⟩ := info_parts byte_info
  have hone : ∀ u ∈ byteCells nl, u.oneCell' = true := by
    intro u hu
    simp [byteCells] at hu
    obtain ⟨x, _, rfl⟩ := hu
    rfl
  have hne := own_blk_ne hown hblk (by decide)
  have hobl : ∀ k, (Value.slice a l.length cv).ownBlock = some k → base ≤ k := fun k hk => (hown.lt k hk).1
  have HM := Lib.hid hmn
  clear hmn
  go_enter Try.func41, Try.ntmps41
  go_wp2_with (at_builtin; refine wpList_append_any _ rfl (.tmp 10) (.tmp 11) _ rfl base 5 i0 _ 1 1 Try.underlying41 hi0 hz0 hz1 hz2 rfl (by omega) (.slice a l.length cv) l.length (byteCells l) rfl hown B A m c (byteCells nl) rfl hr hone (by simp only [maxLen]; omega) (by omega) (by omega) ?_; intro v1 w1 hown1 hg1 hat1; obtain ⟨a1, cv1, hv1⟩ := own_form hown1; rw [hv1] at hown1; rw [hv1]; have hblk1 := Blk.grown hblk hg1 (Ne.symm hne); have d1 : w1.cell? ⟨bw, 1, none⟩ = some (.slice a l.length cv) := hblk1.cell 1; have df := hblk1.frozen)
  go_end0
  have hb1 : Below base w w1 := (Below.refl _ _).grown hg1 (by omega) hobl
  have hne1 := own_blk_ne hown1 hblk1 (by decide)
  refine ⟨rfl, ⟨a1, cv1, ?_, ?_⟩, hb1.setCell hbase _, by simpa [World.setCell] using hg1.size, ((Others.refl _).grown hown hg1).set hblk1 _ _⟩
  · have := hblk1.set_ 1 (.slice a1 (l.length + m) cv1)
    rw [List.length_append, ← HM.out]
    simpa using this
  · rw [List.length_append, ← HM.out, byteCells_append]
    exact ownsRow_setCell hown1 _ _ (by simpa using hne1)
theorem put_old (base bw : Nat) (err : Int) (he : err ≠ 0) (ok : Bool) (l : List UInt8) (A : Option Addr) (m c : Nat) (w : World) (h : Wt w base bw err l) :
    Calls Try.prog 41 #[.pointer (some ⟨bw, 0, none⟩), .bool ok, .slice A m c] w (IsWt base bw err l w) := by
  obtain ⟨a, cv, hblk, hown⟩ := h
  have c0 : w.cell? ⟨bw, 0, none⟩ = some (.int .i64 err) := hblk.cell 0
  have cf := hblk.frozen
  have hb : (err != 0) = true := by rw [bne_iff_ne]; exact he
  clear he
  go_enter Try.func41, Try.ntmps41
  go_wp2
  go_end0
  exact ⟨rfl, ⟨a, cv, hblk, hown⟩, Below.refl _ _, Nat.le_refl _, Others.refl _⟩
theorem put_bad (base bw : Nat) (l : List UInt8) (A : Option Addr) (m c : Nat) (w : World) (h : Wt w base bw 0 l) (hbase : base ≤ bw) :
    Calls Try.prog 41 #[.pointer (some ⟨bw, 0, none⟩), .bool false, .slice A m c] w (IsWt base bw 2 l w) := by
  obtain ⟨a, cv, hblk, hown⟩ := h
  have hlt := hblk.lt
  have c0 : w.cell? ⟨bw, 0, none⟩ = some (.int .i64 0) := hblk.cell 0
  have cf := hblk.frozen
  have hne := own_blk_ne hown hblk (by decide)
  go_enter Try.func41, Try.ntmps41
  go_wp2
  go_end0
  refine ⟨rfl, ⟨a, cv, ?_, ownsRow_setCell hown _ _ (by simpa using hne)⟩, (Below.refl _ _).setCell hbase _, by simp [World.setCell], (Others.refl _).set hblk _ _⟩
  have := hblk.set_ 0 (.int .i64 2)
  simpa using this
/-- What a step writes; none: it can't be. -/
def enc (d n : Int) (t : ByteArray) : Option (List UInt8) :=
  if d = 0 then (if 0 ≤ n ∧ n ≤ 255 then some [UInt8.ofNat n.toNat] else none)
  else if d = 1 then (if 0 ≤ n ∧ n ≤ 65535 then some (putL n) else none)
  else some t.data.toList
theorem reads1 (w : World) (x : Int) (h0 : 0 ≤ x) (h1 : x ≤ 255) : Reads (w.alloc (.cells #[.int .u8 x] 5)) (w.heap.size + 1) 1 (some ⟨w.heap.size, 0, none⟩) 1 (byteCells [UInt8.ofNat x.toNat]) := by
  refine ⟨rfl, fun _ => ⟨_, rfl, by simp, fun j u hu => ?_⟩⟩
  have hj : j = 0 := by
    rcases Nat.eq_zero_or_pos j with h | h
    · exact h
    · simp [byteCells] at hu; rw [List.getElem?_eq_none (by simp; omega)] at hu; cases hu
  subst hj
  simp [byteCells] at hu
  have : (⟨w.heap.size, 0, none⟩ : Addr).add 0 = ⟨w.heap.size, 0, none⟩ := by unfold Addr.add; simp
  rw [this, ← hu]
  simp
  omega
theorem reads2 (w : World) (x y : Int) (h0 : 0 ≤ x) (h1 : x ≤ 255) (h2 : 0 ≤ y) (h3 : y ≤ 255) : Reads (w.alloc (.cells #[.int .u8 x, .int .u8 y] 5)) (w.heap.size + 1) 1 (some ⟨w.heap.size, 0, none⟩) 2 (byteCells [UInt8.ofNat x.toNat, UInt8.ofNat y.toNat]) := by
  refine ⟨rfl, fun _ => ⟨_, rfl, by simp, fun j u hu => ?_⟩⟩
  have hadd : (⟨w.heap.size, 0, none⟩ : Addr).add j = ⟨w.heap.size, j, none⟩ := by unfold Addr.add; split <;> simp_all
  rw [hadd]
  rcases j with _ | _ | j
  · simp [byteCells] at hu
    rw [← hu]; simp; omega
  · simp [byteCells] at hu
    rw [← hu]; simp; omega
  · simp [byteCells] at hu
theorem readsB (w : World) (b : Nat) (l : List UInt8) (h : Bytes w b l) (hb : b < w.heap.size) : Reads w w.heap.size 1 (some ⟨b, 0, none⟩) l.length (byteCells l) := by
  refine ⟨by simp [byteCells], fun _ => ⟨_, rfl, hb, fun j u hu => ?_⟩⟩
  have hadd : (⟨b, 0, none⟩ : Addr).add j = ⟨b, j, none⟩ := by unfold Addr.add; split <;> simp_all
  rw [hadd]
  have hj : j < l.length := by
    have := (List.getElem?_eq_some_iff.1 hu).1
    simpa [byteCells] using this
  rw [h.cell j hj, ← hu]
  simp [byteCells, List.getElem?_eq_getElem hj]
theorem wbyte_any (base bw : Nat) (err n : Int) (l : List UInt8) (w : World) (h : Wt w base bw err l) (hbase : base ≤ bw) (hw : base ≤ w.heap.size) (hl : l.length ≤ 1000000) :
    Calls Try.prog 25 #[.pointer (some ⟨bw, 0, none⟩), .int .i64 n] w (IsWt base bw (if err = 0 then (if 0 ≤ n ∧ n ≤ 255 then 0 else 2) else err) (if err = 0 ∧ 0 ≤ n ∧ n ≤ 255 then l ++ [UInt8.ofNat n.toNat] else l) w) := by
  by_cases he : err = 0
  · subst he
    by_cases h0 : 0 ≤ n ∧ n ≤ 255
    · rw [if_pos rfl, if_pos h0, if_pos ⟨rfl, h0⟩]
      obtain ⟨n0, n1⟩ := h0
      have hr := reads1 w n n0 n1
      have HP := Lib.hid (put_ok base bw l _ _ 1 1 _ _ (h.keeps ((Below.refl _ _).alloc (Nat.le_refl _) (.cells #[.int .u8 n] 5))) hbase hr hl (by decide))
      clear hr h
      go_enter Try.func25, Try.ntmps25
      go_wp2_with fail
      refine HP.out.mono ?_
      rintro e w1 ⟨rfl, h1, h2, h3, h4⟩
      go_wp2
      go_end0
      exact ⟨rfl, h1, ((Below.refl _ _).alloc hw _).trans h2, by simp at h3; omega, ((Others.refl _).alloc _).trans h4⟩
    · rw [if_pos rfl, if_neg h0, if_neg (fun hh => h0 hh.2)]
      have HP := Lib.hid (fun x : Int => put_bad base bw l (some ⟨w.heap.size, 0, none⟩) 1 1 _ (h.keeps ((Below.refl _ _).alloc (Nat.le_refl _) (.cells #[.int .u8 x] 5))) hbase)
      clear h
      by_cases n0 : 0 ≤ n
      · have n1 : 255 < n := by omega
        have hd : decide (n ≤ 255) = false := by simp; omega
        clear h0
        go_enter Try.func25, Try.ntmps25
        go_wp2_with fail
        refine (HP.out _).mono ?_
        rintro e w1 ⟨rfl, h1, h2, h3, h4⟩
        go_wp2
        go_end0
        exact ⟨rfl, h1, ((Below.refl _ _).alloc hw _).trans h2, by simp at h3; omega, ((Others.refl _).alloc _).trans h4⟩
      · clear h0
        go_enter Try.func25, Try.ntmps25
        go_wp2_with fail
        refine (HP.out _).mono ?_
        rintro e w1 ⟨rfl, h1, h2, h3, h4⟩
        go_wp2
        go_end0
        exact ⟨rfl, h1, ((Below.refl _ _).alloc hw _).trans h2, by simp at h3; omega, ((Others.refl _).alloc _).trans h4⟩
  · rw [if_neg he, if_neg (fun hh => he hh.1)]
    have HP := Lib.hid (fun (ok : Bool) (x : Int) => put_old base bw err he ok l (some ⟨w.heap.size, 0, none⟩) 1 1 _ (h.keeps ((Below.refl _ _).alloc (Nat.le_refl _) (.cells #[.int .u8 x] 5))))
    clear h he
    by_cases n0 : 0 ≤ n
    · go_enter Try.func25, Try.ntmps25
      go_wp2_with fail
      refine (HP.out _ _).mono ?_
      rintro e w1 ⟨rfl, h1, h2, h3, h4⟩
      go_wp2
      go_end0
      exact ⟨rfl, h1, ((Below.refl _ _).alloc hw _).trans h2, by simp at h3; omega, ((Others.refl _).alloc _).trans h4⟩
    · go_enter Try.func25, Try.ntmps25
      go_wp2_with fail
      refine (HP.out _ _).mono ?_
      rintro e w1 ⟨rfl, h1, h2, h3, h4⟩
      go_wp2
      go_end0
      exact ⟨rfl, h1, ((Below.refl _ _).alloc hw _).trans h2, by simp at h3; omega, ((Others.refl _).alloc _).trans h4⟩
theorem putL_small (n : Int) (h0 : 0 ≤ n) (h1 : n ≤ 65535) : putL n = [UInt8.ofNat (n % 256).toNat, UInt8.ofNat (n / 256).toNat] := by
  unfold putL
  rw [show n / 256 % 256 = n / 256 from by omega]
theorem wtwo_any (base bw : Nat) (err n : Int) (l : List UInt8) (w : World) (h : Wt w base bw err l) (hbase : base ≤ bw) (hw : base ≤ w.heap.size) (hl : l.length ≤ 1000000) :
    Calls Try.prog 26 #[.pointer (some ⟨bw, 0, none⟩), .int .i64 n] w (IsWt base bw (if err = 0 then (if 0 ≤ n ∧ n ≤ 65535 then 0 else 2) else err) (if err = 0 ∧ 0 ≤ n ∧ n ≤ 65535 then l ++ putL n else l) w) := by
  by_cases he : err = 0
  · subst he
    by_cases h0 : 0 ≤ n ∧ n ≤ 65535
    · rw [if_pos rfl, if_pos h0, if_pos ⟨rfl, h0⟩]
      obtain ⟨n0, n1⟩ := h0
      have hr := reads2 w (n % 256) (n / 256) (by omega) (by omega) (by omega) (by omega)
      rw [← putL_small n n0 n1] at hr
      have HP := Lib.hid (put_ok base bw l _ _ 2 2 _ _ (h.keeps ((Below.refl _ _).alloc (Nat.le_refl _) (.cells #[.int .u8 (n % 256), .int .u8 (n / 256)] 5))) hbase hr hl (by decide))
      clear hr h
      go_enter Try.func26, Try.ntmps26
      go_wp2_with fail
      refine HP.out.mono ?_
      rintro e w1 ⟨rfl, h1, h2, h3, h4⟩
      go_wp2
      go_end0
      exact ⟨rfl, h1, ((Below.refl _ _).alloc hw _).trans h2, by simp at h3; omega, ((Others.refl _).alloc _).trans h4⟩
    · rw [if_pos rfl, if_neg h0, if_neg (fun hh => h0 hh.2)]
      have HP := Lib.hid (fun x y : Int => put_bad base bw l (some ⟨w.heap.size, 0, none⟩) 2 2 _ (h.keeps ((Below.refl _ _).alloc (Nat.le_refl _) (.cells #[.int .u8 x, .int .u8 y] 5))) hbase)
      clear h
      by_cases n0 : 0 ≤ n
      · have n1 : 255 < n := by omega
        have hd : decide (n ≤ 65535) = false := by simp; omega
        clear h0
        go_enter Try.func26, Try.ntmps26
        go_wp2_with fail
        refine (HP.out _ _).mono ?_
        rintro e w1 ⟨rfl, h1, h2, h3, h4⟩
        go_wp2
        go_end0
        exact ⟨rfl, h1, ((Below.refl _ _).alloc hw _).trans h2, by simp at h3; omega, ((Others.refl _).alloc _).trans h4⟩
      · clear h0
        go_enter Try.func26, Try.ntmps26
        go_wp2_with fail
        refine (HP.out _ _).mono ?_
        rintro e w1 ⟨rfl, h1, h2, h3, h4⟩
        go_wp2
        go_end0
        exact ⟨rfl, h1, ((Below.refl _ _).alloc hw _).trans h2, by simp at h3; omega, ((Others.refl _).alloc _).trans h4⟩
  · rw [if_neg he, if_neg (fun hh => he hh.1)]
    have HP := Lib.hid (fun (ok : Bool) (x y : Int) => put_old base bw err he ok l (some ⟨w.heap.size, 0, none⟩) 2 2 _ (h.keeps ((Below.refl _ _).alloc (Nat.le_refl _) (.cells #[.int .u8 x, .int .u8 y] 5))))
    clear h he
    by_cases n0 : 0 ≤ n
    · go_enter Try.func26, Try.ntmps26
      go_wp2_with fail
      refine (HP.out _ _ _).mono ?_
      rintro e w1 ⟨rfl, h1, h2, h3, h4⟩
      go_wp2
      go_end0
      exact ⟨rfl, h1, ((Below.refl _ _).alloc hw _).trans h2, by simp at h3; omega, ((Others.refl _).alloc _).trans h4⟩
    · go_enter Try.func26, Try.ntmps26
      go_wp2_with fail
      refine (HP.out _ _ _).mono ?_
      rintro e w1 ⟨rfl, h1, h2, h3, h4⟩
      go_wp2
      go_end0
      exact ⟨rfl, h1, ((Below.refl _ _).alloc hw _).trans h2, by simp at h3; omega, ((Others.refl _).alloc _).trans h4⟩
/-- What a writer tells. -/
def wrOut (err : Int) (l : List UInt8) : List UInt8 := if err = 0 then l else []
set_option maxRecDepth 100000 in
theorem bytes_of_own (w : World) (base : Nat) (a : Option Addr) (l : List UInt8) (c : Nat) (h : w.ownsRow base 5 1 (.slice a l.length c) l.length (byteCells l)) :
    (convert 41 9 (.slice a l.length c)).run Try.prog w = .ok (.string ⟨l.toArray⟩) w := by
  rcases h.2 with ⟨h1, h2⟩ | ⟨g, cap, cur, h1, _, _⟩
  · have hl : l = [] := List.eq_nil_of_length_eq_zero h2
    subst hl
    injection h1 with e1 e2 e3
    subst e1 e3
    exact run_convert_bytes_nil _ _ _ Try.underlying41 Try.underlying5 _ _ _ Try.underlying9
  · injection h1 with e1 e2 e3
    subst e1
    refine run_convert_bytes_back w _ _ _ ⟨g, 0, none⟩ c l Try.underlying41 Try.underlying5 Try.underlying9 fun j hj => ?_
    exact h.cells (g := g) rfl j _ (by simp [byteCells, List.getElem?_eq_getElem hj])
theorem wbytes_any (base bw : Nat) (err : Int) (l : List UInt8) (w : World) (h : Wt w base bw err l) :
    Calls Try.prog 31 #[.pointer (some ⟨bw, 0, none⟩)] w fun e w' => e = .returned (.string ⟨(wrOut err l).toArray⟩) ∧ w = w' := by
  obtain ⟨a, cv, hblk, hown⟩ := h
  have hcv := bytes_of_own w base a l cv hown
  have c0 : w.cell? ⟨bw, 0, none⟩ = some (.int .i64 err) := hblk.cell 0
  have c1 : w.cell? ⟨bw, 1, none⟩ = some (.slice a l.length cv) := hblk.cell 1
  clear hown
  by_cases he : err = 0
  · subst he
    have e1 : wrOut 0 l = l := rfl
    rw [e1]
    go_enter Try.func31, Try.ntmps31
    go_wp2
    go_ret
    exact ⟨rfl, rfl⟩
  · have e1 : wrOut err l = [] := by unfold wrOut; rw [if_neg he]
    rw [e1]
    have hb : (err != 0) = true := by rw [bne_iff_ne]; exact he
    clear he e1
    go_enter Try.func31, Try.ntmps31
    go_wp2
    go_ret
    exact ⟨rfl, rfl⟩
theorem werr_any (base bw : Nat) (err : Int) (l : List UInt8) (w : World) (h : Wt w base bw err l) :
    Calls Try.prog 29 #[.pointer (some ⟨bw, 0, none⟩)] w fun e w' => e = .returned (.int .i64 err) ∧ w = w' := by
  obtain ⟨a, cv, hblk, hown⟩ := h
  have c0 : w.cell? ⟨bw, 0, none⟩ = some (.int .i64 err) := hblk.cell 0
  clear hown
  go_enter Try.func29, Try.ntmps29
  go_wp2
  go_ret
  exact ⟨rfl, rfl⟩
end Bi
end Go.Proofs.Ytjdhkpafbejodaa
