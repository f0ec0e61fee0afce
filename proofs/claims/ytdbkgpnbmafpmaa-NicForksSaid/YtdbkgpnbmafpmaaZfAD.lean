/- The writer, method by method. The check of 16 bits as a plain machine on numbers of 16 bits: one bit at a time, one byte at a time, that the two are one, that it is linear, and that it loses nothing. What each function of the check's package, of its reference, and of bits computes: one contract a function. What the reference of the check computes, function by function. The law CrcSums, and what all laws of the check lean on: what is asked whatever is asked (live). The law CrcSeals: its walk. -/
import Derived.Test.YtdbkgpnbmafpmaaZfAC
import Derived.Test.YtdbkgpnbmafpmaaZfAB
import Derived.WalkKit
import Derived.Test.YtdbkgpnbmafpmaaProg
import Derived.WalkLawsBesides
import Derived.WalkSpells
import Derived.PlainAid
import Derived.Outline
import Derived.Lib.Hide
import Derived.Handy
namespace Go.Proofs.Ytdbkgpnbmafpmaa
open Go.RowKit
attribute [local go_sem] Bw.and255 Bw.and65535
namespace Bi
open Sm Pc
/-- Bytes as cells. -/
def byteCells (l : List UInt8) : List Value := l.map fun c => .int .u8 (c.toNat : Int)
theorem byteCells_append (l m : List UInt8) : byteCells (l ++ m) = byteCells l ++ byteCells m := by simp [byteCells]
theorem byteCells_length (l : List UInt8) : (byteCells l).length = l.length := by simp [byteCells]
/-- A writer: its error, and the bytes that it owns. -/
def Wt (w : World) (base bw : Nat) (err : Int) (l : List UInt8) : Prop := ∃ a c, Blk w bw 102 #[.int .i64 err, .slice a l.length c] ∧ w.ownsRow base 5 1 (.slice a l.length c) l.length (byteCells l)
theorem Wt.keeps {w w' : World} {base bw : Nat} {err : Int} {l : List UInt8} (h : Wt w base bw err l) (hb : Below w.heap.size w w') : Wt w' base bw err l := by
  obtain ⟨a, c, h1, h2⟩ := h
  exact ⟨a, c, h1.below hb h1.lt, ownsRow_keeps h2 (Keeps.of_below hb []) (by simp)⟩
theorem byte_info : (Try.prog.info? 5).map (fun i => (i.zero, i.size, i.bytes)) = some (some (.int .u8 0), 1, 1) := by kernel_rfl
theorem own_form {w : World} {base size n : Nat} {e : TypeId} {v : Value} {xs : List Value} (h : w.ownsRow base e size v n xs) : ∃ a c, v = .slice a n c := by
  rcases h.2 with ⟨rfl, rfl⟩ | ⟨g, cap, cur, rfl, _⟩
  · exact ⟨_, _, rfl⟩
  · exact ⟨_, _, rfl⟩
def IsWt (base bw : Nat) (err : Int) (l : List UInt8) (w : World) (e : Ending) (w' : World) : Prop := e = .returned (.tuple #[]) ∧ Wt w' base bw err l ∧ Below base w w' ∧ w.heap.size ≤ w'.heap.size
theorem put_ok (base bw : Nat) (l nl : List UInt8) (A : Option Addr) (m c : Nat) (B : Nat) (w : World) (h : Wt w base bw 0 l) (hbase : base ≤ bw) (hr : Reads w B 1 A m (byteCells nl)) (hl : l.length ≤ 1000000) (hm : m ≤ 1000000) :
    Calls Try.prog 57 #[.pointer (some ⟨bw, 0, none⟩), .bool true, .slice A m c] w (IsWt base bw 0 (l ++ nl) w) := by
  obtain ⟨a, cv, hblk, hown⟩ := h
  have hlt := hblk.lt
  have c0 : w.cell? ⟨bw, 0, none⟩ = some (.int .i64 0) := hblk.cell 0
  have c1 : w.cell? ⟨bw, 1, none⟩ = some (.slice a l.length cv) := hblk.cell 1
  have cf := hblk.frozen
  have hmn : m = nl.length := by have := hr.1; rw [byteCells_length] at this; omega
  obtain ⟨i0, hi0, hz0, hz1, hz2⟩ := info_parts byte_info
  have hone : ∀ u ∈ byteCells nl, u.oneCell' = true := by
    intro u hu
    simp [byteCells] at hu
    obtain ⟨x, _, rfl⟩ := hu
    rfl
  have hne := own_blk_ne hown hblk (by decide)
  have hobl : ∀ k, (Value.slice a l.length cv).ownBlock = some k → base ≤ k := fun k hk => (hown.lt k hk).1
  have HM := Lib.hid hmn
  clear hmn
  go_enter Try.func57, Try.ntmps57
  go_wp2_with (at_builtin; refine wpList_append_any _ rfl (.tmp 10) (.tmp 11) _ rfl base 5 i0 _ 1 1 Try.underlying90 hi0 hz0 hz1 hz2 rfl (by omega) (.slice a l.length cv) l.length (byteCells l) rfl hown B A m c (byteCells nl) rfl hr hone (by simp only [maxLen]; omega) (by omega) (by omega) ?_; intro v1 w1 hown1 hg1 hat1; obtain ⟨a1, cv1, hv1⟩ := own_form hown1; rw [hv1] at hown1; rw [hv1]; have hblk1 := Blk.grown hblk hg1 (Ne.symm hne); have d1 : w1.cell? ⟨bw, 1, none⟩ = some (.slice a l.length cv) := hblk1.cell 1; have df := hblk1.frozen)
  go_end0
  have hb1 : Below base w w1 := (Below.refl _ _).grown hg1 (by omega) hobl
  have hne1 := own_blk_ne hown1 hblk1 (by decide)
  refine ⟨rfl, ⟨a1, cv1, ?_, ?_⟩, hb1.setCell hbase _, by simpa [World.setCell] using hg1.size⟩
  · have := hblk1.set_ 1 (.slice a1 (l.length + m) cv1)
    rw [List.length_append, ← HM.out]
    simpa using this
  · rw [List.length_append, ← HM.out, byteCells_append]
    exact ownsRow_setCell hown1 _ _ (by simpa using hne1)
theorem put_old (base bw : Nat) (err : Int) (he : err ≠ 0) (ok : Bool) (l : List UInt8) (A : Option Addr) (m c : Nat) (w : World) (h : Wt w base bw err l) :
    Calls Try.prog 57 #[.pointer (some ⟨bw, 0, none⟩), .bool ok, .slice A m c] w (IsWt base bw err l w) := by
  obtain ⟨a, cv, hblk, hown⟩ := h
  have c0 : w.cell? ⟨bw, 0, none⟩ = some (.int .i64 err) := hblk.cell 0
  have cf := hblk.frozen
  have hb : (err != 0) = true := by rw [bne_iff_ne]; exact he
  clear he
  go_enter Try.func57, Try.ntmps57
  go_wp2
  go_end0
  exact ⟨rfl, ⟨a, cv, hblk, hown⟩, Below.refl _ _, Nat.le_refl _⟩
theorem put_bad (base bw : Nat) (l : List UInt8) (A : Option Addr) (m c : Nat) (w : World) (h : Wt w base bw 0 l) (hbase : base ≤ bw) :
    Calls Try.prog 57 #[.pointer (some ⟨bw, 0, none⟩), .bool false, .slice A m c] w (IsWt base bw 2 l w) := by
  obtain ⟨a, cv, hblk, hown⟩ := h
  have hlt := hblk.lt
  have c0 : w.cell? ⟨bw, 0, none⟩ = some (.int .i64 0) := hblk.cell 0
  have cf := hblk.frozen
  have hne := own_blk_ne hown hblk (by decide)
  go_enter Try.func57, Try.ntmps57
  go_wp2
  go_end0
  refine ⟨rfl, ⟨a, cv, ?_, ownsRow_setCell hown _ _ (by simpa using hne)⟩, (Below.refl _ _).setCell hbase _, by simp [World.setCell]⟩
  have := hblk.set_ 0 (.int .i64 2)
  simpa using this
/-- What a step writes; none: it can't be. -/
def enc (d n : Int) (t : ByteArray) : Option (List UInt8) :=
  if d = 0 then (if 0 ≤ n ∧ n ≤ 255 then some [UInt8.ofNat n.toNat] else none)
  else if d = 1 then (if 0 ≤ n ∧ n ≤ 65535 then some (putL n) else none)
  else some t.data.toList
theorem reads1 (w : World) (x : Int) (h0 : 0 ≤ x) (h1 : x ≤ 255) : Reads (w.alloc (.cells #[.int .u8 x] 5)) (w.heap.size + 1) 1 (some ⟨w.heap.size, 0, none⟩) 1 (byteCells [UInt8.ofNat x.toNat]) := by
  refine ⟨rfl, fun _ => ⟨_, rfl, by simp, fun j u hu => ?_⟩⟩
  have hj : j = 0 := by
    rcases Nat.eq_zero_or_pos j with h | h
    · exact h
    · simp [byteCells] at hu; rw [List.getElem?_eq_none (by simp; omega)] at hu; cases hu
  subst hj
  simp [byteCells] at hu
  have : (⟨w.heap.size, 0, none⟩ : Addr).add 0 = ⟨w.heap.size, 0, none⟩ := by unfold Addr.add; simp
  rw [this, ← hu]
  simp
  omega
theorem reads2 (w : World) (x y : Int) (h0 : 0 ≤ x) (h1 : x ≤ 255) (h2 : 0 ≤ y) (h3 : y ≤ 255) : Reads (w.alloc (.cells #[.int .u8 x, .int .u8 y] 5)) (w.heap.size + 1) 1 (some ⟨w.heap.size, 0, none⟩) 2 (byteCells [UInt8.ofNat x.toNat, UInt8.ofNat y.toNat]) := by
  refine ⟨rfl, fun _ => ⟨_, rfl, by simp, fun j u hu => ?_⟩⟩
  have hadd : (⟨w.heap.size, 0, none⟩ : Addr).add j = ⟨w.heap.size, j, none⟩ := by unfold Addr.add; split <;> simp_all
  rw [hadd]
  rcases j with _ | _ | j
  · simp [byteCells] at hu
    rw [← hu]; simp; omega
  · simp [byteCells] at hu
    rw [← hu]; simp; omega
  · simp [byteCells] at hu
theorem readsB (w : World) (b : Nat) (l : List UInt8) (h : Bytes w b l) (hb : b < w.heap.size) : Reads w w.heap.size 1 (some ⟨b, 0, none⟩) l.length (byteCells l) := by
  refine ⟨by simp [byteCells], fun _ => ⟨_, rfl, hb, fun j u hu => ?_⟩⟩
  have hadd : (⟨b, 0, none⟩ : Addr).add j = ⟨b, j, none⟩ := by unfold Addr.add; split <;> simp_all
  rw [hadd]
  have hj : j < l.length := by
    have := (List.getElem?_eq_some_iff.1 hu).1
    simpa [byteCells] using this
  rw [h.cell j hj, ← hu]
  simp [byteCells, List.getElem?_eq_getElem hj]
theorem wbyte_any (base bw : Nat) (err n : Int) (l : List UInt8) (w : World) (h : Wt w base bw err l) (hbase : base ≤ bw) (hw : base ≤ w.heap.size) (hl : l.length ≤ 1000000) :
    Calls Try.prog 48 #[.pointer (some ⟨bw, 0, none⟩), .int .i64 n] w (IsWt base bw (if err = 0 then (if 0 ≤ n ∧ n ≤ 255 then 0 else 2) else err) (if err = 0 ∧ 0 ≤ n ∧ n ≤ 255 then l ++ [UInt8.ofNat n.toNat] else l) w) := by
  by_cases he : err = 0
  · subst he
    by_cases h0 : 0 ≤ n ∧ n ≤ 255
    · rw [if_pos rfl, if_pos h0, if_pos ⟨rfl, h0⟩]
      obtain ⟨n0, n1⟩ := h0
      have hr := reads1 w n n0 n1
      have HP := Lib.hid (put_ok base bw l _ _ 1 1 _ _ (h.keeps ((Below.refl _ _).alloc (Nat.le_refl _) (.cells #[.int .u8 n] 5))) hbase hr hl (by decide))
      clear hr h
      go_enter Try.func48, Try.ntmps48
      go_wp2_with fail
      refine HP.out.mono ?_
      rintro e w1 ⟨rfl, h1, h2, h3⟩
      go_wp2
      go_end0
      exact ⟨rfl, h1, ((Below.refl _ _).alloc hw _).trans h2, by simp at h3; omega⟩
    · rw [if_pos rfl, if_neg h0, if_neg (fun hh => h0 hh.2)]
      have HP := Lib.hid (fun x : Int => put_bad base bw l (some ⟨w.heap.size, 0, none⟩) 1 1 _ (h.keeps ((Below.refl _ _).alloc (Nat.le_refl _) (.cells #[.int .u8 x] 5))) hbase)
      clear h
      by_cases n0 : 0 ≤ n
      · have n1 : 255 < n := by omega
        have hd : decide (n ≤ 255) = false := by simp; omega
        clear h0
        go_enter Try.func48, Try.ntmps48
        go_wp2_with fail
        refine (HP.out _).mono ?_
        rintro e w1 ⟨rfl, h1, h2, h3⟩
        go_wp2
        go_end0
        exact ⟨rfl, h1, ((Below.refl _ _).alloc hw _).trans h2, by simp at h3; omega⟩
      · clear h0
        go_enter Try.func48, Try.ntmps48
        go_wp2_with fail
        refine (HP.out _).mono ?_
        rintro e w1 ⟨rfl, h1, h2, h3⟩
        go_wp2
        go_end0
        exact ⟨rfl, h1, ((Below.refl _ _).alloc hw _).trans h2, by simp at h3; omega⟩
  · rw [if_neg he, if_neg (fun hh => he hh.1)]
    have HP := Lib.hid (fun (ok : Bool) (x : Int) => put_old base bw err he ok l (some ⟨w.heap.size, 0, none⟩) 1 1 _ (h.keeps ((Below.refl _ _).alloc (Nat.le_refl _) (.cells #[.int .u8 x] 5))))
    clear h he
    by_cases n0 : 0 ≤ n
    · go_enter Try.func48, Try.ntmps48
      go_wp2_with fail
      refine (HP.out _ _).mono ?_
      rintro e w1 ⟨rfl, h1, h2, h3⟩
      go_wp2
      go_end0
      exact ⟨rfl, h1, ((Below.refl _ _).alloc hw _).trans h2, by simp at h3; omega⟩
    · go_enter Try.func48, Try.ntmps48
      go_wp2_with fail
      refine (HP.out _ _).mono ?_
      rintro e w1 ⟨rfl, h1, h2, h3⟩
      go_wp2
      go_end0
      exact ⟨rfl, h1, ((Below.refl _ _).alloc hw _).trans h2, by simp at h3; omega⟩
theorem putL_small (n : Int) (h0 : 0 ≤ n) (h1 : n ≤ 65535) : putL n = [UInt8.ofNat (n % 256).toNat, UInt8.ofNat (n / 256).toNat] := by
  unfold putL
  rw [show n / 256 % 256 = n / 256 from by omega]
theorem wtext_any (base bw : Nat) (err : Int) (s : ByteArray) (l : List UInt8) (w : World) (h : Wt w base bw err l) (hbase : base ≤ bw) (hw : base ≤ w.heap.size) (hl : l.length ≤ 1000000) (hs : s.size ≤ 1000000) :
    Calls Try.prog 50 #[.pointer (some ⟨bw, 0, none⟩), .string s] w (IsWt base bw err (if err = 0 then l ++ s.data.toList else l) w) := by
  obtain ⟨cap, o, hcv, hrow⟩ := bytes_made (P := Try.prog) w 9 90 5 s Try.underlying9 Try.underlying90 Try.underlying5
  have hbl : Below w.heap.size w (w.drew.alloc o) := ((Below.refl _ w).drew).alloc (Nat.le_refl _) _
  have hz : (w.drew.alloc o).heap.size = w.heap.size + 1 := by simp
  have hlen : s.data.toList.length = s.size := by simp
  have hr := readsB (w.drew.alloc o) w.heap.size s.data.toList hrow (by omega)
  rw [hlen] at hr
  have h' := h.keeps hbl
  have hb0 : Below base w (w.drew.alloc o) := hbl.mono hw
  have HH := Lib.hid hb0
  by_cases he : err = 0
  · subst he
    rw [if_pos rfl]
    have HP := Lib.hid (put_ok base bw l _ _ s.size cap _ _ h' hbase hr hl hs)
    clear hrow hbl hz hlen hr h' hb0 h
    go_enter Try.func50, Try.ntmps50
    go_wp2_with fail
    refine HP.out.mono ?_
    rintro e w1 ⟨rfl, h1, h2, h3⟩
    go_wp2
    go_end0
    exact ⟨rfl, h1, HH.out.trans h2, by simp at h3; omega⟩
  · rw [if_neg he]
    have HP := Lib.hid (put_old base bw err he true l (some ⟨w.heap.size, 0, none⟩) s.size cap _ h')
    clear hrow hbl hz hlen hr h' hb0 h he
    go_enter Try.func50, Try.ntmps50
    go_wp2_with fail
    refine HP.out.mono ?_
    rintro e w1 ⟨rfl, h1, h2, h3⟩
    go_wp2
    go_end0
    exact ⟨rfl, h1, HH.out.trans h2, by simp at h3; omega⟩
/-- What a writer tells. -/
def wrOut (err : Int) (l : List UInt8) : List UInt8 := if err = 0 then l else []
set_option maxRecDepth 100000 in
theorem bytes_of_own (w : World) (base : Nat) (a : Option Addr) (l : List UInt8) (c : Nat) (h : w.ownsRow base 5 1 (.slice a l.length c) l.length (byteCells l)) :
    (convert 90 9 (.slice a l.length c)).run Try.prog w = .ok (.string ⟨l.toArray⟩) w := by
  rcases h.2 with ⟨h1, h2⟩ | ⟨g, cap, cur, h1, _, _⟩
  · have hl : l = [] := List.eq_nil_of_length_eq_zero h2
    subst hl
    injection h1 with e1 e2 e3
    subst e1 e3
    exact run_convert_bytes_nil _ _ _ Try.underlying90 Try.underlying5 _ _ _ Try.underlying9
  · injection h1 with e1 e2 e3
    subst e1
    refine run_convert_bytes_back w _ _ _ ⟨g, 0, none⟩ c l Try.underlying90 Try.underlying5 Try.underlying9 fun j hj => ?_
    exact h.cells (g := g) rfl j _ (by simp [byteCells, List.getElem?_eq_getElem hj])
theorem wbytes_any (base bw : Nat) (err : Int) (l : List UInt8) (w : World) (h : Wt w base bw err l) :
    Calls Try.prog 52 #[.pointer (some ⟨bw, 0, none⟩)] w fun e w' => e = .returned (.string ⟨(wrOut err l).toArray⟩) ∧ w = w' := by
  obtain ⟨a, cv, hblk, hown⟩ := h
  have hcv := bytes_of_own w base a l cv hown
  have c0 : w.cell? ⟨bw, 0, none⟩ = some (.int .i64 err) := hblk.cell 0
  have c1 : w.cell? ⟨bw, 1, none⟩ = some (.slice a l.length cv) := hblk.cell 1
  clear hown
  by_cases he : err = 0
  · subst he
    have e1 : wrOut 0 l = l := rfl
    rw [e1]
    go_enter Try.func52, Try.ntmps52
    go_wp2
    go_ret
    exact ⟨rfl, rfl⟩
  · have e1 : wrOut err l = [] := by unfold wrOut; rw [if_neg he]
    rw [e1]
    have hb : (err != 0) = true := by rw [bne_iff_ne]; exact he
    clear he e1
    go_enter Try.func52, Try.ntmps52
    go_wp2
    go_ret
    exact ⟨rfl, rfl⟩
theorem werr_any (base bw : Nat) (err : Int) (l : List UInt8) (w : World) (h : Wt w base bw err l) :
    Calls Try.prog 49 #[.pointer (some ⟨bw, 0, none⟩)] w fun e w' => e = .returned (.int .i64 err) ∧ w = w' := by
  obtain ⟨a, cv, hblk, hown⟩ := h
  have c0 : w.cell? ⟨bw, 0, none⟩ = some (.int .i64 err) := hblk.cell 0
  clear hown
  go_enter Try.func49, Try.ntmps49
  go_wp2
  go_ret
  exact ⟨rfl, rfl⟩
end Bi
end Go.Proofs.Ytdbkgpnbmafpmaa
namespace Go.Proofs.Ytdbkgpnbmafpmaa
namespace Cm

abbrev W16 := BitVec 16
def poly (c : Bool) : W16 := if c then 4129#16 else 0#16
theorem poly_xor (a b : Bool) : poly (a ^^ b) = poly a ^^^ poly b := by cases a <;> cases b <;> simp [poly]
def push (v : W16) (c : Bool) : W16 := (v <<< 1) ^^^ poly (v.msb ^^ c)
def sh (v : W16) : W16 := (v <<< 1) ^^^ poly v.msb
theorem push_false (v : W16) : push v false = sh v := by simp [push, sh]
theorem xor4 (a b c d : W16) : (a ^^^ b) ^^^ (c ^^^ d) = (a ^^^ c) ^^^ (b ^^^ d) := by
  rw [BitVec.xor_assoc, ← BitVec.xor_assoc b c d, BitVec.xor_comm b c, BitVec.xor_assoc c b d, ← BitVec.xor_assoc]
theorem push_xor (v w : W16) (c d : Bool) : push (v ^^^ w) (c ^^ d) = push v c ^^^ push w d := by
  unfold push
  rw [BitVec.shiftLeft_xor_distrib, BitVec.msb_xor, ← xor4, ← poly_xor]
  congr 2
  cases v.msb <;> cases w.msb <;> cases c <;> cases d <;> rfl
theorem sh_xor (v w : W16) : sh (v ^^^ w) = sh v ^^^ sh w := by
  have := push_xor v w false false
  simpa [push_false] using this
theorem sh_zero : sh 0#16 = 0#16 := by decide
theorem sh_ker (v : W16) (h : sh v = 0#16) : v = 0#16 := by
  unfold sh at h
  have h0 := congrArg (fun x : W16 => x.getLsbD 0) h
  cases hm : v.msb with
  | true => simp [hm, poly] at h0
  | false =>
    simp [hm, poly] at h
    apply BitVec.eq_of_getLsbD_eq
    intro i hi
    by_cases h15 : i = 15
    · subst h15
      have : v.getLsbD 15 = v.msb := by simp [BitVec.msb, BitVec.getMsbD]
      rw [this, hm]; simp
    · have h1 := congrArg (fun x : W16 => x.getLsbD (i + 1)) h
      simp at h1
      simp
      exact h1 (by omega)

def shs : Nat → W16 → W16
  | 0, v => v
  | n + 1, v => sh (shs n v)
theorem shs_xor (n : Nat) (v w : W16) : shs n (v ^^^ w) = shs n v ^^^ shs n w := by
  induction n with
  | zero => rfl
  | succ n ih => simp only [shs]; rw [ih, sh_xor]
theorem shs_ker (n : Nat) (v : W16) (h : shs n v = 0#16) : v = 0#16 := by
  induction n with
  | zero => exact h
  | succ n ih => exact ih (sh_ker _ h)

/-- The check behind bits. -/
def feed (v : W16) (l : List Bool) : W16 := l.foldl push v
theorem feed_nil (v : W16) : feed v [] = v := rfl
theorem feed_cons (v : W16) (c : Bool) (l : List Bool) : feed v (c :: l) = feed (push v c) l := rfl
theorem feed_append (v : W16) (l m : List Bool) : feed v (l ++ m) = feed (feed v l) m := by simp [feed, List.foldl_append]
theorem feed_xor (v w : W16) (l m : List Bool) (h : l.length = m.length) :
    feed (v ^^^ w) (List.zipWith Bool.xor l m) = feed v l ^^^ feed w m := by
  induction l generalizing v w m with
  | nil => cases m with
    | nil => rfl
    | cons _ _ => simp at h
  | cons c l ih => cases m with
    | nil => simp at h
    | cons d m =>
      simp only [List.zipWith_cons_cons, feed_cons]
      rw [show (Bool.xor c d) = (c ^^ d) from rfl, push_xor]
      exact ih _ _ _ (by simpa using h)
theorem feed_zeros (v : W16) (n : Nat) : feed v (List.replicate n false) = shs n v := by
  induction n generalizing v with
  | zero => rfl
  | succ n ih =>
    rw [List.replicate_succ', feed_append, ih, feed_cons, feed_nil, push_false]; rfl

/-- Bits, the first one the highest: of at most 16 they are a number, shifted to the top. -/
def top (l : List Bool) : W16 := match l with
  | [] => 0#16
  | c :: m => (if c then 32768#16 else 0#16) ^^^ (top m >>> 1)
theorem top_getMsbD (l : List Bool) : ∀ i, i < 16 → (top l).getMsbD i = l.getD i false := by
  induction l with
  | nil => intro i _; simp [top]
  | cons c m ih =>
    intro i hi
    cases i with
    | zero =>
      simp [top]
      have : (top m >>> 1).getLsbD 15 = false := by simp
      cases c <;> simp [BitVec.getMsbD]
    | succ j =>
      have := ih j (by omega)
      simp [top]
      rw [List.getD_eq_getElem?_getD] at this
      rw [← this]
      have hc : (if c then 32768#16 else 0#16 : W16).getMsbD (j + 1) = false := by
        cases c
        · simp
        · simp only [if_true]
          have : ∀ j : Fin 15, (32768#16 : W16).getMsbD (j.val + 1) = false := by decide
          exact this ⟨j, by omega⟩
      rw [hc]
      simp
      omega
theorem top_zero (l : List Bool) (h : l.length ≤ 16) (h0 : top l = 0#16) : ∀ c ∈ l, c = false := by
  intro c hc
  obtain ⟨i, hi, rfl⟩ := List.getElem_of_mem hc
  have := top_getMsbD l i (by omega)
  rw [h0] at this
  simp at this
  rw [List.getElem?_eq_getElem hi] at this
  simpa using this.symm
theorem push_top (v : W16) (c : Bool) : push v c = sh (v ^^^ (if c then 32768#16 else 0#16)) := by
  cases c
  · simp [push_false]
  · simp only [if_true]
    unfold push sh
    rw [BitVec.shiftLeft_xor_distrib, BitVec.msb_xor]
    have h1 : (32768#16 : W16).msb = true := by decide
    have h2 : (32768#16 : W16) <<< 1 = 0#16 := by decide
    rw [h1, h2]; simp
theorem sh_half (v : W16) : sh (v >>> 1) ^^^ v = (if v.getLsbD 0 then 1#16 else 0#16) := by
  apply BitVec.eq_of_getLsbD_eq
  intro i hi
  unfold sh
  have hm : (v >>> 1).msb = false := by simp [BitVec.msb, BitVec.getMsbD]
  rw [hm]
  by_cases h0 : i = 0
  · subst h0
    cases h : v.getLsbD 0 <;> simp [poly] <;> simpa using h
  · have e : 1 + (i - 1) = i := by omega
    have hr : (if v.getLsbD 0 then 1#16 else 0#16 : W16).getLsbD i = false := by
      split
      · have : ∀ j : Fin 16, j.val ≠ 0 → (1#16 : W16).getLsbD j.val = false := by decide
        exact this ⟨i, hi⟩ h0
      · simp
    rw [hr]
    simp [poly, h0, hi, e]
/-- BITS THAT ARE FED ARE A NUMBER THAT IS ADDED AHEAD: of at most 16. -/
theorem feed_top (l : List Bool) (h : l.length ≤ 16) : ∀ v, feed v l = shs l.length (v ^^^ top l) := by
  induction l with
  | nil => intro v; simp [feed, shs, top]
  | cons c m ih =>
    intro v
    have hm : m.length ≤ 16 := by simp at h; omega
    rw [feed_cons, ih hm, push_top]
    have ht : sh (top m >>> 1) = top m := by
      have h1 := sh_half (top m)
      have h2 : (top m).getLsbD 0 = false := by
        have h3 := top_getMsbD m 15 (by decide)
        have h4 : m.getD 15 false = false := by
          simp at h
          rw [List.getD_eq_getElem?_getD, List.getElem?_eq_none (by omega)]; rfl
        rw [h4] at h3
        simpa [BitVec.getMsbD] using h3
      rw [h2] at h1
      simp at h1
      exact h1
    have e : sh (v ^^^ (if c then 32768#16 else 0#16)) ^^^ top m = sh (v ^^^ top (c :: m)) := by
      rw [show top (c :: m) = (if c then 32768#16 else 0#16) ^^^ (top m >>> 1) from rfl, ← BitVec.xor_assoc, sh_xor _ (top m >>> 1), ht]
    rw [e, List.length_cons]
    generalize v ^^^ top (c :: m) = z
    have comm : ∀ n (z : W16), shs n (sh z) = sh (shs n z) := by
      intro n; induction n with
      | zero => intro z; rfl
      | succ n ih => intro z; simp only [shs]; rw [ih]
    rw [comm]; rfl
/-- WHAT IS FED TO NOTHING IS NOTHING ONLY IF IT IS: of at most 16 bits, with as many noughts behind as one likes. -/
theorem feed_ker (l : List Bool) (h : l.length ≤ 16) (n : Nat) (h0 : feed 0#16 (l ++ List.replicate n false) = 0#16) : ∀ c ∈ l, c = false := by
  rw [feed_append, feed_zeros, feed_top l h] at h0
  have h1 := shs_ker _ _ (shs_ker _ _ h0)
  simp at h1
  exact top_zero l h h1

/-! A byte's bits. -/
def bit (b : Nat) (k : Nat) : Bool := b.testBit (7 - k)
def bitsB (b : Nat) : List Bool := [b.testBit 7, b.testBit 6, b.testBit 5, b.testBit 4, b.testBit 3, b.testBit 2, b.testBit 1, b.testBit 0]
theorem sixteen (i : Nat) (h : i < 16) : i = 0 ∨ i = 1 ∨ i = 2 ∨ i = 3 ∨ i = 4 ∨ i = 5 ∨ i = 6 ∨ i = 7 ∨ i = 8 ∨ i = 9 ∨ i = 10 ∨ i = 11 ∨ i = 12 ∨ i = 13 ∨ i = 14 ∨ i = 15 := by omega
theorem bitsB_length (b : Nat) : (bitsB b).length = 8 := rfl
theorem top_bitsB (b : Nat) : top (bitsB b) = BitVec.ofNat 16 (b * 256) := by
  apply BitVec.eq_of_getMsbD_eq
  intro i hi
  rw [top_getMsbD _ _ hi]
  have hr : (BitVec.ofNat 16 (b * 256)).getMsbD i = (b * 256).testBit (15 - i) := by
    rw [BitVec.getMsbD, BitVec.getLsbD_ofNat]
    simp [hi]
    omega
  rw [hr, show b * 256 = b <<< 8 from by rw [Nat.shiftLeft_eq], Nat.testBit_shiftLeft]
  rcases sixteen i hi with h | h | h | h | h | h | h | h | h | h | h | h | h | h | h | h <;> subst h <;> simp [bitsB]
/-- The check behind a byte. -/
def byteStep (v : W16) (b : Nat) : W16 := shs 8 (v ^^^ BitVec.ofNat 16 (b * 256))
theorem step_feed (v : W16) (b : Nat) : byteStep v b = feed v (bitsB b) := by
  rw [feed_top _ (by simp [bitsB_length]), top_bitsB b]; rfl
/-- The check of bytes. -/
def crc (v : W16) (l : List UInt8) : W16 := l.foldl (fun v b => byteStep v b.toNat) v
def textBits (l : List UInt8) : List Bool := l.flatMap fun b => bitsB b.toNat
theorem crc_feed (v : W16) (l : List UInt8) : crc v l = feed v (textBits l) := by
  induction l generalizing v with
  | nil => rfl
  | cons b l ih =>
    show crc (byteStep v b.toNat) l = _
    rw [ih, step_feed _ b.toNat, show textBits (b :: l) = bitsB b.toNat ++ textBits l from rfl, feed_append]
theorem crc_append (v : W16) (l m : List UInt8) : crc v (l ++ m) = crc (crc v l) m := by simp [crc, List.foldl_append]
theorem crc_snoc (v : W16) (l : List UInt8) (b : UInt8) : crc v (l ++ [b]) = byteStep (crc v l) b.toNat := by simp [crc, List.foldl_append]
/-- Two bytes that are the check's own bring it to nought; no two others do. -/
theorem crc_two (v : W16) (b c : UInt8) : crc v [b, c] = 0#16 ↔ b.toNat = v.toNat / 256 ∧ c.toNat = v.toNat % 256 := by
  have hb := b.toNat_lt
  have hc := c.toNat_lt
  have hv := v.isLt
  have e : crc v [b, c] = shs 16 (v ^^^ top (bitsB b.toNat ++ bitsB c.toNat)) := by
    rw [crc_feed]
    exact feed_top (bitsB b.toNat ++ bitsB c.toNat) (by simp [bitsB_length]) v
  have et : top (bitsB b.toNat ++ bitsB c.toNat) = BitVec.ofNat 16 (b.toNat * 256 + c.toNat) := by
    apply BitVec.eq_of_getMsbD_eq
    intro i hi
    rw [top_getMsbD _ _ hi]
    have hr : (BitVec.ofNat 16 (b.toNat * 256 + c.toNat)).getMsbD i = (b.toNat * 256 + c.toNat).testBit (15 - i) := by
      rw [BitVec.getMsbD, BitVec.getLsbD_ofNat]
      simp [hi]
      omega
    rw [hr, show b.toNat * 256 + c.toNat = 2 ^ 8 * b.toNat + c.toNat from by omega, Nat.testBit_two_pow_mul_add _ (by simpa using hc)]
    rcases sixteen i hi with h | h | h | h | h | h | h | h | h | h | h | h | h | h | h | h <;> subst h <;> simp [bitsB]
  rw [e, et]
  constructor
  · intro h
    have h1 := shs_ker _ _ h
    have h2 : v = BitVec.ofNat 16 (b.toNat * 256 + c.toNat) := by
      have := congrArg (fun z => z ^^^ BitVec.ofNat 16 (b.toNat * 256 + c.toNat)) h1
      simpa [BitVec.xor_assoc] using this
    have h3 : v.toNat = b.toNat * 256 + c.toNat := by
      rw [h2, BitVec.toNat_ofNat]; exact Nat.mod_eq_of_lt (by omega)
    omega
  · rintro ⟨h1, h2⟩
    have h3 : v = BitVec.ofNat 16 (b.toNat * 256 + c.toNat) := by
      apply BitVec.eq_of_toNat_eq
      rw [BitVec.toNat_ofNat]
      omega
    rw [← h3]
    simp
    decide
end Cm
end Go.Proofs.Ytdbkgpnbmafpmaa
namespace Go.Proofs.Ytdbkgpnbmafpmaa
open Go.RowKit
attribute [local go_sem] Bw.and255 Bw.and65535
namespace Cw
open Cm

theorem seq_true {r s : ByteArray} (h : r.data.toList = s.data.toList) : (r.toList == s.toList) = true := by
  rw [ByteArray.toList_eq, ByteArray.toList_eq, h]; simp
theorem seq_false {r s : ByteArray} (h : ¬ r.data.toList = s.data.toList) : (r.toList == s.toList) = false := by
  rw [ByteArray.toList_eq, ByteArray.toList_eq]; simpa using h
theorem ret_int {k : IntKind} {a b : Int} (h : a = b) : Ending.returned (.int k a) = .returned (.int k b) := by rw [h]
theorem wrap64_in' (x : Int) (h : -9223372036854775808 ≤ x ∧ x ≤ 9223372036854775807) : wrap64 x = x := IntWalk.wrap64_in x h

/-! bits -/
theorem low_any (n : Int) (w : World) : Calls Try.prog 60 #[.int .i64 n] w fun e w' => e = .returned (.int .i64 (n % 256)) ∧ w = w' := by
  go_enter Try.func60, Try.ntmps60
  go_wp2
  go_ret
  exact ⟨rfl, rfl⟩
theorem high_any (n : Int) (w : World) : Calls Try.prog 59 #[.int .i64 n] w fun e w' => e = .returned (.int .i64 (n / 256 % 256)) ∧ w = w' := by
  go_enter Try.func59, Try.ntmps59
  go_wp2
  go_ret
  exact ⟨rfl, rfl⟩

/-! the check -/
/-- One bit, in the walk's spelling. -/
theorem bit_of (v : W16) : bits .and .i64 (v.toNat : Int) 32768 = if v.msb then 32768 else 0 := by
  have hv := v.isLt
  have := Bw.and_nat v.toNat 32768 (by omega) (by decide)
  rw [show ((32768 : Nat) : Int) = 32768 from rfl] at this
  rw [this]
  rw [show (32768 : Nat) = 2 ^ 15 from rfl, nat_bit]
  rw [BitVec.msb_eq_decide]
  by_cases h : 2 ^ (16 - 1) ≤ v.toNat
  · rw [if_pos (by simpa using h)]; have : v.toNat / 2 ^ 15 % 2 = 1 := by omega
    rw [this]; rfl
  · rw [if_neg (by simpa using h)]; have : v.toNat / 2 ^ 15 % 2 = 0 := by omega
    rw [this]; rfl
theorem sh_yes (v : W16) (h : v.msb = true) : bits .xor .i64 ((v.toNat : Int) * 2 % 65536) 4129 = ((sh v).toNat : Int) := by
  have e : ((v.toNat : Int) * 2 % 65536) = ((v.toNat * 2 % 65536 : Nat) : Int) := by omega
  have := Bw.xor_nat (v.toNat * 2 % 65536) 4129 (by omega) (by decide)
  rw [e]
  rw [show ((4129 : Nat) : Int) = 4129 from rfl] at this
  rw [this]
  unfold sh
  rw [h, BitVec.toNat_xor, BitVec.toNat_shiftLeft, Nat.shiftLeft_eq]
  rfl
theorem sh_no (v : W16) (h : v.msb = false) : (v.toNat : Int) * 2 % 65536 = ((sh v).toNat : Int) := by
  have e : ((v.toNat : Int) * 2 % 65536) = ((v.toNat * 2 % 65536 : Nat) : Int) := by omega
  rw [e]
  unfold sh
  rw [h, show poly false = 0#16 from rfl, BitVec.xor_zero, BitVec.toNat_shiftLeft, Nat.shiftLeft_eq]
/-- A number's lower 16 bits. -/
def w16 (s : Int) : W16 := BitVec.ofNat 16 (s % 65536).toNat
theorem w16_nat (v : W16) : w16 (v.toNat : Int) = v := by
  have hv := v.isLt
  unfold w16
  apply BitVec.eq_of_toNat_eq
  rw [BitVec.toNat_ofNat]; omega
theorem start_of (s b : Int) : bits .xor .i64 (s % 65536) (b % 256 * 256) = ((w16 s ^^^ BitVec.ofNat 16 ((b % 256).toNat * 256)).toNat : Int) := by
  have h1 : s % 65536 = (((s % 65536).toNat : Nat) : Int) := by omega
  have h2 : b % 256 * 256 = (((b % 256).toNat * 256 : Nat) : Int) := by omega
  have := Bw.xor_nat (s % 65536).toNat ((b % 256).toNat * 256) (by omega) (by omega)
  rw [← h1, ← h2] at this
  rw [this, BitVec.toNat_xor]
  unfold w16
  rw [BitVec.toNat_ofNat, BitVec.toNat_ofNat, Nat.mod_eq_of_lt (by omega), Nat.mod_eq_of_lt (by omega)]
theorem step_any (s b : Int) (w : World) : Calls Try.prog 63 #[.int .i64 s, .int .i64 b] w fun e w' => e = .returned (.int .i64 ((byteStep (w16 s) (b % 256).toNat).toNat : Int)) ∧ w = w' := by
  have H0 := Lib.hid (start_of s b)
  have hb : 0 ≤ b % 256 ∧ b % 256 ≤ 255 := by omega
  obtain ⟨hb0, hb1⟩ := hb
  unfold byteStep
  generalize (w16 s ^^^ BitVec.ofNat 16 ((b % 256).toNat * 256)) = v0 at *
  go_enter Try.func63, Try.ntmps63
  go_wp2
  go_loop [0, 5, 12] (fun x _ i => ∃ k : Nat, k ≤ 8 ∧ i = .int .i64 k ∧ x = .int .i64 ((shs k v0).toNat : Int)) (fun _ _ i => 8 - (intOf i).toNat)
  case atStart => exact ⟨0, by omega, rfl, by rw [H0.out]; rfl⟩
  case round =>
    obtain ⟨k, hk, rfl, rfl⟩ := hrel
    have hS : shs (k + 1) v0 = sh (shs k v0) := rfl
    have HS := Lib.hid hS
    clear hS
    generalize hE : shs k v0 = v at *
    have HE := Lib.hid hE
    clear hE
    have hv := v.isLt
    have hb := bit_of v
    by_cases hlt : k < 8
    · cases hm : v.msb
      · have H1 := Lib.hid (sh_no v hm)
        rw [hm] at hb
        simp at hb
        clear hm
        go_wp2
        go_round
        case rel => exact ⟨k + 1, by omega, by go_num, by rw [HS.out, ← H1.out]⟩
        case measure => simp [intOf]; omega
      · have H1 := Lib.hid (sh_yes v hm)
        rw [hm] at hb
        simp at hb
        clear hm
        go_wp2
        go_round
        case rel => exact ⟨k + 1, by omega, by go_num, by rw [HS.out, ← H1.out]⟩
        case measure => simp [intOf]; omega
    · go_wp2
      go_ret
      obtain rfl : k = 8 := by omega
      exact ⟨by rw [HE.out]; rfl, rfl⟩

/-! a text's bytes, one by one -/
open PlainAid (bt get_bt bt_nonneg bt_le)
theorem bt_get (s : ByteArray) (k : Nat) (h : k < s.size) : bt s k = (s[k].toNat : Int) := (get_bt s k h).symm
theorem take_snoc (s : ByteArray) (k : Nat) (h : k < s.size) : s.data.toList.take (k + 1) = s.data.toList.take k ++ [s[k]] := by
  rw [List.take_succ_eq_append_getElem (by simpa using h)]; rfl
theorem byte_mod (c : UInt8) : (((c.toNat : Int)) % 256).toNat = c.toNat := by have := c.toNat_lt; omega

theorem sum_any (s : ByteArray) (w : World) (hs : s.size ≤ 400) : Calls Try.prog 58 #[.string s] w fun e w' => e = .returned (.int .i64 ((crc 65535#16 s.data.toList).toNat : Int)) ∧ w = w' := by
  have hb := get_bt s
  go_enter Try.func58, Try.ntmps58
  go_wp2
  go_loop [3, 4, 7] (fun x _ i => ∃ k : Nat, k ≤ s.size ∧ i = .int .i64 k ∧ x = .int .i64 ((crc 65535#16 (s.data.toList.take k)).toNat : Int)) (fun _ _ i => s.size - (intOf i).toNat)
  case atStart => exact ⟨0, by omega, rfl, rfl⟩
  case round =>
    obtain ⟨k, hk, rfl, rfl⟩ := hrel
    by_cases hlt : k < s.size
    · have b0 := bt_nonneg s k
      have b1 := bt_le s k
      have HT : Hid (crc 65535#16 (s.data.toList.take (k + 1)) = byteStep (crc 65535#16 (s.data.toList.take k)) (bt s k % 256).toNat) := by
        rw [take_snoc s k hlt, crc_snoc, bt_get s k hlt, byte_mod]; rfl
      generalize crc 65535#16 (s.data.toList.take k) = v at *
      go_wp2_with (go_at_call 63; refine (step_any _ _ _).mono ?_; rintro e w' ⟨rfl, rfl⟩)
      go_round
      case rel => exact ⟨k + 1, by omega, by go_num, by rw [HT.out, w16_nat]⟩
      case measure => simp [intOf]; omega
    · go_wp2
      go_ret
      exact ⟨ret_int (by rw [List.take_of_length_le (by simp; omega)]), rfl⟩

/-- A text with its check. -/
def sealL (l : List UInt8) : List UInt8 := l ++ [UInt8.ofNat ((crc 65535#16 l).toNat / 256), UInt8.ofNat ((crc 65535#16 l).toNat % 256)]
theorem sealL_length (l : List UInt8) : (sealL l).length = l.length + 2 := by simp [sealL]
def IsText (l : List UInt8) (w : World) (e : Ending) (w' : World) : Prop := ∃ r : ByteArray, e = .returned (.string r) ∧ r.data.toList = l ∧ Below w.heap.size w w'

theorem two_bytes (w : World) (x y : Int) : (convert 90 9 (.slice (some ⟨w.heap.size, 0, none⟩) 2 2)).run Try.prog (w.alloc (.cells #[.int .u8 x, .int .u8 y] 5)) = .ok (.string (strOfNums [x, y])) (w.alloc (.cells #[.int .u8 x, .int .u8 y] 5)) := by
  refine run_convert_bytes_arg (P := Try.prog) _ 90 5 Try.underlying90 Try.underlying5 _ 0 2 2 [x, y] rfl ?_ 9 Try.underlying9
  intro i hi
  have : i = 0 ∨ i = 1 := by omega
  rcases this with rfl | rfl <;> simp

theorem seal_any (s : ByteArray) (w : World) (hs : s.size ≤ 400) : Calls Try.prog 51 #[.string s] w (IsText (sealL s.data.toList) w) := by
  have hcv := two_bytes w
  have hsz : ∀ x y : Int, (strOfNums [x, y]).size = 2 := fun x y => strOfNums_size [x, y]
  have H : ∀ n : Nat, n < 65536 → (s ++ strOfNums [(n : Int) / 256 % 256, (n : Int) % 256]).data.toList = s.data.toList ++ [UInt8.ofNat (n / 256), UInt8.ofNat (n % 256)] := by
    intro n hn
    have h1 : ((n : Int) / 256 % 256).toNat = n / 256 := by omega
    have h2 : ((n : Int) % 256).toNat = n % 256 := by omega
    simp [strOfNums, h1, h2]
  have h1 := H _ (crc 65535#16 s.data.toList).isLt
  have H1 := Lib.hid h1
  have HF : Hid (sealL s.data.toList = s.data.toList ++ [UInt8.ofNat ((crc 65535#16 s.data.toList).toNat / 256), UInt8.ofNat ((crc 65535#16 s.data.toList).toNat % 256)]) := rfl
  generalize sealL s.data.toList = l at *
  clear h1 H
  generalize hv : crc 65535#16 s.data.toList = v at *
  have HV := Lib.hid hv
  clear hv
  go_enter Try.func51, Try.ntmps51
  go_wp2_with (first | (go_at_call 58; refine (sum_any _ _ hs).mono ?_; rintro e w' ⟨rfl, rfl⟩; rw [HV.out]) | (go_at_call 59; refine (high_any _ _).mono ?_; rintro e w' ⟨rfl, rfl⟩) | (go_at_call 60; refine (low_any _ _).mono ?_; rintro e w' ⟨rfl, rfl⟩))
  go_ret
  exact ⟨_, rfl, by rw [H1.out, HF.out], (Below.refl _ _).alloc (Nat.le_refl _) _⟩


theorem seal_iff (l : List UInt8) (h : 2 ≤ l.length) : sealL (l.take (l.length - 2)) = l ↔ crc 65535#16 l = 0#16 := by
  obtain ⟨p, b, c, rfl⟩ : ∃ p b c, l = p ++ [b, c] := by
    refine ⟨l.take (l.length - 2), l[l.length - 2], l[l.length - 1], ?_⟩
    apply List.ext_getElem
    · simp; omega
    · intro i h1 h2
      rw [List.getElem_append]
      split
      · simp
      · rename_i h3
        simp at h3 h2
        have : i = l.length - 2 ∨ i = l.length - 1 := by omega
        rcases this with rfl | rfl
        · simp [show min (l.length - 2) l.length = l.length - 2 from by omega]
        · simp [show min (l.length - 2) l.length = l.length - 2 from by omega, show l.length - 1 - (l.length - 2) = 1 from by omega]
  have e : (p ++ [b, c]).take ((p ++ [b, c]).length - 2) = p := by simp
  rw [e, crc_append, crc_two]
  have hv := (crc 65535#16 p).isLt
  unfold sealL
  rw [List.append_cancel_left_eq]
  constructor
  · intro h
    simp at h
    obtain ⟨rfl, rfl⟩ := h
    simp
    omega
  · rintro ⟨h1, h2⟩
    rw [← h1, ← h2]
    simp

/-- What opening answers: the bytes, and the error. -/
def openV (l : List UInt8) : List UInt8 × Int := if l.length < 2 then ([], 5) else if crc 65535#16 l = 0#16 then (l.take (l.length - 2), 0) else ([], 10)
def IsPair (l : List UInt8) (n : Int) (w : World) (e : Ending) (w' : World) : Prop := ∃ r : ByteArray, e = .returned (.tuple #[.string r, .int .i64 n]) ∧ r.data.toList = l ∧ Below w.heap.size w w'
theorem open_any (s : ByteArray) (w : World) (hs : s.size ≤ 400) : Calls Try.prog 44 #[.string s] w (IsPair (openV s.data.toList).1 (openV s.data.toList).2 w) := by
  by_cases h2 : s.size < 2
  · have hl : s.data.toList.length < 2 := by simpa using h2
    have HE : Hid (openV s.data.toList = ([], 5)) := by unfold openV; rw [if_pos hl]; rfl
    clear hl
    rw [HE.out]
    go_enter Try.func44, Try.ntmps44
    go_wp2
    go_ret2
    exact ⟨_, rfl, rfl, Below.refl _ _⟩
  · have h2' : 2 ≤ s.data.toList.length := by simp; omega
    have hq := seal_iff _ h2'
    have hx : (s.extract 0 (s.size - 2)).data.toList = s.data.toList.take (s.data.toList.length - 2) := by simp
    have hxs : (s.extract 0 (s.size - 2)).size ≤ 400 := by simp; omega
    have HX := Lib.hid hx
    clear hx
    by_cases hz : crc 65535#16 s.data.toList = 0#16
    · have HE : Hid (openV s.data.toList = (s.data.toList.take (s.data.toList.length - 2), 0)) := by unfold openV; rw [if_neg (by omega), if_pos hz]; rfl
      have HS := Lib.hid (hq.2 hz)
      clear hq hz h2'
      rw [HE.out]
      go_enter Try.func44, Try.ntmps44
      go_wp2_with fail
      refine (seal_any _ _ hxs).mono ?_
      rintro e w1 ⟨r, rfl, hr, hb⟩
      have hr' := seq_true (by rw [hr, HX.out, HS.out] : r.data.toList = s.data.toList)
      clear hr
      go_wp2
      go_ret2
      exact ⟨_, rfl, HX.out, hb⟩
    · have HE : Hid (openV s.data.toList = ([], 10)) := by unfold openV; rw [if_neg (by omega), if_neg hz]; rfl
      have HS : Hid (¬ sealL (s.data.toList.take (s.data.toList.length - 2)) = s.data.toList) := fun h => hz (hq.1 h)
      clear hq hz h2'
      rw [HE.out]
      go_enter Try.func44, Try.ntmps44
      go_wp2_with fail
      refine (seal_any _ _ hxs).mono ?_
      rintro e w1 ⟨r, rfl, hr, hb⟩
      have hr' := seq_false (by rw [hr, HX.out]; exact HS.out : ¬ r.data.toList = s.data.toList)
      clear hr
      go_wp2
      go_ret2
      exact ⟨_, rfl, rfl, hb⟩
end Cw
end Go.Proofs.Ytdbkgpnbmafpmaa
namespace Go.Proofs.Ytdbkgpnbmafpmaa
open Go.RowKit
attribute [local go_sem] Bw.and255 Bw.and65535
namespace Cw
open Cm
open PlainAid (bt get_bt bt_nonneg bt_le)

theorem push_eq_no (s b : Int) (_h0 : 0 ≤ s) (_h1 : s < 65536) (h2 : 0 ≤ b) (h3 : b < 2) (hc : s / 32768 = b) : s * 2 % 65536 = ((push (w16 s) (b == 1)).toNat : Int) := by
  unfold push
  have e : ((w16 s).msb ^^ (b == 1)) = false := by
    rw [BitVec.msb_eq_decide]
    unfold w16
    rw [BitVec.toNat_ofNat]
    have : b = 0 ∨ b = 1 := by omega
    rcases this with rfl | rfl
    · simp; omega
    · simp; omega
  rw [e, show poly false = 0#16 from rfl, BitVec.xor_zero, BitVec.toNat_shiftLeft, Nat.shiftLeft_eq]
  unfold w16
  rw [BitVec.toNat_ofNat]
  omega
theorem push_eq_yes (s b : Int) (h0 : 0 ≤ s) (h1 : s < 65536) (h2 : 0 ≤ b) (h3 : b < 2) (hc : ¬ s / 32768 = b) : bits .xor .i64 (s * 2 % 65536) 4129 = ((push (w16 s) (b == 1)).toNat : Int) := by
  unfold push
  have e : ((w16 s).msb ^^ (b == 1)) = true := by
    rw [BitVec.msb_eq_decide]
    unfold w16
    rw [BitVec.toNat_ofNat]
    have : b = 0 ∨ b = 1 := by omega
    rcases this with rfl | rfl
    · simp; omega
    · simp; omega
  rw [e, show poly true = 4129#16 from rfl, BitVec.toNat_xor, BitVec.toNat_shiftLeft, Nat.shiftLeft_eq]
  have e2 : s * 2 % 65536 = (((s * 2 % 65536).toNat : Nat) : Int) := by omega
  have := Bw.xor_nat (s * 2 % 65536).toNat 4129 (by omega) (by decide)
  rw [← e2, show ((4129 : Nat) : Int) = 4129 from rfl] at this
  rw [this]
  unfold w16
  rw [BitVec.toNat_ofNat]
  have e3 : (s * 2 % 65536).toNat = (s % 65536).toNat % 2 ^ 16 * 2 ^ 1 % 2 ^ 16 := by omega
  rw [e3]; rfl
theorem u16_lt (u : W16) : (u.toNat : Int) < 65536 := by have := u.isLt; omega
theorem push_any (s b : Int) (w : World) (h0 : 0 ≤ s) (h1 : s < 65536) (h2 : 0 ≤ b) (h3 : b < 2) : Calls Try.prog 64 #[.int .i64 s, .int .i64 b] w fun e w' => e = .returned (.int .i64 ((push (w16 s) (b == 1)).toNat : Int)) ∧ w = w' := by
  by_cases hc : s / 32768 = b
  · have H := Lib.hid (push_eq_no s b h0 h1 h2 h3 hc)
    have hb : (s / 32768 != b) = false := by simpa using hc
    clear hc
    go_enter Try.func64, Try.ntmps64
    go_wp2
    go_ret
    exact ⟨ret_int H.out, rfl⟩
  · have H := Lib.hid (push_eq_yes s b h0 h1 h2 h3 hc)
    have hb : (s / 32768 != b) = true := by simpa using hc
    clear hc
    go_enter Try.func64, Try.ntmps64
    go_wp2
    go_ret
    exact ⟨ret_int H.out, rfl⟩

/-- A bit of a byte, from the highest on. -/
def bitI (b i : Int) : Int := b / 2 ^ (7 - i).toNat % 2
theorem bitI_bd (b i : Int) : 0 ≤ bitI b i ∧ bitI b i < 2 := by unfold bitI; omega
theorem bitI_bit (b : Nat) (i : Nat) : (bitI b i == 1) = b.testBit (7 - i) := by
  unfold bitI
  have e : (7 - (i : Int)).toNat = 7 - i := by omega
  rw [e, Nat.testBit_eq_decide_div_mod_eq]
  have e2 : (b : Int) / 2 ^ (7 - i) % 2 = ((b / 2 ^ (7 - i) % 2 : Nat) : Int) := by simp
  rw [e2, Bool.eq_iff_iff]
  simp
  omega
theorem halved (b : Int) (m : Nat) : b / 2 ^ m / 2 = b / 2 ^ (m + 1) := by
  rw [Int.pow_succ, Int.ediv_ediv_of_nonneg (by exact Int.le_of_lt (Int.pow_pos (by decide)))]
theorem div_pow_bd (b : Int) (m : Nat) (h0 : 0 ≤ b) (h1 : b ≤ 255) : 0 ≤ b / 2 ^ m ∧ b / 2 ^ m ≤ 255 := by
  have hp : (0 : Int) < 2 ^ m := Int.pow_pos (by decide)
  exact ⟨Int.ediv_nonneg h0 (by omega), by have := Int.ediv_le_self (2 ^ m) h0; omega⟩
theorem bit_any (b i : Int) (w : World) (h0 : 0 ≤ b) (h1 : b ≤ 255) (h2 : 0 ≤ i) (h3 : i ≤ 7) : Calls Try.prog 65 #[.int .u8 b, .int .i64 i] w fun e w' => e = .returned (.int .i64 (bitI b i)) ∧ w = w' := by
  go_enter Try.func65, Try.ntmps65
  go_wp2
  go_loop [5, 6] (fun n k => ∃ m : Nat, i ≤ 7 - m ∧ k = .int .i64 (7 - m) ∧ n = .int .i64 (b / 2 ^ m)) (fun _ k => (intOf k).toNat)
  case atStart => exact ⟨0, by omega, rfl, by simp⟩
  case round =>
    obtain ⟨m, hm, rfl, rfl⟩ := hrel
    have HV := Lib.hid (halved b m)
    obtain ⟨d0, d1⟩ := div_pow_bd b m h0 h1
    have HE : i = 7 - m → Hid (bitI b i = b / 2 ^ m % 2) := by rintro rfl; unfold bitI; rw [show (7 - (7 - (m : Int))).toNat = m from by omega]; rfl
    generalize b / 2 ^ m = x at *
    by_cases hlt : i < 7 - m
    · clear HE
      go_wp2
      go_round
      case rel => exact ⟨m + 1, by omega, by congr 1; omega, by rw [← HV.out]⟩
      case measure => simp [intOf]; omega
    · have HE := HE (by omega)
      go_wp2
      go_ret
      exact ⟨ret_int HE.out.symm, rfl⟩

theorem feed8 (b : Nat) (k : Nat) (hk : k < 8) (v : W16) : feed v ((bitsB b).take (k + 1)) = push (feed v ((bitsB b).take k)) (b.testBit (7 - k)) := by
  have : (bitsB b).take (k + 1) = (bitsB b).take k ++ [b.testBit (7 - k)] := by
    match k, hk with
    | 0, _ | 1, _ | 2, _ | 3, _ | 4, _ | 5, _ | 6, _ | 7, _ => rfl
  rw [this, feed_append, feed_cons, feed_nil]
theorem from_any (n : Int) (s : ByteArray) (w : World) (hs : s.size ≤ 400) (h0 : 0 ≤ n) (h1 : n < 65536) : Calls Try.prog 61 #[.int .i64 n, .string s] w fun e w' => e = .returned (.int .i64 ((crc (w16 n) s.data.toList).toNat : Int)) ∧ w = w' := by
  have hb := get_bt s
  have HW : Hid (n = ((w16 n).toNat : Int)) := by unfold w16; rw [BitVec.toNat_ofNat]; show n = _; omega
  generalize w16 n = v0 at *
  go_enter Try.func61, Try.ntmps61
  go_wp2
  go_loop [0, 5, 6] (fun x i _ => ∃ k : Nat, k ≤ s.size ∧ i = .int .i64 k ∧ x = .int .i64 ((crc v0 (s.data.toList.take k)).toNat : Int)) (fun _ i _ => s.size - (intOf i).toNat)
  case atStart => exact ⟨0, by omega, rfl, by rw [HW.out]; rfl⟩
  case round =>
    obtain ⟨k, hk, rfl, rfl⟩ := hrel
    by_cases hlt : k < s.size
    · have b0 := bt_nonneg s k
      have b1 := bt_le s k
      have HT : Hid (crc v0 (s.data.toList.take (k + 1)) = feed (crc v0 (s.data.toList.take k)) ((bitsB (bt s k).toNat).take 8)) := by
        rw [take_snoc s k hlt, crc_snoc, bt_get s k hlt, step_feed]; rfl
      generalize crc v0 (s.data.toList.take k) = v at *
      go_wp2
      go_loop [0, 6] (fun x j => ∃ m : Nat, m ≤ 8 ∧ j = .int .i64 m ∧ x = .int .i64 ((feed v ((bitsB (bt s k).toNat).take m)).toNat : Int)) (fun _ j => 8 - (intOf j).toNat)
      case atStart => exact ⟨0, by omega, rfl, rfl⟩
      case round =>
        obtain ⟨m, hm, rfl, rfl⟩ := hrel
        by_cases hm8 : m < 8
        · have HF := Lib.hid (feed8 (bt s k).toNat m hm8 v)
          have HB : Hid ((bitI (bt s k) m == 1) = (bt s k).toNat.testBit (7 - m)) := by
            have := bitI_bit (bt s k).toNat m
            rw [Int.toNat_of_nonneg b0] at this
            exact this
          generalize feed v ((bitsB (bt s k).toNat).take m) = u at *
          have hu0 : 0 ≤ (u.toNat : Int) := by omega
          go_wp2_with fail
          refine (bit_any _ _ _ b0 b1 (by omega) (by omega)).mono ?_
          rintro e w1 ⟨rfl, rfl⟩
          obtain ⟨c0, c1⟩ := bitI_bd (bt s k) m
          generalize bitI (bt s k) m = c at *
          go_wp2_with fail
          refine (push_any _ _ _ hu0 (u16_lt u) c0 c1).mono ?_
          rintro e w1 ⟨rfl, rfl⟩
          rw [w16_nat, HB.out]
          go_wp2
          go_round
          case rel => exact ⟨m + 1, by omega, by go_num, by rw [HF.out]⟩
          case measure => simp [intOf]; omega
        · obtain rfl : m = 8 := by omega
          go_wp2
          go_round
          case rel => exact ⟨k + 1, by omega, by go_num, by rw [HT.out]⟩
          case measure => simp [intOf]; omega
    · go_wp2
      go_ret
      exact ⟨ret_int (by rw [List.take_of_length_le (by simp; omega)]), rfl⟩
end Cw
end Go.Proofs.Ytdbkgpnbmafpmaa
namespace Go.Proofs.Ytdbkgpnbmafpmaa
open Go.RowKit
attribute [local go_sem] Bw.and255 Bw.and65535
namespace Cw
open Cm
open PlainAid (bt get_bt bt_nonneg bt_le)

theorem live1 : (crc 65535#16 (ByteArray.mk #[49, 50, 51, 52, 53, 54, 55, 56, 57]).data.toList).toNat = 10673 := by decide +kernel
theorem live2 : (crc 65535#16 (ByteArray.mk #[]).data.toList).toNat = 65535 := by decide +kernel
theorem tmod_facts (n b : Int) (h0 : 1 ≤ b) : -b < n.tmod b ∧ n.tmod b < b ∧ (n.tmod b < 0 → n.tmod b + b = n % b) ∧ (0 ≤ n.tmod b → n.tmod b = n % b) := by
  have hb : -b < n.tmod b ∧ n.tmod b < b := by
    rcases Int.le_total 0 n with h | h
    · rw [Int.tmod_eq_emod_of_nonneg h]
      have := Int.emod_nonneg n (show b ≠ 0 by omega)
      have := Int.emod_lt_of_pos n (show 0 < b by omega)
      omega
    · have e : n.tmod b = -((-n) % b) := by
        rw [← Int.tmod_eq_emod_of_nonneg (show 0 ≤ -n by omega), Int.neg_tmod]; omega
      have := Int.emod_nonneg (-n) (show b ≠ 0 by omega)
      have := Int.emod_lt_of_pos (-n) (show 0 < b by omega)
      omega
  have hm : n % b = n.tmod b % b := by
    have h := Int.mul_tdiv_add_tmod n b
    conv => lhs; rw [← h]
    rw [Int.add_comm, Int.add_mul_emod_self_left]
  refine ⟨hb.1, hb.2, fun h => ?_, fun h => ?_⟩
  · rw [hm, ← Int.add_emod_right, Int.emod_eq_of_lt (by omega) (by omega)]
  · rw [hm, Int.emod_eq_of_lt (by omega) (by omega)]
theorem rsum_any (s : ByteArray) (w : World) (hs : s.size ≤ 400) : Calls Try.prog 55 #[.string s] w fun e w' => e = .returned (.int .i64 ((crc 65535#16 s.data.toList).toNat : Int)) ∧ w = w' := by
  go_enter Try.func55, Try.ntmps55
  go_wp2_with fail
  refine (from_any _ _ _ hs (by decide) (by decide)).mono ?_
  rintro e w1 ⟨rfl, rfl⟩
  go_wp2
  go_ret
  exact ⟨rfl, rfl⟩

end Cw
end Go.Proofs.Ytdbkgpnbmafpmaa
namespace Go.Proofs.Ytdbkgpnbmafpmaa
open Go.RowKit
attribute [local go_sem] Bw.and255 Bw.and65535
namespace Cw
open Cm

theorem rseal_any (s : ByteArray) (w : World) (hs : s.size ≤ 400) : Calls Try.prog 39 #[.string s] w (IsText (sealL s.data.toList) w) := by
  have hcv := two_bytes w
  have hsz : ∀ x y : Int, (strOfNums [x, y]).size = 2 := fun x y => strOfNums_size [x, y]
  have H : ∀ n : Nat, n < 65536 → (s ++ strOfNums [(n : Int) / 256, (n : Int) % 256]).data.toList = s.data.toList ++ [UInt8.ofNat (n / 256), UInt8.ofNat (n % 256)] := by
    intro n hn
    have h1 : ((n : Int) / 256).toNat = n / 256 := by omega
    have h2 : ((n : Int) % 256).toNat = n % 256 := by omega
    simp [strOfNums, h1, h2]
  have h1 := H _ (crc 65535#16 s.data.toList).isLt
  have H1 := Lib.hid h1
  have HF : Hid (sealL s.data.toList = s.data.toList ++ [UInt8.ofNat ((crc 65535#16 s.data.toList).toNat / 256), UInt8.ofNat ((crc 65535#16 s.data.toList).toNat % 256)]) := rfl
  generalize sealL s.data.toList = l at *
  clear h1 H
  generalize hv : crc 65535#16 s.data.toList = v at *
  have HV := Lib.hid hv
  clear hv
  go_enter Try.func39, Try.ntmps39
  go_wp2_with (go_at_call 55; refine (rsum_any _ _ hs).mono ?_; rintro e w' ⟨rfl, rfl⟩; rw [HV.out])
  go_ret
  exact ⟨_, rfl, by rw [H1.out, HF.out], (Below.refl _ _).alloc (Nat.le_refl _) _⟩

theorem openV_seal (l : List UInt8) : openV (sealL l) = (l, 0) ∧ crc 65535#16 (sealL l) = 0#16 := by
  have h : crc 65535#16 (sealL l) = 0#16 := by
    rw [← seal_iff _ (by rw [sealL_length]; omega)]
    rw [sealL_length]
    have : (sealL l).take (l.length + 2 - 2) = l := by simp [sealL]
    rw [this]
  refine ⟨?_, h⟩
  unfold openV
  rw [if_neg (by rw [sealL_length]; omega), if_pos h, sealL_length]
  simp [sealL]
theorem open_seal (x : ByteArray) (l : List UInt8) (w : World) (hx : x.data.toList = sealL l) (hs : x.size ≤ 400) : Calls Try.prog 44 #[.string x] w (IsPair l 0 w) := by
  have := open_any x w hs
  rw [hx, (openV_seal l).1] at this
  exact this
theorem sum_seal (x : ByteArray) (l : List UInt8) (w : World) (hx : x.data.toList = sealL l) (hs : x.size ≤ 400) : Calls Try.prog 58 #[.string x] w fun e w' => e = .returned (.int .i64 0) ∧ w = w' := by
  have := sum_any x w hs
  rw [hx, (openV_seal l).2] at this
  exact this
theorem size_of (x : ByteArray) (l : List UInt8) (hx : x.data.toList = l) : x.size = l.length := by rw [← hx]; simp
theorem open_is (x : ByteArray) (l : List UInt8) (n : Int) (w : World) (hs : x.size ≤ 400) (hx : openV x.data.toList = (l, n)) : Calls Try.prog 44 #[.string x] w (IsPair l n w) := by
  have := open_any x w hs
  rw [hx] at this
  exact this
theorem openV_short (l : List UInt8) (h : l.length < 2) : openV l = ([], 5) := by unfold openV; rw [if_pos h]
theorem openV_good (l : List UInt8) (h : ¬ l.length < 2) (hz : crc 65535#16 l = 0#16) : openV l = (l.take (l.length - 2), 0) := by unfold openV; rw [if_neg h, if_pos hz]
theorem openV_bad (l : List UInt8) (h : ¬ l.length < 2) (hz : ¬ crc 65535#16 l = 0#16) : openV l = ([], 10) := by unfold openV; rw [if_neg h, if_neg hz]
theorem sempty {r : ByteArray} (h : r.data.toList = []) : r.toList.isEmpty = true := by rw [ByteArray.toList_eq, h]; rfl

end Cw
end Go.Proofs.Ytdbkgpnbmafpmaa
