/- The program's tables: its walk. -/
import Derived.Test.YtjdhkpafbejodaaImG
import Derived.WalkMore
namespace Go.Proofs.Ytjdhkpafbejodaa
open Go.RowKit
namespace Im
open Sm Bi
theorem cons_of {l : List Value} {n : Nat} (h : l.length = n + 1) : ∃ u t, l = u :: t ∧ t.length = n := by
  cases l with
  | nil => simp at h
  | cons u t => exact ⟨u, t, rfl, by simpa using h⟩
theorem arr92 (tm : Array Value) (h : tm.size = 92) : ∃ u0 u1 u2 u3 u4 u5 u6 u7 u8 u9 u10 u11 u12 u13 u14 u15 u16 u17 u18 u19 u20 u21 u22 u23 u24 u25 u26 u27 u28 u29 u30 u31 u32 u33 u34 u35 u36 u37 u38 u39 u40 u41 u42 u43 u44 u45 u46 u47 u48 u49 u50 u51 u52 u53 u54 u55 u56 u57 u58 u59 u60 u61 u62 u63 u64 u65 u66 u67 u68 u69 u70 u71 u72 u73 u74 u75 u76 u77 u78 u79 u80 u81 u82 u83 u84 u85 u86 u87 u88 u89 u90 u91, tm = #[u0, u1, u2, u3, u4, u5, u6, u7, u8, u9, u10, u11, u12, u13, u14, u15, u16, u17, u18, u19, u20, u21, u22, u23, u24, u25, u26, u27, u28, u29, u30, u31, u32, u33, u34, u35, u36, u37, u38, u39, u40, u41, u42, u43, u44, u45, u46, u47, u48, u49, u50, u51, u52, u53, u54, u55, u56, u57, u58, u59, u60, u61, u62, u63, u64, u65, u66, u67, u68, u69, u70, u71, u72, u73, u74, u75, u76, u77, u78, u79, u80, u81, u82, u83, u84, u85, u86, u87, u88, u89, u90, u91] := by
  obtain ⟨l⟩ := tm
  have h0 : l.length = 92 := h
  clear h
  obtain ⟨u0, l, rfl, h1⟩ := cons_of h0
  obtain ⟨u1, l, rfl, h2⟩ := cons_of h1
  obtain ⟨u2, l, rfl, h3⟩ := cons_of h2
  obtain ⟨u3, l, rfl, h4⟩ := cons_of h3
  obtain ⟨u4, l, rfl, h5⟩ := cons_of h4
  obtain ⟨u5, l, rfl, h6⟩ := cons_of h5
  obtain ⟨u6, l, rfl, h7⟩ := cons_of h6
  obtain ⟨u7, l, rfl, h8⟩ := cons_of h7
  obtain ⟨u8, l, rfl, h9⟩ := cons_of h8
  obtain ⟨u9, l, rfl, h10⟩ := cons_of h9
  obtain ⟨u10, l, rfl, h11⟩ := cons_of h10
  obtain ⟨u11, l, rfl, h12⟩ := cons_of h11
  obtain ⟨u12, l, rfl, h13⟩ := cons_of h12
  obtain ⟨u13, l, rfl, h14⟩ := cons_of h13
  obtain ⟨u14, l, rfl, h15⟩ := cons_of h14
  obtain ⟨u15, l, rfl, h16⟩ := cons_of h15
  obtain ⟨u16, l, rfl, h17⟩ := cons_of h16
  obtain ⟨u17, l, rfl, h18⟩ := cons_of h17
  obtain ⟨u18, l, rfl, h19⟩ := cons_of h18
  obtain ⟨u19, l, rfl, h20⟩ := cons_of h19
  obtain ⟨u20, l, rfl, h21⟩ := cons_of h20
  obtain ⟨u21, l, rfl, h22⟩ := cons_of h21
  obtain ⟨u22, l, rfl, h23⟩ := cons_of h22
  obtain ⟨u23, l, rfl, h24⟩ := cons_of h23
  obtain ⟨u24, l, rfl, h25⟩ := cons_of h24
  obtain ⟨u25, l, rfl, h26⟩ := cons_of h25
  obtain ⟨u26, l, rfl, h27⟩ := cons_of h26
  obtain ⟨u27, l, rfl, h28⟩ := cons_of h27
  obtain ⟨u28, l, rfl, h29⟩ := cons_of h28
  obtain ⟨u29, l, rfl, h30⟩ := cons_of h29
  obtain ⟨u30, l, rfl, h31⟩ := cons_of h30
  obtain ⟨u31, l, rfl, h32⟩ := cons_of h31
  obtain ⟨u32, l, rfl, h33⟩ := cons_of h32
  obtain ⟨u33, l, rfl, h34⟩ := cons_of h33
  obtain ⟨u34, l, rfl, h35⟩ := cons_of h34
  obtain ⟨u35, l, rfl, h36⟩ := cons_of h35
  obtain ⟨u36, l, rfl, h37⟩ := cons_of h36
  obtain ⟨u37, l, rfl, h38⟩ := cons_of h37
  obtain ⟨u38, l, rfl, h39⟩ := cons_of h38
  obtain ⟨u39, l, rfl, h40⟩ := cons_of h39
  obtain ⟨u40, l, rfl, h41⟩ := cons_of h40
  obtain ⟨u41, l, rfl, h42⟩ := cons_of h41
  obtain ⟨u42, l, rfl, h43⟩ := cons_of h42
  obtain ⟨u43, l, rfl, h44⟩ := cons_of h43
  obtain ⟨u44, l, rfl, h45⟩ := cons_of h44
  obtain ⟨u45, l, rfl, h46⟩ := cons_of h45
  obtain ⟨u46, l, rfl, h47⟩ := cons_of h46
  obtain ⟨u47, l, rfl, h48⟩ := cons_of h47
  obtain ⟨u48, l, rfl, h49⟩ := cons_of h48
  obtain ⟨u49, l, rfl, h50⟩ := cons_of h49
  obtain ⟨u50, l, rfl, h51⟩ := cons_of h50
  obtain ⟨u51, l, rfl, h52⟩ := cons_of h51
  obtain ⟨u52, l, rfl, h53⟩ := cons_of h52
  obtain ⟨u53, l, rfl, h54⟩ := cons_of h53
  obtain ⟨u54, l, rfl, h55⟩ := cons_of h54
  obtain ⟨u55, l, rfl, h56⟩ := cons_of h55
  obtain ⟨u56, l, rfl, h57⟩ := cons_of h56
  obtain ⟨u57, l, rfl, h58⟩ := cons_of h57
  obtain ⟨u58, l, rfl, h59⟩ := cons_of h58
  obtain ⟨u59, l, rfl, h60⟩ := cons_of h59
  obtain ⟨u60, l, rfl, h61⟩ := cons_of h60
  obtain ⟨u61, l, rfl, h62⟩ := cons_of h61
  obtain ⟨u62, l, rfl, h63⟩ := cons_of h62
  obtain ⟨u63, l, rfl, h64⟩ := cons_of h63
  obtain ⟨u64, l, rfl, h65⟩ := cons_of h64
  obtain ⟨u65, l, rfl, h66⟩ := cons_of h65
  obtain ⟨u66, l, rfl, h67⟩ := cons_of h66
  obtain ⟨u67, l, rfl, h68⟩ := cons_of h67
  obtain ⟨u68, l, rfl, h69⟩ := cons_of h68
  obtain ⟨u69, l, rfl, h70⟩ := cons_of h69
  obtain ⟨u70, l, rfl, h71⟩ := cons_of h70
  obtain ⟨u71, l, rfl, h72⟩ := cons_of h71
  obtain ⟨u72, l, rfl, h73⟩ := cons_of h72
  obtain ⟨u73, l, rfl, h74⟩ := cons_of h73
  obtain ⟨u74, l, rfl, h75⟩ := cons_of h74
  obtain ⟨u75, l, rfl, h76⟩ := cons_of h75
  obtain ⟨u76, l, rfl, h77⟩ := cons_of h76
  obtain ⟨u77, l, rfl, h78⟩ := cons_of h77
  obtain ⟨u78, l, rfl, h79⟩ := cons_of h78
  obtain ⟨u79, l, rfl, h80⟩ := cons_of h79
  obtain ⟨u80, l, rfl, h81⟩ := cons_of h80
  obtain ⟨u81, l, rfl, h82⟩ := cons_of h81
  obtain ⟨u82, l, rfl, h83⟩ := cons_of h82
  obtain ⟨u83, l, rfl, h84⟩ := cons_of h83
  obtain ⟨u84, l, rfl, h85⟩ := cons_of h84
  obtain ⟨u85, l, rfl, h86⟩ := cons_of h85
  obtain ⟨u86, l, rfl, h87⟩ := cons_of h86
  obtain ⟨u87, l, rfl, h88⟩ := cons_of h87
  obtain ⟨u88, l, rfl, h89⟩ := cons_of h88
  obtain ⟨u89, l, rfl, h90⟩ := cons_of h89
  obtain ⟨u90, l, rfl, h91⟩ := cons_of h90
  obtain ⟨u91, l, rfl, h92⟩ := cons_of h91
  obtain rfl := List.eq_nil_of_length_eq_zero h92
  exact ⟨u0, u1, u2, u3, u4, u5, u6, u7, u8, u9, u10, u11, u12, u13, u14, u15, u16, u17, u18, u19, u20, u21, u22, u23, u24, u25, u26, u27, u28, u29, u30, u31, u32, u33, u34, u35, u36, u37, u38, u39, u40, u41, u42, u43, u44, u45, u46, u47, u48, u49, u50, u51, u52, u53, u54, u55, u56, u57, u58, u59, u60, u61, u62, u63, u64, u65, u66, u67, u68, u69, u70, u71, u72, u73, u74, u75, u76, u77, u78, u79, u80, u81, u82, u83, u84, u85, u86, u87, u88, u89, u90, u91, rfl⟩
/-- What holds at a label. -/
def Jt (s : ByteArray) (w0 : World) (b rc bc : Nat) (Ph : ByteArray → Int × Int → Int → Int → List (List Int) → List (List Int) → List (List Int) → Prop) (a : Act) (w : World) : Prop :=
  ∃ (tm : Array Value) (n : Int) (σ : Int × Int) (fr : Int) (X1 X2 X3 : List (List Int)) (a1 : Option Addr) (c1 : Nat) (a2 : Option Addr) (c2 : Nat) (a3 : Option Addr) (c3 : Nat), a = { tmps := tm, defers := [] } ∧ tm.size = 92 ∧ tm[0]? = some (.pointer (some ⟨b, 0, none⟩)) ∧ tm[2]? = some (.pointer (some ⟨rc, 0, none⟩)) ∧ tm[3]? = some (.pointer (some ⟨bc, 0, none⟩)) ∧ tm[4]? = some (.int .i64 n) ∧ Ph s σ n fr X1 X2 X3 ∧ Tc w0 w b rc bc s σ fr X1 X2 X3 a1 c1 a2 c2 a3 c3
def nOf (a : Act) : Nat := (intOf (a.tmps.getD 4 undef)).toNat
/-- The rows lie in blocks from B on. -/
def CfA (B : Nat) (a1 a2 a3 : Option Addr) : Prop := ∀ ad : Addr, (a1 = some ad ∨ a2 = some ad ∨ a3 = some ad) → B ≤ ad.block
theorem RI.block {w w' : World} {k : Nat} {a : Option Addr} {rows : List (List Int)} (h : RI w k a rows) (hs : w.heap.size ≤ w'.heap.size) (hb : ∀ ad : Addr, a = some ad → ad.block < w.heap.size → w'.heap[ad.block]? = w.heap[ad.block]?) : RI w' k a rows := by
  refine ⟨h.1, fun h0 => ?_⟩
  obtain ⟨b, off, e, hl, hc⟩ := h.2 h0
  exact ⟨b, off, e, Nat.lt_of_lt_of_le hl hs, fun i r hr j x hx => (World.cell?_of_block (a := ⟨b, off + i * k + j, none⟩) (w := w) (hb ⟨b, off, none⟩ e hl)).trans (hc i r hr j x hx)⟩
theorem CfR.keeps {w w' : World} {S : List Nat} {B : Nat} {c : Cfg} {a1 a2 a3 : Option Addr} (h : CfR w c a1 a2 a3) (ha : CfA B a1 a2 a3) (hk : Keeps S w w') (hS : ∀ x ∈ S, x < B) : CfR w' c a1 a2 a3 := by
  have key : ∀ ad : Addr, (a1 = some ad ∨ a2 = some ad ∨ a3 = some ad) → ad.block ∉ S := fun ad had hm => by
    have h1 := ha ad had
    have h2 := hS _ hm
    omega
  exact ⟨h.r1.block hk.size fun ad e hl => hk.block _ hl (key ad (.inl e)), h.r2.block hk.size fun ad e hl => hk.block _ hl (key ad (.inr (.inl e))), h.r3.block hk.size fun ad e hl => hk.block _ hl (key ad (.inr (.inr e)))⟩
/-- What tables answers. -/
def IsTab (b : Nat) (s : ByteArray) (w0 : World) (e : Ending) (w' : World) : Prop :=
  ∃ (σ : Int × Int) (c : Cfg) (a1 : Option Addr) (c1 : Nat) (a2 : Option Addr) (c2 : Nat) (a3 : Option Addr) (c3 : Nat), e = .returned (.agg #[.int .i64 c.fr, .slice a1 c.ws.length c1, .slice a2 c.ss.length c2, .slice a3 c.cs.length c3]) ∧ Bi.Rd w' b s σ.1 σ.2 ∧ okσ s σ ∧ Keeps [b] w0 w' ∧ CfR w' c a1 a2 a3 ∧ Fin s σ c.fr c.ws c.ss c.cs ∧ CfA w0.heap.size a1 a2 a3
section
variable {w0 w w' : World} {b rc bc : Nat} {s : ByteArray} {σ : Int × Int} {n fr : Int} {X1 X2 X3 : List (List Int)} {a1 a2 a3 : Option Addr} {c1 c2 c3 : Nat}
theorem tab_end (h : Tc w0 w b rc bc s σ fr X1 X2 X3 a1 c1 a2 c2 a3 c3) (hf : Fin s σ fr X1 X2 X3) (hk : Keeps [rc] w w') : IsTab b s w0 (.returned (.agg #[.int .i64 fr, .slice a1 X1.length c1, .slice a2 X2.length c2, .slice a3 X3.length c3])) w' := by
  have hb := h.hb
  have g1 := h.h1
  refine ⟨σ, ⟨fr, X1, X2, X3⟩, a1, c1, a2, c2, a3, c3, rfl, h.rd.keeps hk (by simp; omega), h.ok, h.kp.next hk (by simp; omega), ⟨?_, ?_, ?_⟩, hf, ?_⟩
  · exact ri_own (ownsRow_keeps h.o1 hk (fun k e => by have := own_blk_ne h.o1 h.rb (by decide); rw [e] at this; simp; intro h9; exact this (by rw [h9]))) rfl h.l1
  · exact ri_own (ownsRow_keeps h.o2 hk (fun k e => by have := own_blk_ne h.o2 h.rb (by decide); rw [e] at this; simp; intro h9; exact this (by rw [h9]))) rfl h.l2
  · exact ri_own (ownsRow_keeps h.o3 hk (fun k e => by have := own_blk_ne h.o3 h.rb (by decide); rw [e] at this; simp; intro h9; exact this (by rw [h9]))) rfl h.l3
  · rintro ad (rfl | rfl | rfl)
    · exact (h.o1.lt ad.block rfl).1
    · exact (h.o2.lt ad.block rfl).1
    · exact (h.o3.lt ad.block rfl).1
theorem Ph0.lens (h : Ph0 s σ n fr X1 X2 X3) : 0 ≤ n ∧ n ≤ 255 ∧ (σ.2 = 0 → X1.length ≤ 255) := by
  have := n1_le s.data.toList
  rcases h with ⟨k, hp, hl, hk, h0, hf, h1, h2, h3⟩ | h
  · exact ⟨h0, by omega, fun _ => by rw [h1, rowsAt_len]; omega⟩
  · exact ⟨h.n0.1, h.n0.2, fun h9 => absurd (h9.symm.trans h.e) (by decide)⟩
theorem Ph1.lens (h : Ph1 s σ n fr X1 X2 X3) : 0 ≤ n ∧ n ≤ 255 ∧ (σ.2 = 0 → X2.length ≤ 255) := by
  have := n2_le s.data.toList
  rcases h with ⟨k, hp, hl, hk, h0, hf, h1, h2, h3⟩ | h
  · exact ⟨h0, by omega, fun _ => by rw [h2, rowsAt_len]; omega⟩
  · exact ⟨h.n0.1, h.n0.2, fun h9 => absurd (h9.symm.trans h.e) (by decide)⟩
theorem Ph2.lens (h : Ph2 s σ n fr X1 X2 X3) : 0 ≤ n ∧ n ≤ 255 ∧ (σ.2 = 0 → X3.length ≤ 255) := by
  have := n3_le s.data.toList
  rcases h with ⟨k, hp, hl, hk, h0, hf, h1, h2, h3⟩ | h
  · exact ⟨h0, by omega, fun _ => by rw [h3, rowsAt_len]; omega⟩
  · exact ⟨h.n0.1, h.n0.2, fun h9 => absurd (h9.symm.trans h.e) (by decide)⟩
end
theorem two0 {b : Nat} {s : ByteArray} {σ : Int × Int} {V : World} (hr : Bi.Rd V b s σ.1 σ.2) (ho : okσ s σ) (hm : s.size ≤ 9223372036854775807) :
    Calls Try.prog 38 #[.pointer (some ⟨b, 0, none⟩)] V (fun e V' => e = .returned (.int .i64 (vT s σ)) ∧ Bi.Rd V' b s (sT s σ).1 (sT s σ).2 ∧ okσ s (sT s σ) ∧ Keeps [b] V V') := by
  refine (rtwo_any b s σ.1 σ.2 V hr ho.1 ho.2 hm).mono ?_
  rintro e V' ⟨rfl, h1, h2⟩
  exact ⟨rfl, h1, sT_ok ho, h2⟩
attribute [local irreducible] sB sT vB vT Ph0 Ph1 Ph2 Fin okσ
theorem tc_0 {W U U1 : World} {b : Nat} {s : ByteArray} {τ : Int × Int} {fr : Int} (hb : b < W.heap.size) (hk : Keeps [] W U) (hB : Blk U W.heap.size 28 #[.int .i64 0, .slice none 0 0, .slice none 0 0, .slice none 0 0]) (hr : Bi.Rd U1 b s τ.1 τ.2) (ho : okσ s τ) (hk1 : Keeps [b] U U1) :
    Tc W (U1.alloc (.cells #[.int .i64 fr, .slice none 0 0, .slice none 0 0, .slice none 0 0] 28)) b W.heap.size U1.heap.size s τ fr [] [] [] none 0 none 0 none 0 := by
  have hz := hk.size
  have hz1 := hk1.size
  have hB1 := hB.keeps hk1 (by simp; omega)
  have hl := hB1.lt
  exact ⟨hr.alloc _, ho, hB1.alloc _, Blk.new _ _ _, ⟨rfl, .inl ⟨rfl, rfl⟩⟩, ⟨rfl, .inl ⟨rfl, rfl⟩⟩, ⟨rfl, .inl ⟨rfl, rfl⟩⟩, ((hk.more (by simp)).trans hk1).alloc _, hb, Nat.le_refl _, by omega, by omega, by simp, by simp, by simp⟩
theorem blk4 {w : World} {g : Nat} {t : TypeId} {x0 x1 x2 x3 : Value} (h : Blk w g t #[x0, x1, x2, x3]) : w.cell? ⟨g, 0, none⟩ = some x0 ∧ w.cell? ⟨g, 1, none⟩ = some x1 ∧ w.cell? ⟨g, 2, none⟩ = some x2 ∧ w.cell? ⟨g, 3, none⟩ = some x3 := ⟨h.cell 0, h.cell 1, h.cell 2, h.cell 3⟩
end Im
end Go.Proofs.Ytjdhkpafbejodaa
