/- A device through several calls; two devices; the law's live. -/
import Derived.Test.YtdbkgpnbmafpmaaNicJ
import Derived.Test.YtdbkgpnbmafpmaaFrameG
namespace Go.Proofs.Ytdbkgpnbmafpmaa
open Go.RowKit Go.Maps
namespace Nc
open Sm Fr
open PlainAid (bt)
/-- A device made since w0. -/
def Liv (w0 w : World) (d m : Nat) (od : Int) (lg : List Sn) (L : List Pt) : Prop :=
  ∃ y a c, Dev w d m od y a c lg L ∧ Keeps [] w0 w ∧ ∀ b ∈ foot d m y L, w0.heap.size ≤ b
section
variable {w0 w w' : World} {d m : Nat} {od : Int} {lg : List Sn} {L : List Pt}
theorem Liv.step (h : Liv w0 w d m od lg L) : ∃ y a c, Dev w d m od y a c lg L ∧ ∀ od' lg' L' w', To d m (foot d m y L) od' lg' L' w w' → Liv w0 w' d m od' lg' L' := by
  obtain ⟨y, a, c, h1, h2, h3⟩ := h
  refine ⟨y, a, c, h1, ?_⟩
  rintro od' lg' L' w' ⟨y', a', c', h4, h5, h6⟩
  refine ⟨y', a', c', h4, h2.next h5 (fun b hb => .inr (h3 b hb)), fun b hb => ?_⟩
  rcases h6 b hb with h7 | h7
  · exact h3 b h7
  · have := h2.size; omega
theorem Liv.kp (h : Liv w0 w d m od lg L) (hk : Keeps [] w w') : Liv w0 w' d m od lg L := by
  obtain ⟨y, a, c, h1, h2, h3⟩ := h
  exact ⟨y, a, c, h1.kp hk, h2.trans hk, h3⟩
theorem Liv.keeps (h : Liv w0 w d m od lg L) : Keeps [] w0 w := by
  obtain ⟨y, a, c, h1, h2, h3⟩ := h
  exact h2
theorem liv_new {xs : List Pr} (h : New_ w w' d m L xs) (hk : Keeps [] w0 w) : Liv w0 w' d m 0 [] L :=
  ⟨d, none, 0, h.dv, hk.trans h.kp, fun b hb => Nat.le_trans hk.size (h.ft b hb)⟩
end
/-- Two devices, apart from each other. -/
def Two (w0 w : World) (d m : Nat) (od : Int) (lg : List Sn) (L : List Pt) (d2 m2 : Nat) (od2 : Int) (lg2 : List Sn) (L2 : List Pt) : Prop :=
  ∃ y a c y2 a2 c2, Dev w d m od y a c lg L ∧ Dev w d2 m2 od2 y2 a2 c2 lg2 L2 ∧ Keeps [] w0 w ∧ (∀ b ∈ foot d m y L, w0.heap.size ≤ b ∧ b ∉ foot d2 m2 y2 L2) ∧ ∀ b ∈ foot d2 m2 y2 L2, w0.heap.size ≤ b
section
variable {w0 w w' : World} {d m d2 m2 : Nat} {od od2 : Int} {lg lg2 : List Sn} {L L2 : List Pt}
theorem Two.swap (h : Two w0 w d m od lg L d2 m2 od2 lg2 L2) : Two w0 w d2 m2 od2 lg2 L2 d m od lg L := by
  obtain ⟨y, a, c, y2, a2, c2, h1, h2, h3, h4, h5⟩ := h
  exact ⟨y2, a2, c2, y, a, c, h2, h1, h3, fun b hb => ⟨h5 b hb, fun hb2 => (h4 b hb2).2 hb⟩, fun b hb => (h4 b hb).1⟩
theorem Two.step (h : Two w0 w d m od lg L d2 m2 od2 lg2 L2) : ∃ y a c, Dev w d m od y a c lg L ∧ ∀ od' lg' L' w', To d m (foot d m y L) od' lg' L' w w' → Two w0 w' d m od' lg' L' d2 m2 od2 lg2 L2 := by
  obtain ⟨y, a, c, y2, a2, c2, h1, h2, h3, h4, h5⟩ := h
  refine ⟨y, a, c, h1, ?_⟩
  rintro od' lg' L' w' ⟨y', a', c', g1, g2, g3⟩
  refine ⟨y', a', c', y2, a2, c2, g1, h2.keeps g2 (fun b hb hb2 => (h4 b hb2).2 hb), h3.next g2 (fun b hb => .inr (h4 b hb).1), fun b hb => ?_, h5⟩
  rcases g3 b hb with g | g
  · exact h4 b g
  · exact ⟨by have := h3.size; omega, fun hb2 => by have := h2.lt b hb2; omega⟩
theorem Two.kp (h : Two w0 w d m od lg L d2 m2 od2 lg2 L2) (hk : Keeps [] w w') : Two w0 w' d m od lg L d2 m2 od2 lg2 L2 := by
  obtain ⟨y, a, c, y2, a2, c2, h1, h2, h3, h4, h5⟩ := h
  exact ⟨y, a, c, y2, a2, c2, h1.kp hk, h2.kp hk, h3.trans hk, h4, h5⟩
theorem Two.keeps (h : Two w0 w d m od lg L d2 m2 od2 lg2 L2) : Keeps [] w0 w := by
  obtain ⟨y, a, c, y2, a2, c2, h1, h2, h3, h4, h5⟩ := h
  exact h3
theorem Liv.two {xs : List Pr} (h : Liv w0 w d m od lg L) (hn : New_ w w' d2 m2 L2 xs) : Two w0 w' d m od lg L d2 m2 0 [] L2 := by
  obtain ⟨y, a, c, h1, h2, h3⟩ := h
  refine ⟨y, a, c, d2, none, 0, h1.kp hn.kp, hn.dv, h2.trans hn.kp, fun b hb => ⟨h3 b hb, fun hb2 => ?_⟩, fun b hb => Nat.le_trans h2.size (hn.ft b hb)⟩
  have := hn.ft b hb2
  have := h1.lt b hb
  omega
end
/-- Ports found. -/
theorem hit_of {L : List Pt} {x : Pt} {s : ByteArray} (hp : L.Pairwise Apart) (hx : x ∈ L) (h0 : pE s = 0) (hm : x.ma = bt s 0) : hit L s = some x := by
  unfold hit
  rw [if_pos h0]
  rcases he : L.find? (fun z => z.ma == bt s 0) with _ | z
  · have := List.find?_eq_none.1 he x hx
    simp [hm] at this
  · have h1 := List.mem_of_find?_eq_some he
    have h2 : z.ma = bt s 0 := by have := List.find?_some he; simpa using this
    exact he.trans (by rw [pw_ma hp z h1 x hx (h2.trans hm.symm)])
theorem pt_of {L : List Pt} {x : Pt} (hp : L.Pairwise Apart) (hx : x ∈ L) : pt? L x.ow = some x := by
  unfold pt?
  rcases he : L.find? (fun z => z.ow == x.ow) with _ | z
  · have := List.find?_eq_none.1 he x hx
    simp at this
  · have h1 := List.mem_of_find?_eq_some he
    have h2 : z.ow = x.ow := by have := List.find?_some he; simpa using this
    exact he.trans (by rw [pw_ow hp z h1 x hx h2])
theorem upd_pt {L : List Pt} {x x' : Pt} (hp : L.Pairwise Apart) (hx : x ∈ L) (hs : Same x x') (k : Int) : pt? (upd L x') k = if k = x.ow then some x' else pt? L k := by
  unfold pt?
  rw [upd_find hs hx hp _ (by rw [hs.ow])]
  by_cases hk : k = x.ow
  · rw [if_pos hk, hk]
    have := pt_of hp hx
    unfold pt? at this
    rw [this]
    simp [hs.ow]
  · rw [if_neg hk]
    rcases he : L.find? (fun z => z.ow == k) with _ | z
    · rw [he]; rfl
    · have h2 : z.ow = k := by have := List.find?_some he; simpa using this
      have h3 : ¬ z.ow = x'.ow := by rw [hs.ow]; omega
      rw [he]
      simp [h3]
theorem come_same (x : Pt) (s : ByteArray) (r : Nat) : Same x (comeP x s r) := by
  unfold comeP
  by_cases h : (x.ws.length : Int) < x.li
  · rw [if_pos h]; exact ⟨rfl, rfl, rfl, rfl, rfl⟩
  · rw [if_neg h]; exact ⟨rfl, rfl, rfl, rfl, rfl⟩
theorem pop_same (x : Pt) (t : List FiF.It) : Same x { x with ws := t } := ⟨rfl, rfl, rfl, rfl, rfl⟩
/-- live's port. -/
structure One (x : Pt) (ws : List FiF.It) (dr : Int) : Prop where
  ow : x.ow = 3
  ma : x.ma = 7
  li : x.li = 1
  ws : x.ws = ws
  dr : x.dr = dr
section
variable {w0 w : World} {d m : Nat} {x : Pt} {s : ByteArray}
theorem one_hit (h : x.ma = 7) (h0 : pE s = 0) (h7 : bt s 0 = 7) : hit [x] s = some x := by
  unfold hit
  rw [if_pos h0, h7]
  simp [h]
theorem one_upd {x' : Pt} (h : x.ow = 3) (h' : x'.ow = 3) : upd [x] x' = [x'] := by simp [upd, h, h']
theorem live_c1 (h : Liv w0 w d m 0 [] [x]) (ho : One x [] 0) (hm : s.size ≤ 9223372036854775807) (h0 : pE s = 0) (h7 : bt s 0 = 7) :
    Calls Try.prog 12 #[.pointer (some ⟨d, 0, none⟩), .string s] w fun e w' => e = .returned (.tuple #[.int .i64 3, .bool true]) ∧ ∃ x1, One x1 [frS s] 0 ∧ Liv w0 w' d m 0 [] [x1] := by
  obtain ⟨y, a, c, hD, hT⟩ := h.step
  have hh := one_hit ho.ma h0 h7
  refine (come_hit s x w hD hm (by rw [ho.dr]; decide) hh).mono ?_
  unfold IsCome
  rw [hh]
  rintro e w' ⟨r', rfl, hto⟩
  have hlt : (x.ws.length : Int) < x.li := by rw [ho.ws, ho.li]; decide
  refine ⟨by rw [ho.ow, decide_eq_true hlt], comeP x s r', ⟨?_, ?_, ?_, ?_, ?_⟩, ?_⟩
  · rw [(come_same x s r').ow, ho.ow]
  · rw [(come_same x s r').ma, ho.ma]
  · rw [(come_same x s r').li, ho.li]
  · unfold comeP; rw [if_pos hlt, ho.ws]; rfl
  · unfold comeP; rw [if_pos hlt]; exact ho.dr
  · have := hT _ _ _ _ hto
    rwa [one_upd ho.ow (by rw [(come_same x s r').ow, ho.ow])] at this
theorem live_c2 {f : FiF.It} (h : Liv w0 w d m 0 [] [x]) (ho : One x [f] 0) (hm : s.size ≤ 9223372036854775807) (h0 : pE s = 0) (h7 : bt s 0 = 7) :
    Calls Try.prog 12 #[.pointer (some ⟨d, 0, none⟩), .string s] w fun e w' => e = .returned (.tuple #[.int .i64 3, .bool false]) ∧ ∃ x1, One x1 [f] 1 ∧ Liv w0 w' d m 0 [] [x1] := by
  obtain ⟨y, a, c, hD, hT⟩ := h.step
  have hh := one_hit ho.ma h0 h7
  refine (come_hit s x w hD hm (by rw [ho.dr]; decide) hh).mono ?_
  unfold IsCome
  rw [hh]
  rintro e w' ⟨r', rfl, hto⟩
  have hlt : ¬ (x.ws.length : Int) < x.li := by rw [ho.ws, ho.li]; show ¬ (1 : Int) < 1; decide
  refine ⟨by rw [ho.ow, decide_eq_false hlt], comeP x s r', ⟨?_, ?_, ?_, ?_, ?_⟩, ?_⟩
  · rw [(come_same x s r').ow, ho.ow]
  · rw [(come_same x s r').ma, ho.ma]
  · rw [(come_same x s r').li, ho.li]
  · unfold comeP; rw [if_neg hlt]; exact ho.ws
  · unfold comeP; rw [if_neg hlt]; show x.dr + 1 = 1; rw [ho.dr]; rfl
  · have := hT _ _ _ _ hto
    rwa [one_upd ho.ow (by rw [(come_same x s r').ow, ho.ow])] at this
theorem live_t {f : FiF.It} (h : Liv w0 w d m 0 [] [x]) (ho : One x [f] 1) :
    Calls Try.prog 16 #[.pointer (some ⟨d, 0, none⟩), .int .i64 3] w fun e w' => e = .returned (.tuple #[fv f, .int .i64 0]) ∧ ∃ x1, One x1 [] 1 ∧ Liv w0 w' d m 0 [] [x1] := by
  obtain ⟨y, a, c, hD, hT⟩ := h.step
  have hp : pt? [x] 3 = some x := by unfold pt?; simp [ho.ow]
  refine (take_dev 3 w hD (by decide)).mono ?_
  unfold IsTake
  rw [take_some hp ho.ws]
  rintro e w' ⟨rfl, hto⟩
  refine ⟨rfl, { x with ws := [] }, ⟨ho.ow, ho.ma, ho.li, rfl, ho.dr⟩, ?_⟩
  have := hT _ _ _ _ hto
  dsimp only at this
  rwa [one_upd ho.ow (x' := { x with ws := [] }) ho.ow] at this
theorem live_d (h : Liv w0 w d m 0 [] [x]) (ho : One x [] 1) : Calls Try.prog 15 #[.pointer (some ⟨d, 0, none⟩), .int .i64 3] w fun e w' => e = .returned (.int .i64 1) ∧ w = w' := by
  obtain ⟨y, a, c, hD, hT⟩ := h.step
  have hp : pt? [x] 3 = some x := by unfold pt?; simp [ho.ow]
  have := drops_dev 3 w hD (by decide)
  rw [hp] at this
  rw [← ho.dr]
  exact this
theorem live_o (h : Liv w0 w d m 0 [] [x]) : Calls Try.prog 21 #[.pointer (some ⟨d, 0, none⟩)] w fun e w' => e = .returned (.int .i64 0) ∧ w = w' := by
  obtain ⟨y, a, c, hD, hT⟩ := h.step
  exact odd_any w hD
end
theorem live_new (w : World) (b : Nat) (h : Blk w b 62 #[.int .i64 3, .int .i64 7, .int .i64 1]) : Calls Try.prog 11 #[.slice (some ⟨b, 0, none⟩) 1 1] w fun e w' => ∃ d m x, e = .returned (.tuple #[.pointer (some ⟨d, 0, none⟩), .int .i64 0]) ∧ One x [] 0 ∧ Liv w w' d m 0 [] [x] := by
  have hR : Rows3 w (some ⟨b, 0, none⟩) 1 [⟨3, 7, 1⟩] := ⟨rfl, fun _ => ⟨b, 0, rfl, h.lt, fun i x hx => by
    rcases i with _ | i
    · simp at hx; subst hx; exact ⟨h.cell 0, h.cell 1, h.cell 2⟩
    · simp at hx⟩⟩
  refine (new_dev _ 1 1 _ w hR (by decide)).mono ?_
  rintro e w' (⟨_, d, m, L, rfl, hN⟩ | ⟨h9, _⟩)
  · have hk := hN.ky
    rcases L with _ | ⟨x, _ | ⟨z, t⟩⟩
    · simp at hk
    · simp [key] at hk
      have he := hN.em x (by simp)
      exact ⟨d, m, x, rfl, ⟨hk.1, hk.2.1, hk.2.2, he.1, he.2⟩, liv_new hN (Keeps.refl _ _)⟩
    · simp at hk
  · exact absurd (show chk [⟨3, 7, 1⟩] = 0 by decide) h9
set_option maxRecDepth 100000 in
theorem live_any (w : World) : Calls Try.prog 10 #[] w fun e w' => e = .returned (.bool true) ∧ Keeps [] w w' := by
  have hB := Blk.new w 62 #[.int .i64 3, .int .i64 7, .int .i64 1]
  have HC := Lib.hid (live_new _ _ hB)
  have hk0 : Keeps [] w (w.alloc (.cells #[.int .i64 3, .int .i64 7, .int .i64 1] 62)) := (Keeps.refl _ _).alloc _
  clear hB
  go_enter Try.func10, Try.ntmps10
  go_wp2_with fail
  refine HC.out.mono ?_
  clear HC
  rintro e w1 ⟨d, m, x, rfl, hx, hl⟩
  obtain ⟨o1, o2⟩ := out_ok 7 1 ⟨#[104, 105]⟩ (by decide) (by decide) (by decide)
  have HP := Lib.hid (rprint_any 7 1 ⟨#[104, 105]⟩ w1 (by decide))
  rw [o2] at HP
  have HO := Lib.hid o1
  have HK := Lib.hid hk0
  have HX := Lib.hid (And.intro hx hl)
  clear o1 o2 hx hl hk0
  go_wp2_with fail
  refine HP.out.mono ?_
  clear HP
  rintro e w2 ⟨s, rfl, hs, hb⟩
  rw [HO.out] at hs
  obtain ⟨hz, b0, b1, _, h0, hd⟩ := good_of 7 1 ⟨#[104, 105]⟩ s (by decide) (by decide) (by decide) hs
  have hfs : fv (frS s) = .agg #[.int .i64 7, .int .i64 1, .string ⟨#[104, 105]⟩] := by unfold fv frS; rw [b0, b1, hd]
  have HF := Lib.hid hfs
  have hz7 : s.size ≤ 9223372036854775807 := by rw [hz]; decide
  have HC := Lib.hid (live_c1 (HX.out.2.kp (Keeps.of_below hb [])) HX.out.1 hz7 h0 b0)
  have H0 := Lib.hid (And.intro h0 (And.intro b0 hz7))
  clear hs hb hz hz7 b0 b1 h0 hd hfs HX HO
  go_wp2_with fail
  refine HC.out.mono ?_
  clear HC
  rintro e w3 ⟨rfl, x1, ho1, hl1⟩
  have HC := Lib.hid (live_c2 hl1 ho1 (s := s) H0.out.2.2 H0.out.1 H0.out.2.1)
  clear ho1 hl1
  go_wp2_with fail
  refine HC.out.mono ?_
  clear HC
  rintro e w4 ⟨rfl, x2, ho2, hl2⟩
  have HC := Lib.hid (live_t hl2 ho2)
  rw [HF.out] at HC
  clear ho2 hl2
  go_wp2_with fail
  refine HC.out.mono ?_
  clear HC HF H0
  rintro e w5 ⟨rfl, x3, ho3, hl3⟩
  have hB := Blk.new w5 39 #[.int .i64 7, .int .i64 1, .string ⟨#[104, 105]⟩]
  have c2 : (w5.alloc (.cells #[.int .i64 7, .int .i64 1, .string ⟨#[104, 105]⟩] 39)).cell? ⟨w5.heap.size, 2, none⟩ = some (.string ⟨#[104, 105]⟩) := hB.cell 2
  have hk5 : Keeps [] w5 (w5.alloc (.cells #[.int .i64 7, .int .i64 1, .string ⟨#[104, 105]⟩] 39)) := (Keeps.refl _ _).alloc _
  have HD := Lib.hid (live_d (hl3.kp hk5) ho3)
  have HO := Lib.hid (live_o (hl3.kp hk5))
  have HE := Lib.hid (HK.out.trans (hl3.kp hk5).keeps)
  clear hl3 ho3 hk5 hB HK
  go_wp2_with fail
  refine HD.out.mono ?_
  rintro e w6 ⟨rfl, rfl⟩
  go_wp2_with fail
  refine HO.out.mono ?_
  rintro e w6 ⟨rfl, rfl⟩
  go_wp2
  go_ret
  exact ⟨rfl, HE.out⟩
end Nc
end Go.Proofs.Ytdbkgpnbmafpmaa
