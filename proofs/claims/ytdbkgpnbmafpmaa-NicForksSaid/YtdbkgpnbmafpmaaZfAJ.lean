/- A device through several calls; two devices; the law's live. The law NicBack. Two devices of the same ports: what comes, and what an owner's port tells. -/
import Derived.Test.YtdbkgpnbmafpmaaZfAI
namespace Go.Proofs.Ytdbkgpnbmafpmaa
open Go.RowKit Go.Maps
namespace Nc
open Sm Fr
open PlainAid (bt)
/-- A device made since w0. -/
def Liv (w0 w : World) (d m : Nat) (od : Int) (lg : List Sn) (L : List Pt) : Prop :=
  ∃ y a c, Dev w d m od y a c lg L ∧ Keeps [] w0 w ∧ ∀ b ∈ foot d m y L, w0.heap.size ≤ b
section
variable {w0 w w' : World} {d m : Nat} {od : Int} {lg : List Sn} {L : List Pt}
theorem Liv.step (h : Liv w0 w d m od lg L) : ∃ y a c, Dev w d m od y a c lg L ∧ ∀ od' lg' L' w', To d m (foot d m y L) od' lg' L' w w' → Liv w0 w' d m od' lg' L' := by
  obtain ⟨y, a, c, h1, h2, h3⟩ := h
  refine ⟨y, a, c, h1, ?_⟩
  rintro od' lg' L' w' ⟨y', a', c', h4, h5, h6⟩
  refine ⟨y', a', c', h4, h2.next h5 (fun b hb => .inr (h3 b hb)), fun b hb => ?_⟩
  rcases h6 b hb with h7 | h7
  · exact h3 b h7
  · have := h2.size; omega
theorem Liv.kp (h : Liv w0 w d m od lg L) (hk : Keeps [] w w') : Liv w0 w' d m od lg L := by
  obtain ⟨y, a, c, h1, h2, h3⟩ := h
  exact ⟨y, a, c, h1.kp hk, h2.trans hk, h3⟩
theorem Liv.keeps (h : Liv w0 w d m od lg L) : Keeps [] w0 w := by
  obtain ⟨y, a, c, h1, h2, h3⟩ := h
  exact h2
theorem liv_new {xs : List Pr} (h : New_ w w' d m L xs) (hk : Keeps [] w0 w) : Liv w0 w' d m 0 [] L :=
  ⟨d, none, 0, h.dv, hk.trans h.kp, fun b hb => Nat.le_trans hk.size (h.ft b hb)⟩
end
/-- Two devices, apart from each other. -/
def Two (w0 w : World) (d m : Nat) (od : Int) (lg : List Sn) (L : List Pt) (d2 m2 : Nat) (od2 : Int) (lg2 : List Sn) (L2 : List Pt) : Prop :=
  ∃ y a c y2 a2 c2, Dev w d m od y a c lg L ∧ Dev w d2 m2 od2 y2 a2 c2 lg2 L2 ∧ Keeps [] w0 w ∧ (∀ b ∈ foot d m y L, w0.heap.size ≤ b ∧ b ∉ foot d2 m2 y2 L2) ∧ ∀ b ∈ foot d2 m2 y2 L2, w0.heap.size ≤ b
section
variable {w0 w w' : World} {d m d2 m2 : Nat} {od od2 : Int} {lg lg2 : List Sn} {L L2 : List Pt}
theorem Two.swap (h : Two w0 w d m od lg L d2 m2 od2 lg2 L2) : Two w0 w d2 m2 od2 lg2 L2 d m od lg L := by
  obtain ⟨y, a, c, y2, a2, c2, h1, h2, h3, h4, h5⟩ := h
  exact ⟨y2, a2, c2, y, a, c, h2, h1, h3, fun b hb => ⟨h5 b hb, fun hb2 => (h4 b hb2).2 hb⟩, fun b hb => (h4 b hb).1⟩
theorem Two.step (h : Two w0 w d m od lg L d2 m2 od2 lg2 L2) : ∃ y a c, Dev w d m od y a c lg L ∧ ∀ od' lg' L' w', To d m (foot d m y L) od' lg' L' w w' → Two w0 w' d m od' lg' L' d2 m2 od2 lg2 L2 := by
  obtain ⟨y, a, c, y2, a2, c2, h1, h2, h3, h4, h5⟩ := h
  refine ⟨y, a, c, h1, ?_⟩
  rintro od' lg' L' w' ⟨y', a', c', g1, g2, g3⟩
  refine ⟨y', a', c', y2, a2, c2, g1, h2.keeps g2 (fun b hb hb2 => (h4 b hb2).2 hb), h3.next g2 (fun b hb => .inr (h4 b hb).1), fun b hb => ?_, h5⟩
  rcases g3 b hb with g | g
  · exact h4 b g
  · exact ⟨by have := h3.size; omega, fun hb2 => by have := h2.lt b hb2; omega⟩
theorem Two.kp (h : Two w0 w d m od lg L d2 m2 od2 lg2 L2) (hk : Keeps [] w w') : Two w0 w' d m od lg L d2 m2 od2 lg2 L2 := by
  obtain ⟨y, a, c, y2, a2, c2, h1, h2, h3, h4, h5⟩ := h
  exact ⟨y, a, c, y2, a2, c2, h1.kp hk, h2.kp hk, h3.trans hk, h4, h5⟩
theorem Two.keeps (h : Two w0 w d m od lg L d2 m2 od2 lg2 L2) : Keeps [] w0 w := by
  obtain ⟨y, a, c, y2, a2, c2, h1, h2, h3, h4, h5⟩ := h
  exact h3
theorem Liv.two {xs : List Pr} (h : Liv w0 w d m od lg L) (hn : New_ w w' d2 m2 L2 xs) : Two w0 w' d m od lg L d2 m2 0 [] L2 := by
  obtain ⟨y, a, c, h1, h2, h3⟩ := h
  refine ⟨y, a, c, d2, none, 0, h1.kp hn.kp, hn.dv, h2.trans hn.kp, fun b hb => ⟨h3 b hb, fun hb2 => ?_⟩, fun b hb => Nat.le_trans h2.size (hn.ft b hb)⟩
  have := hn.ft b hb2
  have := h1.lt b hb
  omega
end
/-- Ports found. -/
theorem hit_of {L : List Pt} {x : Pt} {s : ByteArray} (hp : L.Pairwise Apart) (hx : x ∈ L) (h0 : pE s = 0) (hm : x.ma = bt s 0) : hit L s = some x := by
  unfold hit
  rw [if_pos h0]
  rcases he : L.find? (fun z => z.ma == bt s 0) with _ | z
  · have := List.find?_eq_none.1 he x hx
    simp [hm] at this
  · have h1 := List.mem_of_find?_eq_some he
    have h2 : z.ma = bt s 0 := by have := List.find?_some he; simpa using this
    exact he.trans (by rw [pw_ma hp z h1 x hx (h2.trans hm.symm)])
theorem pt_of {L : List Pt} {x : Pt} (hp : L.Pairwise Apart) (hx : x ∈ L) : pt? L x.ow = some x := by
  unfold pt?
  rcases he : L.find? (fun z => z.ow == x.ow) with _ | z
  · have := List.find?_eq_none.1 he x hx
    simp at this
  · have h1 := List.mem_of_find?_eq_some he
    have h2 : z.ow = x.ow := by have := List.find?_some he; simpa using this
    exact he.trans (by rw [pw_ow hp z h1 x hx h2])
theorem upd_pt {L : List Pt} {x x' : Pt} (hp : L.Pairwise Apart) (hx : x ∈ L) (hs : Same x x') (k : Int) : pt? (upd L x') k = if k = x.ow then some x' else pt? L k := by
  unfold pt?
  rw [upd_find hs hx hp _ (by rw [hs.ow])]
  by_cases hk : k = x.ow
  · rw [if_pos hk, hk]
    have := pt_of hp hx
    unfold pt? at this
    rw [this]
    simp [hs.ow]
  · rw [if_neg hk]
    rcases he : L.find? (fun z => z.ow == k) with _ | z
    · rw [he]; rfl
    · have h2 : z.ow = k := by have := List.find?_some he; simpa using this
      have h3 : ¬ z.ow = x'.ow := by rw [hs.ow]; omega
      rw [he]
      simp [h3]
theorem come_same (x : Pt) (s : ByteArray) (r : Nat) : Same x (comeP x s r) := by
  unfold comeP
  by_cases h : (x.ws.length : Int) < x.li
  · rw [if_pos h]; exact ⟨rfl, rfl, rfl, rfl, rfl⟩
  · rw [if_neg h]; exact ⟨rfl, rfl, rfl, rfl, rfl⟩
theorem pop_same (x : Pt) (t : List FiF.It) : Same x { x with ws := t } := ⟨rfl, rfl, rfl, rfl, rfl⟩
/-- live's port. -/
structure One (x : Pt) (ws : List FiF.It) (dr : Int) : Prop where
  ow : x.ow = 3
  ma : x.ma = 7
  li : x.li = 1
  ws : x.ws = ws
  dr : x.dr = dr
section
variable {w0 w : World} {d m : Nat} {x : Pt} {s : ByteArray}
theorem one_hit (h : x.ma = 7) (h0 : pE s = 0) (h7 : bt s 0 = 7) : hit [x] s = some x := by
  unfold hit
  rw [if_pos h0, h7]
  simp [h]
theorem one_upd {x' : Pt} (h : x.ow = 3) (h' : x'.ow = 3) : upd [x] x' = [x'] := by simp [upd, h, h']
theorem live_c1 (h : Liv w0 w d m 0 [] [x]) (ho : One x [] 0) (hm : s.size ≤ 9223372036854775807) (h0 : pE s = 0) (h7 : bt s 0 = 7) :
    Calls Try.prog 12 #[.pointer (some ⟨d, 0, none⟩), .string s] w fun e w' => e = .returned (.tuple #[.int .i64 3, .bool true]) ∧ ∃ x1, One x1 [frS s] 0 ∧ Liv w0 w' d m 0 [] [x1] := by
  obtain ⟨y, a, c, hD, hT⟩ := h.step
  have hh := one_hit ho.ma h0 h7
  refine (come_hit s x w hD hm (by rw [ho.dr]; decide) hh).mono ?_
  unfold IsCome
  rw [hh]
  rintro e w' ⟨r', rfl, hto⟩
  have hlt : (x.ws.length : Int) < x.li := by rw [ho.ws, ho.li]; decide
  refine ⟨by rw [ho.ow, decide_eq_true hlt], comeP x s r', ⟨?_, ?_, ?_, ?_, ?_⟩, ?_⟩
  · rw [(come_same x s r').ow, ho.ow]
  · rw [(come_same x s r').ma, ho.ma]
  · rw [(come_same x s r').li, ho.li]
  · unfold comeP; rw [if_pos hlt, ho.ws]; rfl
  · unfold comeP; rw [if_pos hlt]; exact ho.dr
  · have := hT _ _ _ _ hto
    rwa [one_upd ho.ow (by rw [(come_same x s r').ow, ho.ow])] at this
theorem live_c2 {f : FiF.It} (h : Liv w0 w d m 0 [] [x]) (ho : One x [f] 0) (hm : s.size ≤ 9223372036854775807) (h0 : pE s = 0) (h7 : bt s 0 = 7) :
    Calls Try.prog 12 #[.pointer (some ⟨d, 0, none⟩), .string s] w fun e w' => e = .returned (.tuple #[.int .i64 3, .bool false]) ∧ ∃ x1, One x1 [f] 1 ∧ Liv w0 w' d m 0 [] [x1] := by
  obtain ⟨y, a, c, hD, hT⟩ := h.step
  have hh := one_hit ho.ma h0 h7
  refine (come_hit s x w hD hm (by rw [ho.dr]; decide) hh).mono ?_
  unfold IsCome
  rw [hh]
  rintro e w' ⟨r', rfl, hto⟩
  have hlt : ¬ (x.ws.length : Int) < x.li := by rw [ho.ws, ho.li]; show ¬ (1 : Int) < 1; decide
  refine ⟨by rw [ho.ow, decide_eq_false hlt], comeP x s r', ⟨?_, ?_, ?_, ?_, ?_⟩, ?_⟩
  · rw [(come_same x s r').ow, ho.ow]
  · rw [(come_same x s r').ma, ho.ma]
  · rw [(come_same x s r').li, ho.li]
  · unfold comeP; rw [if_neg hlt]; exact ho.ws
  · unfold comeP; rw [if_neg hlt]; show x.dr + 1 = 1; rw [ho.dr]; rfl
  · have := hT _ _ _ _ hto
    rwa [one_upd ho.ow (by rw [(come_same x s r').ow, ho.ow])] at this
theorem live_t {f : FiF.It} (h : Liv w0 w d m 0 [] [x]) (ho : One x [f] 1) :
    Calls Try.prog 16 #[.pointer (some ⟨d, 0, none⟩), .int .i64 3] w fun e w' => e = .returned (.tuple #[fv f, .int .i64 0]) ∧ ∃ x1, One x1 [] 1 ∧ Liv w0 w' d m 0 [] [x1] := by
  obtain ⟨y, a, c, hD, hT⟩ := h.step
  have hp : pt? [x] 3 = some x := by unfold pt?; simp [ho.ow]
  refine (take_dev 3 w hD (by decide)).mono ?_
  unfold IsTake
  rw [take_some hp ho.ws]
  rintro e w' ⟨rfl, hto⟩
  refine ⟨rfl, { x with ws := [] }, ⟨ho.ow, ho.ma, ho.li, rfl, ho.dr⟩, ?_⟩
  have := hT _ _ _ _ hto
  dsimp only at this
  rwa [one_upd ho.ow (x' := { x with ws := [] }) ho.ow] at this
theorem live_d (h : Liv w0 w d m 0 [] [x]) (ho : One x [] 1) : Calls Try.prog 15 #[.pointer (some ⟨d, 0, none⟩), .int .i64 3] w fun e w' => e = .returned (.int .i64 1) ∧ w = w' := by
  obtain ⟨y, a, c, hD, hT⟩ := h.step
  have hp : pt? [x] 3 = some x := by unfold pt?; simp [ho.ow]
  have := drops_dev 3 w hD (by decide)
  rw [hp] at this
  rw [← ho.dr]
  exact this
theorem live_o (h : Liv w0 w d m 0 [] [x]) : Calls Try.prog 21 #[.pointer (some ⟨d, 0, none⟩)] w fun e w' => e = .returned (.int .i64 0) ∧ w = w' := by
  obtain ⟨y, a, c, hD, hT⟩ := h.step
  exact odd_any w hD
end
theorem live_new (w : World) (b : Nat) (h : Blk w b 62 #[.int .i64 3, .int .i64 7, .int .i64 1]) : Calls Try.prog 11 #[.slice (some ⟨b, 0, none⟩) 1 1] w fun e w' => ∃ d m x, e = .returned (.tuple #[.pointer (some ⟨d, 0, none⟩), .int .i64 0]) ∧ One x [] 0 ∧ Liv w w' d m 0 [] [x] := by
  have hR : Rows3 w (some ⟨b, 0, none⟩) 1 [⟨3, 7, 1⟩] := ⟨rfl, fun _ => ⟨b, 0, rfl, h.lt, fun i x hx => by
    rcases i with _ | i
    · simp at hx; subst hx; exact ⟨h.cell 0, h.cell 1, h.cell 2⟩
    · simp at hx⟩⟩
  refine (new_dev _ 1 1 _ w hR (by decide)).mono ?_
  rintro e w' (⟨_, d, m, L, rfl, hN⟩ | ⟨h9, _⟩)
  · have hk := hN.ky
    rcases L with _ | ⟨x, _ | ⟨z, t⟩⟩
    · simp at hk
    · simp [key] at hk
      have he := hN.em x (by simp)
      exact ⟨d, m, x, rfl, ⟨hk.1, hk.2.1, hk.2.2, he.1, he.2⟩, liv_new hN (Keeps.refl _ _)⟩
    · simp at hk
  · exact absurd (show chk [⟨3, 7, 1⟩] = 0 by decide) h9
set_option maxRecDepth 100000 in
theorem live_any (w : World) : Calls Try.prog 10 #[] w fun e w' => e = .returned (.bool true) ∧ Keeps [] w w' := by
  have hB := Blk.new w 62 #[.int .i64 3, .int .i64 7, .int .i64 1]
  have HC := Lib.hid (live_new _ _ hB)
  have hk0 : Keeps [] w (w.alloc (.cells #[.int .i64 3, .int .i64 7, .int .i64 1] 62)) := (Keeps.refl _ _).alloc _
  clear hB
  go_enter Try.func10, Try.ntmps10
  go_wp2_with fail
  refine HC.out.mono ?_
  clear HC
  rintro e w1 ⟨d, m, x, rfl, hx, hl⟩
  obtain ⟨o1, o2⟩ := out_ok 7 1 ⟨#[104, 105]⟩ (by decide) (by decide) (by decide)
  have HP := Lib.hid (rprint_any 7 1 ⟨#[104, 105]⟩ w1 (by decide))
  rw [o2] at HP
  have HO := Lib.hid o1
  have HK := Lib.hid hk0
  have HX := Lib.hid (And.intro hx hl)
  clear o1 o2 hx hl hk0
  go_wp2_with fail
  refine HP.out.mono ?_
  clear HP
  rintro e w2 ⟨s, rfl, hs, hb⟩
  rw [HO.out] at hs
  obtain ⟨hz, b0, b1, _, h0, hd⟩ := good_of 7 1 ⟨#[104, 105]⟩ s (by decide) (by decide) (by decide) hs
  have hfs : fv (frS s) = .agg #[.int .i64 7, .int .i64 1, .string ⟨#[104, 105]⟩] := by unfold fv frS; rw [b0, b1, hd]
  have HF := Lib.hid hfs
  have hz7 : s.size ≤ 9223372036854775807 := by rw [hz]; decide
  have HC := Lib.hid (live_c1 (HX.out.2.kp (Keeps.of_below hb [])) HX.out.1 hz7 h0 b0)
  have H0 := Lib.hid (And.intro h0 (And.intro b0 hz7))
  clear hs hb hz hz7 b0 b1 h0 hd hfs HX HO
  go_wp2_with fail
  refine HC.out.mono ?_
  clear HC
  rintro e w3 ⟨rfl, x1, ho1, hl1⟩
  have HC := Lib.hid (live_c2 hl1 ho1 (s := s) H0.out.2.2 H0.out.1 H0.out.2.1)
  clear ho1 hl1
  go_wp2_with fail
  refine HC.out.mono ?_
  clear HC
  rintro e w4 ⟨rfl, x2, ho2, hl2⟩
  have HC := Lib.hid (live_t hl2 ho2)
  rw [HF.out] at HC
  clear ho2 hl2
  go_wp2_with fail
  refine HC.out.mono ?_
  clear HC HF H0
  rintro e w5 ⟨rfl, x3, ho3, hl3⟩
  have hB := Blk.new w5 39 #[.int .i64 7, .int .i64 1, .string ⟨#[104, 105]⟩]
  have c2 : (w5.alloc (.cells #[.int .i64 7, .int .i64 1, .string ⟨#[104, 105]⟩] 39)).cell? ⟨w5.heap.size, 2, none⟩ = some (.string ⟨#[104, 105]⟩) := hB.cell 2
  have hk5 : Keeps [] w5 (w5.alloc (.cells #[.int .i64 7, .int .i64 1, .string ⟨#[104, 105]⟩] 39)) := (Keeps.refl _ _).alloc _
  have HD := Lib.hid (live_d (hl3.kp hk5) ho3)
  have HO := Lib.hid (live_o (hl3.kp hk5))
  have HE := Lib.hid (HK.out.trans (hl3.kp hk5).keeps)
  clear hl3 ho3 hk5 hB HK
  go_wp2_with fail
  refine HD.out.mono ?_
  rintro e w6 ⟨rfl, rfl⟩
  go_wp2_with fail
  refine HO.out.mono ?_
  rintro e w6 ⟨rfl, rfl⟩
  go_wp2
  go_ret
  exact ⟨rfl, HE.out⟩
end Nc
end Go.Proofs.Ytdbkgpnbmafpmaa
namespace Go.Proofs.Ytdbkgpnbmafpmaa
open Go.RowKit Go.Maps
namespace Nc
open Sm Fr
open PlainAid (bt)
def portK : List TypeDesc := [.int .i64, .int .i64, .int .i64]
/-- The first rows that are asked for. -/
def prs (R : Nat → Nat → Value) (n : Nat) : List Pr := (List.range n).map fun i => ⟨numAt R i 0, numAt R i 1, numAt R i 2⟩
theorem prs_len (R : Nat → Nat → Value) (n : Nat) : (prs R n).length = n := by simp [prs]
theorem prs_get {R : Nat → Nat → Value} {n i : Nat} {x : Pr} (h : (prs R n)[i]? = some x) : i < n ∧ x = ⟨numAt R i 0, numAt R i 1, numAt R i 2⟩ := by
  unfold prs at h
  rw [List.getElem?_map] at h
  rcases Nat.lt_or_ge i n with hi | hi
  · rw [List.getElem?_eq_getElem (by simpa using hi)] at h
    simp at h
    exact ⟨hi, h.symm⟩
  · rw [List.getElem?_eq_none (by simpa using hi)] at h
    cases h
theorem rows_of {w : World} {a : Option Addr} {len cap n : Nat} {R : Nat → Nat → Value} (h : Recs w a len cap portK R) (hn : n ≤ len) : Rows3 w a n (prs R n) := by
  refine ⟨prs_len R n, fun h0 => ?_⟩
  obtain ⟨b, off, rfl, hb, hc⟩ := h.at_ (by omega) (by decide)
  refine ⟨b, off, rfl, hb, fun i x hx => ?_⟩
  obtain ⟨hi, rfl⟩ := prs_get hx
  have g : ∀ j, j < 3 → w.cell? ⟨b, off + (i * 3 + j), none⟩ = some (.int .i64 (numAt R i j)) := fun j hj => by
    obtain ⟨h1, h2⟩ := hc i (by omega) j (.int .i64) (by rcases j with _ | _ | _ | j <;> first | rfl | omega)
    rw [(numAt_of h2).1] at h1
    exact h1
  exact ⟨g 0 (by omega), by rw [Nat.add_assoc]; exact g 1 (by omega), by rw [Nat.add_assoc]; exact g 2 (by omega)⟩
theorem oi_cases (Ps : List RP) (k : Int) : oi Ps k = -1 ∨ ∃ (i : Nat) (x : RP), Ps[i]? = some x ∧ x.ow = k ∧ oi Ps k = i ∧ (i : Int) < (Ps.length : Int) := by
  unfold oi
  rcases he : Ps.findIdx? (fun x => x.ow == k) with _ | i
  · exact .inl (by rw [he])
  · right
    obtain ⟨hi, hx, _⟩ := List.findIdx?_eq_some_iff_getElem.1 he
    exact ⟨i, _, List.getElem?_eq_getElem hi, by simpa using hx, by rw [he], by omega⟩
theorem at_both {L : List Pt} {xs : List Pr} {i : Nat} {p : RP} (hk : L.map key = xs) (hp : (rps xs)[i]? = some p) : ∃ x, x ∈ L ∧ L[i]? = some x ∧ x.ow = p.ow ∧ x.ma = p.ma ∧ x.li = p.li := by
  unfold rps at hp
  rw [← hk, List.getElem?_map, List.getElem?_map] at hp
  rcases he : L[i]? with _ | x
  · rw [he] at hp; cases hp
  · rw [he] at hp
    simp at hp
    subst hp
    exact ⟨x, List.mem_of_getElem? he, rfl, rfl, rfl, rfl⟩
section
variable {w0 w : World} {d m d2 m2 : Nat} {od2 : Int} {lg2 : List Sn} {L L2 : List Pt} {x x2 : Pt}
theorem ok_ma {w : World} {x : Pt} (h : PtOk w x) : okB x.ma = true := decide_eq_true ⟨h.m1, h.m2⟩
theorem back_send (h : Two w0 w d m 0 [] L d2 m2 od2 lg2 L2) (to_ : Int) (da : ByteArray) (hx : x ∈ L) (ht : okB to_ = true) (hd : da.size ≤ 32) :
    Calls Try.prog 17 #[.pointer (some ⟨d, 0, none⟩), .int .i64 1, .int .i64 x.ow, .int .i64 to_, .string da] w fun e w' => e = .returned (.int .i64 0) ∧ ∃ r : ByteArray, r.data.toList = Cw.sealL (frL to_ x.ma da) ∧ Two w0 w' d m 0 [⟨1, x.ow, r⟩] L d2 m2 od2 lg2 L2 := by
  obtain ⟨y, a, c, hD, hT⟩ := h.step
  have hp := hD.pt x hx
  have h1 := hp.o1
  have h2 := hp.o2
  obtain ⟨o1, o2⟩ := out_ok to_ x.ma da ht (ok_ma hp) hd
  refine (send_dev 1 x.ow to_ da w hD (WalkArith.wf_i64 (by omega)) (by omega) (by simp)).mono ?_
  unfold IsSend
  rw [pt_of hD.ap hx]
  dsimp only
  rw [o1, o2]
  intro e w' hi
  obtain ⟨r, hr, rfl, hto⟩ := hi.open_
  exact ⟨rfl, r, hr, hT _ _ _ _ hto⟩
theorem back_log {s : Sn} (h : Two w0 w d m 0 [s] L d2 m2 od2 lg2 L2) : Calls Try.prog 18 #[.pointer (some ⟨d, 0, none⟩)] w fun e w' => ∃ y' c', e = .returned (.slice (some ⟨y', 0, none⟩) 1 c') ∧ y' < w'.heap.size ∧ w'.cell? ⟨y', 2, none⟩ = some (.string s.da) ∧ Two w0 w' d m 0 [s] L d2 m2 od2 lg2 L2 := by
  obtain ⟨y, a, c, hD, hT⟩ := h.step
  refine (log_dev w hD (by simp)).mono ?_
  rintro e w' ⟨a', c', rfl, hk, hg⟩
  obtain ⟨y', rfl, hy, hc⟩ := hg (by simp)
  exact ⟨y', c', rfl, hy, by have := hc 0 s rfl 2 (by omega); simpa [snc] using this, h.kp hk⟩
theorem back_come {s : ByteArray} (h : Two w0 w d m 0 lg2 L d2 m2 0 [] L2) (hx : x ∈ L2) (hw : x.ws = []) (hdr : x.dr = 0) (hli : 0 < x.li) (hm : s.size ≤ 9223372036854775807) (h0 : pE s = 0) (h7 : x.ma = bt s 0) :
    Calls Try.prog 12 #[.pointer (some ⟨d2, 0, none⟩), .string s] w fun e w' => e = .returned (.tuple #[.int .i64 x.ow, .bool true]) ∧ ∃ L3 x3, pt? L3 x.ow = some x3 ∧ x3.ws = [frS s] ∧ Two w0 w' d m 0 lg2 L d2 m2 0 [] L3 := by
  obtain ⟨y, a, c, hD, hT⟩ := h.swap.step
  have hh := hit_of hD.ap hx h0 h7
  refine (come_hit s x w hD hm (by rw [hdr]; decide) hh).mono ?_
  unfold IsCome
  rw [hh]
  rintro e w' ⟨r', rfl, hto⟩
  have hlt : (x.ws.length : Int) < x.li := by rw [hw]; simpa using hli
  refine ⟨by rw [decide_eq_true hlt], _, comeP x s r', ?_, ?_, (hT _ _ _ _ hto).swap⟩
  · rw [upd_pt hD.ap hx (come_same x s r'), if_pos rfl]
  · unfold comeP; rw [if_pos hlt, hw]; rfl
theorem back_take {k : Int} {f : FiF.It} (h : Two w0 w d m 0 lg2 L d2 m2 0 [] L2) (hx : pt? L2 k = some x) (hw : x.ws = [f]) (hk : (Lit.int .i64 k).wf = true) :
    Calls Try.prog 16 #[.pointer (some ⟨d2, 0, none⟩), .int .i64 k] w fun e w' => e = .returned (.tuple #[fv f, .int .i64 0]) ∧ Keeps [] w0 w' := by
  obtain ⟨y, a, c, hD, hT⟩ := h.swap.step
  refine (take_dev k w hD hk).mono ?_
  unfold IsTake
  rw [take_some hx hw]
  rintro e w' ⟨rfl, hto⟩
  exact ⟨rfl, (hT _ _ _ _ hto).keeps⟩
end
attribute [local irreducible] Two prs
set_option maxRecDepth 100000 in
set_option maxHeartbeats 4000000 in
theorem back_law (a : Option Addr) (len cap : Nat) (R : Nat → Nat → Value) (from_ to_ : Int) (text : ByteArray) (w : World) (hR : Recs w a len cap portK R) (_wf1 : (Lit.int .i64 from_).wf = true) (wf2 : (Lit.int .i64 to_).wf = true) (hm : text.size ≤ maxLen) :
    Calls Try.prog 4 #[.slice a len cap, .int .i64 from_, .int .i64 to_, .string text] w fun e w' => e = .returned (.bool true) ∧ Below w.heap.size w w' := by
  unfold maxLen at hm
  obtain ⟨n, hn8, hnl, hmn⟩ : ∃ n, n ≤ 8 ∧ n ≤ len ∧ (n = len ∨ (n = 8 ∧ 8 < len)) := by
    by_cases h : len ≤ 8
    · exact ⟨len, h, Nat.le_refl _, .inl rfl⟩
    · exact ⟨8, by omega, by omega, .inr ⟨rfl, by omega⟩⟩
  have hrows := rows_of hR hnl
  have hxl := prs_len R n
  generalize prs R n = xs at *
  have hlc := hR.len
  have HP := Lib.hid (ports_any a len n cap xs w hrows hn8 hlc.1 hlc.2 hmn (by
    intro e; rcases hR with ⟨_, _, h⟩ | ⟨x, h, _⟩
    · exact h
    · rw [e] at h; cases h))
  have HR := Lib.hid hrows
  clear hR hrows hmn hlc
  go_enter Try.func4, Try.ntmps4
  go_wp2_with fail
  refine HP.out.mono ?_
  clear HP
  rintro e w1 ⟨a', c', rfl, hk1, hown⟩
  have hrr := rr_own hown (by rw [rps_len, hxl])
  have HO1 := Lib.hid (rowner_any a' n c' _ from_ w1 hrr hn8)
  have HO2 := Lib.hid (rowner_any a' n c' _ to_ w1 hrr hn8)
  have HC := Lib.hid (rcheck_any a' n c' _ w1 hrr hn8)
  rw [rps_key] at HC
  have HK := Lib.hid (And.intro hk1 hrr)
  have HXK := Lib.hid (rps_key xs)
  have hpl : (rps xs).length = n := by rw [rps_len, hxl]
  have HB := Lib.hid (fun (L : List Pt) (i : Nat) (p : RP) (h : L.map key = xs) => at_both (L := L) (i := i) (p := p) h)
  clear hk1 hown hrr
  go_wp2_with fail
  refine HO1.out.mono ?_
  rintro e v ⟨rfl, rfl⟩
  go_wp2_with fail
  refine HO2.out.mono ?_
  rintro e v ⟨rfl, rfl⟩
  go_wp2_with fail
  refine HC.out.mono ?_
  clear HO1 HO2 HC
  rintro e w2 ⟨rfl, hk2⟩
  have HK2 := Lib.hid (And.intro (HK.out.1.trans hk2) (HK.out.2.kp hk2))
  clear hk2 HK
  by_cases hc : chk xs = 0
  · rw [hc]
    rcases oi_cases (rps xs) from_ with ho | ⟨i, px, hpx, hpo, ho, hil⟩
    · rw [ho]
      clear ho hc
      go_wp2_with fail
      refine (live_any _).mono ?_
      rintro e w3 ⟨rfl, hk3⟩
      have HZ := Lib.hid (HK2.out.1.trans hk3)
      clear hk3
      go_wp2
      go_ret
      exact ⟨rfl, HZ.out.all⟩
    · rw [ho]
      rw [hpl] at hil
      have hi0 : (0 : Int) ≤ (i : Int) := by omega
      clear ho
      rcases oi_cases (rps xs) to_ with ho | ⟨k, pz, hpz, hpo2, ho, hkl⟩
      · rw [ho]
        clear ho hc hpx
        go_wp2_with fail
        refine (live_any _).mono ?_
        rintro e w3 ⟨rfl, hk3⟩
        have HZ := Lib.hid (HK2.out.1.trans hk3)
        clear hk3
        go_wp2
        go_ret
        exact ⟨rfl, HZ.out.all⟩
      · rw [ho]
        rw [hpl] at hkl
        have hk0 : (0 : Int) ≤ (k : Int) := by omega
        clear ho
        by_cases ht : text.size ≤ 32
        · obtain ⟨b, rfl, hb, z0, z1, z2, _⟩ := HK2.out.2.at_ k pz hpz
          have htt : (text.size : Int) ≤ 32 := by omega
          by_cases hli : pz.li = 0
          · rw [hli] at z2
            clear hpx hpz hc z0 z1
            go_wp2_with fail
            refine (live_any _).mono ?_
            rintro e w3 ⟨rfl, hk3⟩
            have HZ := Lib.hid (HK2.out.1.trans hk3)
            clear hk3
            go_wp2
            go_ret
            exact ⟨rfl, HZ.out.all⟩
          · have hlb : (pz.li == 0) = false := by simpa using hli
            have HN := Lib.hid (new_dev a n cap xs w2 (HR.out.kp HK2.out.1) hn8)
            have HL := Lib.hid (And.intro hli (And.intro hpx (And.intro hpz hc)))
            have hz1 : w2.cell? ⟨b, k * 5 + 1, none⟩ = some (.int .i64 pz.ma) := z1
            clear hli hpx hpz hc z0 z1
            go_wp2_with fail
            refine HN.out.mono ?_
            clear HN
            rintro e w3 (⟨_, d1, m1, L1, rfl, hN1⟩ | ⟨h9, _⟩)
            case inr => exact absurd HL.out.2.2.2 h9
            have HN := Lib.hid (new_dev a n cap xs w3 ((HR.out.kp HK2.out.1).kp hN1.kp) hn8)
            have HN1 := Lib.hid hN1
            clear hN1 hz1
            go_wp2_with fail
            refine HN.out.mono ?_
            clear HN
            rintro e w4 (⟨_, d2, m2, L2, rfl, hN2⟩ | ⟨h9, _⟩)
            case inr => exact absurd HL.out.2.2.2 h9
            obtain ⟨x1, hx1, _, e1, e2, _⟩ := HB.out L1 i px HN1.out.ky HL.out.2.1
            obtain ⟨x2, hx2, _, f1, f2, f3⟩ := HB.out L2 k pz hN2.ky HL.out.2.2.1
            have htwo := (liv_new HN1.out (Keeps.refl [] w2)).two hN2
            have hrr4 := (HK2.out.2.kp HN1.out.kp).kp hN2.kp
            have hp2 := hN2.dv.pt x2 hx2
            have hem := hN2.em x2 hx2
            have hma2 := ok_ma hp2
            have hma1 := ok_ma (HN1.out.dv.pt x1 hx1)
            have hli2 : 0 < x2.li := by have := hp2.l1; have := HL.out.1; rw [← f3] at this; omega
            have HS := Lib.hid (back_send htwo pz.ma text hx1 (by rw [← f2]; exact hma2) ht)
            rw [e1, hpo] at HS
            obtain ⟨b', hbb, hb4, _, g1, _⟩ := hrr4.at_ k pz HL.out.2.2.1
            injection hbb with hbb
            injection hbb with hbb
            subst hbb
            have HX := Lib.hid (And.intro hx2 (And.intro hem (And.intro hli2 (And.intro f1 (And.intro f2 (And.intro e2 (And.intro hma2 hma1)))))))
            have HRR := Lib.hid hrr4
            have hk24 : Keeps [] w2 w4 := HN1.out.kp.trans hN2.kp
            have HB4 : Hid (Keeps [] w2 w4) := Lib.hid hk24
            clear hN2 htwo hrr4 hp2 hem hma1 hma2 hli2 hk24 hx1 hx2 e1 e2 f1 f2 f3 HN1 z2
            go_wp2_with fail
            refine HS.out.mono ?_
            clear HS
            rintro e w5 ⟨rfl, r, hr, ht5⟩
            have HG := Lib.hid (back_log ht5)
            have HR5 := Lib.hid hr
            clear ht5 hr g1
            go_wp2_with fail
            refine HG.out.mono ?_
            clear HG
            rintro e w6 ⟨y', cy, rfl, hy, hcy, ht6⟩
            obtain ⟨h1, h2⟩ := And.intro HX.out.1 HX.out.2
            obtain ⟨hem, hli2, f1, f2, e2, hma2, hma1⟩ := h2
            obtain ⟨q0, q1, q2, _, q4, q5⟩ := good_of pz.ma x1.ma text r (by rw [← f2]; exact hma2) hma1 ht HR5.out
            have HC := Lib.hid (back_come (s := r) ht6 h1 hem.1 hem.2 hli2 (by omega) q4 (by rw [q1, f2]))
            rw [f1, hpo2] at HC
            have hfs : fv (frS r) = .agg #[.int .i64 pz.ma, .int .i64 px.ma, .string text] := by unfold fv frS; rw [q1, q2, q5, e2]
            have HF := Lib.hid hfs
            clear hfs q0 q1 q2 q4 q5 h1 hem hli2 f1 f2 e2 hma2 hma1 ht6
            go_wp2_with fail
            refine HC.out.mono ?_
            clear HC
            rintro e w7 ⟨rfl, L3, x3, hp3, hw3, ht7⟩
            have HC := Lib.hid (back_take ht7 hp3 hw3 wf2)
            rw [HF.out] at HC
            have HK7 := Lib.hid ht7.keeps
            clear hp3 hw3 ht7 hcy hy
            go_wp2_with fail
            refine HC.out.mono ?_
            clear HC
            rintro e w8 ⟨rfl, hk8⟩
            have hBf := Blk.new w8 39 #[.int .i64 pz.ma, .int .i64 px.ma, .string text]
            have hka : Keeps [] w8 (w8.alloc (.cells #[.int .i64 pz.ma, .int .i64 px.ma, .string text] 39)) := (Keeps.refl [] _).alloc _
            have hrr8 := (HK2.out.2.kp hk8).kp hka
            obtain ⟨b', hbb, hb8, _, g1, _⟩ := hrr8.at_ k pz HL.out.2.2.1
            injection hbb with hbb
            injection hbb with hbb
            subst hbb
            obtain ⟨b', hbb, _, _, g2, _⟩ := hrr8.at_ i px HL.out.2.1
            injection hbb with hbb
            injection hbb with hbb
            subst hbb
            have hbl := hBf.lt
            have s0 : (w8.alloc (.cells #[.int .i64 pz.ma, .int .i64 px.ma, .string text] 39)).cell? ⟨w8.heap.size, 0, none⟩ = some (.int .i64 pz.ma) := hBf.cell 0
            have s1 : (w8.alloc (.cells #[.int .i64 pz.ma, .int .i64 px.ma, .string text] 39)).cell? ⟨w8.heap.size, 1, none⟩ = some (.int .i64 px.ma) := hBf.cell 1
            have s2 : (w8.alloc (.cells #[.int .i64 pz.ma, .int .i64 px.ma, .string text] 39)).cell? ⟨w8.heap.size, 2, none⟩ = some (.string text) := hBf.cell 2
            have HE := Lib.hid ((HK2.out.1.trans hk8).trans hka)
            clear hka hrr8 hBf hk8
            go_wp2
            obtain ⟨V, hV⟩ : ∃ V, (w8.alloc (.cells #[.int .i64 pz.ma, .int .i64 px.ma, .string text] 39)).drew = V := ⟨_, rfl⟩
            have hS : (fun W => W.cell? ⟨w8.heap.size, 0, none⟩ = some (.int .i64 pz.ma) ∧ W.cell? ⟨w8.heap.size, 1, none⟩ = some (.int .i64 px.ma) ∧ W.cell? ⟨w8.heap.size, 2, none⟩ = some (.string text) ∧ W.cell? ⟨b, k * 5 + 1, none⟩ = some (.int .i64 pz.ma) ∧ W.cell? ⟨b, i * 5 + 1, none⟩ = some (.int .i64 px.ma)) V := by rw [← hV]; exact ⟨s0, s1, s2, g1, g2⟩
            have hVK : Hid (Keeps [] w V) := Lib.hid (by rw [← hV]; exact HE.out.drew)
            have hVl : w8.heap.size < V.heap.size := by rw [← hV]; exact hbl
            have hVb : b < V.heap.size := by rw [← hV]; exact hb8
            clear s0 s1 s2 g1 g2 hbl hb8 HE
            refine wp_region_held_drew (S := (fun W => W.cell? ⟨w8.heap.size, 0, none⟩ = some (.int .i64 pz.ma) ∧ W.cell? ⟨w8.heap.size, 1, none⟩ = some (.int .i64 px.ma) ∧ W.cell? ⟨w8.heap.size, 2, none⟩ = some (.string text) ∧ W.cell? ⟨b, k * 5 + 1, none⟩ = some (.int .i64 pz.ma) ∧ W.cell? ⟨b, i * 5 + 1, none⟩ = some (.int .i64 px.ma))) (by kernel_rfl) (by rw [hV]; exact hS) (fun hHeld => ?_)
            rw [hV] at hHeld ⊢
            refine wpAnyH_ready (rs := [0]) (by kernel_rfl) (by simp) ?_
            refine AllReadyH.cons rfl (fun K hK => ?_) AllReadyH.nil
            go_simp
            refine (live_any _).mono ?_
            rintro e W9 ⟨rfl, hk9⟩
            try go_wp2_with fail
            refine hK.out _ _ (⟨(hk9.cell (p := ⟨w8.heap.size, 0, none⟩) hVl (by simp)).trans hHeld.1, (hk9.cell (p := ⟨w8.heap.size, 1, none⟩) hVl (by simp)).trans hHeld.2.1, (hk9.cell (p := ⟨w8.heap.size, 2, none⟩) hVl (by simp)).trans hHeld.2.2.1, (hk9.cell (p := ⟨b, k * 5 + 1, none⟩) hVb (by simp)).trans hHeld.2.2.2.1, (hk9.cell (p := ⟨b, i * 5 + 1, none⟩) hVb (by simp)).trans hHeld.2.2.2.2⟩) (fun hHeld' => ?_)
            have HZ := Lib.hid (hVK.out.trans hk9)
            clear hK K hHeld
            have hHeld := hHeld'
            clear hHeld'
            try simp only [Act.put, List.setIfInBounds_toArray, List.set_cons_zero, List.set_cons_succ]
            refine' wpAnyH_take (i := 1) (oi := _) (v := _) ?hZ1 (by kernel_rfl) (by kernel_rfl) (by kernel_rfl) ?hQZ1 (Or.inl ⟨?hwZ1, ?hyZ1⟩) hHeld ?restZ1
            case hZ1 => (simp only [List.getElem?_toArray, List.getElem?_cons_succ, List.getElem?_cons_zero]; rfl)
            case hQZ1 => exact fun _ _ _ h => h
            case hwZ1 => rfl
            case hyZ1 => (intro w hSw; (try dsimp only at hSw); go_simp; try with_reducible rfl)
            try simp only [Act.put, List.setIfInBounds_toArray, List.set_cons_zero, List.set_cons_succ]
            refine' wpAnyH_take (i := 2) (oi := _) (v := _) ?hZ2 (by kernel_rfl) (by kernel_rfl) (by kernel_rfl) ?hQZ2 (Or.inl ⟨?hwZ2, ?hyZ2⟩) hHeld ?restZ2
            case hZ2 => (simp only [List.getElem?_toArray, List.getElem?_cons_succ, List.getElem?_cons_zero]; rfl)
            case hQZ2 => exact fun _ _ _ h => h
            case hwZ2 => rfl
            case hyZ2 => (intro w hSw; (try dsimp only at hSw); go_simp; try with_reducible rfl)
            try simp only [Act.put, List.setIfInBounds_toArray, List.set_cons_zero, List.set_cons_succ]
            refine' wpAnyH_take (i := 3) (oi := _) (v := _) ?hZ3 (by kernel_rfl) (by kernel_rfl) (by kernel_rfl) ?hQZ3 (Or.inl ⟨?hwZ3, ?hyZ3⟩) hHeld ?restZ3
            case hZ3 => (simp only [List.getElem?_toArray, List.getElem?_cons_succ, List.getElem?_cons_zero]; rfl)
            case hQZ3 => exact fun _ _ _ h => h
            case hwZ3 => rfl
            case hyZ3 => (intro w hSw; (try dsimp only at hSw); go_simp; try with_reducible rfl)
            try simp only [Act.put, List.setIfInBounds_toArray, List.set_cons_zero, List.set_cons_succ]
            refine' wpAnyH_take (i := 4) (oi := _) (v := _) ?hZ4 (by kernel_rfl) (by kernel_rfl) (by kernel_rfl) ?hQZ4 (Or.inl ⟨?hwZ4, ?hyZ4⟩) hHeld ?restZ4
            case hZ4 => (simp only [List.getElem?_toArray, List.getElem?_cons_succ, List.getElem?_cons_zero]; rfl)
            case hQZ4 => exact fun _ _ _ h => h
            case hwZ4 => rfl
            case hyZ4 => (intro w hSw; (try dsimp only at hSw); go_simp; try with_reducible rfl)
            try simp only [Act.put, List.setIfInBounds_toArray, List.set_cons_zero, List.set_cons_succ]
            refine' wpAnyH_take (i := 5) (oi := _) (v := _) ?hZ5 (by kernel_rfl) (by kernel_rfl) (by kernel_rfl) ?hQZ5 (Or.inl ⟨?hwZ5, ?hyZ5⟩) hHeld ?restZ5
            case hZ5 => (simp only [List.getElem?_toArray, List.getElem?_cons_succ, List.getElem?_cons_zero]; rfl)
            case hQZ5 => exact fun _ _ _ h => h
            case hwZ5 => rfl
            case hyZ5 => (intro w hSw; (try dsimp only at hSw); go_simp; try with_reducible rfl)
            try simp only [Act.put, List.setIfInBounds_toArray, List.set_cons_zero, List.set_cons_succ]
            refine' wpAnyH_take (i := 6) (oi := _) (v := _) ?hZ6 (by kernel_rfl) (by kernel_rfl) (by kernel_rfl) ?hQZ6 (Or.inl ⟨?hwZ6, ?hyZ6⟩) hHeld ?restZ6
            case hZ6 => (simp only [List.getElem?_toArray, List.getElem?_cons_succ, List.getElem?_cons_zero]; rfl)
            case hQZ6 => exact fun _ _ _ h => h
            case hwZ6 => rfl
            case hyZ6 => (intro w hSw; (try dsimp only at hSw); go_simp; try with_reducible rfl)
            try simp only [Act.put, List.setIfInBounds_toArray, List.set_cons_zero, List.set_cons_succ]
            refine' wpAnyH_take (i := 7) (oi := _) (v := _) ?hZ7 (by kernel_rfl) (by kernel_rfl) (by kernel_rfl) ?hQZ7 (Or.inl ⟨?hwZ7, ?hyZ7⟩) hHeld ?restZ7
            case hZ7 => (simp only [List.getElem?_toArray, List.getElem?_cons_succ, List.getElem?_cons_zero]; rfl)
            case hQZ7 => exact fun _ _ _ h => h
            case hwZ7 => rfl
            case hyZ7 => (intro w hSw; (try dsimp only at hSw); go_simp; try with_reducible rfl)
            try simp only [Act.put, List.setIfInBounds_toArray, List.set_cons_zero, List.set_cons_succ]
            refine' wpAnyH_take (i := 8) (oi := _) (v := _) ?hZ8 (by kernel_rfl) (by kernel_rfl) (by kernel_rfl) ?hQZ8 (Or.inl ⟨?hwZ8, ?hyZ8⟩) hHeld ?restZ8
            case hZ8 => (simp only [List.getElem?_toArray, List.getElem?_cons_succ, List.getElem?_cons_zero]; rfl)
            case hQZ8 => exact fun _ _ _ h => h
            case hwZ8 => rfl
            case hyZ8 => (intro w hSw; (try dsimp only at hSw); go_simp; try with_reducible rfl)
            try simp only [Act.put, List.setIfInBounds_toArray, List.set_cons_zero, List.set_cons_succ]
            refine' wpAnyH_take (i := 9) (oi := _) (v := _) ?hZ9 (by kernel_rfl) (by kernel_rfl) (by kernel_rfl) ?hQZ9 (Or.inl ⟨?hwZ9, ?hyZ9⟩) hHeld ?restZ9
            case hZ9 => (simp only [List.getElem?_toArray, List.getElem?_cons_succ, List.getElem?_cons_zero]; rfl)
            case hQZ9 => exact fun _ _ _ h => h
            case hwZ9 => rfl
            case hyZ9 => (intro w hSw; (try dsimp only at hSw); go_simp; try with_reducible rfl)
            try simp only [Act.put, List.setIfInBounds_toArray, List.set_cons_zero, List.set_cons_succ]
            refine' wpAnyH_take (i := 10) (oi := _) (v := _) ?hZ10 (by kernel_rfl) (by kernel_rfl) (by kernel_rfl) ?hQZ10 (Or.inl ⟨?hwZ10, ?hyZ10⟩) hHeld ?restZ10
            case hZ10 => (simp only [List.getElem?_toArray, List.getElem?_cons_succ, List.getElem?_cons_zero]; rfl)
            case hQZ10 => exact fun _ _ _ h => h
            case hwZ10 => rfl
            case hyZ10 => (intro w hSw; (try dsimp only at hSw); go_simp; try with_reducible rfl)
            try simp only [Act.put, List.setIfInBounds_toArray, List.set_cons_zero, List.set_cons_succ]
            refine' wpAnyH_take (i := 11) (oi := _) (v := _) ?hZ11 (by kernel_rfl) (by kernel_rfl) (by kernel_rfl) ?hQZ11 (Or.inl ⟨?hwZ11, ?hyZ11⟩) hHeld ?restZ11
            case hZ11 => (simp only [List.getElem?_toArray, List.getElem?_cons_succ, List.getElem?_cons_zero]; rfl)
            case hQZ11 => exact fun _ _ _ h => h
            case hwZ11 => rfl
            case hyZ11 => (intro w hSw; (try dsimp only at hSw); go_simp; try with_reducible rfl)
            try simp only [Act.put, List.setIfInBounds_toArray, List.set_cons_zero, List.set_cons_succ]
            refine' wpAnyH_take (i := 12) (oi := _) (v := _) ?hZ12 (by kernel_rfl) (by kernel_rfl) (by kernel_rfl) ?hQZ12 (Or.inl ⟨?hwZ12, ?hyZ12⟩) hHeld ?restZ12
            case hZ12 => (simp only [List.getElem?_toArray, List.getElem?_cons_succ, List.getElem?_cons_zero]; rfl)
            case hQZ12 => exact fun _ _ _ h => h
            case hwZ12 => rfl
            case hyZ12 => (intro w hSw; (try dsimp only at hSw); go_simp; try with_reducible rfl)
            try simp only [Act.put, List.setIfInBounds_toArray, List.set_cons_zero, List.set_cons_succ]
            refine' wpAnyH_take (i := 13) (oi := _) (v := _) ?hZ13 (by kernel_rfl) (by kernel_rfl) (by kernel_rfl) ?hQZ13 (Or.inl ⟨?hwZ13, ?hyZ13⟩) hHeld ?restZ13
            case hZ13 => (simp only [List.getElem?_toArray, List.getElem?_cons_succ, List.getElem?_cons_zero]; rfl)
            case hQZ13 => exact fun _ _ _ h => h
            case hwZ13 => rfl
            case hyZ13 => (intro w hSw; (try dsimp only at hSw); go_simp; try with_reducible rfl)
            try simp only [Act.put, List.setIfInBounds_toArray, List.set_cons_zero, List.set_cons_succ]
            refine' wpAnyH_take (i := 14) (oi := _) (v := _) ?hZ14 (by kernel_rfl) (by kernel_rfl) (by kernel_rfl) ?hQZ14 (Or.inl ⟨?hwZ14, ?hyZ14⟩) hHeld ?restZ14
            case hZ14 => (simp only [List.getElem?_toArray, List.getElem?_cons_succ, List.getElem?_cons_zero]; rfl)
            case hQZ14 => exact fun _ _ _ h => h
            case hwZ14 => rfl
            case hyZ14 => (intro w hSw; (try dsimp only at hSw); go_simp; try with_reducible rfl)
            try simp only [Act.put, List.setIfInBounds_toArray, List.set_cons_zero, List.set_cons_succ]
            refine' wpAnyH_take (i := 15) (oi := _) (v := _) ?hZ15 (by kernel_rfl) (by kernel_rfl) (by kernel_rfl) ?hQZ15 (Or.inl ⟨?hwZ15, ?hyZ15⟩) hHeld ?restZ15
            case hZ15 => (simp only [List.getElem?_toArray, List.getElem?_cons_succ, List.getElem?_cons_zero]; rfl)
            case hQZ15 => exact fun _ _ _ h => h
            case hwZ15 => rfl
            case hyZ15 => (intro w hSw; (try dsimp only at hSw); go_simp; try with_reducible rfl)
            try simp only [Act.put, List.setIfInBounds_toArray, List.set_cons_zero, List.set_cons_succ]
            refine' wpAnyH_take (i := 16) (oi := _) (v := _) ?hZ16 (by kernel_rfl) (by kernel_rfl) (by kernel_rfl) ?hQZ16 (Or.inl ⟨?hwZ16, ?hyZ16⟩) hHeld ?restZ16
            case hZ16 => (simp only [List.getElem?_toArray, List.getElem?_cons_succ, List.getElem?_cons_zero]; rfl)
            case hQZ16 => exact fun _ _ _ h => h
            case hwZ16 => rfl
            case hyZ16 => (intro w hSw; (try dsimp only at hSw); go_simp; try with_reducible rfl)
            try simp only [Act.put, List.setIfInBounds_toArray, List.set_cons_zero, List.set_cons_succ]
            refine' wpAnyH_take (i := 17) (oi := _) (v := _) ?hZ17 (by kernel_rfl) (by kernel_rfl) (by kernel_rfl) ?hQZ17 (Or.inl ⟨?hwZ17, ?hyZ17⟩) hHeld ?restZ17
            case hZ17 => (simp only [List.getElem?_toArray, List.getElem?_cons_succ, List.getElem?_cons_zero]; rfl)
            case hQZ17 => exact fun _ _ _ h => h
            case hwZ17 => rfl
            case hyZ17 => (intro w hSw; (try dsimp only at hSw); go_simp; try with_reducible rfl)
            try simp only [Act.put, List.setIfInBounds_toArray, List.set_cons_zero, List.set_cons_succ]
            refine' wpAnyH_take (i := 18) (oi := _) (v := _) ?hZ18 (by kernel_rfl) (by kernel_rfl) (by kernel_rfl) ?hQZ18 (Or.inl ⟨?hwZ18, ?hyZ18⟩) hHeld ?restZ18
            case hZ18 => (simp only [List.getElem?_toArray, List.getElem?_cons_succ, List.getElem?_cons_zero]; rfl)
            case hQZ18 => exact fun _ _ _ h => h
            case hwZ18 => rfl
            case hyZ18 => (intro w hSw; (try dsimp only at hSw); go_simp; try with_reducible rfl)
            try simp only [Act.put, List.setIfInBounds_toArray, List.set_cons_zero, List.set_cons_succ]
            refine' wpAnyH_take (i := 19) (oi := _) (v := _) ?hZ19 (by kernel_rfl) (by kernel_rfl) (by kernel_rfl) ?hQZ19 (Or.inl ⟨?hwZ19, ?hyZ19⟩) hHeld ?restZ19
            case hZ19 => (simp only [List.getElem?_toArray, List.getElem?_cons_succ, List.getElem?_cons_zero]; rfl)
            case hQZ19 => exact fun _ _ _ h => h
            case hwZ19 => rfl
            case hyZ19 => (intro w hSw; (try dsimp only at hSw); go_simp; try with_reducible rfl)
            try simp only [Act.put, List.setIfInBounds_toArray, List.set_cons_zero, List.set_cons_succ]
            refine' wpAnyH_take (i := 20) (oi := _) (v := _) ?hZ20 (by kernel_rfl) (by kernel_rfl) (by kernel_rfl) ?hQZ20 (Or.inl ⟨?hwZ20, ?hyZ20⟩) hHeld ?restZ20
            case hZ20 => (simp only [List.getElem?_toArray, List.getElem?_cons_succ, List.getElem?_cons_zero]; rfl)
            case hQZ20 => exact fun _ _ _ h => h
            case hwZ20 => rfl
            case hyZ20 => (intro w hSw; (try dsimp only at hSw); go_simp; try with_reducible rfl)
            try simp only [Act.put, List.setIfInBounds_toArray, List.set_cons_zero, List.set_cons_succ]
            refine' wpAnyH_take (i := 21) (oi := _) (v := _) ?hZ21 (by kernel_rfl) (by kernel_rfl) (by kernel_rfl) ?hQZ21 (Or.inl ⟨?hwZ21, ?hyZ21⟩) hHeld ?restZ21
            case hZ21 => (simp only [List.getElem?_toArray, List.getElem?_cons_succ, List.getElem?_cons_zero]; rfl)
            case hQZ21 => exact fun _ _ _ h => h
            case hwZ21 => rfl
            case hyZ21 => (intro w hSw; (try dsimp only at hSw); go_simp; try with_reducible rfl)
            try simp only [Act.put, List.setIfInBounds_toArray, List.set_cons_zero, List.set_cons_succ]
            refine' wpAnyH_take (i := 22) (oi := _) (v := _) ?hZ22 (by kernel_rfl) (by kernel_rfl) (by kernel_rfl) ?hQZ22 (Or.inl ⟨?hwZ22, ?hyZ22⟩) hHeld ?restZ22
            case hZ22 => (simp only [List.getElem?_toArray, List.getElem?_cons_succ, List.getElem?_cons_zero]; rfl)
            case hQZ22 => exact fun _ _ _ h => h
            case hwZ22 => rfl
            case hyZ22 => (intro w hSw; (try dsimp only at hSw); go_simp; try with_reducible rfl)
            try simp only [Act.put, List.setIfInBounds_toArray, List.set_cons_zero, List.set_cons_succ]
            refine' wpAnyH_take (i := 23) (oi := _) (v := _) ?hZ23 (by kernel_rfl) (by kernel_rfl) (by kernel_rfl) ?hQZ23 (Or.inl ⟨?hwZ23, ?hyZ23⟩) hHeld ?restZ23
            case hZ23 => (simp only [List.getElem?_toArray, List.getElem?_cons_succ, List.getElem?_cons_zero]; rfl)
            case hQZ23 => exact fun _ _ _ h => h
            case hwZ23 => rfl
            case hyZ23 => (intro w hSw; (try dsimp only at hSw); go_simp; try with_reducible rfl)
            try simp only [Act.put, List.setIfInBounds_toArray, List.set_cons_zero, List.set_cons_succ]
            refine' wpAnyH_take (i := 24) (oi := _) (v := _) ?hZ24 (by kernel_rfl) (by kernel_rfl) (by kernel_rfl) ?hQZ24 (Or.inl ⟨?hwZ24, ?hyZ24⟩) hHeld ?restZ24
            case hZ24 => (simp only [List.getElem?_toArray, List.getElem?_cons_succ, List.getElem?_cons_zero]; rfl)
            case hQZ24 => exact fun _ _ _ h => h
            case hwZ24 => rfl
            case hyZ24 => (intro w hSw; (try dsimp only at hSw); go_simp; try with_reducible rfl)
            try simp only [Act.put, List.setIfInBounds_toArray, List.set_cons_zero, List.set_cons_succ]
            refine' wpAnyH_take (i := 25) (oi := _) (v := _) ?hZ25 (by kernel_rfl) (by kernel_rfl) (by kernel_rfl) ?hQZ25 (Or.inl ⟨?hwZ25, ?hyZ25⟩) hHeld ?restZ25
            case hZ25 => (simp only [List.getElem?_toArray, List.getElem?_cons_succ, List.getElem?_cons_zero]; rfl)
            case hQZ25 => exact fun _ _ _ h => h
            case hwZ25 => rfl
            case hyZ25 => (intro w hSw; (try dsimp only at hSw); go_simp; try with_reducible rfl)
            try simp only [Act.put, List.setIfInBounds_toArray, List.set_cons_zero, List.set_cons_succ]
            refine' wpAnyH_take (i := 26) (oi := _) (v := _) ?hZ26 (by kernel_rfl) (by kernel_rfl) (by kernel_rfl) ?hQZ26 (Or.inl ⟨?hwZ26, ?hyZ26⟩) hHeld ?restZ26
            case hZ26 => (simp only [List.getElem?_toArray, List.getElem?_cons_succ, List.getElem?_cons_zero]; rfl)
            case hQZ26 => exact fun _ _ _ h => h
            case hwZ26 => rfl
            case hyZ26 => (intro w hSw; (try dsimp only at hSw); go_simp; try with_reducible rfl)
            try simp only [Act.put, List.setIfInBounds_toArray, List.set_cons_zero, List.set_cons_succ]
            refine' wpAnyH_take (i := 27) (oi := _) (v := _) ?hZ27 (by kernel_rfl) (by kernel_rfl) (by kernel_rfl) ?hQZ27 (Or.inl ⟨?hwZ27, ?hyZ27⟩) hHeld ?restZ27
            case hZ27 => (simp only [List.getElem?_toArray, List.getElem?_cons_succ, List.getElem?_cons_zero]; rfl)
            case hQZ27 => exact fun _ _ _ h => h
            case hwZ27 => rfl
            case hyZ27 => (intro w hSw; (try dsimp only at hSw); go_simp; try with_reducible rfl)
            try simp only [Act.put, List.setIfInBounds_toArray, List.set_cons_zero, List.set_cons_succ]
            refine' wpAnyH_take (i := 28) (oi := _) (v := _) ?hZ28 (by kernel_rfl) (by kernel_rfl) (by kernel_rfl) ?hQZ28 (Or.inl ⟨?hwZ28, ?hyZ28⟩) hHeld ?restZ28
            case hZ28 => (simp only [List.getElem?_toArray, List.getElem?_cons_succ, List.getElem?_cons_zero]; rfl)
            case hQZ28 => exact fun _ _ _ h => h
            case hwZ28 => rfl
            case hyZ28 => (intro w hSw; (try dsimp only at hSw); go_simp; try with_reducible rfl)
            try simp only [Act.put, List.setIfInBounds_toArray, List.set_cons_zero, List.set_cons_succ]
            refine' wpAnyH_take (i := 29) (oi := _) (v := _) ?hZ29 (by kernel_rfl) (by kernel_rfl) (by kernel_rfl) ?hQZ29 (Or.inl ⟨?hwZ29, ?hyZ29⟩) hHeld ?restZ29
            case hZ29 => (simp only [List.getElem?_toArray, List.getElem?_cons_succ, List.getElem?_cons_zero]; rfl)
            case hQZ29 => exact fun _ _ _ h => h
            case hwZ29 => rfl
            case hyZ29 => (intro w hSw; (try dsimp only at hSw); go_simp; try with_reducible rfl)
            try simp only [Act.put, List.setIfInBounds_toArray, List.set_cons_zero, List.set_cons_succ]
            refine wpAnyH_done (by kernel_rfl) ?_ _
            clear hHeld
            go_wp2
            go_ret
            exact ⟨rfl, HZ.out.all⟩
        · have htt : ¬ (text.size : Int) ≤ 32 := by omega
          clear hpx hpz hc
          go_wp2_with fail
          refine (live_any _).mono ?_
          rintro e w3 ⟨rfl, hk3⟩
          have HZ := Lib.hid (HK2.out.1.trans hk3)
          clear hk3
          go_wp2
          go_ret
          exact ⟨rfl, HZ.out.all⟩
  · have hcb : (chk xs != 0) = true := by simpa using hc
    generalize chk xs = ce at *
    clear hc
    generalize oi (rps xs) from_ = o1 at *
    generalize oi (rps xs) to_ = o2 at *
    go_wp2_with fail
    refine (live_any _).mono ?_
    rintro e w3 ⟨rfl, hk3⟩
    have HZ := Lib.hid (HK2.out.1.trans hk3)
    clear hk3
    go_wp2
    go_ret
    exact ⟨rfl, HZ.out.all⟩
end Nc
end Go.Proofs.Ytdbkgpnbmafpmaa
namespace Go.Proofs.Ytdbkgpnbmafpmaa
open Go.RowKit Go.Maps
namespace Nc
open Sm Fr
open PlainAid (bt)
structure Sd (xs : List Pr) (j : Int) (od : Int) (L : List Pt) : Prop where
  ky : L.map key = xs
  o0 : 0 ≤ od
  o1 : od ≤ j
  dr : ∀ x ∈ L, x.dr ≤ j
section
variable {xs : List Pr} {j j' od : Int} {L : List Pt} {x x' : Pt} {s : ByteArray}
theorem Sd.more (h : Sd xs j od L) (hj : j ≤ j') : Sd xs j' od L := ⟨h.ky, h.o0, by have := h.o1; omega, fun x hx => by have := h.dr x hx; omega⟩
theorem Sd.miss (h : Sd xs j od L) : Sd xs (j + 1) (od + 1) L := ⟨h.ky, by have := h.o0; omega, by have := h.o1; omega, fun x hx => by have := h.dr x hx; omega⟩
theorem upd_key (hx : x ∈ L) (hs : Same x x') (hp : L.Pairwise Apart) : (upd L x').map key = L.map key := by
  unfold upd
  rw [List.map_map]
  refine List.map_congr_left fun z hz => ?_
  show key (if z.ow = x'.ow then x' else z) = key z
  by_cases ho : z.ow = x'.ow
  · rw [if_pos ho, pw_ow hp z hz x hx (ho.trans hs.ow)]
    unfold key
    rw [hs.ow, hs.ma, hs.li]
  · rw [if_neg ho]
theorem Sd.turn (h : Sd xs j od L) (hx : x ∈ L) (hs : Same x x') (hp : L.Pairwise Apart) (hd : x'.dr ≤ j + 1) : Sd xs (j + 1) od (upd L x') :=
  ⟨(upd_key hx hs hp).trans h.ky, h.o0, by have := h.o1; omega, fun z hz => by
    rcases upd_mem hz with ⟨rfl, _⟩ | ⟨hz, _⟩
    · exact hd
    · have := h.dr z hz; omega⟩
theorem key_of (hk : L.map key = xs) {i : Nat} (hx : L[i]? = some x) : (rps xs)[i]? = some ⟨x.ow, x.ma, x.li, none, 0, 0, 0⟩ := by
  unfold rps
  rw [← hk, List.getElem?_map, List.getElem?_map, hx]
  rfl
theorem fi_miss (hk : L.map key = xs) (h : hit L s = none) : fi (rps xs) s = -1 := by
  by_cases h0 : pE s = 0
  · refine fi_no fun u z hz e => ?_
    obtain ⟨x, hx, _, _, hm, _⟩ := at_both hk hz
    unfold hit at h
    rw [if_pos h0] at h
    have := List.find?_eq_none.1 h x hx
    simp [hm, e] at this
  · exact fi_bad h0
theorem fi_hit (hk : L.map key = xs) (h : hit L s = some x) : ∃ i : Nat, fi (rps xs) s = i ∧ L[i]? = some x := by
  obtain ⟨h0, _, hm⟩ := own_hit h
  unfold hit at h
  rw [if_pos h0] at h
  obtain ⟨_, i, hi, hxi, hno⟩ := List.find?_eq_some_iff_getElem.1 h
  have hxi' : L[i]? = some x := by rw [List.getElem?_eq_getElem hi, hxi]
  refine ⟨i, fi_at h0 (key_of hk hxi') hm (fun u z hu hz => ?_), hxi'⟩
  obtain ⟨x2, _, hx2, _, hm2, _⟩ := at_both hk hz
  have h9 := hno u hu
  rw [← hm2]
  rw [List.getElem?_eq_getElem (by omega)] at hx2
  injection hx2 with hx2
  rw [hx2] at h9
  simpa using h9
theorem oi_none (hk : L.map key = xs) {k : Int} (h : pt? L k = none) : oi (rps xs) k = -1 := by
  refine oi_no fun u z hz e => ?_
  obtain ⟨x, hx, _, ho, _⟩ := at_both hk hz
  unfold pt? at h
  have := List.find?_eq_none.1 h x hx
  simp [ho, e] at this
theorem oi_pt (hk : L.map key = xs) {k : Int} (h : pt? L k = some x) : ∃ i : Nat, oi (rps xs) k = i ∧ L[i]? = some x := by
  have hxo := (pt_mem h).2
  unfold pt? at h
  obtain ⟨_, i, hi, hxi, hno⟩ := List.find?_eq_some_iff_getElem.1 h
  have hxi' : L[i]? = some x := by rw [List.getElem?_eq_getElem hi, hxi]
  refine ⟨i, oi_at (key_of hk hxi') hxo (fun u z hu hz => ?_), hxi'⟩
  obtain ⟨x2, _, hx2, ho2, _⟩ := at_both hk hz
  have h9 := hno u hu
  rw [← ho2]
  rw [List.getElem?_eq_getElem (by omega)] at hx2
  injection hx2 with hx2
  rw [hx2] at h9
  simpa using h9
theorem oi_have (hk : L.map key = xs) {k : Int} {i : Nat} {p : RP} (hp : (rps xs)[i]? = some p) (ho : p.ow = k) : ∃ x, pt? L k = some x := by
  rcases h : pt? L k with _ | x
  · exfalso
    obtain ⟨x, hx, _, h1, _⟩ := at_both hk hp
    unfold pt? at h
    have := List.find?_eq_none.1 h x hx
    simp [h1, ho] at this
  · exact ⟨x, rfl⟩
/-- Bytes are for an owner: they are for that place. -/
theorem fi_oi (hk : L.map key = xs) (hp : L.Pairwise Apart) {k : Int} {z : Pt} (h : hit L s = some x) (hz : pt? L k = some z) : fi (rps xs) s = oi (rps xs) k ↔ x = z := by
  obtain ⟨i, hi, hxi⟩ := fi_hit hk h
  obtain ⟨u, hu, hzu⟩ := oi_pt hk hz
  rw [hi, hu]
  constructor
  · intro e
    obtain rfl : i = u := by omega
    rw [hxi] at hzu
    injection hzu
  · rintro rfl
    have h1 := (List.getElem?_eq_some_iff.1 hxi)
    have h2 := (List.getElem?_eq_some_iff.1 hzu)
    obtain ⟨l1, e1⟩ := h1
    obtain ⟨l2, e2⟩ := h2
    rw [List.pairwise_iff_getElem] at hp
    rcases Nat.lt_trichotomy i u with h9 | h9 | h9
    · exact absurd (by rw [e1, e2]) (hp i u l1 l2 h9).ow
    · rw [h9]
    · exact absurd (by rw [e1, e2]) (hp u i l2 l1 h9).ow
end
def comeW (li : Int) (ws : List FiF.It) (s : ByteArray) : List FiF.It := if (ws.length : Int) < li then ws ++ [frS s] else ws
def comeD (li : Int) (ws : List FiF.It) (dr : Int) : Int := if (ws.length : Int) < li then dr else dr + 1
theorem come_wd (x : Pt) (s : ByteArray) (r : Nat) : (comeP x s r).ws = comeW x.li x.ws s ∧ (comeP x s r).dr = comeD x.li x.ws x.dr := by
  unfold comeP comeW comeD
  by_cases h : (x.ws.length : Int) < x.li
  · rw [if_pos h, if_pos h, if_pos h]; exact ⟨rfl, rfl⟩
  · rw [if_neg h, if_neg h, if_neg h]; exact ⟨rfl, rfl⟩
/-- Two devices of the same ports, and what an owner's port in each tells. -/
def PInv (w0 w : World) (xs : List Pr) (k j li : Int) (d m : Nat) (ws : List FiF.It) (dr : Int) (d2 m2 : Nat) (ws2 : List FiF.It) (dr2 : Int) : Prop :=
  ∃ od L od2 L2 x x2, Two w0 w d m od [] L d2 m2 od2 [] L2 ∧ Sd xs j od L ∧ Sd xs j od2 L2 ∧ pt? L k = some x ∧ pt? L2 k = some x2 ∧ (x.ws = ws ∧ x.dr = dr ∧ x.li = li) ∧ x2.ws = ws2 ∧ x2.dr = dr2 ∧ x2.li = li
section
variable {w0 w w' : World} {xs : List Pr} {k j li dr dr2 : Int} {d m d2 m2 : Nat} {ws ws2 : List FiF.It} {s : ByteArray}
theorem PInv.swap (h : PInv w0 w xs k j li d m ws dr d2 m2 ws2 dr2) : PInv w0 w xs k j li d2 m2 ws2 dr2 d m ws dr := by
  obtain ⟨od, L, od2, L2, x, x2, h1, h2, h3, h4, h5, h6, h7⟩ := h
  exact ⟨od2, L2, od, L, x2, x, h1.swap, h3, h2, h5, h4, h7, h6⟩
theorem PInv.kp (h : PInv w0 w xs k j li d m ws dr d2 m2 ws2 dr2) (hk : Keeps [] w w') : PInv w0 w' xs k j li d m ws dr d2 m2 ws2 dr2 := by
  obtain ⟨od, L, od2, L2, x, x2, h1, h⟩ := h
  exact ⟨od, L, od2, L2, x, x2, h1.kp hk, h⟩
theorem PInv.keeps (h : PInv w0 w xs k j li d m ws dr d2 m2 ws2 dr2) : Keeps [] w0 w := by
  obtain ⟨od, L, od2, L2, x, x2, h1, h⟩ := h
  exact h1.keeps
theorem PInv.wf (h : PInv w0 w xs k j li d m ws dr d2 m2 ws2 dr2) : (Lit.int .i64 k).wf = true ∧ 0 ≤ dr ∧ (ws.length : Int) ≤ 16 := by
  obtain ⟨od, L, od2, L2, x, x2, h1, _, _, h4, _, ⟨rfl, rfl, rfl⟩, _⟩ := h
  obtain ⟨y, a, c, hD, _⟩ := h1.step
  obtain ⟨hx, hxo⟩ := pt_mem h4
  have hp := hD.pt x hx
  have h1 := hp.o1
  have h2 := hp.o2
  have h3 := hp.l2
  have h4 := hp.q.dr0
  exact ⟨by rw [← hxo]; exact WalkArith.wf_i64 (by omega), h4.1, by omega⟩
theorem p_new {L L2 : List Pt} {wa wb : World} {i : Nat} {p : RP} (h1 : New_ w wa d m L xs) (h2 : New_ wa wb d2 m2 L2 xs) (hp : (rps xs)[i]? = some p) (ho : p.ow = k) : PInv w wb xs k 0 p.li d m [] 0 d2 m2 [] 0 := by
  have ht := (liv_new h1 (Keeps.refl [] w)).two h2
  obtain ⟨x, hx⟩ := oi_have h1.ky hp ho
  obtain ⟨x2, hx2⟩ := oi_have h2.ky hp ho
  have hm := (pt_mem hx)
  have hm2 := (pt_mem hx2)
  obtain ⟨z, hz, _, zo, _, zl⟩ := at_both h1.ky hp
  obtain ⟨z2, hz2, _, zo2, _, zl2⟩ := at_both h2.ky hp
  obtain rfl := pw_ow h1.dv.ap z hz x hm.1 (by omega)
  obtain rfl := pw_ow h2.dv.ap z2 hz2 x2 hm2.1 (by omega)
  have e1 := h1.em z hz
  have e2 := h2.em z2 hz2
  exact ⟨0, L, 0, L2, z, z2, ht, ⟨h1.ky, by omega, by omega, fun x hx => by rw [(h1.em x hx).2]; omega⟩, ⟨h2.ky, by omega, by omega, fun x hx => by rw [(h2.em x hx).2]; omega⟩, hx, hx2, ⟨e1.1, e1.2, zl⟩, e2.1, e2.2, zl2⟩
/-- Bytes come tOO the first of the two. -/
theorem p_come (h : PInv w0 w xs k j li d m ws dr d2 m2 ws2 dr2) (hj : j ≤ 1000) (hm : s.size ≤ 9223372036854775807) :
    Calls Try.prog 12 #[.pointer (some ⟨d, 0, none⟩), .string s] w fun e w' => ∃ b1 b2, e = .returned (.tuple #[.int .i64 b1, .bool b2]) ∧ (fi (rps xs) s = oi (rps xs) k → PInv w0 w' xs k (j + 1) li d m (comeW li ws s) (comeD li ws dr) d2 m2 ws2 dr2) ∧ (fi (rps xs) s ≠ oi (rps xs) k → PInv w0 w' xs k (j + 1) li d m ws dr d2 m2 ws2 dr2) := by
  obtain ⟨od, L, od2, L2, x, x2, h1, h2, h3, h4, h5, ⟨rfl, rfl, rfl⟩, h7⟩ := h
  obtain ⟨y, a, c, hD, hT⟩ := h1.step
  rcases hh : hit L s with _ | z
  · refine (come_miss s w hD hm (by have := h2.o0; have := h2.o1; omega) hh).mono ?_
    unfold IsCome
    rw [hh]
    rintro e w' ⟨rfl, hto⟩
    have hfi := fi_miss h2.ky hh
    obtain ⟨u, hu, _⟩ := oi_pt h2.ky h4
    refine ⟨_, _, rfl, fun e => by rw [hfi, hu] at e; omega, fun _ => ⟨_, _, _, _, x, x2, hT _ _ _ _ hto, h2.miss, h3.more (by omega), h4, h5, ⟨rfl, rfl, rfl⟩, h7⟩⟩
  · have hz := (own_hit hh).2.1
    have hdr := h2.dr z hz
    refine (come_hit s z w hD hm (by omega) hh).mono ?_
    unfold IsCome
    rw [hh]
    rintro e w' ⟨r', rfl, hto⟩
    have hiff := fi_oi h2.ky hD.ap hh h4
    have hsd := h2.turn hz (come_same z s r') hD.ap (by
      rw [(come_wd z s r').2]; unfold comeD
      by_cases h9 : (z.ws.length : Int) < z.li
      · rw [if_pos h9]; omega
      · rw [if_neg h9]; omega)
    have hup := upd_pt hD.ap hz (come_same z s r') k
    refine ⟨_, _, rfl, fun e => ?_, fun e => ?_⟩
    · obtain rfl := hiff.1 e
      rw [if_pos (pt_mem h4).2.symm] at hup
      exact ⟨_, _, _, _, _, x2, hT _ _ _ _ hto, hsd, h3.more (by omega), hup, h5, ⟨(come_wd z s r').1, (come_wd z s r').2, (come_same z s r').li⟩, h7⟩
    · have hne : ¬ k = z.ow := fun e2 => e (hiff.2 (pw_ow hD.ap z hz x (pt_mem h4).1 (e2.symm.trans (pt_mem h4).2.symm)))
      rw [if_neg hne, h4] at hup
      exact ⟨_, _, _, _, _, x2, hT _ _ _ _ hto, hsd, h3.more (by omega), hup, h5, ⟨rfl, rfl, rfl⟩, h7⟩
theorem p_waits (h : PInv w0 w xs k j li d m ws dr d2 m2 ws2 dr2) :
    Calls Try.prog 14 #[.pointer (some ⟨d, 0, none⟩), .int .i64 k] w fun e w' => e = .returned (.int .i64 (ws.length : Int)) ∧ w = w' := by
  have hk := h.wf.1
  obtain ⟨od, L, od2, L2, x, x2, h1, h2, h3, h4, h5, ⟨rfl, rfl, rfl⟩, h7⟩ := h
  obtain ⟨y, a, c, hD, hT⟩ := h1.step
  have := waits_any k w hD hk
  rw [h4] at this
  exact this
theorem p_drops (h : PInv w0 w xs k j li d m ws dr d2 m2 ws2 dr2) :
    Calls Try.prog 15 #[.pointer (some ⟨d, 0, none⟩), .int .i64 k] w fun e w' => e = .returned (.int .i64 dr) ∧ w = w' := by
  have hk := h.wf.1
  obtain ⟨od, L, od2, L2, x, x2, h1, h2, h3, h4, h5, ⟨rfl, rfl, rfl⟩, h7⟩ := h
  obtain ⟨y, a, c, hD, hT⟩ := h1.step
  have := drops_dev k w hD hk
  rw [h4] at this
  exact this
theorem p_take {f : FiF.It} {t : List FiF.It} {V : World} (h : PInv w0 V xs k j li d m (f :: t) dr d2 m2 ws2 dr2) (hkV : Keeps [] V w) :
    Calls Try.prog 16 #[.pointer (some ⟨d, 0, none⟩), .int .i64 k] w fun e w' => e = .returned (.tuple #[fv f, .int .i64 0]) ∧ PInv w0 w' xs k (j + 1) li d m t dr d2 m2 ws2 dr2 ∧ ∃ F, Keeps F w w' ∧ ∀ b ∈ F, b < V.heap.size := by
  have hk := h.wf.1
  obtain ⟨od, L, od2, L2, x, x2, h1, h2, h3, h4, h5, ⟨h6, rfl, rfl⟩, h7⟩ := h
  obtain ⟨y, a, c, hDV, hT⟩ := h1.step
  refine (take_dev k w (hDV.kp hkV) hk).mono ?_
  unfold IsTake
  rw [take_some h4 h6]
  rintro e w' ⟨rfl, hto⟩
  have hx := (pt_mem h4).1
  have hup := upd_pt hDV.ap hx (pop_same x t) k
  rw [if_pos (pt_mem h4).2.symm] at hup
  have hd := h2.dr x hx
  refine ⟨rfl, ⟨_, _, _, _, _, x2, hT _ _ _ _ (hto.from hkV), h2.turn hx (pop_same x t) hDV.ap (by show x.dr ≤ j + 1; omega), h3.more (by omega), hup, h5, ⟨rfl, rfl, rfl⟩, h7⟩, ?_⟩
  obtain ⟨_, _, _, _, hk9, _⟩ := hto
  exact ⟨_, hk9, hDV.lt⟩
end
end Nc
end Go.Proofs.Ytdbkgpnbmafpmaa
