/- The law NicForks: its walk. -/
import Derived.Test.YtdbkgpnbmafpmaaZfAO
import Derived.Deep.CutBlock
namespace Go.Proofs.Ytdbkgpnbmafpmaa
open Go.RowKit Go.Maps Go.Deep
namespace Nc
open Sm Fr
open PlainAid (bt)
def dcells (T : Nat → Nat → Value) (i : Nat) : List Value := [T i 0, T i 1, T i 2, T i 3, T i 4]
def dflat (T : Nat → Nat → Value) (n : Nat) : List Value := (List.range n).flatMap (dcells T)
theorem dflat_succ (T : Nat → Nat → Value) (n : Nat) : dflat T (n + 1) = dflat T n ++ dcells T n := by simp [dflat, List.range_succ]
theorem dflat_len (T : Nat → Nat → Value) : ∀ n, (dflat T n).length = n * 5
  | 0 => rfl
  | n + 1 => by rw [dflat_succ, List.length_append, dflat_len T n, Nat.succ_mul]; rfl
theorem dflat_get (T : Nat → Nat → Value) : ∀ n i j, i < n → j < 5 → (dflat T n)[i * 5 + j]? = (dcells T i)[j]?
  | 0, _, _, h, _ => absurd h (by omega)
  | n + 1, i, j, h, hj => by
    rw [dflat_succ]
    by_cases e : i < n
    · rw [List.getElem?_append_left (by rw [dflat_len]; omega)]
      exact dflat_get T n i j e hj
    · obtain rfl : i = n := by omega
      rw [List.getElem?_append_right (by rw [dflat_len]; omega), dflat_len, Nat.add_sub_cancel_left]
theorem dflat_at (T : Nat → Nat → Value) {n u : Nat} {v : Value} (h : (dflat T n)[u]? = some v) : u / 5 < n ∧ u % 5 < 5 ∧ v = T (u / 5) (u % 5) := by
  have hu : u < n * 5 := by rw [← dflat_len T n]; exact (List.getElem?_eq_some_iff.1 h).1
  have hi : u / 5 < n := by omega
  have hm : u % 5 < 5 := Nat.mod_lt _ (by decide)
  have hd : u / 5 * 5 + u % 5 = u := by omega
  have h1 := dflat_get T n (u / 5) (u % 5) hi hm
  rw [hd, h] at h1
  refine ⟨hi, hm, ?_⟩
  generalize u % 5 = q at *
  generalize u / 5 = i at *
  rcases q with _ | _ | _ | _ | _ | q
  · simpa [dcells] using h1
  · simpa [dcells] using h1
  · simpa [dcells] using h1
  · simpa [dcells] using h1
  · simpa [dcells] using h1
  · omega
theorem deedK_at (q : Nat) (h : q < 5) : ∃ k, deedK[q]? = some k := by
  rcases q with _ | _ | _ | _ | _ | q <;> first | exact ⟨_, rfl⟩ | omega
theorem deeds_reads {w : World} {a : Option Addr} {len cap n : Nat} {T : Nat → Nat → Value} (h : Recs w a len cap deedK T) (hn : n ≤ len) : Reads w w.heap.size 5 a n (dflat T n) := by
  refine ⟨dflat_len T n, fun h0 => ?_⟩
  obtain ⟨b, off, rfl, hb, hc⟩ := h.at_ (by omega) (by decide)
  refine ⟨_, rfl, hb, fun u v hu => ?_⟩
  obtain ⟨h1, h2, rfl⟩ := dflat_at T hu
  obtain ⟨k, hk⟩ := deedK_at _ h2
  have h3 := (hc (u / 5) (by omega) (u % 5) k hk).1
  rw [show u / 5 * deedK.length + u % 5 = u from by show u / 5 * 5 + u % 5 = u; omega] at h3
  have e2 : (⟨b, off, none⟩ : Addr).add u = ⟨b, off + u, none⟩ := by unfold Addr.add; by_cases h0 : u = 0 <;> simp [h0]
  rw [e2]
  exact h3
theorem deeds_one {w : World} {a : Option Addr} {len cap n : Nat} {T : Nat → Nat → Value} (h : Recs w a len cap deedK T) (hn : n ≤ len) : ∀ u ∈ dflat T n, u.oneCell' = true := by
  intro u hu
  obtain ⟨q, hq, e⟩ := List.getElem_of_mem hu
  obtain ⟨h1, h2, rfl⟩ := dflat_at T (by rw [List.getElem?_eq_getElem hq, e])
  obtain ⟨b, off, rfl, hb, hc⟩ := h.at_ (by omega) (by decide)
  have h3 := fun k hk => (hc (q / 5) (by omega) (q % 5) k hk).2
  generalize q % 5 = j at *
  rcases j with _ | _ | _ | _ | _ | j
  · obtain ⟨x, e9, _⟩ := h3 _ rfl; rw [e9]; rfl
  · obtain ⟨x, e9, _⟩ := h3 _ rfl; rw [e9]; rfl
  · obtain ⟨x, e9, _⟩ := h3 _ rfl; rw [e9]; rfl
  · obtain ⟨x, e9, _⟩ := h3 _ rfl; rw [e9]; rfl
  · obtain ⟨x, e9, _⟩ := h3 _ rfl; rw [e9]; rfl
  · omega
/-- The text of a deed of both rows. -/
def tx (T U : Nat → Nat → Value) (n1 i : Nat) : ByteArray := if i < n1 then strAt T i 4 else strAt U (i - n1) 4
theorem tx_cell {w : World} {a b : Option Addr} {l1 k1 l2 k2 n1 n2 : Nat} {T U : Nat → Nat → Value} (h1 : Recs w a l1 k1 deedK T) (h2 : Recs w b l2 k2 deedK U) (e1 : n1 ≤ l1) (e2 : n2 ≤ l2) (i : Nat) (hi : i < n1 + n2) : (dflat T n1 ++ dflat U n2)[i * 5 + 4]? = some (.string (tx T U n1 i)) ∧ (tx T U n1 i).size ≤ maxLen := by
  unfold tx
  by_cases e : i < n1
  · obtain ⟨b, off, rfl, hb, hc⟩ := h1.at_ (by omega) (by decide)
    obtain ⟨e3, e4⟩ := strAt_of (hc i (by omega) 4 _ rfl).2
    rw [if_pos e, List.getElem?_append_left (by rw [dflat_len]; omega), dflat_get T n1 i 4 e (by omega)]
    exact ⟨congrArg some e3, e4⟩
  · obtain ⟨b, off, rfl, hb, hc⟩ := h2.at_ (by omega) (by decide)
    obtain ⟨e3, e4⟩ := strAt_of (hc (i - n1) (by omega) 4 _ rfl).2
    rw [if_neg e, List.getElem?_append_right (by rw [dflat_len]; omega), dflat_len, show i * 5 + 4 - n1 * 5 = (i - n1) * 5 + 4 from by omega, dflat_get U n2 (i - n1) 4 (by omega) (by omega)]
    exact ⟨congrArg some e3, e4⟩
theorem deed_txt {w : World} {a : Option Addr} {len cap : Nat} {R : Nat → Nat → Value} (hR : Recs w a len cap deedK R) (i : Nat) (hi : i < len) :
    ∃ b off o k to_ ti, a = some ⟨b, off, none⟩ ∧ b < w.heap.size ∧ DeedAt w b (off + i * 5) o k to_ ti (strAt R i 4) ∧ (Lit.int .i64 k).wf = true := by
  obtain ⟨b, off, e, hb, hc⟩ := hR.at_ (by omega) (by decide)
  obtain ⟨h0, o, e0, _⟩ := hc i hi 0 _ rfl
  obtain ⟨h1, k, e1, w1⟩ := hc i hi 1 _ rfl
  obtain ⟨h2, to_, e2, _⟩ := hc i hi 2 _ rfl
  obtain ⟨h3, ti, e3, _⟩ := hc i hi 3 _ rfl
  obtain ⟨h4, w4⟩ := hc i hi 4 _ rfl
  have e4 := (strAt_of w4).1
  exact ⟨b, off, o, k, to_, ti, e, hb, ⟨by rw [← e0, ← h0]; rfl, by rw [← e1, ← h1]; rfl, by rw [← e2, ← h2]; rfl, by rw [← e3, ← h3]; rfl, by rw [← e4, ← h4]; rfl⟩, w1⟩
def TxOk (T U : Nat → Nat → Value) (n1 k : Nat) : Prop := ∀ u, u < k → (tx T U n1 u).size ≤ 200
section
variable {T U : Nat → Nat → Value} {n1 k : Nat}
theorem tx_ok0 : TxOk T U n1 0 := fun u h => absurd h (by omega)
theorem tx_ok1 (h : TxOk T U n1 k) (hk : (tx T U n1 k).size ≤ 200) : TxOk T U n1 (k + 1) := fun u hu => by
  by_cases e : u = k
  · subst e; exact hk
  · exact h u (by omega)
theorem tx_fst (h : TxOk T U n1 k) {i : Nat} (hi : i < n1) (hk : n1 ≤ k) : (strAt T i 4).size ≤ 200 := by
  have := h i (by omega)
  unfold tx at this
  rwa [if_pos hi] at this
theorem tx_snd (h : TxOk T U n1 k) {i : Nat} (hi : n1 + i < k) : (strAt U i 4).size ≤ 200 := by
  have := h (n1 + i) hi
  unfold tx at this
  rwa [if_neg (by omega), Nat.add_sub_cancel_left] at this
end
section
variable {w0 w wr w5 w6 : World} {d m y c n j d2 m2 y2 c2 j2 c' j' : Nat} {od od2 od' : Int} {a la a2 la2 a' : Option Addr} {lg lg2 lg' : List Sn} {L L2 : List Pt} {lb lb2 F G' : List Nat} {Ps Ps2 Ps' : List RP} {xs : List Pr}
theorem frk_open {w : World} {e : Ending} {w' : World} (h : IsFrk od lg L w e w') : ∃ d2 m2 y2 a2 c2 φ, e = .returned (.pointer (some ⟨d2, 0, none⟩)) ∧ Dev w' d2 m2 od y2 a2 c2 lg (L.map φ) ∧ (∀ x, Like x (φ x)) ∧ Keeps [] w w' ∧ ∀ b ∈ foot d2 m2 y2 (L.map φ), w.heap.size ≤ b := h
/-- What the rounds of deeds keep. -/
def QRel (w0 : World) (d m : Nat) (la : Option Addr) (n : Nat) (lb : List Nat) (xs : List Pr) (len : Nat) (i : Value) (wr : World) : Prop :=
  ∃ (j : Nat) (od : Int) (y : Nat) (a : Option Addr) (c : Nat) (lg : List Sn) (L : List Pt) (Ps : List RP), j ≤ 30 ∧ j ≤ len ∧ i = .int .i64 j ∧ Stp wr d m y od a c lg L la n lb Ps [] xs j ∧ Keeps [] w0 wr ∧ ∀ b ∈ lb ++ foot d m y L, w0.heap.size ≤ b
theorem qrel_mk {len : Nat} {i : Value} (h : ∃ (j : Nat) (od : Int) (y : Nat) (a : Option Addr) (c : Nat) (lg : List Sn) (L : List Pt) (Ps : List RP), j ≤ 30 ∧ j ≤ len ∧ i = .int .i64 j ∧ Stp wr d m y od a c lg L la n lb Ps [] xs j ∧ Keeps [] w0 wr ∧ ∀ b ∈ lb ++ foot d m y L, w0.heap.size ≤ b) : QRel w0 d m la n lb xs len i wr := h
theorem qrel_open {len : Nat} {i : Value} (h : QRel w0 d m la n lb xs len i wr) : ∃ (j : Nat) (od : Int) (y : Nat) (a : Option Addr) (c : Nat) (lg : List Sn) (L : List Pt) (Ps : List RP), j ≤ 30 ∧ j ≤ len ∧ i = .int .i64 j ∧ Stp wr d m y od a c lg L la n lb Ps [] xs j ∧ Keeps [] w0 wr ∧ ∀ b ∈ lb ++ foot d m y L, w0.heap.size ≤ b := h
/-- Both states behind the fork. -/
structure Bth (w0 wr : World) (d m y : Nat) (od : Int) (a : Option Addr) (c : Nat) (lg : List Sn) (L : List Pt) (la : Option Addr) (n : Nat) (lb : List Nat) (Ps : List RP) (j : Nat) (d2 m2 y2 : Nat) (od2 : Int) (a2 : Option Addr) (c2 : Nat) (lg2 : List Sn) (L2 : List Pt) (la2 : Option Addr) (lb2 : List Nat) (Ps2 : List RP) (j2 : Nat) (xs : List Pr) : Prop where
  s : Stp wr d m y od a c lg L la n lb Ps (lb2 ++ foot d2 m2 y2 L2) xs j
  f : Stp wr d2 m2 y2 od2 a2 c2 lg2 L2 la2 n lb2 Ps2 [] xs j2
  k : Keeps [] w0 wr
  b1 : ∀ b ∈ lb ++ foot d m y L, w0.heap.size ≤ b
  b2 : ∀ b ∈ lb2 ++ foot d2 m2 y2 L2, w0.heap.size ≤ b ∧ b ∉ lb ++ foot d m y L
theorem bth_mk {w4 : World} (h1 : Stp w4 d m y od a c lg L la n lb Ps (lb2 ++ foot d2 m2 y2 L2) xs j) (h2 : Stp w4 d2 m2 y2 od2 a2 c2 lg2 L2 la2 n lb2 Ps2 [] xs j2) (hk : Keeps [] w0 wr) (hk2 : Keeps [] wr w4) (hs : Stp wr d m y od' a' c' lg' L la n lb Ps' G' xs j') (hb : ∀ b ∈ lb ++ foot d m y L, w0.heap.size ≤ b) (hf : ∀ b ∈ lb2 ++ foot d2 m2 y2 L2, wr.heap.size ≤ b) : Bth w0 w4 d m y od a c lg L la n lb Ps j d2 m2 y2 od2 a2 c2 lg2 L2 la2 lb2 Ps2 j2 xs := by
  have hsl := hs.dv.lt
  have hsb := hs.rw.lt
  have hz := hk.size
  refine ⟨h1, h2, hk.trans hk2, hb, fun b hb9 => ⟨by have := hf b hb9; omega, fun hm => ?_⟩⟩
  have := hf b hb9
  rcases List.mem_append.1 hm with hm | hm
  · have := hsb b hm; omega
  · have := hsl b hm; omega
theorem Bth.kp (h : Bth w0 wr d m y od a c lg L la n lb Ps j d2 m2 y2 od2 a2 c2 lg2 L2 la2 lb2 Ps2 j2 xs) (hk : Keeps [] wr w5) : Bth w0 w5 d m y od a c lg L la n lb Ps j d2 m2 y2 od2 a2 c2 lg2 L2 la2 lb2 Ps2 j2 xs :=
  ⟨h.s.kp hk, h.f.kp hk, h.k.trans hk, h.b1, h.b2⟩
theorem Bth.next (h : Bth w0 wr d m y od a c lg L la n lb Ps j d2 m2 y2 od2 a2 c2 lg2 L2 la2 lb2 Ps2 j2 xs) (hn : Nx wr d2 m2 (foot d2 m2 y2 L2) la2 n lb2 [] xs (j2 + 1) od' w6) :
    ∃ y' a' c' lg' L' Ps', Bth w0 w6 d m y od a c lg L la n lb Ps j d2 m2 y' od' a' c' lg' L' la2 lb2 Ps' (j2 + 1) xs := by
  obtain ⟨y', a', c', lg', L', Ps', h1, h2, h3⟩ := hn
  have hlt := h1.dv.lt
  have hll := h1.rw.lt
  have hsl := h.s.dv.lt
  have hsb := h.s.rw.lt
  have hz := h.k.size
  refine ⟨y', a', c', lg', L', Ps', h.s.other h2 (fun b hb => ?_) (fun b hb => ?_) (fun b hb => ?_), h1, h.k.next h2 (fun b hb => .inr (h.b2 b hb).1), h.b1, fun b hb => ?_⟩
  · have h9 := (h.b2 b hb).2
    rw [List.mem_append] at h9
    exact ⟨hb, fun hm => h9 (.inr hm), fun hm => h9 (.inl hm)⟩
  · rcases List.mem_append.1 hb with hb | hb
    · exact .inl (List.mem_append.2 (.inl hb))
    · rcases h3 b hb with h9 | h9
      · exact .inl (List.mem_append.2 (.inr h9))
      · exact .inr h9
  · rcases List.mem_append.1 hb with hb | hb
    · exact hll b hb
    · exact hlt b hb
  · rcases List.mem_append.1 hb with hb | hb
    · exact h.b2 b (List.mem_append.2 (.inl hb))
    · rcases h3 b hb with h9 | h9
      · exact h.b2 b (List.mem_append.2 (.inr h9))
      · refine ⟨by omega, fun hm => ?_⟩
        rcases List.mem_append.1 hm with hm | hm
        · have := hsb b hm; omega
        · have := hsl b hm; omega
/-- What the rounds of the fork's deeds keep. -/
def RRel (w0 : World) (d m y : Nat) (od : Int) (a : Option Addr) (c : Nat) (lg : List Sn) (L : List Pt) (la : Option Addr) (n : Nat) (lb : List Nat) (Ps : List RP) (j d2 m2 : Nat) (la2 : Option Addr) (lb2 : List Nat) (xs : List Pr) (len : Nat) (i : Value) (wr : World) : Prop :=
  ∃ (k : Nat) (y2 : Nat) (od2 : Int) (a2 : Option Addr) (c2 : Nat) (lg2 : List Sn) (L2 : List Pt) (Ps2 : List RP), k ≤ 30 ∧ k ≤ len ∧ i = .int .i64 k ∧ Bth w0 wr d m y od a c lg L la n lb Ps j d2 m2 y2 od2 a2 c2 lg2 L2 la2 lb2 Ps2 (j + k) xs
theorem rrel_mk {len : Nat} {i : Value} (h : ∃ (k : Nat) (y2 : Nat) (od2 : Int) (a2 : Option Addr) (c2 : Nat) (lg2 : List Sn) (L2 : List Pt) (Ps2 : List RP), k ≤ 30 ∧ k ≤ len ∧ i = .int .i64 k ∧ Bth w0 wr d m y od a c lg L la n lb Ps j d2 m2 y2 od2 a2 c2 lg2 L2 la2 lb2 Ps2 (j + k) xs) : RRel w0 d m y od a c lg L la n lb Ps j d2 m2 la2 lb2 xs len i wr := h
theorem rrel_open {len : Nat} {i : Value} (h : RRel w0 d m y od a c lg L la n lb Ps j d2 m2 la2 lb2 xs len i wr) : ∃ (k : Nat) (y2 : Nat) (od2 : Int) (a2 : Option Addr) (c2 : Nat) (lg2 : List Sn) (L2 : List Pt) (Ps2 : List RP), k ≤ 30 ∧ k ≤ len ∧ i = .int .i64 k ∧ Bth w0 wr d m y od a c lg L la n lb Ps j d2 m2 y2 od2 a2 c2 lg2 L2 la2 lb2 Ps2 (j + k) xs := h
end
theorem dd_info : (Try.prog.info? 54).map (fun i => (i.zero, i.size, i.bytes)) = some (some (.agg #[.int .i64 0, .int .i64 0, .int .i64 0, .int .i64 0, .string ⟨#[]⟩]), 5, 48) := by kernel_rfl
attribute [local irreducible] TxOk QRel RRel Nx rps IsFrk tx dflat
set_option maxRecDepth 100000 in
set_option maxHeartbeats 4000000 in
theorem forks_law (a : Option Addr) (len cap : Nat) (R : Nat → Nat → Value) (ta : Option Addr) (tl tc : Nat) (T : Nat → Nat → Value) (ua : Option Addr) (ul uc : Nat) (U : Nat → Nat → Value) (w : World) (hR : Recs w a len cap portK R) (hT : Recs w ta tl tc deedK T) (hU : Recs w ua ul uc deedK U) :
    Calls Try.prog 6 #[.slice a len cap, .slice ta tl tc, .slice ua ul uc] w fun e w' => e = .returned (.bool true) ∧ Below w.heap.size w w' := by
  obtain ⟨n, hn8, hnl, hmn⟩ : ∃ n, n ≤ 8 ∧ n ≤ len ∧ (n = len ∨ (n = 8 ∧ 8 < len)) := by
    by_cases h : len ≤ 8
    · exact ⟨len, h, Nat.le_refl _, .inl rfl⟩
    · exact ⟨8, by omega, by omega, .inr ⟨rfl, by omega⟩⟩
  obtain ⟨n1, hq30, hql, hqm⟩ : ∃ n, n ≤ 30 ∧ n ≤ tl ∧ (if (30 : Int) < (tl : Int) then (30 : Int) else (tl : Int)) = (n : Int) := by
    by_cases h : tl ≤ 30
    · exact ⟨tl, h, Nat.le_refl _, by rw [if_neg (by omega)]⟩
    · exact ⟨30, by omega, by omega, by rw [if_pos (by omega)]; rfl⟩
  obtain ⟨n2, hu30, hul, hum⟩ : ∃ n, n ≤ 30 ∧ n ≤ ul ∧ (if (30 : Int) < (ul : Int) then (30 : Int) else (ul : Int)) = (n : Int) := by
    by_cases h : ul ≤ 30
    · exact ⟨ul, h, Nat.le_refl _, by rw [if_neg (by omega)]⟩
    · exact ⟨30, by omega, by omega, by rw [if_pos (by omega)]; rfl⟩
  have hrows := rows_of hR hnl
  have hxl := prs_len R n
  generalize prs R n = xs at *
  have hlc := hR.len
  have htl := hT.len
  have hull := hU.len
  have HP := Lib.hid (ports_any a len n cap xs w hrows hn8 hlc.1 hlc.2 hmn (by
    intro e; rcases hR with ⟨_, _, h⟩ | ⟨x, h, _⟩
    · exact h
    · rw [e] at h; cases h))
  have HR := Lib.hid hrows
  have HT := Lib.hid hT
  have HU := Lib.hid hU
  have HM := Lib.hid (And.intro hqm hum)
  have hto : ∀ k : Nat, k < tl → k < 30 → k < n1 := fun k h1 h2 => by
    by_cases h : tl ≤ 30
    · rw [if_neg (by omega)] at hqm; omega
    · rw [if_pos (by omega)] at hqm; omega
  have huo : ∀ k : Nat, k < ul → k < 30 → k < n2 := fun k h1 h2 => by
    by_cases h : ul ≤ 30
    · rw [if_neg (by omega)] at hum; omega
    · rw [if_pos (by omega)] at hum; omega
  have HO := Lib.hid (And.intro hto huo)
  obtain ⟨i0, hi0, hz0, hz1, hz2⟩ := info_parts dd_info
  have HI := Lib.hid (And.intro hi0 (And.intro hz0 (And.intro hz1 hz2)))
  obtain ⟨i5, hi5, hz50, hz51, hz52⟩ := info_parts rp_info
  have HI5 := Lib.hid (And.intro hi5 (And.intro hz50 (And.intro hz51 hz52)))
  clear hR hrows hmn hlc hT hU hqm hum hto huo hi0 hz0 hz1 hz2 hi5 hz50 hz51 hz52
  go_enter Try.func6, Try.ntmps6
  go_wp2_with fail
  refine HP.out.mono ?_
  clear HP
  rintro e w1 ⟨a', c', rfl, hk1, hown⟩
  obtain ⟨lb, hrow, hlb⟩ := row_new hown (by rw [rps_len, hxl])
  have HROW := Lib.hid (And.intro hrow (And.intro hlb hk1))
  have HN := Lib.hid (new_dev a n cap xs w1 (HR.out.kp hk1) hn8)
  clear hown hrow hlb hk1
  go_wp2_with fail
  refine HN.out.mono ?_
  clear HN
  rintro e w2 (⟨hc0, d, m, L0, rfl, hN1⟩ | ⟨hc0, rfl, hk2⟩)
  · have hrr := (HROW.out.1.keeps hN1.kp (by simp)).rr
    have HC := Lib.hid (rcheck_any a' n c' _ w2 hrr hn8)
    rw [rps_key, hc0] at HC
    have h0 := stp_0 HROW.out.1 (Keeps.refl [] w1) hN1 hn8
    have HK2 := Lib.hid (And.intro (HROW.out.2.2.trans hN1.kp) (And.intro hN1.ft HROW.out.2.2.size))
    have H0 := Lib.hid h0
    clear hrr h0 hN1 hc0
    go_wp2_with fail
    refine HC.out.mono ?_
    clear HC
    rintro e w3 ⟨rfl, hk3⟩
    have HS := Lib.hid (H0.out.kp hk3)
    have HK3 := Lib.hid (HK2.out.1.trans hk3)
    have hb0 : ∀ b ∈ lb ++ foot d m d L0, w.heap.size ≤ b := by
      intro b hb
      rcases List.mem_append.1 hb with hb | hb
      · exact HROW.out.2.1 b hb
      · have := HK2.out.2.1 b hb
        have := HK2.out.2.2
        omega
    have HB0 := Lib.hid hb0
    clear hb0 hk3 HROW HK2 H0
    go_upto_region 5 with fail
    go_cut [10] from 46 to 58 (fun s wx => ∃ (p : Option Addr) (c : Nat), s = .slice p (n1 + n2) c ∧ Keeps [] w3 wx ∧ wx.ownsRow w3.heap.size 54 5 (.slice p (n1 + n2) c) (n1 + n2) (dflat T n1 ++ dflat U n2))
    case first =>
      have hqm := HM.out.1
      have hum := HM.out.2
      have hn1 : (n1 : Int) ≤ (tc : Int) := by omega
      have hn2 : (n2 : Int) ≤ (uc : Int) := by omega
      have hp1 : (0 : Int) ≤ (n1 : Int) := by omega
      have hp2 : (0 : Int) ≤ (n2 : Int) := by omega
      refine wp_region_held_drew (S := AnyW) (by kernel_rfl) trivial (fun hHeld => ?_)
      obtain ⟨V0, hV0⟩ : ∃ V0, w3.drew = V0 := ⟨_, rfl⟩
      rw [hV0] at hHeld ⊢
      have hkw : Keeps [] w V0 := HK3.out.trans (by rw [← hV0]; exact (Keeps.refl _ _).drew)
      have hr1 := (deeds_reads HT.out hql).keep (w' := V0) (fun p hp => hkw.cell hp (by simp))
      have hr2 := (deeds_reads HU.out hul).keep (w' := V0) (fun p hp => hkw.cell hp (by simp))
      have ho1 := deeds_one HT.out hql
      have ho2 := deeds_one HU.out hul
      have hk30 : Keeps [] w3 V0 := by rw [← hV0]; exact (Keeps.refl _ _).drew
      clear hV0
      refine' wpAnyH_take (i := 1) (oi := _) (v := _) ?hA1 (by kernel_rfl) (by kernel_rfl) (by kernel_rfl) ?hQA1 (Or.inl ⟨?hwA1, ?hyA1⟩) hHeld ?restA1
      case hA1 => (simp only [List.getElem?_toArray, List.getElem?_cons_succ, List.getElem?_cons_zero]; rfl)
      case hQA1 => exact fun _ _ _ h => h
      case hwA1 => rfl
      case hyA1 => (intro w hSw; (try dsimp only at hSw); go_simp; try with_reducible rfl)
      try simp only [Act.put, List.setIfInBounds_toArray, List.set_cons_zero, List.set_cons_succ]
      refine' wpAnyH_take (i := 2) (oi := _) (v := _) ?hA2 (by kernel_rfl) (by kernel_rfl) (by kernel_rfl) ?hQA2 (Or.inl ⟨?hwA2, ?hyA2⟩) hHeld ?restA2
      case hA2 => (simp only [List.getElem?_toArray, List.getElem?_cons_succ, List.getElem?_cons_zero]; rfl)
      case hQA2 => exact fun _ _ _ h => h
      case hwA2 => rfl
      case hyA2 => (intro w hSw; (try dsimp only at hSw); go_simp; try with_reducible rfl)
      try simp only [Act.put, List.setIfInBounds_toArray, List.set_cons_zero, List.set_cons_succ]
      refine' wpAnyH_take (i := 3) (oi := _) (v := _) ?hA3 (by kernel_rfl) (by kernel_rfl) (by kernel_rfl) ?hQA3 (Or.inl ⟨?hwA3, ?hyA3⟩) hHeld ?restA3
      case hA3 => (simp only [List.getElem?_toArray, List.getElem?_cons_succ, List.getElem?_cons_zero]; rfl)
      case hQA3 => exact fun _ _ _ h => h
      case hwA3 => rfl
      case hyA3 => (intro w hSw; (try dsimp only at hSw); go_simp; try with_reducible rfl)
      try simp only [Act.put, List.setIfInBounds_toArray, List.set_cons_zero, List.set_cons_succ]
      refine' wpAnyH_take (i := 4) (oi := _) (v := _) ?hA4 (by kernel_rfl) (by kernel_rfl) (by kernel_rfl) ?hQA4 (Or.inl ⟨?hwA4, ?hyA4⟩) hHeld ?restA4
      case hA4 => (simp only [List.getElem?_toArray, List.getElem?_cons_succ, List.getElem?_cons_zero]; rfl)
      case hQA4 => exact fun _ _ _ h => h
      case hwA4 => rfl
      case hyA4 => (intro w hSw; (try dsimp only at hSw); go_simp; try with_reducible rfl)
      try simp only [Act.put, List.setIfInBounds_toArray, List.set_cons_zero, List.set_cons_succ]
      refine' wpAnyH_take (i := 5) (oi := _) (v := _) ?hA5 (by kernel_rfl) (by kernel_rfl) (by kernel_rfl) ?hQA5 (Or.inl ⟨?hwA5, ?hyA5⟩) hHeld ?restA5
      case hA5 => (simp only [List.getElem?_toArray, List.getElem?_cons_succ, List.getElem?_cons_zero]; rfl)
      case hQA5 => exact fun _ _ _ h => h
      case hwA5 => rfl
      case hyA5 => (intro w hSw; (try dsimp only at hSw); go_simp; try with_reducible rfl)
      try simp only [Act.put, List.setIfInBounds_toArray, List.set_cons_zero, List.set_cons_succ]
      refine' wpAnyH_take (i := 7) (oi := _) (v := _) ?hA7 (by kernel_rfl) (by kernel_rfl) (by kernel_rfl) ?hQA7 (Or.inl ⟨?hwA7, ?hyA7⟩) hHeld ?restA7
      case hA7 => (simp only [List.getElem?_toArray, List.getElem?_cons_succ, List.getElem?_cons_zero]; rfl)
      case hQA7 => exact fun _ _ _ h => h
      case hwA7 => rfl
      case hyA7 => (intro w hSw; (try dsimp only at hSw); go_simp; try with_reducible rfl)
      try simp only [Act.put, List.setIfInBounds_toArray, List.set_cons_zero, List.set_cons_succ]
      refine' wpAnyH_take (i := 8) (oi := _) (v := _) ?hA8 (by kernel_rfl) (by kernel_rfl) (by kernel_rfl) ?hQA8 (Or.inl ⟨?hwA8, ?hyA8⟩) hHeld ?restA8
      case hA8 => (simp only [List.getElem?_toArray, List.getElem?_cons_succ, List.getElem?_cons_zero]; rfl)
      case hQA8 => exact fun _ _ _ h => h
      case hwA8 => rfl
      case hyA8 => (intro w hSw; (try dsimp only at hSw); go_simp; try with_reducible rfl)
      try simp only [Act.put, List.setIfInBounds_toArray, List.set_cons_zero, List.set_cons_succ]
      refine' wpAnyH_take (i := 9) (oi := _) (v := _) ?hA9 (by kernel_rfl) (by kernel_rfl) (by kernel_rfl) ?hQA9 (Or.inl ⟨?hwA9, ?hyA9⟩) hHeld ?restA9
      case hA9 => (simp only [List.getElem?_toArray, List.getElem?_cons_succ, List.getElem?_cons_zero]; rfl)
      case hQA9 => exact fun _ _ _ h => h
      case hwA9 => rfl
      case hyA9 => (intro w hSw; (try dsimp only at hSw); go_simp; try with_reducible rfl)
      try simp only [Act.put, List.setIfInBounds_toArray, List.set_cons_zero, List.set_cons_succ]
      refine' wpAnyH_take (i := 10) (oi := _) (v := _) ?hA10 (by kernel_rfl) (by kernel_rfl) (by kernel_rfl) ?hQA10 (Or.inl ⟨?hwA10, ?hyA10⟩) hHeld ?restA10
      case hA10 => (simp only [List.getElem?_toArray, List.getElem?_cons_succ, List.getElem?_cons_zero]; rfl)
      case hQA10 => exact fun _ _ _ h => h
      case hwA10 => rfl
      case hyA10 => (intro w hSw; (try dsimp only at hSw); go_simp; try with_reducible rfl)
      try simp only [Act.put, List.setIfInBounds_toArray, List.set_cons_zero, List.set_cons_succ]
      refine' wpAnyH_take (i := 11) (oi := _) (v := _) ?hA11 (by kernel_rfl) (by kernel_rfl) (by kernel_rfl) ?hQA11 (Or.inl ⟨?hwA11, ?hyA11⟩) hHeld ?restA11
      case hA11 => (simp only [List.getElem?_toArray, List.getElem?_cons_succ, List.getElem?_cons_zero]; rfl)
      case hQA11 => exact fun _ _ _ h => h
      case hwA11 => rfl
      case hyA11 => (intro w hSw; (try dsimp only at hSw); go_simp; try with_reducible rfl)
      try simp only [Act.put, List.setIfInBounds_toArray, List.set_cons_zero, List.set_cons_succ]
      refine wpAnyH_ready (rs := [0]) (by kernel_rfl) (by simp) ?_
      refine AllReadyH.cons rfl (fun K hK => ?_) AllReadyH.nil
      go_simp
      refine hK.out _ _ (trivial) (fun hHeld' => ?_)
      clear hK K hHeld
      have hHeld := hHeld'
      clear hHeld'
      try simp only [Act.put, List.setIfInBounds_toArray, List.set_cons_zero, List.set_cons_succ]
      have own0 := (FiF.own_emptyF V0 V0.heap.size (Nat.le_refl _) 54 5)
      have hr1 := hr1.alloc hkw.size (.cells #[] 54)
      have hr2 := hr2.alloc hkw.size (.cells #[] 54)
      have hk31 : Keeps [] w3 (V0.alloc (.cells #[] 54)) := hk30.alloc _
      refine wpAnyH_ready (rs := [6]) (by kernel_rfl) (by simp) ?_
      refine' AllReadyH.cons (o := _) ?hoA6 (fun K hK => ?stA6) AllReadyH.nil
      case hoA6 => (simp only [List.getElem?_toArray, List.getElem?_cons_succ, List.getElem?_cons_zero]; rfl)
      rw [if_pos (by rfl)]
      refine wp_append_any _ (.tmp 46) (.tmp 51) 52 rfl V0.heap.size 54 i0 _ 5 48 Try.underlying52 HI.out.1 HI.out.2.1 HI.out.2.2.1 HI.out.2.2.2 rfl (by decide) (.slice (some ⟨V0.heap.size, 0, none⟩) 0 0) 0 _ rfl own0 _ _ n1 tc _ rfl hr1 ho1 (by simp only [maxLen]; omega) (by omega) (by simp) ?_
      intro v1 V1 own1 g1 at1
      rw [Nat.zero_add, List.nil_append] at own1
      obtain ⟨p1, c1, rfl⟩ := FiF.own_formF own1
      have hk31 := hk31.grown g1 (fun b hb => .inr (by have := (own0.lt b hb).1; have := hk30.size; omega))
      have hr2 := hr2.grown g1 (by have := hkw.size; simp; omega) (fun b hb => by have := (own0.lt b hb).1; have := hkw.size; omega)
      refine hK.out _ _ (trivial) (fun hHeld' => ?_)
      clear hK K hHeld
      have hHeld := hHeld'
      clear hHeld'
      try simp only [Act.put, List.setIfInBounds_toArray, List.set_cons_zero, List.set_cons_succ]
      refine wpAnyH_ready (rs := [12]) (by kernel_rfl) (by simp) ?_
      refine' AllReadyH.cons (o := _) ?hoA12 (fun K hK => ?stA12) AllReadyH.nil
      case hoA12 => (simp only [List.getElem?_toArray, List.getElem?_cons_succ, List.getElem?_cons_zero]; rfl)
      rw [if_pos (by rfl)]
      refine wp_append_any _ (.tmp 52) (.tmp 57) 52 rfl V0.heap.size 54 i0 _ 5 48 Try.underlying52 HI.out.1 HI.out.2.1 HI.out.2.2.1 HI.out.2.2.2 rfl (by decide) (.slice p1 n1 c1) n1 _ rfl own1 _ _ n2 uc _ rfl hr2 ho2 (by simp only [maxLen]; omega) (by omega) (by have := hk31.size; have := hk30.size; have := g1.size; simp at this; omega) ?_
      intro v2 V2 own2 g2 at2
      obtain ⟨p2, c2, rfl⟩ := FiF.own_formF own2
      have hk32 := hk31.grown g2 (fun b hb => .inr (by have := (own1.lt b hb).1; have := hk30.size; omega))
      refine hK.out _ _ (trivial) (fun hHeld' => ?_)
      clear hK K hHeld
      have hHeld := hHeld'
      clear hHeld'
      try simp only [Act.put, List.setIfInBounds_toArray, List.set_cons_zero, List.set_cons_succ]
      refine' wpAnyH_take (i := 13) (oi := _) (v := _) ?hA13 (by kernel_rfl) (by kernel_rfl) (by kernel_rfl) ?hQA13 (Or.inl ⟨?hwA13, ?hyA13⟩) hHeld ?restA13
      case hA13 => (simp only [List.getElem?_toArray, List.getElem?_cons_succ, List.getElem?_cons_zero]; rfl)
      case hQA13 => exact fun _ _ _ h => h
      case hwA13 => rfl
      case hyA13 => (intro w hSw; (try dsimp only at hSw); go_simp; try with_reducible rfl)
      try simp only [Act.put, List.setIfInBounds_toArray, List.set_cons_zero, List.set_cons_succ]
      refine wpAnyH_done (by kernel_rfl) ?_ _
      have HF := Lib.hid (And.intro hk32 (own_low own2 (B := w3.heap.size) hk30.size))
      clear hHeld hr1 hr2 ho1 ho2 own0 own1 own2 g1 g2 hk31 hk32 at1 at2 hk30 hkw
      go_wp2_with fail
      go_meet
      case rel => exact ⟨_, _, rfl, HF.out.1, HF.out.2⟩
    case rest =>
      obtain ⟨p, pc, rfl, hkx, hown⟩ := hcut
      have HA := Lib.hid (And.intro hkx hown)
      have HSx := Lib.hid (HS.out.kp hkx)
      have HKx := Lib.hid (HK3.out.trans hkx)
      obtain ⟨q, hq⟩ : ∃ q, n1 + n2 = q := ⟨_, rfl⟩
      rw [hq]
      have HQ := Lib.hid hq
      have hq60 : q ≤ 60 := by omega
      clear hkx hown hq HS HK3
      go_wp2_with fail
      go_loopw [11] (fun i wr => ∃ k : Nat, k ≤ q ∧ i = .int .i64 k ∧ wr = wc ∧ TxOk T U n1 k) (fun i _ => q - (intOf i).toNat)
      case atStart => exact ⟨0, by omega, rfl, rfl, tx_ok0⟩
      case round =>
        obtain ⟨k, hkq, rfl, rfl, htx⟩ := hrel
        have HX := Lib.hid htx
        clear htx
        by_cases hlt : k < q
        · obtain ⟨g, cap, hv, hgb, hgl⟩ := HA.out.2.form (by have := HQ.out; omega)
          injection hv with e1
          subst e1
          obtain ⟨hcl, hsz⟩ := tx_cell HT.out HU.out hql hul k (by have := HQ.out; omega)
          have hc4 : wr.cell? ⟨g, k * 5 + 4, none⟩ = some (.string (tx T U n1 k)) := by rw [← hcl]; exact HA.out.2.cellAt (k * 5 + 4) (by have := HQ.out; omega)
          have hk0 : (0 : Int) ≤ (k : Int) := by omega
          have hk1 : (k : Int) < (q : Int) := by omega
          unfold maxLen at hsz
          have HZ := Lib.hid (fun h => tx_ok1 (T := T) (U := U) (n1 := n1) (k := k) HX.out h)
          generalize tx T U n1 k = te at *
          clear hcl hgb
          by_cases h200 : te.size ≤ 200
          · have h200' : ((te.size : Nat) : Int) ≤ 200 := by omega
            go_wp2
            go_roundw
            case rel => exact ⟨k + 1, by omega, by go_num, trivial, HZ.out h200⟩
            case measure => simp [intOf]; omega
          · have h200' : ¬ ((te.size : Nat) : Int) ≤ 200 := by omega
            go_wp2_with fail
            refine (live_any _).mono ?_
            rintro e w5 ⟨rfl, hk5⟩
            have HZ := Lib.hid (HKx.out.trans hk5)
            clear hk5
            go_wp2
            go_ret
            exact ⟨rfl, HZ.out.all⟩
        · obtain rfl : q = k := by omega
          go_upto_block 2 with fail
          go_cut [12] from 73 to 89 (fun s wx => QRel w d m a' n lb xs tl s wx)
          case first =>
            go_wp2_with fail
            go_loopw [12] (fun i wr => QRel w d m a' n lb xs tl i wr) (fun i _ => 40 - (intOf i).toNat)
            case atStart => exact qrel_mk ⟨0, 0, d, none, 0, [], L0, rps xs, by omega, by omega, rfl, HSx.out, HKx.out, HB0.out⟩
            case round =>
              obtain ⟨j, od, y, ya, yc, lg, L, Ps, hj, hjl, rfl, hS, hKp, hB⟩ := qrel_open hrel
              clear hrel
              have HH := Lib.hid (And.intro hS (And.intro hKp hB))
              clear hS hKp hB HSx HKx HA HB0
              by_cases hlt2 : j < tl ∧ j < 30
              · obtain ⟨hj1, hj2⟩ := hlt2
                obtain ⟨b, off, o, k2, to_, ti, rfl, hb, hda, wk⟩ := deed_txt HT.out j hj1
                have hsz : (strAt T j 4).size ≤ 200 := tx_fst HX.out (HO.out.1 j hj1 hj2) (by have := HQ.out; omega)
                obtain ⟨te, hte⟩ : ∃ te, strAt T j 4 = te := ⟨_, rfl⟩
                rw [hte] at hda hsz
                obtain ⟨c0, c1, c2, c3, c4⟩ := hda.keeps HH.out.2.1 (by simp) hb
                have hj0 : (0 : Int) ≤ (j : Int) := by omega
                have hj3 : (j : Int) < (tl : Int) := by omega
                have hj4 : (j : Int) < 30 := by omega
                have HST := Lib.hid (step_any c' o k2 to_ ti te (od' := od + if o = 0 then odd1 Ps te else 0) HH.out.1 (by omega) wk (by omega) rfl)
                clear hda hte
                go_wp2_with fail
                refine HST.out.mono ?_
                clear HST c0 c1 c2 c3 c4
                rintro e w6 ⟨rfl, hnx⟩
                have hN := nx_next HH.out.2.1 HH.out.2.2 (Keeps.refl [] _) hnx
                have H2 := Lib.hid hN
                clear hnx hN
                go_wp2
                go_roundw
                case rel =>
                  obtain ⟨y2, ya2, yc2, lg2, L2, Ps2, h9⟩ := H2.out
                  exact qrel_mk ⟨j + 1, _, y2, ya2, yc2, lg2, L2, Ps2, by omega, by omega, by go_num, h9⟩
                case measure => simp [intOf]; omega
              · have hcond : ¬ ((j : Int) < (tl : Int)) ∨ ((j : Int) < (tl : Int) ∧ ¬ ((j : Int) < 30)) := by omega
                rcases hcond with hq | hq <;> (
                  go_wp2_with fail
                  go_meet
                  case rel => exact qrel_mk ⟨j, od, y, ya, yc, lg, L, Ps, hj, hjl, rfl, HH.out⟩)
          case rest =>
            obtain ⟨j, od, y, ya, yc, lg, L, Ps, hj, hjl, rfl, hS, hKp, hB⟩ := qrel_open hcut
            clear hcut
            have HH := Lib.hid (And.intro hS (And.intro hKp hB))
            clear hS hKp hB HSx HKx HA HB0
            have hlg := HH.out.1.lg
            have HF := Lib.hid (fork_dev wc HH.out.1.dv (by omega))
            go_wp2_with fail
            refine HF.out.mono ?_
            clear HF
            intro e w4 hf
            obtain ⟨d2, m2, y2, a2, c2, φ, rfl, hD2, hl2, hk4, hf2⟩ := frk_open hf
            have hS4 := HH.out.1.kp hk4
            have hrd4 := rp_reads hS4.rw
            have H4 := Lib.hid (And.intro hD2 (And.intro hl2 (And.intro hk4 hf2)))
            have HL := Lib.hid hS4.rw.rr.1
            have hown4 := FiF.own_emptyF w4 w4.heap.size (Nat.le_refl _) 45 5
            have hrd5 := hrd4.alloc (Nat.le_refl _) (.cells #[] 45)
            have hk40 : Keeps [] w4 (w4.alloc (.cells #[] 45)) := (Keeps.refl _ _).alloc _
            clear hf hD2 hl2 hk4 hf2 hS4 hrd4
            go_wp2_with (at_builtin; refine wpList_append_any _ rfl (.tmp 94) (.tmp 95) _ rfl w4.heap.size 45 i5 _ 5 56 Try.underlying24 HI5.out.1 HI5.out.2.1 HI5.out.2.2.1 HI5.out.2.2.2 rfl (by decide) (.slice (some ⟨w4.heap.size, 0, none⟩) 0 0) 0 _ rfl hown4 _ _ n c' _ rfl hrd5 (rflat_one _) (by simp only [maxLen]; omega) (by omega) (by simp) ?_; intro v5 w5 hown9 hg5 hat5; obtain ⟨p5, c5, hv5⟩ := FiF.own_formF hown9; subst hv5; rw [Nat.zero_add, List.nil_append] at hown9; have hk5 := hk40.grown hg5 (fun b hb => .inr (by have := (hown4.lt b hb).1; exact this)); have H5 := Lib.hid (And.intro hown9 hk5); clear hown9 hk5 hg5 hat5 hown4 hrd5 hk40)
            obtain ⟨lb2, hrow2, hlb2⟩ := row_new H5.out.1 HL.out
            obtain ⟨hst2, hst1⟩ := stp_fork HH.out.1 H4.out.2.1 H4.out.2.2.1 H4.out.1 H4.out.2.2.2 H5.out.2 hrow2 hlb2
            have hkk := H4.out.2.2.1.trans H5.out.2
            have HB := Lib.hid (bth_mk hst1 hst2 HH.out.2.1 hkk HH.out.1 HH.out.2.2 (fun b hb => by
              rcases List.mem_append.1 hb with hb | hb
              · have := hlb2 b hb; have := H4.out.2.2.1.size; omega
              · exact H4.out.2.2.2 b hb))
            have HG := Lib.hid (log_dev w5 hst1.dv (by omega))
            clear hrow2 hlb2 hst2 hst1 hkk H5 H4 HH
            obtain ⟨ln, hln⟩ : ∃ ln, lg.length = ln := ⟨_, rfl⟩
            rw [hln] at hlg
            unfold IsLog at HG
            rw [hln] at HG
            have HLN := Lib.hid hln
            clear hln
            refine HG.out.mono ?_
            clear HG
            rintro e w6 ⟨a6, c6, rfl, hk6, _⟩
            have HB6 := Lib.hid (HB.out.kp hk6)
            clear HB hk6
            go_upto_block 4 with fail
            go_cut [16] from 100 to 117 (fun s wx => RRel w d m y od ya yc lg L a' n lb Ps j d2 m2 p5 lb2 xs ul s wx)
            case first =>
              go_wp2_with fail
              go_loopw [16] (fun i wr => RRel w d m y od ya yc lg L a' n lb Ps j d2 m2 p5 lb2 xs ul i wr) (fun i _ => 40 - (intOf i).toNat)
              case atStart => exact rrel_mk ⟨0, y2, od, a2, c2, lg, _, Ps, by omega, by omega, rfl, HB6.out⟩
              case round =>
                obtain ⟨k3, y3, od3, a3, c3, lg3, L3, Ps3, hk3, hkl3, rfl, hBt⟩ := rrel_open hrel
                clear hrel
                have HH := Lib.hid hBt
                clear hBt HB6
                by_cases hlt2 : k3 < ul ∧ k3 < 30
                · obtain ⟨hj1, hj2⟩ := hlt2
                  obtain ⟨b, off, o, k2, to_, ti, rfl, hb, hda, wk⟩ := deed_txt HU.out k3 hj1
                  have hsz : (strAt U k3 4).size ≤ 200 := tx_snd HX.out (by have := HO.out.2 k3 hj1 hj2; have := HQ.out; omega)
                  obtain ⟨te, hte⟩ : ∃ te, strAt U k3 4 = te := ⟨_, rfl⟩
                  rw [hte] at hda hsz
                  obtain ⟨c0, c1, c2, c3, c4⟩ := hda.keeps HH.out.k (by simp) hb
                  have hj0 : (0 : Int) ≤ (k3 : Int) := by omega
                  have hj3 : (k3 : Int) < (ul : Int) := by omega
                  have hj4 : (k3 : Int) < 30 := by omega
                  have HST := Lib.hid (step_any c5 o k2 to_ ti te (od' := od3 + if o = 0 then odd1 Ps3 te else 0) HH.out.f (by omega) wk (by omega) rfl)
                  clear hda hte
                  go_wp2_with fail
                  refine HST.out.mono ?_
                  clear HST c0 c1 c2 c3 c4
                  rintro e w7 ⟨rfl, hnx⟩
                  have H2 := Lib.hid (HH.out.next hnx)
                  clear hnx
                  go_wp2
                  go_roundw
                  case rel =>
                    obtain ⟨y9, a9, c9, lg9, L9, Ps9, h9⟩ := H2.out
                    exact rrel_mk ⟨k3 + 1, y9, _, a9, c9, lg9, L9, Ps9, by omega, by omega, by go_num, h9⟩
                  case measure => simp [intOf]; omega
                · have hcond : ¬ ((k3 : Int) < (ul : Int)) ∨ ((k3 : Int) < (ul : Int) ∧ ¬ ((k3 : Int) < 30)) := by omega
                  rcases hcond with hq | hq <;> (
                    go_wp2_with fail
                    go_meet
                    case rel => exact rrel_mk ⟨k3, y3, od3, a3, c3, lg3, L3, Ps3, hk3, hkl3, rfl, HH.out⟩)
            case rest =>
              obtain ⟨k3, y3, od3, a3, c3, lg3, L3, Ps3, hk3, hkl3, rfl, hBt⟩ := rrel_open hcut
              clear hcut HB6
              have HH := Lib.hid hBt
              clear hBt
              go_wp2_with fail
              refine (take_nil 1 _).mono ?_
              rintro e w7 ⟨rfl, hk7⟩
              have HB7 := Lib.hid (HH.out.kp (hk7.alloc (.cells #[.int .i64 0, .int .i64 0, .string ⟨#[]⟩] 39)))
              clear HH hk7
              go_wp2_with fail
              refine (come_nil _ _).mono ?_
              rintro e w8 ⟨rfl, hk8⟩
              have HB8 := Lib.hid (HB7.out.kp hk8)
              clear HB7 hk8
              go_wp2_with fail
              refine (live_any _).mono ?_
              rintro e w9 ⟨rfl, hk9⟩
              have HB9 := Lib.hid (HB8.out.kp hk9)
              clear HB8 hk9
              go_wp2_with fail
              refine (told_any c' HB9.out.s.dv HB9.out.s.rw HB9.out.s.dc hn8).mono ?_
              rintro e w10 ⟨rfl, hdr⟩
              have HB10 := Lib.hid (HB9.out.kp ((Keeps.refl [] w9).drawn hdr))
              clear HB9 hdr
              go_wp2_with fail
              refine (told_any c5 HB10.out.f.dv HB10.out.f.rw HB10.out.f.dc hn8).mono ?_
              rintro e w11 ⟨rfl, hdr⟩
              have HB11 := Lib.hid (HB10.out.kp ((Keeps.refl [] w10).drawn hdr))
              have HG := Lib.hid (log_dev w11 HB11.out.s.dv (by have := HLN.out; omega))
              unfold IsLog at HG
              rw [HLN.out] at HG
              clear HB10 hdr
              go_wp2_with fail
              refine HG.out.mono ?_
              clear HG
              rintro e w12 ⟨a12, c12, rfl, hk12, _⟩
              have HB12 := Lib.hid (HB11.out.k.trans hk12)
              clear HB11 hk12
              go_wp2_with fail
              refine (send_nil _ _ _ _ _).mono ?_
              rintro e w' ⟨rfl, rfl⟩
              go_wp2_with fail
              refine (waits_nil _ _).mono ?_
              rintro e w' ⟨rfl, rfl⟩
              go_wp2_with fail
              refine (drops_nil _ _).mono ?_
              rintro e w' ⟨rfl, rfl⟩
              go_wp2_with fail
              refine (odd_nil _).mono ?_
              rintro e w' ⟨rfl, rfl⟩
              go_wp2_with fail
              refine (owner_nil _ _).mono ?_
              rintro e w' ⟨rfl, rfl⟩
              go_wp2_with fail
              refine (log_nil _).mono ?_
              rintro e w' ⟨rfl, rfl⟩
              go_wp2_with fail
              refine (fork_nil _).mono ?_
              rintro e w' ⟨rfl, rfl⟩
              go_wp2
              go_ret
              exact ⟨rfl, HB12.out.all⟩
  · have hcb : (chk xs != 0) = true := by simpa using hc0
    have hrr := (HROW.out.1.keeps hk2 (by simp)).rr
    have HC := Lib.hid (rcheck_any a' n c' _ w2 hrr hn8)
    have HC2 := Lib.hid (fun V hk => rcheck_any a' n c' _ V (hrr.kp hk) hn8)
    rw [rps_key] at HC HC2
    have HK2 := Lib.hid (HROW.out.2.2.trans hk2)
    clear hrr hk2 hc0
    generalize chk xs = ce at *
    go_wp2_with fail
    refine HC.out.mono ?_
    clear HC
    rintro e w3 ⟨rfl, hk3⟩
    have HK3 := Lib.hid hk3
    clear hk3
    go_wp2_with fail
    refine (live_any _).mono ?_
    rintro e w4 ⟨rfl, hk4⟩
    have HC := Lib.hid (HC2.out w4 (HK3.out.trans hk4))
    have HK4 := Lib.hid (HK3.out.trans hk4)
    clear hk4 HC2
    go_wp2_with fail
    refine HC.out.mono ?_
    clear HC
    rintro e w5 ⟨rfl, hk5⟩
    have HZ := Lib.hid ((HK2.out.trans HK4.out).trans hk5)
    clear hk5
    go_wp2
    go_ret
    exact ⟨rfl, HZ.out.all⟩
end Nc
end Go.Proofs.Ytdbkgpnbmafpmaa
