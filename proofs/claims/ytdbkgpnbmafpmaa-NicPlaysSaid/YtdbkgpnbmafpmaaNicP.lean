/- The device and the document's ports: the state that both are in; told. -/
import Derived.Test.YtdbkgpnbmafpmaaNicO
namespace Go.Proofs.Ytdbkgpnbmafpmaa
open Go.RowKit Go.Maps Go.Deep
namespace Nc
open Sm Fr
open PlainAid (bt)
theorem keeps_set (g o : Nat) (vs : List Value) : ∀ (w : World), Keeps [g] w (w.setCells g o vs) := fun w => FiF.keeps_cells (.inl (by simp)) _ _ _ (Keeps.refl _ _)
/-- The document's row of ports, in block g. -/
structure RowP (w : World) (la : Option Addr) (n : Nat) (lb : List Nat) (Ps : List RP) : Prop where
  rr : Rr w la n Ps
  lb : (la = none ∧ lb = [] ∧ n = 0) ∨ ∃ g, la = some ⟨g, 0, none⟩ ∧ lb = [g] ∧ g < w.heap.size ∧ ∀ k, w.frozen? ⟨g, k, none⟩ = false
section
variable {w w' : World} {la : Option Addr} {n B c : Nat} {lb : List Nat} {Ps : List RP} {S : List Nat}
theorem row_new (h : w.ownsRow B 45 5 (.slice la n c) n (rflat Ps)) (hl : Ps.length = n) : ∃ lb, RowP w la n lb Ps ∧ ∀ b ∈ lb, B ≤ b := by
  rcases h.2 with ⟨hv, _⟩ | ⟨g, cap, cur, hv, hb, _, hc, _⟩
  · injection hv with e1 e2 e3
    exact ⟨[], ⟨rr_own h hl, .inl ⟨e1, rfl, e2⟩⟩, by simp⟩
  · injection hv with e1 e2 e3
    subst e1
    exact ⟨[g], ⟨rr_own h hl, .inr ⟨g, rfl, rfl, (h.lt g rfl).2, fun k => h.frozenAt k⟩⟩, by simpa using hb⟩
theorem RowP.keeps (h : RowP w la n lb Ps) (hk : Keeps S w w') (hS : ∀ b ∈ lb, b ∉ S) : RowP w' la n lb Ps := by
  rcases h.lb with ⟨h1, h2, h3⟩ | ⟨g, rfl, rfl, h3, h4⟩
  · exact ⟨h.rr.keeps hk (fun b e => by rw [h1] at e; cases e), .inl ⟨h1, h2, h3⟩⟩
  · refine ⟨h.rr.keeps hk (fun b e => by injection e with e; injection e with e; subst e; exact hS _ (by simp)), .inr ⟨g, rfl, rfl, Nat.lt_of_lt_of_le h3 hk.size, fun k => (hk.frozen (p := ⟨g, k, none⟩) h3 (hS _ (by simp))).trans (h4 k)⟩⟩
theorem RowP.lt (h : RowP w la n lb Ps) : ∀ b ∈ lb, b < w.heap.size := by
  rcases h.lb with ⟨_, rfl, _⟩ | ⟨g, _, rfl, h3, _⟩
  · simp
  · simpa using h3
theorem rpc_len (x : RP) : (rpc x).length = 5 := rfl
attribute [local irreducible] rpc
theorem RowP.at_ (h : RowP w la n lb Ps) {i : Nat} {p : RP} (hp : Ps[i]? = some p) : ∃ g, la = some ⟨g, 0, none⟩ ∧ lb = [g] ∧ g < w.heap.size ∧ i < n ∧ w.rangeAt g (i * 5) (rpc p) ∧ w.there g (i * 5) 5 := by
  have hi : i < n := by rw [← h.rr.1]; exact (List.getElem?_eq_some_iff.1 hp).1
  rcases h.lb with ⟨_, _, h3⟩ | ⟨g, rfl, h2, h3, h4⟩
  · omega
  · obtain ⟨b, e, _, hc⟩ := h.rr.2 (by omega)
    injection e with e; injection e with e
    subst e
    exact ⟨g, rfl, h2, h3, hi, hc i p hp, fun j hj => ⟨World.rangeAt.isSome (hc i p hp) j (by rw [rpc_len]; exact hj), h4 _⟩⟩
/-- One port put anew. -/
theorem RowP.store (h : RowP w la n lb Ps) {i g : Nat} {p : RP} (p' : RP) (hp : Ps[i]? = some p) (hg : la = some ⟨g, 0, none⟩) : RowP (w.setCells g (i * 5) (rpc p')) la n lb (Ps.set i p') := by
  have hk := keeps_set g (i * 5) (rpc p') w
  have hi := (List.getElem?_eq_some_iff.1 hp).1
  obtain ⟨g', e, h2, h3, h4, h5, h6⟩ := h.at_ hp
  rw [hg] at e; injection e with e; injection e with e
  subst e
  refine ⟨⟨by rw [List.length_set]; exact h.rr.1, fun _ => ⟨g, hg, Nat.lt_of_lt_of_le h3 hk.size, fun u x hx => ?_⟩⟩, .inr ⟨g, hg, h2, Nat.lt_of_lt_of_le h3 hk.size, fun k => ?_⟩⟩
  · by_cases hu : u = i
    · subst hu
      rw [List.getElem?_set_self hi] at hx
      obtain rfl := Option.some.inj hx
      exact World.rangeAt_setCells_same w g (u * 5) (rpc p') (by rw [rpc_len]; exact h6)
    · rw [List.getElem?_set_ne (fun e => hu e.symm)] at hx
      obtain ⟨g', e, _, _, _, h9, _⟩ := h.at_ hx
      rw [hg] at e; injection e with e; injection e with e
      subst e
      exact World.rangeAt_setCells_apart h9 g (i * 5) (rpc p') (.inr (by rw [rpc_len, rpc_len]; omega))
  · rw [World.frozen?_setCells]
    rcases h.lb with ⟨e, _, _⟩ | ⟨g', e, _, _, h4⟩
    · rw [hg] at e; cases e
    · rw [hg] at e; injection e with e; injection e with e
      subst e
      exact h4 k
end
/-- The document's ports tell what the device's do. -/
structure Doc (w : World) (X : List Nat) (L : List Pt) (Ps : List RP) : Prop where
  ln : L.length = Ps.length
  eq : ∀ (i : Nat) x p, L[i]? = some x → Ps[i]? = some p → p.ow = x.ow ∧ p.ma = x.ma ∧ p.li = x.li ∧ p.dr = x.dr ∧ p.wn = x.ws.length ∧ p.wn ≤ p.wc ∧ Rd w X p.wa p.wn (FiF.flt x.ws)
section
variable {w w' : World} {X Y S : List Nat} {L : List Pt} {Ps : List RP} {x x' : Pt} {p p' : RP} {i : Nat}
theorem Doc.keeps (h : Doc w X L Ps) (hk : Keeps S w w') (hS : ∀ b ∈ S, b ∈ X ∨ w.heap.size ≤ b) : Doc w' X L Ps :=
  ⟨h.ln, fun i x p hx hp => by obtain ⟨h1, h2, h3, h4, h5, h6, h7⟩ := h.eq i x p hx hp; exact ⟨h1, h2, h3, h4, h5, h6, h7.keeps hk hS⟩⟩
theorem Doc.more (h : Doc w X L Ps) (hY : ∀ b ∈ Y, b ∈ X ∨ w.heap.size ≤ b) : Doc w Y L Ps :=
  ⟨h.ln, fun i x p hx hp => by obtain ⟨h1, h2, h3, h4, h5, h6, h7⟩ := h.eq i x p hx hp; exact ⟨h1, h2, h3, h4, h5, h6, h7.more hY⟩⟩
theorem Doc.at_ (h : Doc w X L Ps) (hx : L[i]? = some x) : ∃ p, Ps[i]? = some p ∧ p.ow = x.ow ∧ p.ma = x.ma ∧ p.li = x.li ∧ p.dr = x.dr ∧ p.wn = x.ws.length ∧ p.wn ≤ p.wc ∧ Rd w X p.wa p.wn (FiF.flt x.ws) := by
  have hi := (List.getElem?_eq_some_iff.1 hx).1
  have hl := h.ln
  have hp : Ps[i]? = some (Ps[i]'(by omega)) := List.getElem?_eq_getElem (by omega)
  exact ⟨_, hp, h.eq i x _ hx hp⟩
theorem upd_at (hp : L.Pairwise Apart) (hx : L[i]? = some x) (hs : Same x x') : upd L x' = L.set i x' := by
  have hi := (List.getElem?_eq_some_iff.1 hx).1
  refine List.ext_getElem? fun u => ?_
  unfold upd
  rw [List.getElem?_map]
  by_cases hu : u = i
  · subst hu
    rw [List.getElem?_set_self hi, hx]
    simp [hs.ow]
  · rw [List.getElem?_set_ne (fun e => hu e.symm)]
    rcases hz : L[u]? with _ | z
    · rfl
    · simp only [Option.map_some]
      have hne : ¬ z.ow = x'.ow := fun e => by
        have hzm := List.mem_of_getElem? hz
        have := pw_ow hp z hzm x (List.mem_of_getElem? hx) (e.trans hs.ow)
        subst this
        obtain ⟨l1, e1⟩ := List.getElem?_eq_some_iff.1 hz
        obtain ⟨l2, e2⟩ := List.getElem?_eq_some_iff.1 hx
        rw [List.pairwise_iff_getElem] at hp
        rcases Nat.lt_trichotomy u i with h9 | h9 | h9
        · exact absurd (by rw [e1, e2]) (hp u i l1 l2 h9).ow
        · exact hu h9
        · exact absurd (by rw [e1, e2]) (hp i u l2 l1 h9).ow
      rw [if_neg hne]
/-- A port has turned, and the document's too. -/
theorem Doc.set (h : Doc w X L Ps) (hp : L.Pairwise Apart) (hx : L[i]? = some x) (hs : Same x x') (h1 : p'.ow = x'.ow) (h2 : p'.ma = x'.ma) (h3 : p'.li = x'.li) (h4 : p'.dr = x'.dr) (h5 : p'.wn = x'.ws.length) (h6 : p'.wn ≤ p'.wc) (h7 : Rd w X p'.wa p'.wn (FiF.flt x'.ws)) : Doc w X (upd L x') (Ps.set i p') := by
  have hi := (List.getElem?_eq_some_iff.1 hx).1
  have hl := h.ln
  rw [upd_at hp hx hs]
  refine ⟨by rw [List.length_set, List.length_set, hl], fun u z q hz hq => ?_⟩
  by_cases hu : u = i
  · subst hu
    rw [List.getElem?_set_self hi] at hz
    rw [List.getElem?_set_self (by omega)] at hq
    obtain rfl := Option.some.inj hz
    obtain rfl := Option.some.inj hq
    exact ⟨h1, h2, h3, h4, h5, h6, h7⟩
  · rw [List.getElem?_set_ne (fun e => hu e.symm)] at hz hq
    exact h.eq u z q hz hq
end
/-- What device and document are in. -/
structure Stp (w : World) (d m y : Nat) (od : Int) (a : Option Addr) (c : Nat) (lg : List Sn) (L : List Pt) (la : Option Addr) (n : Nat) (lb : List Nat) (Ps : List RP) (G : List Nat) (xs : List Pr) (j : Nat) : Prop where
  dv : Dev w d m od y a c lg L
  rw : RowP w la n lb Ps
  dj : ∀ b ∈ lb, b ∉ foot d m y L
  dc : Doc w (lb ++ foot d m y L ++ G) L Ps
  n8 : n ≤ 8
  hG : ∀ b ∈ G, b < w.heap.size
  sd : Sd xs (j : Int) od L
  lg : lg.length ≤ j
/-- What a deed makes of it. -/
def Nx (w : World) (d m : Nat) (F : List Nat) (la : Option Addr) (n : Nat) (lb G : List Nat) (xs : List Pr) (j : Nat) (od' : Int) (w' : World) : Prop :=
  ∃ y' a' c' lg' L' Ps', Stp w' d m y' od' a' c' lg' L' la n lb Ps' G xs j ∧ Keeps (lb ++ F) w w' ∧ ∀ b ∈ foot d m y' L', b ∈ F ∨ w.heap.size ≤ b
section
variable {w w' : World} {d m y c n j : Nat} {od : Int} {a la : Option Addr} {lg : List Sn} {L : List Pt} {lb G : List Nat} {Ps : List RP} {xs : List Pr}
theorem Stp.keeps {S : List Nat} (h : Stp w d m y od a c lg L la n lb Ps G xs j) (hk : Keeps S w w') (hS : ∀ b ∈ S, w.heap.size ≤ b ∨ b ∈ G ∧ b ∉ foot d m y L ∧ b ∉ lb) : Stp w' d m y od a c lg L la n lb Ps G xs j := by
  have h1 := h.dv.lt
  have h2 := h.rw.lt
  refine ⟨h.dv.keeps hk (fun b hb hm => ?_), h.rw.keeps hk (fun b hb hm => ?_), h.dj, h.dc.keeps hk (fun b hb => ?_), h.n8, fun b hb => Nat.lt_of_lt_of_le (h.hG b hb) hk.size, h.sd, h.lg⟩
  · rcases hS b hm with h9 | h9
    · have := h1 b hb; omega
    · exact h9.2.1 hb
  · rcases hS b hm with h9 | h9
    · have := h2 b hb; omega
    · exact h9.2.2 hb
  · rcases hS b hb with h9 | h9
    · exact .inr h9
    · exact .inl (by simp [h9.1])
theorem Stp.kp (h : Stp w d m y od a c lg L la n lb Ps G xs j) (hk : Keeps [] w w') : Stp w' d m y od a c lg L la n lb Ps G xs j := h.keeps hk (by simp)
/-- The device has turned, the document has not. -/
structure Half (w w' : World) (d m : Nat) (F : List Nat) (y' : Nat) (a' : Option Addr) (c' : Nat) (od' : Int) (lg' : List Sn) (L' L : List Pt) (la : Option Addr) (n : Nat) (lb : List Nat) (Ps : List RP) (G : List Nat) : Prop where
  dv : Dev w' d m od' y' a' c' lg' L'
  rw : RowP w' la n lb Ps
  dj : ∀ b ∈ lb, b ∉ foot d m y' L'
  dc : Doc w' (lb ++ foot d m y' L' ++ G) L Ps
  n8 : n ≤ 8
  hG : ∀ b ∈ G, b < w'.heap.size
  kp : Keeps F w w'
  ft : ∀ b ∈ foot d m y' L', b ∈ F ∨ w.heap.size ≤ b
theorem Stp.half {od' : Int} {lg' : List Sn} {L' : List Pt} (h : Stp w d m y od a c lg L la n lb Ps G xs j) (ht : To d m (foot d m y L) od' lg' L' w w') : ∃ y' a' c', Half w w' d m (foot d m y L) y' a' c' od' lg' L' L la n lb Ps G := by
  obtain ⟨y', a', c', h1, h2, h3⟩ := ht
  have hlb := h.rw.lt
  have hk := h.dc.keeps h2 (fun b hb => .inl (by simp [hb]))
  refine ⟨y', a', c', h1, h.rw.keeps h2 (fun b hb => h.dj b hb), fun b hb hf => ?_, ⟨hk.ln, fun i x p hx hp => ?_⟩, h.n8, fun b hb => Nat.lt_of_lt_of_le (h.hG b hb) h2.size, h2, h3⟩
  · rcases h3 b hf with h4 | h4
    · exact h.dj b hb h4
    · have := hlb b hb; omega
  · obtain ⟨e1, e2, e3, e4, e5, e6, e7⟩ := hk.eq i x p hx hp
    obtain ⟨_, _, _, _, _, _, g7⟩ := h.dc.eq i x p hx hp
    refine ⟨e1, e2, e3, e4, e5, e6, e7.1, fun h0 => ?_⟩
    obtain ⟨b, eb, hb, hn, hr⟩ := e7.2 h0
    obtain ⟨b2, eb2, hb2, _⟩ := g7.2 h0
    have hbb : b2 < w.heap.size := hb2
    rw [eb] at eb2
    injection eb2 with eb2
    injection eb2 with eb2
    refine ⟨b, eb, hb, fun hm => ?_, hr⟩
    simp only [List.mem_append] at hm hn
    rcases hm with (hm | hm) | hm
    · exact hn (.inl (.inl hm))
    · rcases h3 b hm with h4 | h4
      · exact hn (.inl (.inr h4))
      · omega
    · exact hn (.inr hm)
end
end Nc
end Go.Proofs.Ytdbkgpnbmafpmaa
