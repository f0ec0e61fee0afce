/- The device and the document's ports: the state that both are in; told. told: do all ports tell what the document's do? The law's come: bytes come to both. The law's step: bytes come; a frame is taken. The law's step: a frame that waits is taken. -/
import Derived.Test.YtdbkgpnbmafpmaaZfAL
namespace Go.Proofs.Ytdbkgpnbmafpmaa
open Go.RowKit Go.Maps Go.Deep
namespace Nc
open Sm Fr
open PlainAid (bt)
theorem keeps_set (g o : Nat) (vs : List Value) : ∀ (w : World), Keeps [g] w (w.setCells g o vs) := fun w => FiF.keeps_cells (.inl (by simp)) _ _ _ (Keeps.refl _ _)
/-- The document's row of ports, in block g. -/
structure RowP (w : World) (la : Option Addr) (n : Nat) (lb : List Nat) (Ps : List RP) : Prop where
  rr : Rr w la n Ps
  lb : (la = none ∧ lb = [] ∧ n = 0) ∨ ∃ g, la = some ⟨g, 0, none⟩ ∧ lb = [g] ∧ g < w.heap.size ∧ ∀ k, w.frozen? ⟨g, k, none⟩ = false
section
variable {w w' : World} {la : Option Addr} {n B c : Nat} {lb : List Nat} {Ps : List RP} {S : List Nat}
theorem row_new (h : w.ownsRow B 45 5 (.slice la n c) n (rflat Ps)) (hl : Ps.length = n) : ∃ lb, RowP w la n lb Ps ∧ ∀ b ∈ lb, B ≤ b := by
  rcases h.2 with ⟨hv, _⟩ | ⟨g, cap, cur, hv, hb, _, hc, _⟩
  · injection hv with e1 e2 e3
    exact ⟨[], ⟨rr_own h hl, .inl ⟨e1, rfl, e2⟩⟩, by simp⟩
  · injection hv with e1 e2 e3
    subst e1
    exact ⟨[g], ⟨rr_own h hl, .inr ⟨g, rfl, rfl, (h.lt g rfl).2, fun k => h.frozenAt k⟩⟩, by simpa using hb⟩
theorem RowP.keeps (h : RowP w la n lb Ps) (hk : Keeps S w w') (hS : ∀ b ∈ lb, b ∉ S) : RowP w' la n lb Ps := by
  rcases h.lb with ⟨h1, h2, h3⟩ | ⟨g, rfl, rfl, h3, h4⟩
  · exact ⟨h.rr.keeps hk (fun b e => by rw [h1] at e; cases e), .inl ⟨h1, h2, h3⟩⟩
  · refine ⟨h.rr.keeps hk (fun b e => by injection e with e; injection e with e; subst e; exact hS _ (by simp)), .inr ⟨g, rfl, rfl, Nat.lt_of_lt_of_le h3 hk.size, fun k => (hk.frozen (p := ⟨g, k, none⟩) h3 (hS _ (by simp))).trans (h4 k)⟩⟩
theorem RowP.lt (h : RowP w la n lb Ps) : ∀ b ∈ lb, b < w.heap.size := by
  rcases h.lb with ⟨_, rfl, _⟩ | ⟨g, _, rfl, h3, _⟩
  · simp
  · simpa using h3
theorem rpc_len (x : RP) : (rpc x).length = 5 := rfl
attribute [local irreducible] rpc
theorem RowP.at_ (h : RowP w la n lb Ps) {i : Nat} {p : RP} (hp : Ps[i]? = some p) : ∃ g, la = some ⟨g, 0, none⟩ ∧ lb = [g] ∧ g < w.heap.size ∧ i < n ∧ w.rangeAt g (i * 5) (rpc p) ∧ w.there g (i * 5) 5 := by
  have hi : i < n := by rw [← h.rr.1]; exact (List.getElem?_eq_some_iff.1 hp).1
  rcases h.lb with ⟨_, _, h3⟩ | ⟨g, rfl, h2, h3, h4⟩
  · omega
  · obtain ⟨b, e, _, hc⟩ := h.rr.2 (by omega)
    injection e with e; injection e with e
    subst e
    exact ⟨g, rfl, h2, h3, hi, hc i p hp, fun j hj => ⟨World.rangeAt.isSome (hc i p hp) j (by rw [rpc_len]; exact hj), h4 _⟩⟩
/-- One port put anew. -/
theorem RowP.store (h : RowP w la n lb Ps) {i g : Nat} {p : RP} (p' : RP) (hp : Ps[i]? = some p) (hg : la = some ⟨g, 0, none⟩) : RowP (w.setCells g (i * 5) (rpc p')) la n lb (Ps.set i p') := by
  have hk := keeps_set g (i * 5) (rpc p') w
  have hi := (List.getElem?_eq_some_iff.1 hp).1
  obtain ⟨g', e, h2, h3, h4, h5, h6⟩ := h.at_ hp
  rw [hg] at e; injection e with e; injection e with e
  subst e
  refine ⟨⟨by rw [List.length_set]; exact h.rr.1, fun _ => ⟨g, hg, Nat.lt_of_lt_of_le h3 hk.size, fun u x hx => ?_⟩⟩, .inr ⟨g, hg, h2, Nat.lt_of_lt_of_le h3 hk.size, fun k => ?_⟩⟩
  · by_cases hu : u = i
    · subst hu
      rw [List.getElem?_set_self hi] at hx
      obtain rfl := Option.some.inj hx
      exact World.rangeAt_setCells_same w g (u * 5) (rpc p') (by rw [rpc_len]; exact h6)
    · rw [List.getElem?_set_ne (fun e => hu e.symm)] at hx
      obtain ⟨g', e, _, _, _, h9, _⟩ := h.at_ hx
      rw [hg] at e; injection e with e; injection e with e
      subst e
      exact World.rangeAt_setCells_apart h9 g (i * 5) (rpc p') (.inr (by rw [rpc_len, rpc_len]; omega))
  · rw [World.frozen?_setCells]
    rcases h.lb with ⟨e, _, _⟩ | ⟨g', e, _, _, h4⟩
    · rw [hg] at e; cases e
    · rw [hg] at e; injection e with e; injection e with e
      subst e
      exact h4 k
end
/-- The document's ports tell what the device's do. -/
structure Doc (w : World) (X : List Nat) (L : List Pt) (Ps : List RP) : Prop where
  ln : L.length = Ps.length
  eq : ∀ (i : Nat) x p, L[i]? = some x → Ps[i]? = some p → p.ow = x.ow ∧ p.ma = x.ma ∧ p.li = x.li ∧ p.dr = x.dr ∧ p.wn = x.ws.length ∧ p.wn ≤ p.wc ∧ Rd w X p.wa p.wn (FiF.flt x.ws)
section
variable {w w' : World} {X Y S : List Nat} {L : List Pt} {Ps : List RP} {x x' : Pt} {p p' : RP} {i : Nat}
theorem Doc.keeps (h : Doc w X L Ps) (hk : Keeps S w w') (hS : ∀ b ∈ S, b ∈ X ∨ w.heap.size ≤ b) : Doc w' X L Ps :=
  ⟨h.ln, fun i x p hx hp => by obtain ⟨h1, h2, h3, h4, h5, h6, h7⟩ := h.eq i x p hx hp; exact ⟨h1, h2, h3, h4, h5, h6, h7.keeps hk hS⟩⟩
theorem Doc.more (h : Doc w X L Ps) (hY : ∀ b ∈ Y, b ∈ X ∨ w.heap.size ≤ b) : Doc w Y L Ps :=
  ⟨h.ln, fun i x p hx hp => by obtain ⟨h1, h2, h3, h4, h5, h6, h7⟩ := h.eq i x p hx hp; exact ⟨h1, h2, h3, h4, h5, h6, h7.more hY⟩⟩
theorem Doc.at_ (h : Doc w X L Ps) (hx : L[i]? = some x) : ∃ p, Ps[i]? = some p ∧ p.ow = x.ow ∧ p.ma = x.ma ∧ p.li = x.li ∧ p.dr = x.dr ∧ p.wn = x.ws.length ∧ p.wn ≤ p.wc ∧ Rd w X p.wa p.wn (FiF.flt x.ws) := by
  have hi := (List.getElem?_eq_some_iff.1 hx).1
  have hl := h.ln
  have hp : Ps[i]? = some (Ps[i]'(by omega)) := List.getElem?_eq_getElem (by omega)
  exact ⟨_, hp, h.eq i x _ hx hp⟩
theorem upd_at (hp : L.Pairwise Apart) (hx : L[i]? = some x) (hs : Same x x') : upd L x' = L.set i x' := by
  have hi := (List.getElem?_eq_some_iff.1 hx).1
  refine List.ext_getElem? fun u => ?_
  unfold upd
  rw [List.getElem?_map]
  by_cases hu : u = i
  · subst hu
    rw [List.getElem?_set_self hi, hx]
    simp [hs.ow]
  · rw [List.getElem?_set_ne (fun e => hu e.symm)]
    rcases hz : L[u]? with _ | z
    · rfl
    · simp only [Option.map_some]
      have hne : ¬ z.ow = x'.ow := fun e => by
        have hzm := List.mem_of_getElem? hz
        have := pw_ow hp z hzm x (List.mem_of_getElem? hx) (e.trans hs.ow)
        subst this
        obtain ⟨l1, e1⟩ := List.getElem?_eq_some_iff.1 hz
        obtain ⟨l2, e2⟩ := List.getElem?_eq_some_iff.1 hx
        rw [List.pairwise_iff_getElem] at hp
        rcases Nat.lt_trichotomy u i with h9 | h9 | h9
        · exact absurd (by rw [e1, e2]) (hp u i l1 l2 h9).ow
        · exact hu h9
        · exact absurd (by rw [e1, e2]) (hp i u l2 l1 h9).ow
      rw [if_neg hne]
/-- A port has turned, and the document's too. -/
theorem Doc.set (h : Doc w X L Ps) (hp : L.Pairwise Apart) (hx : L[i]? = some x) (hs : Same x x') (h1 : p'.ow = x'.ow) (h2 : p'.ma = x'.ma) (h3 : p'.li = x'.li) (h4 : p'.dr = x'.dr) (h5 : p'.wn = x'.ws.length) (h6 : p'.wn ≤ p'.wc) (h7 : Rd w X p'.wa p'.wn (FiF.flt x'.ws)) : Doc w X (upd L x') (Ps.set i p') := by
  have hi := (List.getElem?_eq_some_iff.1 hx).1
  have hl := h.ln
  rw [upd_at hp hx hs]
  refine ⟨by rw [List.length_set, List.length_set, hl], fun u z q hz hq => ?_⟩
  by_cases hu : u = i
  · subst hu
    rw [List.getElem?_set_self hi] at hz
    rw [List.getElem?_set_self (by omega)] at hq
    obtain rfl := Option.some.inj hz
    obtain rfl := Option.some.inj hq
    exact ⟨h1, h2, h3, h4, h5, h6, h7⟩
  · rw [List.getElem?_set_ne (fun e => hu e.symm)] at hz hq
    exact h.eq u z q hz hq
end
/-- What device and document are in. -/
structure Stp (w : World) (d m y : Nat) (od : Int) (a : Option Addr) (c : Nat) (lg : List Sn) (L : List Pt) (la : Option Addr) (n : Nat) (lb : List Nat) (Ps : List RP) (G : List Nat) (xs : List Pr) (j : Nat) : Prop where
  dv : Dev w d m od y a c lg L
  rw : RowP w la n lb Ps
  dj : ∀ b ∈ lb, b ∉ foot d m y L
  dc : Doc w (lb ++ foot d m y L ++ G) L Ps
  n8 : n ≤ 8
  hG : ∀ b ∈ G, b < w.heap.size
  sd : Sd xs (j : Int) od L
  lg : lg.length ≤ j
/-- What a deed makes of it. -/
def Nx (w : World) (d m : Nat) (F : List Nat) (la : Option Addr) (n : Nat) (lb G : List Nat) (xs : List Pr) (j : Nat) (od' : Int) (w' : World) : Prop :=
  ∃ y' a' c' lg' L' Ps', Stp w' d m y' od' a' c' lg' L' la n lb Ps' G xs j ∧ Keeps (lb ++ F) w w' ∧ ∀ b ∈ foot d m y' L', b ∈ F ∨ w.heap.size ≤ b
section
variable {w w' : World} {d m y c n j : Nat} {od : Int} {a la : Option Addr} {lg : List Sn} {L : List Pt} {lb G : List Nat} {Ps : List RP} {xs : List Pr}
theorem Stp.keeps {S : List Nat} (h : Stp w d m y od a c lg L la n lb Ps G xs j) (hk : Keeps S w w') (hS : ∀ b ∈ S, w.heap.size ≤ b ∨ b ∈ G ∧ b ∉ foot d m y L ∧ b ∉ lb) : Stp w' d m y od a c lg L la n lb Ps G xs j := by
  have h1 := h.dv.lt
  have h2 := h.rw.lt
  refine ⟨h.dv.keeps hk (fun b hb hm => ?_), h.rw.keeps hk (fun b hb hm => ?_), h.dj, h.dc.keeps hk (fun b hb => ?_), h.n8, fun b hb => Nat.lt_of_lt_of_le (h.hG b hb) hk.size, h.sd, h.lg⟩
  · rcases hS b hm with h9 | h9
    · have := h1 b hb; omega
    · exact h9.2.1 hb
  · rcases hS b hm with h9 | h9
    · have := h2 b hb; omega
    · exact h9.2.2 hb
  · rcases hS b hb with h9 | h9
    · exact .inr h9
    · exact .inl (by simp [h9.1])
theorem Stp.kp (h : Stp w d m y od a c lg L la n lb Ps G xs j) (hk : Keeps [] w w') : Stp w' d m y od a c lg L la n lb Ps G xs j := h.keeps hk (by simp)
/-- The device has turned, the document has not. -/
structure Half (w w' : World) (d m : Nat) (F : List Nat) (y' : Nat) (a' : Option Addr) (c' : Nat) (od' : Int) (lg' : List Sn) (L' L : List Pt) (la : Option Addr) (n : Nat) (lb : List Nat) (Ps : List RP) (G : List Nat) : Prop where
  dv : Dev w' d m od' y' a' c' lg' L'
  rw : RowP w' la n lb Ps
  dj : ∀ b ∈ lb, b ∉ foot d m y' L'
  dc : Doc w' (lb ++ foot d m y' L' ++ G) L Ps
  n8 : n ≤ 8
  hG : ∀ b ∈ G, b < w'.heap.size
  kp : Keeps F w w'
  ft : ∀ b ∈ foot d m y' L', b ∈ F ∨ w.heap.size ≤ b
theorem Stp.half {od' : Int} {lg' : List Sn} {L' : List Pt} (h : Stp w d m y od a c lg L la n lb Ps G xs j) (ht : To d m (foot d m y L) od' lg' L' w w') : ∃ y' a' c', Half w w' d m (foot d m y L) y' a' c' od' lg' L' L la n lb Ps G := by
  obtain ⟨y', a', c', h1, h2, h3⟩ := ht
  have hlb := h.rw.lt
  have hk := h.dc.keeps h2 (fun b hb => .inl (by simp [hb]))
  refine ⟨y', a', c', h1, h.rw.keeps h2 (fun b hb => h.dj b hb), fun b hb hf => ?_, ⟨hk.ln, fun i x p hx hp => ?_⟩, h.n8, fun b hb => Nat.lt_of_lt_of_le (h.hG b hb) h2.size, h2, h3⟩
  · rcases h3 b hf with h4 | h4
    · exact h.dj b hb h4
    · have := hlb b hb; omega
  · obtain ⟨e1, e2, e3, e4, e5, e6, e7⟩ := hk.eq i x p hx hp
    obtain ⟨_, _, _, _, _, _, g7⟩ := h.dc.eq i x p hx hp
    refine ⟨e1, e2, e3, e4, e5, e6, e7.1, fun h0 => ?_⟩
    obtain ⟨b, eb, hb, hn, hr⟩ := e7.2 h0
    obtain ⟨b2, eb2, hb2, _⟩ := g7.2 h0
    have hbb : b2 < w.heap.size := hb2
    rw [eb] at eb2
    injection eb2 with eb2
    injection eb2 with eb2
    refine ⟨b, eb, hb, fun hm => ?_, hr⟩
    simp only [List.mem_append] at hm hn
    rcases hm with (hm | hm) | hm
    · exact hn (.inl (.inl hm))
    · rcases h3 b hm with h4 | h4
      · exact hn (.inl (.inr h4))
      · omega
    · exact hn (.inr hm)
end
end Nc
end Go.Proofs.Ytdbkgpnbmafpmaa
namespace Go.Proofs.Ytdbkgpnbmafpmaa
open Go.RowKit Go.Maps Go.Deep
namespace Nc
open Sm Fr
theorem RowP.cells {w : World} {la : Option Addr} {n : Nat} {lb : List Nat} {Ps : List RP} {i : Nat} {p : RP} (h : RowP w la n lb Ps) (hp : Ps[i]? = some p) : ∃ g, la = some ⟨g, 0, none⟩ ∧ lb = [g] ∧ g < w.heap.size ∧ i < n ∧ w.cell? ⟨g, i * 5, none⟩ = some (.int .i64 p.ow) ∧ w.cell? ⟨g, i * 5 + 1, none⟩ = some (.int .i64 p.ma) ∧ w.cell? ⟨g, i * 5 + 2, none⟩ = some (.int .i64 p.li) ∧ w.cell? ⟨g, i * 5 + 3, none⟩ = some (.slice p.wa p.wn p.wc) ∧ w.cell? ⟨g, i * 5 + 4, none⟩ = some (.int .i64 p.dr) := by
  obtain ⟨g, e, h2, h3, h4, h5, _⟩ := h.at_ hp
  exact ⟨g, e, h2, h3, h4, h5 0 _ rfl, h5 1 _ rfl, h5 2 _ rfl, h5 3 _ rfl, h5 4 _ rfl⟩
set_option maxRecDepth 100000 in
set_option maxHeartbeats 1000000 in
theorem told_any {w : World} {d m y c n : Nat} {od : Int} {a la : Option Addr} {lg : List Sn} {L : List Pt} {lb X : List Nat} {Ps : List RP} (lc : Nat) (h : Dev w d m od y a c lg L) (hr : RowP w la n lb Ps) (hd : Doc w X L Ps) (hn : n ≤ 8) :
    Calls Try.prog 20 #[.pointer (some ⟨d, 0, none⟩), .slice la n lc] w fun e w' => e = .returned (.bool true) ∧ Drawn w w' := by
  have hl := hd.ln
  have hl2 := hr.rr.1
  have HD := Lib.hid h
  have HR := Lib.hid hr
  have HDC := Lib.hid hd
  clear h hr hd
  go_enter Try.func20, Try.ntmps20
  go_wp2
  go_loopw [5] (fun i wr => ∃ j : Nat, j ≤ n ∧ i = .int .i64 j ∧ Drawn w wr) (fun i _ => n - (intOf i).toNat)
  case atStart => exact ⟨0, by omega, rfl, Drawn.refl _⟩
  case round =>
    obtain ⟨j, hj, rfl, hdr⟩ := hrel
    have HDR := Lib.hid hdr
    have hkr : Keeps [] w wr := (Keeps.refl [] w).drawn hdr
    by_cases hlt : j < n
    · obtain ⟨x, hx⟩ : ∃ x, L[j]? = some x := ⟨_, List.getElem?_eq_getElem (by omega)⟩
      obtain ⟨p, hp, e1, e2, e3, e4, e5, _⟩ := HDC.out.at_ hx
      obtain ⟨g, rfl, _, hg, _, c0, c1, c2, c3, c4⟩ := (HR.out.keeps hkr (by simp)).cells hp
      have hxm := List.mem_of_getElem? hx
      have hpt := pt_of HD.out.ap hxm
      have hpx := HD.out.pt x hxm
      have hwf : (Lit.int .i64 x.ow).wf = true := WalkArith.wf_i64 (by have := hpx.o1; have := hpx.o2; omega)
      have HW := Lib.hid (fun nq => waits_any x.ow (wr.drewN nq) (HD.out.kp (hkr.drewN nq)) hwf)
      have HP := Lib.hid (fun nq => drops_dev x.ow (wr.drewN nq) (HD.out.kp (hkr.drewN nq)) hwf)
      rw [hpt] at HW HP
      dsimp only at HW HP
      rw [e1] at c0
      rw [e4] at c4
      rw [e5] at c3
      have hj0 : (0 : Int) ≤ (j : Int) := by omega
      have hj1 : (j : Int) < (n : Int) := by omega
      clear hdr hkr e1 e2 e3 e4 e5 hx hp hxm hpt hpx c1 c2 hwf
      generalize x.ow = ow at *
      generalize x.ws.length = wn at *
      generalize x.dr = dr at *
      go_wp2_with fail
      go_quiet ((first | (go_at_call 14; with_reducible exact quiet_eq (HW.out _)) | (go_at_call 15; with_reducible exact quiet_eq (HP.out _))))
      go_wp2
      go_roundw
      case rel => exact ⟨j + 1, by omega, by go_num, HDR.out.draws _⟩
      case measure => simp [intOf]; omega
    · obtain rfl : j = n := by omega
      go_wp2
      go_ret
      exact ⟨rfl, HDR.out⟩
end Nc
end Go.Proofs.Ytdbkgpnbmafpmaa
namespace Go.Proofs.Ytdbkgpnbmafpmaa
open Go.RowKit Go.Maps Go.Deep
namespace Nc
open Sm Fr
open PlainAid (bt)
theorem rcome_any {F : List Nat} {ws : List FiF.It} (ow ma li dr : Int) (a : Option Addr) (c : Nat) (s : ByteArray) (w : World) (h : Rd w F a ws.length (FiF.flt ws)) (hF : ∀ b ∈ F, b < w.heap.size) (hc : ws.length ≤ c) (hl : li ≤ 16) (hd : 0 ≤ dr ∧ dr ≤ 100000) (hm : s.size ≤ 9223372036854775807) (h0 : pE s = 0) :
    Calls Try.prog 53 #[.agg #[.int .i64 ow, .int .i64 ma, .int .i64 li, .slice a ws.length c, .int .i64 dr], .string s] w (IsRC F ow ma li (comeW li ws s) (comeD li ws dr) (decide ((ws.length : Int) < li)) w) := by
  unfold comeW comeD
  by_cases hlt : (ws.length : Int) < li
  · rw [if_pos hlt, if_pos hlt, decide_eq_true hlt]
    exact rcome_ok ow ma li dr a c s w h hF hlt hl hm h0
  · rw [if_neg hlt, if_neg hlt, decide_eq_false hlt]
    exact rcome_full ow ma li dr a c s w h hc (by omega) hd
section
variable {w w1 w3 : World} {d m y c y' c' n i g : Nat} {od od' : Int} {a a' la : Option Addr} {lg lg' : List Sn} {L : List Pt} {lb G F : List Nat} {Ps : List RP} {xs : List Pr} {x x' : Pt} {p p' : RP}
theorem doc_key {X : List Nat} (h : Doc w X L Ps) : Ps.map rkey = L.map key := by
  refine List.ext_getElem? fun u => ?_
  rw [List.getElem?_map, List.getElem?_map]
  rcases hu : L[u]? with _ | x
  · have h1 := List.getElem?_eq_none_iff.1 hu
    rw [List.getElem?_eq_none (by rw [← h.ln]; exact h1)]
    rfl
  · obtain ⟨p, hp, e1, e2, e3, _⟩ := h.at_ hu
    rw [hp]
    simp [rkey, key, e1, e2, e3]
theorem find_rps (Ps : List RP) (q : Int → Bool) : (rps (Ps.map rkey)).findIdx? (fun x => q x.ma) = Ps.findIdx? (fun x => q x.ma) := by
  unfold rps
  rw [List.map_map]
  induction Ps with
  | nil => rfl
  | cons x t ih =>
    rw [List.map_cons, List.findIdx?_cons, List.findIdx?_cons, ih]
    rfl
theorem find_rpo (Ps : List RP) (q : Int → Bool) : (rps (Ps.map rkey)).findIdx? (fun x => q x.ow) = Ps.findIdx? (fun x => q x.ow) := by
  unfold rps
  rw [List.map_map]
  induction Ps with
  | nil => rfl
  | cons x t ih =>
    rw [List.map_cons, List.findIdx?_cons, List.findIdx?_cons, ih]
    rfl
theorem fi_key (Ps : List RP) (s : ByteArray) : fi Ps s = fi (rps (Ps.map rkey)) s := by
  unfold fi
  rw [find_rps Ps (fun z => z == bt s 0)]
theorem oi_key (Ps : List RP) (k : Int) : oi Ps k = oi (rps (Ps.map rkey)) k := by
  unfold oi
  rw [find_rpo Ps (fun z => z == k)]
theorem Half.same (h : Half w w1 d m F y' a' c' od' lg' L L la n lb Ps G) (hk : Keeps [] w1 w3) {j : Nat} (hs : Sd xs (j : Int) od' L) (hl : lg'.length ≤ j) : Nx w d m F la n lb G xs j od' w3 :=
  ⟨y', a', c', lg', L, Ps, ⟨h.dv.kp hk, h.rw.keeps hk (by simp), h.dj, h.dc.keeps hk (by simp), h.n8, fun b hb => Nat.lt_of_lt_of_le (h.hG b hb) hk.size, hs, hl⟩, (h.kp.more (by intro b hb; simp [hb])).trans (hk.more (by simp)), h.ft⟩
theorem Half.fin (h : Half w w1 d m F y' a' c' od' lg' (upd L x') L la n lb Ps G) (hap : L.Pairwise Apart) (hx : L[i]? = some x) (hs : Same x x') (hp : Ps[i]? = some p) (hk : Keeps [] w1 w3) (hg : la = some ⟨g, 0, none⟩)
    (h1 : p'.ow = x'.ow) (h2 : p'.ma = x'.ma) (h3 : p'.li = x'.li) (h4 : p'.dr = x'.dr) (h5 : p'.wn = x'.ws.length) (h6 : p'.wn ≤ p'.wc) (h7 : Rd w3 (lb ++ foot d m y' (upd L x') ++ G) p'.wa p'.wn (FiF.flt x'.ws)) {j : Nat} (hsd : Sd xs (j : Int) od' (upd L x')) (hl : lg'.length ≤ j) :
    Stp (w3.setCells g (i * 5) (rpc p')) d m y' od' a' c' lg' (upd L x') la n lb (Ps.set i p') G xs j ∧ Keeps (lb ++ F) w (w3.setCells g (i * 5) (rpc p')) := by
  obtain ⟨g', e, hlb, _⟩ := h.rw.at_ hp
  rw [hg] at e; injection e with e; injection e with e
  subst e
  have hks := keeps_set g (i * 5) (rpc p') w3
  have hgf : g ∉ foot d m y' (upd L x') := h.dj g (by rw [hlb]; simp)
  have hS : ∀ b ∈ [g], b ∈ lb ++ foot d m y' (upd L x') ++ G ∨ w3.heap.size ≤ b := by
    intro b hb
    simp at hb
    subst hb
    exact .inl (by rw [hlb]; simp)
  refine ⟨⟨(h.dv.kp hk).keeps hks (fun b hb hm => ?_), (h.rw.keeps hk (by simp)).store p' hp hg, h.dj, ((h.dc.keeps hk (by simp)).keeps hks hS).set hap hx hs h1 h2 h3 h4 h5 h6 (h7.keeps hks hS), h.n8, fun b hb => Nat.lt_of_lt_of_le (h.hG b hb) (Nat.le_trans hk.size hks.size), hsd, hl⟩, ((h.kp.more (by intro b hb; simp [hb])).trans (hk.more (by simp))).trans (hks.more (by intro b hb; simp at hb; subst hb; rw [hlb]; simp))⟩
  simp at hm
  subst hm
  exact hgf hb
end
theorem rp_size (p : RP) : (Try.prog.info? 45).map (·.size) = some (rpc p).toArray.size := by kernel_rfl
theorem wpList_store_rp {ops : Array Oper} {rest : List Oper} {op : Oper} {a : Act} {w : World} {Q : Exit → Act → World → Prop} (hgd : op.guard = none) (xo yo : Operand) (ho : op.op = .store 45 xo yo) (g o : Nat) (p : RP)
    (hx : a.eval xo = .pointer (some ⟨g, o, none⟩)) (hy : a.eval yo = .agg (rpc p).toArray) (ht : w.there g o 5) (h : ∀ w', w' = w.setCells g o (rpc p) → wpList Try.prog ops Q rest (a.put op.dst undef) w') : wpList Try.prog ops Q (op :: rest) a w :=
  wpList_store_mid hgd 45 xo yo ho g o (rpc p).toArray hx hy ht (rp_size p) (all_oneCell_toArray (rpc_one p)) (h _ rfl)
attribute [local irreducible] Nx
theorem nx_mk {w : World} {d m : Nat} {F : List Nat} {la : Option Addr} {n : Nat} {lb G : List Nat} {xs : List Pr} {j : Nat} {od' : Int} {w' : World} (h : ∃ y' a' c' lg' L' Ps', Stp w' d m y' od' a' c' lg' L' la n lb Ps' G xs j ∧ Keeps (lb ++ F) w w' ∧ ∀ b ∈ foot d m y' L', b ∈ F ∨ w.heap.size ≤ b) : Nx w d m F la n lb G xs j od' w' := by
  unfold Nx
  exact h
def odd1 (Ps : List RP) (s : ByteArray) : Int := if fi Ps s < 0 then 1 else 0
set_option maxRecDepth 100000 in
set_option maxHeartbeats 2000000 in
theorem come_law {w : World} {d m y c n j : Nat} {od : Int} {a la : Option Addr} {lg : List Sn} {L : List Pt} {lb G : List Nat} {Ps : List RP} {xs : List Pr} (lc : Nat) (s : ByteArray) (h : Stp w d m y od a c lg L la n lb Ps G xs j) (hj : j ≤ 1000) (hm : s.size ≤ 9223372036854775807) :
    Calls Try.prog 36 #[.pointer (some ⟨d, 0, none⟩), .slice la n lc, .string s] w fun e w' => e = .returned (.bool true) ∧ Nx w d m (foot d m y L) la n lb G xs (j + 1) (od + odd1 Ps s) w' := by
  have hkey := doc_key h.dc
  have hfk := fi_key Ps s
  rw [hkey] at hfk
  have ho0 := h.sd.o0
  have ho1 := h.sd.o1
  rcases hh : hit L s with _ | x
  · have hfi := fi_miss (xs := L.map key) rfl hh
    rw [← hfk] at hfi
    have HC := Lib.hid (come_miss s w h.dv hm (by omega) hh)
    unfold IsCome at HC
    rw [hh] at HC
    dsimp only at HC
    have H := Lib.hid h
    have ho : od + odd1 Ps s = od + 1 := by unfold odd1; rw [hfi, if_pos (by omega)]
    rw [ho]
    have HFI := Lib.hid hfi
    clear h hkey hfk ho hh hfi
    go_enter Try.func36, Try.ntmps36
    go_wp2_with fail
    refine HC.out.mono ?_
    clear HC
    rintro e w1 ⟨rfl, hto⟩
    obtain ⟨y', a', c', hf⟩ := H.out.half hto
    have HF := Lib.hid (rfor_any la n lc Ps s w1 hf.rw.rr hf.n8 hm)
    rw [HFI.out] at HF
    have HH := Lib.hid hf
    clear hto hf
    go_wp2_with fail
    refine HF.out.mono ?_
    clear HF
    rintro e w2 ⟨rfl, hk2⟩
    have HK2 := Lib.hid hk2
    clear hk2
    go_wp2
    go_ret
    exact ⟨rfl, HH.out.same HK2.out (by have := H.out.sd.miss; rwa [show (j : Int) + 1 = ((j + 1 : Nat) : Int) by omega] at this) (by have := H.out.lg; omega)⟩
  · obtain ⟨i, hfi, hxi⟩ := fi_hit (xs := L.map key) rfl hh
    rw [← hfk] at hfi
    obtain ⟨h0, hx, hma⟩ := own_hit hh
    have hdr := h.sd.dr x hx
    have hpx := h.dv.pt x hx
    have hq := hpx.q.dr0
    have HC := Lib.hid (come_hit s x w h.dv hm (by omega) hh)
    unfold IsCome at HC
    rw [hh] at HC
    dsimp only at HC
    have H := Lib.hid h
    have ho : od + odd1 Ps s = od := by unfold odd1; rw [hfi, if_neg (by omega)]; omega
    rw [ho]
    obtain ⟨p, hp, e1, e2, e3, e4, e5, e6, _⟩ := h.dc.at_ hxi
    have HX := Lib.hid (And.intro hfi (And.intro hxi (And.intro hp (And.intro hx (And.intro h0 (And.intro (And.intro hdr hq) (And.intro e6 hpx)))))))
    have hil : (i : Int) < (n : Int) := by
      have := (List.getElem?_eq_some_iff.1 hp).1
      have := h.rw.rr.1
      omega
    have hi0 : (0 : Int) ≤ (i : Int) := by omega
    have HE := Lib.hid (And.intro e1 (And.intro e2 (And.intro e3 (And.intro e4 e5))))
    clear h hkey hfk ho hh hfi hxi hp hx h0 hdr hq e1 e2 e3 e4 e5 e6 hma hpx
    go_enter Try.func36, Try.ntmps36
    go_wp2_with fail
    refine HC.out.mono ?_
    clear HC
    rintro e w1 ⟨r', rfl, hto⟩
    obtain ⟨y', a', c', hf⟩ := H.out.half hto
    have HF := Lib.hid (rfor_any la n lc Ps s w1 hf.rw.rr hf.n8 hm)
    rw [HX.out.1] at HF
    have HH := Lib.hid hf
    clear hto hf
    go_wp2_with fail
    refine HF.out.mono ?_
    clear HF
    rintro e w2 ⟨rfl, hk2⟩
    have HK2 := Lib.hid hk2
    clear hk2
    obtain ⟨e1, e2, e3, e4, e5⟩ := HE.out
    obtain ⟨_, hxi, hp, hx, h0, hdr, e6, hpx⟩ := HX.out
    obtain ⟨g, rfl, _, hg, _, c0, c1, c2, c3, c4⟩ := (HH.out.rw.keeps HK2.out (by simp)).cells hp
    obtain ⟨_, _, _, _, _, _, hrd⟩ := (HH.out.dc.keeps HK2.out (by simp)).eq i x p hxi hp
    have hth : w2.there g (i * 5) 5 := by
      obtain ⟨g', e, _, _, _, _, h6⟩ := (HH.out.rw.keeps HK2.out (by simp)).at_ hp
      injection e with e; injection e with e
      subst e
      exact h6
    have hF : ∀ b ∈ lb ++ foot d m y' (upd L (comeP x s r')) ++ G, b < w2.heap.size := by
      intro b hb
      have hz := HK2.out.size
      simp only [List.mem_append] at hb
      rcases hb with (hb | hb) | hb
      · have := HH.out.rw.lt b hb; omega
      · have := HH.out.dv.lt b hb; omega
      · have := HH.out.hG b hb; omega
    rw [e5] at hrd c3 e6
    rw [e1] at c0
    rw [e2] at c1
    rw [e3] at c2
    rw [e4] at c4
    have HRC := Lib.hid (rcome_any x.ow x.ma x.li x.dr p.wa p.wc s w2 hrd hF e6 hpx.l2 ⟨hdr.2.1, hdr.2.2.1⟩ hm h0)
    have HTH := Lib.hid hth
    clear e1 e2 e3 e4 e5 e6 hxi hp hx h0 hdr hpx hrd hF hg hth
    go_wp2_with fail
    refine HRC.out.mono ?_
    clear HRC
    rintro e w3 ⟨a3, c3', rfl, hrd3, hc3, hk3⟩
    have hwd := come_wd x s r'
    have HR3 := Lib.hid (And.intro hrd3 (And.intro hc3 hk3))
    have hth3 : w3.there g (i * 5) 5 := fun u hu => by
      obtain ⟨h1, h2⟩ := HTH.out u hu
      have hgl : g < w2.heap.size := by
        obtain ⟨v, hv⟩ := Option.isSome_iff_exists.1 h1
        exact World.block_lt_of_cell? _ _ hv
      exact ⟨by rw [hk3.cell (p := ⟨g, i * 5 + u, none⟩) hgl (by simp)]; exact h1, by rw [hk3.frozen (p := ⟨g, i * 5 + u, none⟩) hgl (by simp)]; exact h2⟩
    have HT3 := Lib.hid hth3
    clear hrd3 hc3 hk3 hth3 c0 c1 c2 c3 c4 HTH hwd
    generalize hws : comeW x.li x.ws s = ws' at *
    generalize hdd : comeD x.li x.ws x.dr = dr' at *
    have HWD : Hid ((comeP x s r').ws = ws' ∧ (comeP x s r').dr = dr') := Lib.hid (by rw [← hws, ← hdd]; exact come_wd x s r')
    clear hws hdd
    go_wp2_with (refine wpList_store_rp rfl _ _ rfl g (i * 5) ⟨x.ow, x.ma, x.li, a3, ws'.length, c3', dr'⟩ rfl rfl HT3.out ?_; intro w4 hw4; have hst := HH.out.fin (w3 := w3) (p' := ⟨x.ow, x.ma, x.li, a3, ws'.length, c3', dr'⟩) (j := j + 1) (xs := xs) H.out.dv.ap HX.out.2.1 (come_same x s r') HX.out.2.2.1 (HK2.out.trans HR3.out.2.2) rfl (come_same x s r').ow.symm (come_same x s r').ma.symm (come_same x s r').li.symm HWD.out.2.symm (by rw [HWD.out.1]) HR3.out.2.1 (by rw [HWD.out.1]; exact HR3.out.1) (by have := H.out.sd.turn HX.out.2.2.2.1 (come_same x s r') H.out.dv.ap (by have := HX.out.2.2.2.2.2.1.1; rw [(come_wd x s r').2]; unfold comeD; by_cases h9 : (x.ws.length : Int) < x.li; rw [if_pos h9]; omega; rw [if_neg h9]; omega); rwa [show (j : Int) + 1 = ((j + 1 : Nat) : Int) by omega] at this) (by have := H.out.lg; omega); rw [← hw4] at hst; have HST := Lib.hid hst; obtain ⟨g', eg, _, _, _, q0, q1, _⟩ := hst.1.rw.cells (List.getElem?_set_self (List.getElem?_eq_some_iff.1 HX.out.2.2.1).1); injection eg with eg; injection eg with eg; subst eg; have HOW := Lib.hid (owner_any x.ma w4 hst.1.dv); rw [upd_own (come_same x s r') HX.out.2.2.2.1 H.out.dv.ap, own_of H.out.dv.ap HX.out.2.2.2.1] at HOW; clear hst hw4)
    refine HOW.out.mono ?_
    rintro e v ⟨rfl, rfl⟩
    go_wp2
    go_ret
    exact ⟨rfl, nx_mk ⟨_, _, _, _, _, _, HST.out.1, HST.out.2, HH.out.ft⟩⟩
end Nc
end Go.Proofs.Ytdbkgpnbmafpmaa
namespace Go.Proofs.Ytdbkgpnbmafpmaa
open Go.RowKit Go.Maps Go.Deep
namespace Nc
open Sm Fr
open PlainAid (bt)
def deed (o k to_ ti : Int) (te : ByteArray) : Array Value := #[.int .i64 o, .int .i64 k, .int .i64 to_, .int .i64 ti, .string te]
section
variable {w w1 w' : World} {d m y c n j : Nat} {od od' : Int} {a la : Option Addr} {lg : List Sn} {L : List Pt} {lb G F : List Nat} {Ps : List RP} {xs : List Pr}
theorem Nx.from (h : Nx w1 d m F la n lb G xs j od' w') (hk : Keeps [] w w1) : Nx w d m F la n lb G xs j od' w' := by
  obtain ⟨y', a', c', lg', L', Ps', h1, h2, h3⟩ := h
  have := hk.size
  exact ⟨y', a', c', lg', L', Ps', h1, (hk.more (by simp)).trans h2, fun b hb => by rcases h3 b hb with h4 | h4; exact .inl h4; exact .inr (by omega)⟩
theorem Nx.then (h : Nx w d m F la n lb G xs j od' w1) (hk : Keeps [] w1 w') : Nx w d m F la n lb G xs j od' w' := by
  obtain ⟨y', a', c', lg', L', Ps', h1, h2, h3⟩ := h
  exact ⟨y', a', c', lg', L', Ps', h1.kp hk, h2.trans (hk.more (by simp)), h3⟩
theorem Stp.oi_none (h : Stp w d m y od a c lg L la n lb Ps G xs j) {k : Int} (hp : pt? L k = none) : oi Ps k = -1 := by
  have := Nc.oi_none (xs := L.map key) rfl hp
  rw [← doc_key h.dc, ← oi_key] at this
  exact this
theorem Stp.oi_some (h : Stp w d m y od a c lg L la n lb Ps G xs j) {k : Int} {x : Pt} (hp : pt? L k = some x) : ∃ (i : Nat) (p : RP), oi Ps k = i ∧ (i : Int) < (n : Int) ∧ L[i]? = some x ∧ Ps[i]? = some p ∧ (p.ow = x.ow ∧ p.ma = x.ma ∧ p.li = x.li ∧ p.dr = x.dr ∧ p.wn = x.ws.length ∧ p.wn ≤ p.wc) := by
  obtain ⟨i, h1, h2⟩ := oi_pt (xs := L.map key) rfl hp
  rw [← doc_key h.dc, ← oi_key] at h1
  obtain ⟨p, h3, e1, e2, e3, e4, e5, e6, _⟩ := h.dc.at_ h2
  refine ⟨i, p, h1, ?_, h2, h3, e1, e2, e3, e4, e5, e6⟩
  have := (List.getElem?_eq_some_iff.1 h3).1
  have := h.rw.rr.1
  omega
theorem step_0 (lc : Nat) (k to_ ti : Int) (te : ByteArray) (h : Stp w d m y od a c lg L la n lb Ps G xs j) (hj : j ≤ 1000) (hm : te.size ≤ 9223372036854775807) :
    Calls Try.prog 19 #[.pointer (some ⟨d, 0, none⟩), .slice la n lc, .agg (deed 0 k to_ ti te)] w fun e w' => e = .returned (.bool true) ∧ Nx w d m (foot d m y L) la n lb G xs (j + 1) (od + odd1 Ps te) w' := by
  have hk0 : Keeps [] w (w.alloc (.cells #[.int .i64 0, .int .i64 k, .int .i64 to_, .int .i64 ti, .string te] 54)) := (Keeps.refl _ _).alloc _
  have HC := Lib.hid (come_law lc te (h.kp hk0) hj hm)
  have HK := Lib.hid hk0
  clear h hk0
  unfold deed
  go_enter Try.func19, Try.ntmps19
  go_wp2_with fail
  refine HC.out.mono ?_
  rintro e w1 ⟨rfl, hn⟩
  have HN := Lib.hid (hn.from HK.out)
  clear hn
  go_wp2
  go_ret
  exact ⟨rfl, HN.out⟩
attribute [local irreducible] Nx
set_option maxRecDepth 100000 in
set_option maxHeartbeats 1000000 in
theorem step_1a (lc : Nat) (k to_ ti : Int) (te : ByteArray) (h : Stp w d m y od a c lg L la n lb Ps G xs j) (hk : (Lit.int .i64 k).wf = true) (hp : pt? L k = none) :
    Calls Try.prog 19 #[.pointer (some ⟨d, 0, none⟩), .slice la n lc, .agg (deed 1 k to_ ti te)] w fun e w' => e = .returned (.bool true) ∧ Nx w d m (foot d m y L) la n lb G xs (j + 1) od w' := by
  have hk0 : Keeps [] w (w.alloc (.cells #[.int .i64 1, .int .i64 k, .int .i64 to_, .int .i64 ti, .string te] 54)) := (Keeps.refl _ _).alloc _
  have h0 := h.kp hk0
  have HO := Lib.hid (rowner_any la n lc Ps k _ h0.rw.rr h0.n8)
  rw [h.oi_none hp] at HO
  have HT := Lib.hid (take_dev k _ h0.dv hk)
  unfold IsTake at HT
  rw [take_none hp] at HT
  dsimp only at HT
  have H0 := Lib.hid h0
  have HK := Lib.hid hk0
  clear h h0 hk0
  unfold deed
  go_enter Try.func19, Try.ntmps19
  go_wp2_with fail
  refine HO.out.mono ?_
  rintro e v ⟨rfl, rfl⟩
  go_wp2_with fail
  refine HT.out.mono ?_
  clear HO HT
  rintro e w1 ⟨rfl, hto⟩
  obtain ⟨y', a', c', hf⟩ := H0.out.half hto
  have HF := Lib.hid hf
  clear hto hf
  simp only [fv, f0]
  go_wp2
  go_ret
  refine ⟨rfl, ?_⟩
  exact (HF.out.same ((Keeps.refl [] _).alloc _) (by have := H0.out.sd.more (j' := ((j + 1 : Nat) : Int)) (by omega); exact this) (by have := H0.out.lg; omega)).from HK.out
set_option maxRecDepth 100000 in
set_option maxHeartbeats 1000000 in
theorem step_1b (lc : Nat) (k to_ ti : Int) (te : ByteArray) (x : Pt) (h : Stp w d m y od a c lg L la n lb Ps G xs j) (hk : (Lit.int .i64 k).wf = true) (hp : pt? L k = some x) (hw : x.ws = []) :
    Calls Try.prog 19 #[.pointer (some ⟨d, 0, none⟩), .slice la n lc, .agg (deed 1 k to_ ti te)] w fun e w' => e = .returned (.bool true) ∧ Nx w d m (foot d m y L) la n lb G xs (j + 1) od w' := by
  have hk0 : Keeps [] w (w.alloc (.cells #[.int .i64 1, .int .i64 k, .int .i64 to_, .int .i64 ti, .string te] 54)) := (Keeps.refl _ _).alloc _
  have h0 := h.kp hk0
  have HO := Lib.hid (rowner_any la n lc Ps k _ h0.rw.rr h0.n8)
  obtain ⟨i, p, hoi, hil, hxi, hpi, _, _, _, _, e5, _⟩ := h.oi_some hp
  rw [hoi] at HO
  have HT := Lib.hid (take_dev k _ h0.dv hk)
  unfold IsTake at HT
  rw [take_empty hp hw] at HT
  dsimp only at HT
  have H0 := Lib.hid h0
  have HK := Lib.hid hk0
  have hi0 : (0 : Int) ≤ (i : Int) := by omega
  rw [hw] at e5
  clear h h0 hk0 hoi
  unfold deed
  go_enter Try.func19, Try.ntmps19
  go_wp2_with fail
  refine HO.out.mono ?_
  rintro e v ⟨rfl, rfl⟩
  go_wp2_with fail
  refine HT.out.mono ?_
  clear HO HT
  rintro e w1 ⟨rfl, hto⟩
  obtain ⟨y', a', c', hf⟩ := H0.out.half hto
  obtain ⟨g, rfl, _, hg, _, _, _, _, c3, _⟩ := (hf.rw.keeps ((Keeps.refl [] w1).alloc (.cells #[.int .i64 0, .int .i64 0, .string ⟨#[]⟩] 39)) (by simp)).cells hpi
  rw [e5] at c3
  have c3 : (w1.alloc (.cells #[.int .i64 0, .int .i64 0, .string ⟨#[]⟩] 39)).cell? ⟨g, i * 5 + 3, none⟩ = some (.slice p.wa 0 p.wc) := c3
  have HF := Lib.hid hf
  clear hto hf hp hw hxi hpi e5 hg
  simp only [fv, f0]
  go_wp2
  go_ret
  refine ⟨rfl, ?_⟩
  exact (HF.out.same ((Keeps.refl [] _).alloc _) (by have := H0.out.sd.more (j' := ((j + 1 : Nat) : Int)) (by omega); exact this) (by have := H0.out.lg; omega)).from HK.out
end
end Nc
end Go.Proofs.Ytdbkgpnbmafpmaa
namespace Go.Proofs.Ytdbkgpnbmafpmaa
open Go.RowKit Go.Maps Go.Deep
namespace Nc
open Sm Fr
open PlainAid (bt)
theorem there_kp {w w' : World} {g o n : Nat} (h : w.there g o n) (hk : Keeps [] w w') (hg : g < w.heap.size) : w'.there g o n := fun u hu => by
  obtain ⟨h1, h2⟩ := h u hu
  exact ⟨by rw [hk.cell (p := ⟨g, o + u, none⟩) hg (by simp)]; exact h1, by rw [hk.frozen (p := ⟨g, o + u, none⟩) hg (by simp)]; exact h2⟩
section
variable {w w1 w' : World} {d m y c n j : Nat} {od od' : Int} {a la : Option Addr} {lg : List Sn} {L : List Pt} {lb G F : List Nat} {Ps : List RP} {xs : List Pr}
attribute [local irreducible] Nx
set_option maxRecDepth 100000 in
set_option maxHeartbeats 2000000 in
theorem step_1c (lc : Nat) (k to_ ti : Int) (te : ByteArray) (x : Pt) (f : FiF.It) (t : List FiF.It) (h : Stp w d m y od a c lg L la n lb Ps G xs j) (hk : (Lit.int .i64 k).wf = true) (hp : pt? L k = some x) (hw : x.ws = f :: t) :
    Calls Try.prog 19 #[.pointer (some ⟨d, 0, none⟩), .slice la n lc, .agg (deed 1 k to_ ti te)] w fun e w' => e = .returned (.bool true) ∧ Nx w d m (foot d m y L) la n lb G xs (j + 1) od w' := by
  have hk0 : Keeps [] w (w.alloc (.cells #[.int .i64 1, .int .i64 k, .int .i64 to_, .int .i64 ti, .string te] 54)) := (Keeps.refl _ _).alloc _
  have h0 := h.kp hk0
  have HO := Lib.hid (rowner_any la n lc Ps k _ h0.rw.rr h0.n8)
  obtain ⟨i, p, hoi, hil, hxi, hpi, e1, e2, e3, e4, e5, e6⟩ := h.oi_some hp
  rw [hoi] at HO
  have HT := Lib.hid (take_dev k _ h0.dv hk)
  unfold IsTake at HT
  rw [take_some hp hw] at HT
  dsimp only at HT
  have H0 := Lib.hid h0
  have HK := Lib.hid hk0
  have hi0 : (0 : Int) ≤ (i : Int) := by omega
  have hpx := h.dv.pt x (pt_mem hp).1
  have hq := hpx.q.dr0
  have hl16 := hpx.l2
  rw [hw] at e5 hq
  rw [e5] at e6
  simp only [List.length_cons] at e5 e6 hq
  have hdr := h.sd.dr x (pt_mem hp).1
  have HX := Lib.hid (And.intro hxi (And.intro hpi (And.intro (pt_mem hp).1 (And.intro hw hdr))))
  clear h h0 hk0 hoi
  unfold deed
  go_enter Try.func19, Try.ntmps19
  go_wp2_with fail
  refine HO.out.mono ?_
  rintro e v ⟨rfl, rfl⟩
  go_wp2_with fail
  refine HT.out.mono ?_
  clear HO HT
  rintro e w1 ⟨rfl, hto⟩
  obtain ⟨y', a', c', hf⟩ := H0.out.half hto
  simp only [fv]
  have hka : Keeps [] w1 (w1.alloc (.cells #[.int .i64 f.to, .int .i64 f.fr, .string f.data] 39)) := (Keeps.refl [] w1).alloc _
  have hB2 := Blk.new w1 39 #[.int .i64 f.to, .int .i64 f.fr, .string f.data]
  generalize hW2 : w1.alloc (.cells #[.int .i64 f.to, .int .i64 f.fr, .string f.data] 39) = w2 at *
  obtain ⟨g, rfl, _, hg, _, c0, c1, c2, c3, c4⟩ := (hf.rw.keeps hka (by simp)).cells hpi
  obtain ⟨_, _, _, _, _, _, hrd⟩ := (hf.dc.keeps hka (by simp)).eq i x p hxi hpi
  rw [hw, e5] at hrd
  rw [e1] at c0
  rw [e2] at c1
  rw [e3] at c2
  rw [e4] at c4
  rw [e5] at c3
  have hF : ∀ b ∈ lb ++ foot d m y' (upd L { x with ws := t }) ++ G, b < w2.heap.size := by
    intro b hb
    have hz := hka.size
    simp only [List.mem_append] at hb
    rcases hb with (hb | hb) | hb
    · have := hf.rw.lt b hb; omega
    · have := hf.dv.lt b hb; omega
    · have := hf.hG b hb; omega
  have HRT := Lib.hid (rtake_any x.ow x.ma x.li x.dr p.wa p.wc w2 hrd hF (by omega) e6)
  have hth : w2.there g (i * 5) 5 := by
    obtain ⟨g', e, _, _, _, _, h6⟩ := (hf.rw.keeps hka (by simp)).at_ hpi
    injection e with e; injection e with e
    subst e
    exact h6
  have hgl : g < w1.heap.size := by
    obtain ⟨g', e, _, h3, _⟩ := hf.rw.at_ hpi
    injection e with e; injection e with e
    subst e
    exact h3
  have HF := Lib.hid (And.intro hf (And.intro hka (And.intro hB2 (And.intro hth (And.intro hg hgl)))))
  have hne : ((t.length : Int) + 1 == 0) = false := by simp; omega
  subst hW2
  clear hto hf hka hB2 hth hpx hq hrd hF e1 e2 e3 e4 e5 e6 hxi hpi hp hw hdr hg hgl
  go_wp2_with fail
  refine HRT.out.mono ?_
  clear HRT
  rintro e w3 ⟨a3, c3', rfl, hrd3, hc3, hk3⟩
  have hk5 : Keeps [] w3 ((w3.alloc (.cells #[.int .i64 x.ow, .int .i64 x.ma, .int .i64 x.li, .slice a3 t.length c3', .int .i64 x.dr] 45)).alloc (.cells #[.int .i64 f.to, .int .i64 f.fr, .string f.data] 65)) := ((Keeps.refl [] w3).alloc _).alloc _
  have hB3 := Blk.new (w3.alloc (.cells #[.int .i64 x.ow, .int .i64 x.ma, .int .i64 x.li, .slice a3 t.length c3', .int .i64 x.dr] 45)) 65 #[.int .i64 f.to, .int .i64 f.fr, .string f.data]
  obtain ⟨hf, hka, hB2, hth, hg, hgl⟩ := HF.out
  have hk25 := hk3.trans hk5
  have hth5 := there_kp hth hk25 hg
  have hb5 := hB2.keeps hk25 (by simp)
  have hz3 : (w3.alloc (.cells #[.int .i64 x.ow, .int .i64 x.ma, .int .i64 x.li, .slice a3 t.length c3', .int .i64 x.dr] 45)).heap.size = w3.heap.size + 1 := by simp
  rw [hz3] at hB3
  have hg3 : g < w3.heap.size := Nat.lt_of_lt_of_le hg hk3.size
  have hrd5 := hrd3.keeps hk5 (by simp)
  have hk15 := hka.trans hk25
  have HW := Lib.hid (And.intro hf (And.intro hth5 (And.intro hb5 (And.intro hB3 (And.intro hgl (And.intro hg3 (And.intro hrd5 (And.intro hk15 hc3))))))))
  clear hf hka hB2 hth hg hgl hk25 hth5 hb5 hB3 hg3 hrd5 hk15 hc3 HF hk5 hk3 hrd3 hz3 c0 c1 c2 c3 c4
  go_wp2_with (refine wpList_store_rp rfl _ _ rfl g (i * 5) ⟨x.ow, x.ma, x.li, a3, t.length, c3', x.dr⟩ rfl rfl HW.out.2.1 ?_; intro w6 hw6; have hst := HW.out.1.fin (w3 := (w3.alloc (.cells #[.int .i64 x.ow, .int .i64 x.ma, .int .i64 x.li, .slice a3 t.length c3', .int .i64 x.dr] 45)).alloc (.cells #[.int .i64 f.to, .int .i64 f.fr, .string f.data] 65)) (p' := ⟨x.ow, x.ma, x.li, a3, t.length, c3', x.dr⟩) (j := j + 1) (xs := xs) H0.out.dv.ap HX.out.1 (pop_same x t) HX.out.2.1 HW.out.2.2.2.2.2.2.2.1 rfl rfl rfl rfl rfl rfl HW.out.2.2.2.2.2.2.2.2 HW.out.2.2.2.2.2.2.1 (by have := H0.out.sd.turn HX.out.2.2.1 (pop_same x t) H0.out.dv.ap (by have := HX.out.2.2.2.2; show x.dr ≤ (j : Int) + 1; omega); rwa [show (j : Int) + 1 = ((j + 1 : Nat) : Int) by omega] at this) (by have := H0.out.lg; omega); have hkw : Keeps [g] ((w3.alloc (.cells #[.int .i64 x.ow, .int .i64 x.ma, .int .i64 x.li, .slice a3 t.length c3', .int .i64 x.dr] 45)).alloc (.cells #[.int .i64 f.to, .int .i64 f.fr, .string f.data] 65)) w6 := (by rw [hw6]; exact keeps_set _ _ _ _); have hb6 := HW.out.2.2.1.keeps hkw (by have := HW.out.2.2.2.2.1; simp; omega); have hb7 := HW.out.2.2.2.1.keeps hkw (by have := HW.out.2.2.2.2.2.1; simp; omega); rw [← hw6] at hst; have HST := Lib.hid hst; have s0 : w6.cell? ⟨w1.heap.size, 0, none⟩ = some (.int .i64 f.to) := hb6.cell 0; have s1 : w6.cell? ⟨w1.heap.size, 1, none⟩ = some (.int .i64 f.fr) := hb6.cell 1; have s2 : w6.cell? ⟨w1.heap.size, 2, none⟩ = some (.string f.data) := hb6.cell 2; have t0 : w6.cell? ⟨w3.heap.size + 1, 0, none⟩ = some (.int .i64 f.to) := hb7.cell 0; have t1 : w6.cell? ⟨w3.heap.size + 1, 1, none⟩ = some (.int .i64 f.fr) := hb7.cell 1; have t2 : w6.cell? ⟨w3.heap.size + 1, 2, none⟩ = some (.string f.data) := hb7.cell 2; have hl6 := hb6.lt; have hl7 := hb7.lt; clear hst hw6 hkw hb6 hb7)
  go_ret
  exact ⟨rfl, (nx_mk ⟨_, _, _, _, _, _, HST.out.1, HST.out.2, HW.out.1.ft⟩).from HK.out⟩
end
end Nc
end Go.Proofs.Ytdbkgpnbmafpmaa
