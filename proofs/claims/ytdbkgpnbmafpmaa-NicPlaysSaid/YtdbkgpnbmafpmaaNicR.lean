/- The law's come: bytes come to both. -/
import Derived.Test.YtdbkgpnbmafpmaaNicQ
namespace Go.Proofs.Ytdbkgpnbmafpmaa
open Go.RowKit Go.Maps Go.Deep
namespace Nc
open Sm Fr
open PlainAid (bt)
theorem rcome_any {F : List Nat} {ws : List FiF.It} (ow ma li dr : Int) (a : Option Addr) (c : Nat) (s : ByteArray) (w : World) (h : Rd w F a ws.length (FiF.flt ws)) (hF : ∀ b ∈ F, b < w.heap.size) (hc : ws.length ≤ c) (hl : li ≤ 16) (hd : 0 ≤ dr ∧ dr ≤ 100000) (hm : s.size ≤ 9223372036854775807) (h0 : pE s = 0) :
    Calls Try.prog 53 #[.agg #[.int .i64 ow, .int .i64 ma, .int .i64 li, .slice a ws.length c, .int .i64 dr], .string s] w (IsRC F ow ma li (comeW li ws s) (comeD li ws dr) (decide ((ws.length : Int) < li)) w) := by
  unfold comeW comeD
  by_cases hlt : (ws.length : Int) < li
  · rw [if_pos hlt, if_pos hlt, decide_eq_true hlt]
    exact rcome_ok ow ma li dr a c s w h hF hlt hl hm h0
  · rw [if_neg hlt, if_neg hlt, decide_eq_false hlt]
    exact rcome_full ow ma li dr a c s w h hc (by omega) hd
section
variable {w w1 w3 : World} {d m y c y' c' n i g : Nat} {od od' : Int} {a a' la : Option Addr} {lg lg' : List Sn} {L : List Pt} {lb G F : List Nat} {Ps : List RP} {xs : List Pr} {x x' : Pt} {p p' : RP}
theorem doc_key {X : List Nat} (h : Doc w X L Ps) : Ps.map rkey = L.map key := by
  refine List.ext_getElem? fun u => ?_
  rw [List.getElem?_map, List.getElem?_map]
  rcases hu : L[u]? with _ | x
  · have h1 := List.getElem?_eq_none_iff.1 hu
    rw [List.getElem?_eq_none (by rw [← h.ln]; exact h1)]
    rfl
  · obtain ⟨p, hp, e1, e2, e3, _⟩ := h.at_ hu
    rw [hp]
    simp [rkey, key, e1, e2, e3]
theorem find_rps (Ps : List RP) (q : Int → Bool) : (rps (Ps.map rkey)).findIdx? (fun x => q x.ma) = Ps.findIdx? (fun x => q x.ma) := by
  unfold rps
  rw [List.map_map]
  induction Ps with
  | nil => rfl
  | cons x t ih =>
    rw [List.map_cons, List.findIdx?_cons, List.findIdx?_cons, ih]
    rfl
theorem find_rpo (Ps : List RP) (q : Int → Bool) : (rps (Ps.map rkey)).findIdx? (fun x => q x.ow) = Ps.findIdx? (fun x => q x.ow) := by
  unfold rps
  rw [List.map_map]
  induction Ps with
  | nil => rfl
  | cons x t ih =>
    rw [List.map_cons, List.findIdx?_cons, List.findIdx?_cons, ih]
    rfl
theorem fi_key (Ps : List RP) (s : ByteArray) : fi Ps s = fi (rps (Ps.map rkey)) s := by
  unfold fi
  rw [find_rps Ps (fun z => z == bt s 0)]
theorem oi_key (Ps : List RP) (k : Int) : oi Ps k = oi (rps (Ps.map rkey)) k := by
  unfold oi
  rw [find_rpo Ps (fun z => z == k)]
theorem Half.same (h : Half w w1 d m F y' a' c' od' lg' L L la n lb Ps G) (hk : Keeps [] w1 w3) {j : Nat} (hs : Sd xs (j : Int) od' L) (hl : lg'.length ≤ j) : Nx w d m F la n lb G xs j od' w3 :=
  ⟨y', a', c', lg', L, Ps, ⟨h.dv.kp hk, h.rw.keeps hk (by simp), h.dj, h.dc.keeps hk (by simp), h.n8, fun b hb => Nat.lt_of_lt_of_le (h.hG b hb) hk.size, hs, hl⟩, (h.kp.more (by intro b hb; simp [hb])).trans (hk.more (by simp)), h.ft⟩
theorem Half.fin (h : Half w w1 d m F y' a' c' od' lg' (upd L x') L la n lb Ps G) (hap : L.Pairwise Apart) (hx : L[i]? = some x) (hs : Same x x') (hp : Ps[i]? = some p) (hk : Keeps [] w1 w3) (hg : la = some ⟨g, 0, none⟩)
    (h1 : p'.ow = x'.ow) (h2 : p'.ma = x'.ma) (h3 : p'.li = x'.li) (h4 : p'.dr = x'.dr) (h5 : p'.wn = x'.ws.length) (h6 : p'.wn ≤ p'.wc) (h7 : Rd w3 (lb ++ foot d m y' (upd L x') ++ G) p'.wa p'.wn (FiF.flt x'.ws)) {j : Nat} (hsd : Sd xs (j : Int) od' (upd L x')) (hl : lg'.length ≤ j) :
    Stp (w3.setCells g (i * 5) (rpc p')) d m y' od' a' c' lg' (upd L x') la n lb (Ps.set i p') G xs j ∧ Keeps (lb ++ F) w (w3.setCells g (i * 5) (rpc p')) := by
  obtain ⟨g', e, hlb, _⟩ := h.rw.at_ hp
  rw [hg] at e; injection e with e; injection e with e
  subst e
  have hks := keeps_set g (i * 5) (rpc p') w3
  have hgf : g ∉ foot d m y' (upd L x') := h.dj g (by rw [hlb]; simp)
  have hS : ∀ b ∈ [g], b ∈ lb ++ foot d m y' (upd L x') ++ G ∨ w3.heap.size ≤ b := by
    intro b hb
    simp at hb
    subst hb
    exact .inl (by rw [hlb]; simp)
  refine ⟨⟨(h.dv.kp hk).keeps hks (fun b hb hm => ?_), (h.rw.keeps hk (by simp)).store p' hp hg, h.dj, ((h.dc.keeps hk (by simp)).keeps hks hS).set hap hx hs h1 h2 h3 h4 h5 h6 (h7.keeps hks hS), h.n8, fun b hb => Nat.lt_of_lt_of_le (h.hG b hb) (Nat.le_trans hk.size hks.size), hsd, hl⟩, ((h.kp.more (by intro b hb; simp [hb])).trans (hk.more (by simp))).trans (hks.more (by intro b hb; simp at hb; subst hb; rw [hlb]; simp))⟩
  simp at hm
  subst hm
  exact hgf hb
end
theorem rp_size (p : RP) : (Try.prog.info? 45).map (·.size) = some (rpc p).toArray.size := by kernel_rfl
theorem wpList_store_rp {ops : Array Oper} {rest : List Oper} {op : Oper} {a : Act} {w : World} {Q : Exit → Act → World → Prop} (hgd : op.guard = none) (xo yo : Operand) (ho : op.op = .store 45 xo yo) (g o : Nat) (p : RP)
    (hx : a.eval xo = .pointer (some ⟨g, o, none⟩)) (hy : a.eval yo = .agg (rpc p).toArray) (ht : w.there g o 5) (h : ∀ w', w' = w.setCells g o (rpc p) → wpList Try.prog ops Q rest (a.put op.dst undef) w') : wpList Try.prog ops Q (op :: rest) a w :=
  wpList_store_mid hgd 45 xo yo ho g o (rpc p).toArray hx hy ht (rp_size p) (all_oneCell_toArray (rpc_one p)) (h _ rfl)
attribute [local irreducible] Nx
theorem nx_mk {w : World} {d m : Nat} {F : List Nat} {la : Option Addr} {n : Nat} {lb G : List Nat} {xs : List Pr} {j : Nat} {od' : Int} {w' : World} (h : ∃ y' a' c' lg' L' Ps', Stp w' d m y' od' a' c' lg' L' la n lb Ps' G xs j ∧ Keeps (lb ++ F) w w' ∧ ∀ b ∈ foot d m y' L', b ∈ F ∨ w.heap.size ≤ b) : Nx w d m F la n lb G xs j od' w' := by
  unfold Nx
  exact h
def odd1 (Ps : List RP) (s : ByteArray) : Int := if fi Ps s < 0 then 1 else 0
set_option maxRecDepth 100000 in
set_option maxHeartbeats 2000000 in
theorem come_law {w : World} {d m y c n j : Nat} {od : Int} {a la : Option Addr} {lg : List Sn} {L : List Pt} {lb G : List Nat} {Ps : List RP} {xs : List Pr} (lc : Nat) (s : ByteArray) (h : Stp w d m y od a c lg L la n lb Ps G xs j) (hj : j ≤ 1000) (hm : s.size ≤ 9223372036854775807) :
    Calls Try.prog 36 #[.pointer (some ⟨d, 0, none⟩), .slice la n lc, .string s] w fun e w' => e = .returned (.bool true) ∧ Nx w d m (foot d m y L) la n lb G xs (j + 1) (od + odd1 Ps s) w' := by
  have hkey := doc_key h.dc
  have hfk := fi_key Ps s
  rw [hkey] at hfk
  have ho0 := h.sd.o0
  have ho1 := h.sd.o1
  rcases hh : hit L s with _ | x
  · have hfi := fi_miss (xs := L.map key) rfl hh
    rw [← hfk] at hfi
    have HC := Lib.hid (come_miss s w h.dv hm (by omega) hh)
    unfold IsCome at HC
    rw [hh] at HC
    dsimp only at HC
    have H := Lib.hid h
    have ho : od + odd1 Ps s = od + 1 := by unfold odd1; rw [hfi, if_pos (by omega)]
    rw [ho]
    have HFI := Lib.hid hfi
    clear h hkey hfk ho hh hfi
    go_enter Try.func36, Try.ntmps36
    go_wp2_with fail
    refine HC.out.mono ?_
    clear HC
    rintro e w1 ⟨rfl, hto⟩
    obtain ⟨y', a', c', hf⟩ := H.out.half hto
    have HF := Lib.hid (rfor_any la n lc Ps s w1 hf.rw.rr hf.n8 hm)
    rw [HFI.out] at HF
    have HH := Lib.hid hf
    clear hto hf
    go_wp2_with fail
    refine HF.out.mono ?_
    clear HF
    rintro e w2 ⟨rfl, hk2⟩
    have HK2 := Lib.hid hk2
    clear hk2
    go_wp2
    go_ret
    exact ⟨rfl, HH.out.same HK2.out (by have := H.out.sd.miss; rwa [show (j : Int) + 1 = ((j + 1 : Nat) : Int) by omega] at this) (by have := H.out.lg; omega)⟩
  · obtain ⟨i, hfi, hxi⟩ := fi_hit (xs := L.map key) rfl hh
    rw [← hfk] at hfi
    obtain ⟨h0, hx, hma⟩ := own_hit hh
    have hdr := h.sd.dr x hx
    have hpx := h.dv.pt x hx
    have hq := hpx.q.dr0
    have HC := Lib.hid (come_hit s x w h.dv hm (by omega) hh)
    unfold IsCome at HC
    rw [hh] at HC
    dsimp only at HC
    have H := Lib.hid h
    have ho : od + odd1 Ps s = od := by unfold odd1; rw [hfi, if_neg (by omega)]; omega
    rw [ho]
    obtain ⟨p, hp, e1, e2, e3, e4, e5, e6, _⟩ := h.dc.at_ hxi
    have HX := Lib.hid (And.intro hfi (And.intro hxi (And.intro hp (And.intro hx (And.intro h0 (And.intro (And.intro hdr hq) (And.intro e6 hpx)))))))
    have hil : (i : Int) < (n : Int) := by
      have := (List.getElem?_eq_some_iff.1 hp).1
      have := h.rw.rr.1
      omega
    have hi0 : (0 : Int) ≤ (i : Int) := by omega
    have HE := Lib.hid (And.intro e1 (And.intro e2 (And.intro e3 (And.intro e4 e5))))
    clear h hkey hfk ho hh hfi hxi hp hx h0 hdr hq e1 e2 e3 e4 e5 e6 hma hpx
    go_enter Try.func36, Try.ntmps36
    go_wp2_with fail
    refine HC.out.mono ?_
    clear HC
    rintro e w1 ⟨r', rfl, hto⟩
    obtain ⟨y', a', c', hf⟩ := H.out.half hto
    have HF := Lib.hid (rfor_any la n lc Ps s w1 hf.rw.rr hf.n8 hm)
    rw [HX.out.1] at HF
    have HH := Lib.hid hf
    clear hto hf
    go_wp2_with fail
    refine HF.out.mono ?_
    clear HF
    rintro e w2 ⟨rfl, hk2⟩
    have HK2 := Lib.hid hk2
    clear hk2
    obtain ⟨e1, e2, e3, e4, e5⟩ := HE.out
    obtain ⟨_, hxi, hp, hx, h0, hdr, e6, hpx⟩ := HX.out
    obtain ⟨g, rfl, _, hg, _, c0, c1, c2, c3, c4⟩ := (HH.out.rw.keeps HK2.out (by simp)).cells hp
    obtain ⟨_, _, _, _, _, _, hrd⟩ := (HH.out.dc.keeps HK2.out (by simp)).eq i x p hxi hp
    have hth : w2.there g (i * 5) 5 := by
      obtain ⟨g', e, _, _, _, _, h6⟩ := (HH.out.rw.keeps HK2.out (by simp)).at_ hp
      injection e with e; injection e with e
      subst e
      exact h6
    have hF : ∀ b ∈ lb ++ foot d m y' (upd L (comeP x s r')) ++ G, b < w2.heap.size := by
      intro b hb
      have hz := HK2.out.size
      simp only [List.mem_append] at hb
      rcases hb with (hb | hb) | hb
      · have := HH.out.rw.lt b hb; omega
      · have := HH.out.dv.lt b hb; omega
      · have := HH.out.hG b hb; omega
    rw [e5] at hrd c3 e6
    rw [e1] at c0
    rw [e2] at c1
    rw [e3] at c2
    rw [e4] at c4
    have HRC := Lib.hid (rcome_any x.ow x.ma x.li x.dr p.wa p.wc s w2 hrd hF e6 hpx.l2 ⟨hdr.2.1, hdr.2.2.1⟩ hm h0)
    have HTH := Lib.hid hth
    clear e1 e2 e3 e4 e5 e6 hxi hp hx h0 hdr hpx hrd hF hg hth
    go_wp2_with fail
    refine HRC.out.mono ?_
    clear HRC
    rintro e w3 ⟨a3, c3', rfl, hrd3, hc3, hk3⟩
    have hwd := come_wd x s r'
    have HR3 := Lib.hid (And.intro hrd3 (And.intro hc3 hk3))
    have hth3 : w3.there g (i * 5) 5 := fun u hu => by
      obtain ⟨h1, h2⟩ := HTH.out u hu
      have hgl : g < w2.heap.size := by
        obtain ⟨v, hv⟩ := Option.isSome_iff_exists.1 h1
        exact World.block_lt_of_cell? _ _ hv
      exact ⟨by rw [hk3.cell (p := ⟨g, i * 5 + u, none⟩) hgl (by simp)]; exact h1, by rw [hk3.frozen (p := ⟨g, i * 5 + u, none⟩) hgl (by simp)]; exact h2⟩
    have HT3 := Lib.hid hth3
    clear hrd3 hc3 hk3 hth3 c0 c1 c2 c3 c4 HTH hwd
    generalize hws : comeW x.li x.ws s = ws' at *
    generalize hdd : comeD x.li x.ws x.dr = dr' at *
    have HWD : Hid ((comeP x s r').ws = ws' ∧ (comeP x s r').dr = dr') := Lib.hid (by rw [← hws, ← hdd]; exact come_wd x s r')
    clear hws hdd
    go_wp2_with (refine wpList_store_rp rfl _ _ rfl g (i * 5) ⟨x.ow, x.ma, x.li, a3, ws'.length, c3', dr'⟩ rfl rfl HT3.out ?_; intro w4 hw4; have hst := HH.out.fin (w3 := w3) (p' := ⟨x.ow, x.ma, x.li, a3, ws'.length, c3', dr'⟩) (j := j + 1) (xs := xs) H.out.dv.ap HX.out.2.1 (come_same x s r') HX.out.2.2.1 (HK2.out.trans HR3.out.2.2) rfl (come_same x s r').ow.symm (come_same x s r').ma.symm (come_same x s r').li.symm HWD.out.2.symm (by rw [HWD.out.1]) HR3.out.2.1 (by rw [HWD.out.1]; exact HR3.out.1) (by have := H.out.sd.turn HX.out.2.2.2.1 (come_same x s r') H.out.dv.ap (by have := HX.out.2.2.2.2.2.1.1; rw [(come_wd x s r').2]; unfold comeD; by_cases h9 : (x.ws.length : Int) < x.li; rw [if_pos h9]; omega; rw [if_neg h9]; omega); rwa [show (j : Int) + 1 = ((j + 1 : Nat) : Int) by omega] at this) (by have := H.out.lg; omega); rw [← hw4] at hst; have HST := Lib.hid hst; obtain ⟨g', eg, _, _, _, q0, q1, _⟩ := hst.1.rw.cells (List.getElem?_set_self (List.getElem?_eq_some_iff.1 HX.out.2.2.1).1); injection eg with eg; injection eg with eg; subst eg; have HOW := Lib.hid (owner_any x.ma w4 hst.1.dv); rw [upd_own (come_same x s r') HX.out.2.2.2.1 H.out.dv.ap, own_of H.out.dv.ap HX.out.2.2.2.1] at HOW; clear hst hw4)
    refine HOW.out.mono ?_
    rintro e v ⟨rfl, rfl⟩
    go_wp2
    go_ret
    exact ⟨rfl, nx_mk ⟨_, _, _, _, _, _, HST.out.1, HST.out.2, HH.out.ft⟩⟩
end Nc
end Go.Proofs.Ytdbkgpnbmafpmaa
