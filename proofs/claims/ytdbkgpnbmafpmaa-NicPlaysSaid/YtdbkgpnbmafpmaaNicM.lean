/- Two devices of the same ports: what comes, and what an owner's port tells. -/
import Derived.Test.YtdbkgpnbmafpmaaNicL
namespace Go.Proofs.Ytdbkgpnbmafpmaa
open Go.RowKit Go.Maps
namespace Nc
open Sm Fr
open PlainAid (bt)
structure Sd (xs : List Pr) (j : Int) (od : Int) (L : List Pt) : Prop where
  ky : L.map key = xs
  o0 : 0 ≤ od
  o1 : od ≤ j
  dr : ∀ x ∈ L, x.dr ≤ j
section
variable {xs : List Pr} {j j' od : Int} {L : List Pt} {x x' : Pt} {s : ByteArray}
theorem Sd.more (h : Sd xs j od L) (hj : j ≤ j') : Sd xs j' od L := ⟨h.ky, h.o0, by have := h.o1; omega, fun x hx => by have := h.dr x hx; omega⟩
theorem Sd.miss (h : Sd xs j od L) : Sd xs (j + 1) (od + 1) L := ⟨h.ky, by have := h.o0; omega, by have := h.o1; omega, fun x hx => by have := h.dr x hx; omega⟩
theorem upd_key (hx : x ∈ L) (hs : Same x x') (hp : L.Pairwise Apart) : (upd L x').map key = L.map key := by
  unfold upd
  rw [List.map_map]
  refine List.map_congr_left fun z hz => ?_
  show key (if z.ow = x'.ow then x' else z) = key z
  by_cases ho : z.ow = x'.ow
  · rw [if_pos ho, pw_ow hp z hz x hx (ho.trans hs.ow)]
    unfold key
    rw [hs.ow, hs.ma, hs.li]
  · rw [if_neg ho]
theorem Sd.turn (h : Sd xs j od L) (hx : x ∈ L) (hs : Same x x') (hp : L.Pairwise Apart) (hd : x'.dr ≤ j + 1) : Sd xs (j + 1) od (upd L x') :=
  ⟨(upd_key hx hs hp).trans h.ky, h.o0, by have := h.o1; omega, fun z hz => by
    rcases upd_mem hz with ⟨rfl, _⟩ | ⟨hz, _⟩
    · exact hd
    · have := h.dr z hz; omega⟩
theorem key_of (hk : L.map key = xs) {i : Nat} (hx : L[i]? = some x) : (rps xs)[i]? = some ⟨x.ow, x.ma, x.li, none, 0, 0, 0⟩ := by
  unfold rps
  rw [← hk, List.getElem?_map, List.getElem?_map, hx]
  rfl
theorem fi_miss (hk : L.map key = xs) (h : hit L s = none) : fi (rps xs) s = -1 := by
  by_cases h0 : pE s = 0
  · refine fi_no fun u z hz e => ?_
    obtain ⟨x, hx, _, _, hm, _⟩ := at_both hk hz
    unfold hit at h
    rw [if_pos h0] at h
    have := List.find?_eq_none.1 h x hx
    simp [hm, e] at this
  · exact fi_bad h0
theorem fi_hit (hk : L.map key = xs) (h : hit L s = some x) : ∃ i : Nat, fi (rps xs) s = i ∧ L[i]? = some x := by
  obtain ⟨h0, _, hm⟩ := own_hit h
  unfold hit at h
  rw [if_pos h0] at h
  obtain ⟨_, i, hi, hxi, hno⟩ := List.find?_eq_some_iff_getElem.1 h
  have hxi' : L[i]? = some x := by rw [List.getElem?_eq_getElem hi, hxi]
  refine ⟨i, fi_at h0 (key_of hk hxi') hm (fun u z hu hz => ?_), hxi'⟩
  obtain ⟨x2, _, hx2, _, hm2, _⟩ := at_both hk hz
  have h9 := hno u hu
  rw [← hm2]
  rw [List.getElem?_eq_getElem (by omega)] at hx2
  injection hx2 with hx2
  rw [hx2] at h9
  simpa using h9
theorem oi_none (hk : L.map key = xs) {k : Int} (h : pt? L k = none) : oi (rps xs) k = -1 := by
  refine oi_no fun u z hz e => ?_
  obtain ⟨x, hx, _, ho, _⟩ := at_both hk hz
  unfold pt? at h
  have := List.find?_eq_none.1 h x hx
  simp [ho, e] at this
theorem oi_pt (hk : L.map key = xs) {k : Int} (h : pt? L k = some x) : ∃ i : Nat, oi (rps xs) k = i ∧ L[i]? = some x := by
  have hxo := (pt_mem h).2
  unfold pt? at h
  obtain ⟨_, i, hi, hxi, hno⟩ := List.find?_eq_some_iff_getElem.1 h
  have hxi' : L[i]? = some x := by rw [List.getElem?_eq_getElem hi, hxi]
  refine ⟨i, oi_at (key_of hk hxi') hxo (fun u z hu hz => ?_), hxi'⟩
  obtain ⟨x2, _, hx2, ho2, _⟩ := at_both hk hz
  have h9 := hno u hu
  rw [← ho2]
  rw [List.getElem?_eq_getElem (by omega)] at hx2
  injection hx2 with hx2
  rw [hx2] at h9
  simpa using h9
theorem oi_have (hk : L.map key = xs) {k : Int} {i : Nat} {p : RP} (hp : (rps xs)[i]? = some p) (ho : p.ow = k) : ∃ x, pt? L k = some x := by
  rcases h : pt? L k with _ | x
  · exfalso
    obtain ⟨x, hx, _, h1, _⟩ := at_both hk hp
    unfold pt? at h
    have := List.find?_eq_none.1 h x hx
    simp [h1, ho] at this
  · exact ⟨x, rfl⟩
/-- Bytes are for an owner: they are for that place. -/
theorem fi_oi (hk : L.map key = xs) (hp : L.Pairwise Apart) {k : Int} {z : Pt} (h : hit L s = some x) (hz : pt? L k = some z) : fi (rps xs) s = oi (rps xs) k ↔ x = z := by
  obtain ⟨i, hi, hxi⟩ := fi_hit hk h
  obtain ⟨u, hu, hzu⟩ := oi_pt hk hz
  rw [hi, hu]
  constructor
  · intro e
    obtain rfl : i = u := by omega
    rw [hxi] at hzu
    injection hzu
  · rintro rfl
    have h1 := (List.getElem?_eq_some_iff.1 hxi)
    have h2 := (List.getElem?_eq_some_iff.1 hzu)
    obtain ⟨l1, e1⟩ := h1
    obtain ⟨l2, e2⟩ := h2
    rw [List.pairwise_iff_getElem] at hp
    rcases Nat.lt_trichotomy i u with h9 | h9 | h9
    · exact absurd (by rw [e1, e2]) (hp i u l1 l2 h9).ow
    · rw [h9]
    · exact absurd (by rw [e1, e2]) (hp u i l2 l1 h9).ow
end
def comeW (li : Int) (ws : List FiF.It) (s : ByteArray) : List FiF.It := if (ws.length : Int) < li then ws ++ [frS s] else ws
def comeD (li : Int) (ws : List FiF.It) (dr : Int) : Int := if (ws.length : Int) < li then dr else dr + 1
theorem come_wd (x : Pt) (s : ByteArray) (r : Nat) : (comeP x s r).ws = comeW x.li x.ws s ∧ (comeP x s r).dr = comeD x.li x.ws x.dr := by
  unfold comeP comeW comeD
  by_cases h : (x.ws.length : Int) < x.li
  · rw [if_pos h, if_pos h, if_pos h]; exact ⟨rfl, rfl⟩
  · rw [if_neg h, if_neg h, if_neg h]; exact ⟨rfl, rfl⟩
/-- Two devices of the same ports, and what an owner's port in each tells. -/
def PInv (w0 w : World) (xs : List Pr) (k j li : Int) (d m : Nat) (ws : List FiF.It) (dr : Int) (d2 m2 : Nat) (ws2 : List FiF.It) (dr2 : Int) : Prop :=
  ∃ od L od2 L2 x x2, Two w0 w d m od [] L d2 m2 od2 [] L2 ∧ Sd xs j od L ∧ Sd xs j od2 L2 ∧ pt? L k = some x ∧ pt? L2 k = some x2 ∧ (x.ws = ws ∧ x.dr = dr ∧ x.li = li) ∧ x2.ws = ws2 ∧ x2.dr = dr2 ∧ x2.li = li
section
variable {w0 w w' : World} {xs : List Pr} {k j li dr dr2 : Int} {d m d2 m2 : Nat} {ws ws2 : List FiF.It} {s : ByteArray}
theorem PInv.swap (h : PInv w0 w xs k j li d m ws dr d2 m2 ws2 dr2) : PInv w0 w xs k j li d2 m2 ws2 dr2 d m ws dr := by
  obtain ⟨od, L, od2, L2, x, x2, h1, h2, h3, h4, h5, h6, h7⟩ := h
  exact ⟨od2, L2, od, L, x2, x, h1.swap, h3, h2, h5, h4, h7, h6⟩
theorem PInv.kp (h : PInv w0 w xs k j li d m ws dr d2 m2 ws2 dr2) (hk : Keeps [] w w') : PInv w0 w' xs k j li d m ws dr d2 m2 ws2 dr2 := by
  obtain ⟨od, L, od2, L2, x, x2, h1, h⟩ := h
  exact ⟨od, L, od2, L2, x, x2, h1.kp hk, h⟩
theorem PInv.keeps (h : PInv w0 w xs k j li d m ws dr d2 m2 ws2 dr2) : Keeps [] w0 w := by
  obtain ⟨od, L, od2, L2, x, x2, h1, h⟩ := h
  exact h1.keeps
theorem PInv.wf (h : PInv w0 w xs k j li d m ws dr d2 m2 ws2 dr2) : (Lit.int .i64 k).wf = true ∧ 0 ≤ dr ∧ (ws.length : Int) ≤ 16 := by
  obtain ⟨od, L, od2, L2, x, x2, h1, _, _, h4, _, ⟨rfl, rfl, rfl⟩, _⟩ := h
  obtain ⟨y, a, c, hD, _⟩ := h1.step
  obtain ⟨hx, hxo⟩ := pt_mem h4
  have hp := hD.pt x hx
  have h1 := hp.o1
  have h2 := hp.o2
  have h3 := hp.l2
  have h4 := hp.q.dr0
  exact ⟨by rw [← hxo]; exact WalkArith.wf_i64 (by omega), h4.1, by omega⟩
theorem p_new {L L2 : List Pt} {wa wb : World} {i : Nat} {p : RP} (h1 : New_ w wa d m L xs) (h2 : New_ wa wb d2 m2 L2 xs) (hp : (rps xs)[i]? = some p) (ho : p.ow = k) : PInv w wb xs k 0 p.li d m [] 0 d2 m2 [] 0 := by
  have ht := (liv_new h1 (Keeps.refl [] w)).two h2
  obtain ⟨x, hx⟩ := oi_have h1.ky hp ho
  obtain ⟨x2, hx2⟩ := oi_have h2.ky hp ho
  have hm := (pt_mem hx)
  have hm2 := (pt_mem hx2)
  obtain ⟨z, hz, _, zo, _, zl⟩ := at_both h1.ky hp
  obtain ⟨z2, hz2, _, zo2, _, zl2⟩ := at_both h2.ky hp
  obtain rfl := pw_ow h1.dv.ap z hz x hm.1 (by omega)
  obtain rfl := pw_ow h2.dv.ap z2 hz2 x2 hm2.1 (by omega)
  have e1 := h1.em z hz
  have e2 := h2.em z2 hz2
  exact ⟨0, L, 0, L2, z, z2, ht, ⟨h1.ky, by omega, by omega, fun x hx => by rw [(h1.em x hx).2]; omega⟩, ⟨h2.ky, by omega, by omega, fun x hx => by rw [(h2.em x hx).2]; omega⟩, hx, hx2, ⟨e1.1, e1.2, zl⟩, e2.1, e2.2, zl2⟩
/-- Bytes come to the first of the two. -/
theorem p_come (h : PInv w0 w xs k j li d m ws dr d2 m2 ws2 dr2) (hj : j ≤ 1000) (hm : s.size ≤ 9223372036854775807) :
    Calls Try.prog 12 #[.pointer (some ⟨d, 0, none⟩), .string s] w fun e w' => ∃ b1 b2, e = .returned (.tuple #[.int .i64 b1, .bool b2]) ∧ (fi (rps xs) s = oi (rps xs) k → PInv w0 w' xs k (j + 1) li d m (comeW li ws s) (comeD li ws dr) d2 m2 ws2 dr2) ∧ (fi (rps xs) s ≠ oi (rps xs) k → PInv w0 w' xs k (j + 1) li d m ws dr d2 m2 ws2 dr2) := by
  obtain ⟨od, L, od2, L2, x, x2, h1, h2, h3, h4, h5, ⟨rfl, rfl, rfl⟩, h7⟩ := h
  obtain ⟨y, a, c, hD, hT⟩ := h1.step
  rcases hh : hit L s with _ | z
  · refine (come_miss s w hD hm (by have := h2.o0; have := h2.o1; omega) hh).mono ?_
    unfold IsCome
    rw [hh]
    rintro e w' ⟨rfl, hto⟩
    have hfi := fi_miss h2.ky hh
    obtain ⟨u, hu, _⟩ := oi_pt h2.ky h4
    refine ⟨_, _, rfl, fun e => by rw [hfi, hu] at e; omega, fun _ => ⟨_, _, _, _, x, x2, hT _ _ _ _ hto, h2.miss, h3.more (by omega), h4, h5, ⟨rfl, rfl, rfl⟩, h7⟩⟩
  · have hz := (own_hit hh).2.1
    have hdr := h2.dr z hz
    refine (come_hit s z w hD hm (by omega) hh).mono ?_
    unfold IsCome
    rw [hh]
    rintro e w' ⟨r', rfl, hto⟩
    have hiff := fi_oi h2.ky hD.ap hh h4
    have hsd := h2.turn hz (come_same z s r') hD.ap (by
      rw [(come_wd z s r').2]; unfold comeD
      by_cases h9 : (z.ws.length : Int) < z.li
      · rw [if_pos h9]; omega
      · rw [if_neg h9]; omega)
    have hup := upd_pt hD.ap hz (come_same z s r') k
    refine ⟨_, _, rfl, fun e => ?_, fun e => ?_⟩
    · obtain rfl := hiff.1 e
      rw [if_pos (pt_mem h4).2.symm] at hup
      exact ⟨_, _, _, _, _, x2, hT _ _ _ _ hto, hsd, h3.more (by omega), hup, h5, ⟨(come_wd z s r').1, (come_wd z s r').2, (come_same z s r').li⟩, h7⟩
    · have hne : ¬ k = z.ow := fun e2 => e (hiff.2 (pw_ow hD.ap z hz x (pt_mem h4).1 (e2.symm.trans (pt_mem h4).2.symm)))
      rw [if_neg hne, h4] at hup
      exact ⟨_, _, _, _, _, x2, hT _ _ _ _ hto, hsd, h3.more (by omega), hup, h5, ⟨rfl, rfl, rfl⟩, h7⟩
theorem p_waits (h : PInv w0 w xs k j li d m ws dr d2 m2 ws2 dr2) :
    Calls Try.prog 14 #[.pointer (some ⟨d, 0, none⟩), .int .i64 k] w fun e w' => e = .returned (.int .i64 (ws.length : Int)) ∧ w = w' := by
  have hk := h.wf.1
  obtain ⟨od, L, od2, L2, x, x2, h1, h2, h3, h4, h5, ⟨rfl, rfl, rfl⟩, h7⟩ := h
  obtain ⟨y, a, c, hD, hT⟩ := h1.step
  have := waits_any k w hD hk
  rw [h4] at this
  exact this
theorem p_drops (h : PInv w0 w xs k j li d m ws dr d2 m2 ws2 dr2) :
    Calls Try.prog 15 #[.pointer (some ⟨d, 0, none⟩), .int .i64 k] w fun e w' => e = .returned (.int .i64 dr) ∧ w = w' := by
  have hk := h.wf.1
  obtain ⟨od, L, od2, L2, x, x2, h1, h2, h3, h4, h5, ⟨rfl, rfl, rfl⟩, h7⟩ := h
  obtain ⟨y, a, c, hD, hT⟩ := h1.step
  have := drops_dev k w hD hk
  rw [h4] at this
  exact this
theorem p_take {f : FiF.It} {t : List FiF.It} {V : World} (h : PInv w0 V xs k j li d m (f :: t) dr d2 m2 ws2 dr2) (hkV : Keeps [] V w) :
    Calls Try.prog 16 #[.pointer (some ⟨d, 0, none⟩), .int .i64 k] w fun e w' => e = .returned (.tuple #[fv f, .int .i64 0]) ∧ PInv w0 w' xs k (j + 1) li d m t dr d2 m2 ws2 dr2 ∧ ∃ F, Keeps F w w' ∧ ∀ b ∈ F, b < V.heap.size := by
  have hk := h.wf.1
  obtain ⟨od, L, od2, L2, x, x2, h1, h2, h3, h4, h5, ⟨h6, rfl, rfl⟩, h7⟩ := h
  obtain ⟨y, a, c, hDV, hT⟩ := h1.step
  refine (take_dev k w (hDV.kp hkV) hk).mono ?_
  unfold IsTake
  rw [take_some h4 h6]
  rintro e w' ⟨rfl, hto⟩
  have hx := (pt_mem h4).1
  have hup := upd_pt hDV.ap hx (pop_same x t) k
  rw [if_pos (pt_mem h4).2.symm] at hup
  have hd := h2.dr x hx
  refine ⟨rfl, ⟨_, _, _, _, _, x2, hT _ _ _ _ (hto.from hkV), h2.turn hx (pop_same x t) hDV.ap (by show x.dr ≤ j + 1; omega), h3.more (by omega), hup, h5, ⟨rfl, rfl, rfl⟩, h7⟩, ?_⟩
  obtain ⟨_, _, _, _, hk9, _⟩ := hto
  exact ⟨_, hk9, hDV.lt⟩
end
end Nc
end Go.Proofs.Ytdbkgpnbmafpmaa
