/- The document's ports: Owner, Check, For. -/
import Derived.Test.YtdbkgpnbmafpmaaNicG
namespace Go.Proofs.Ytdbkgpnbmafpmaa
open Go.RowKit Go.Maps
namespace Nc
open Sm Fr
open PlainAid (bt)
/-- A port of the document's. -/
structure RP where
  ow : Int
  ma : Int
  li : Int
  wa : Option Addr
  wn : Nat
  wc : Nat
  dr : Int
def rpc (x : RP) : List Value := [.int .i64 x.ow, .int .i64 x.ma, .int .i64 x.li, .slice x.wa x.wn x.wc, .int .i64 x.dr]
def rkey (x : RP) : Pr := ⟨x.ow, x.ma, x.li⟩
def Rr (w : World) (a : Option Addr) (n : Nat) (Ps : List RP) : Prop :=
  Ps.length = n ∧ (0 < n → ∃ b, a = some ⟨b, 0, none⟩ ∧ b < w.heap.size ∧ ∀ i x, Ps[i]? = some x → w.rangeAt b (i * 5) (rpc x))
theorem Rr.keeps {w w' : World} {a : Option Addr} {n : Nat} {Ps : List RP} {S : List Nat} (h : Rr w a n Ps) (hk : Keeps S w w') (hS : ∀ b, a = some ⟨b, 0, none⟩ → b ∉ S) : Rr w' a n Ps := by
  refine ⟨h.1, fun h0 => ?_⟩
  obtain ⟨b, rfl, hb, hc⟩ := h.2 h0
  exact ⟨b, rfl, Nat.lt_of_lt_of_le hb hk.size, fun i x hx j u hu => (hk.cell (p := ⟨b, i * 5 + j, none⟩) hb (hS b rfl)).trans (hc i x hx j u hu)⟩
theorem Rr.kp {w w' : World} {a : Option Addr} {n : Nat} {Ps : List RP} (h : Rr w a n Ps) (hk : Keeps [] w w') : Rr w' a n Ps := h.keeps hk (by simp)
theorem Rr.at_ {w : World} {a : Option Addr} {n : Nat} {Ps : List RP} (h : Rr w a n Ps) (i : Nat) (x : RP) (hx : Ps[i]? = some x) : ∃ b, a = some ⟨b, 0, none⟩ ∧ b < w.heap.size ∧ w.cell? ⟨b, i * 5, none⟩ = some (.int .i64 x.ow) ∧ w.cell? ⟨b, i * 5 + 1, none⟩ = some (.int .i64 x.ma) ∧ w.cell? ⟨b, i * 5 + 2, none⟩ = some (.int .i64 x.li) ∧ w.cell? ⟨b, i * 5 + 3, none⟩ = some (.slice x.wa x.wn x.wc) ∧ w.cell? ⟨b, i * 5 + 4, none⟩ = some (.int .i64 x.dr) := by
  have hi := (List.getElem?_eq_some_iff.1 hx).1
  obtain ⟨b, e, hb, hc⟩ := h.2 (by rw [← h.1]; omega)
  have := hc i x hx
  exact ⟨b, e, hb, this 0 _ rfl, this 1 _ rfl, this 2 _ rfl, this 3 _ rfl, this 4 _ rfl⟩
/-- Where an owner's port is. -/
def oi (Ps : List RP) (k : Int) : Int := match Ps.findIdx? (fun x => x.ow == k) with | some i => (i : Int) | none => -1
theorem oi_at {Ps : List RP} {k : Int} {i : Nat} {x : RP} (hx : Ps[i]? = some x) (ho : x.ow = k) (hno : ∀ j z, j < i → Ps[j]? = some z → z.ow ≠ k) : oi Ps k = i := by
  unfold oi
  have hi := (List.getElem?_eq_some_iff.1 hx).1
  have hxe : Ps[i] = x := by rw [List.getElem?_eq_getElem hi] at hx; injection hx
  have : Ps.findIdx? (fun x => x.ow == k) = some i := by
    rw [List.findIdx?_eq_some_iff_getElem]
    refine ⟨hi, by rw [hxe]; simpa using ho, fun j hj => by simpa using hno j _ hj (List.getElem?_eq_getElem (by omega))⟩
  rw [this]
theorem oi_no {Ps : List RP} {k : Int} (hno : ∀ (j : Nat) z, Ps[j]? = some z → z.ow ≠ k) : oi Ps k = -1 := by
  unfold oi
  have : Ps.findIdx? (fun x => x.ow == k) = none := by
    rw [List.findIdx?_eq_none_iff]
    intro x hx
    obtain ⟨i, hi, rfl⟩ := List.getElem_of_mem hx
    simpa using hno i _ (List.getElem?_eq_getElem hi)
  rw [this]
theorem rowner_any (a : Option Addr) (n c : Nat) (Ps : List RP) (k : Int) (w : World) (h : Rr w a n Ps) (hn : n ≤ 8) : Calls Try.prog 8 #[.slice a n c, .int .i64 k] w fun e w' => e = .returned (.int .i64 (oi Ps k)) ∧ w = w' := by
  have hl := h.1
  have H := Lib.hid h
  clear h
  go_enter Try.func8, Try.ntmps8
  go_wp2
  go_loopw [5] (fun i wr => ∃ j : Nat, j ≤ n ∧ i = .int .i64 j ∧ wr = w ∧ ∀ (u : Nat) z, u < j → Ps[u]? = some z → z.ow ≠ k) (fun i _ => n - (intOf i).toNat)
  case atStart => exact ⟨0, by omega, rfl, rfl, by omega⟩
  case round =>
    obtain ⟨j, hj, rfl, rfl, hno⟩ := hrel
    have HN := Lib.hid hno
    clear hno
    by_cases hlt : j < n
    · obtain ⟨x, hx⟩ : ∃ x, Ps[j]? = some x := ⟨_, List.getElem?_eq_getElem (by omega)⟩
      obtain ⟨b, rfl, hb, x0, _⟩ := H.out.at_ j x hx
      have hj0 : (0 : Int) ≤ (j : Int) := by omega
      have hj1 : (j : Int) < (n : Int) := by omega
      by_cases ho : x.ow = k
      · have hoi := oi_at hx ho HN.out
        have HO := Lib.hid hoi
        rw [ho] at x0
        clear hoi hx ho
        go_wp2
        go_ret
        exact ⟨by rw [HO.out]; rfl, rfl⟩
      · have hne : (x.ow == k) = false := by simpa using ho
        have HX := Lib.hid (And.intro hx ho)
        clear hx ho
        go_wp2
        go_roundw
        case rel => exact ⟨j + 1, by omega, by go_num, trivial, fun u z hu hz => by
          by_cases hu' : u < j
          · exact HN.out u z hu' hz
          · obtain rfl : u = j := by omega
            rw [HX.out.1] at hz; injection hz with hz; subst hz; exact HX.out.2⟩
        case measure => simp [intOf]; omega
    · obtain rfl : j = n := by omega
      have hoi : oi Ps k = -1 := oi_no (fun u z hz => HN.out u z (by have := (List.getElem?_eq_some_iff.1 hz).1; omega) hz)
      have HO := Lib.hid hoi
      clear hoi
      go_wp2
      go_ret
      exact ⟨by rw [HO.out]; rfl, rfl⟩
theorem okP_iff (x : Pr) : okP x ↔ ¬ x.ow < 1 ∧ ¬ 8 < x.ow ∧ ¬ x.ma < 0 ∧ ¬ 255 < x.ma ∧ ¬ x.li < 0 ∧ ¬ 16 < x.li := by unfold okP; omega
theorem like_take (Ps : List RP) (k : Nat) (x : Pr) : ((Ps.map rkey).take k).any (likeB x) = true ↔ ∃ (u : Nat) (z : RP), u < k ∧ Ps[u]? = some z ∧ (z.ow = x.ow ∨ z.ma = x.ma) := by
  rw [List.any_eq_true]
  constructor
  · rintro ⟨p, hp, hl⟩
    obtain ⟨i, hi, rfl⟩ := List.getElem_of_mem hp
    have hi' : i < k ∧ i < Ps.length := by simp at hi; omega
    refine ⟨i, Ps[i]'hi'.2, hi'.1, List.getElem?_eq_getElem hi'.2, ?_⟩
    simpa [likeB, rkey] using hl
  · rintro ⟨u, z, hu, hz, hl⟩
    have hu' := (List.getElem?_eq_some_iff.1 hz).1
    refine ⟨rkey z, ?_, by simpa [likeB, rkey] using hl⟩
    rw [List.mem_iff_getElem?]
    refine ⟨u, ?_⟩
    rw [List.getElem?_take, if_pos hu, List.getElem?_map, hz]
    rfl
set_option maxRecDepth 100000 in
set_option maxHeartbeats 2000000 in
theorem rcheck_any (a : Option Addr) (n c : Nat) (Ps : List RP) (w : World) (h : Rr w a n Ps) (hn : n ≤ 8) : Calls Try.prog 9 #[.slice a n c] w fun e w' => e = .returned (.int .i64 (chk (Ps.map rkey))) ∧ Keeps [] w w' := by
  have hl := h.1
  have H := Lib.hid h
  clear h
  go_enter Try.func9, Try.ntmps9
  go_wp2
  go_loopw [3] (fun i wr => ∃ k : Nat, k ≤ n ∧ i = .int .i64 k ∧ Keeps [] w wr ∧ chkG ((Ps.map rkey).take k) ((Ps.map rkey).drop k) = chk (Ps.map rkey)) (fun i _ => n - (intOf i).toNat)
  case atStart => exact ⟨0, by omega, rfl, Keeps.refl _ _, rfl⟩
  case round =>
    obtain ⟨k, hk, rfl, hkr, hch⟩ := hrel
    by_cases hlt : k < n
    · obtain ⟨x, hx⟩ : ∃ x, Ps[k]? = some x := ⟨_, List.getElem?_eq_getElem (by omega)⟩
      obtain ⟨htk, hdk⟩ := take_at (Ps.map rkey) k (rkey x) (by rw [List.getElem?_map, hx]; rfl)
      rw [hdk] at hch
      obtain ⟨b, rfl, hb, x0, x1, x2, x3, x4⟩ := (H.out.kp hkr).at_ k x hx
      have hki0 : (0 : Int) ≤ (k : Int) := by omega
      have hki1 : (k : Int) < (n : Int) := by omega
      have HC := Lib.hid hch
      have HT := Lib.hid htk
      have HK := Lib.hid hkr
      have hpB := Lib.hid (Blk.new wr 45 #[.int .i64 x.ow, .int .i64 x.ma, .int .i64 x.li, .slice x.wa x.wn x.wc, .int .i64 x.dr])
      clear hch htk hdk hx hkr
      by_cases hok : okP (rkey x)
      · have HOK := Lib.hid hok
        obtain ⟨o1, o2, o3, o4, o5, o6⟩ := (okP_iff _).1 hok
        simp only [rkey] at o1 o2 o3 o4 o5 o6
        clear hok
        go_wp2
        have HKA := Lib.hid (HK.out.alloc (.cells #[.int .i64 x.ow, .int .i64 x.ma, .int .i64 x.li, .slice x.wa x.wn x.wc, .int .i64 x.dr] 45))
        clear x0 x1 x2 x3 x4
        generalize wr.alloc (.cells #[.int .i64 x.ow, .int .i64 x.ma, .int .i64 x.li, .slice x.wa x.wn x.wc, .int .i64 x.dr] 45) = V at *
        have HPB : Hid (Blk V wr.heap.size 45 #[.int .i64 x.ow, .int .i64 x.ma, .int .i64 x.li, .slice x.wa x.wn x.wc, .int .i64 x.dr]) := hpB
        clear hpB HK
        generalize wr.heap.size = p4 at *
        go_loopw [5] (fun i wx => ∃ j : Nat, j ≤ k ∧ i = .int .i64 j ∧ Drawn V wx ∧ ∀ (u : Nat) z, u < j → Ps[u]? = some z → z.ow ≠ x.ow ∧ z.ma ≠ x.ma) (fun i _ => k - (intOf i).toNat)
        case atStart => exact ⟨0, by omega, rfl, Drawn.refl _, by omega⟩
        case round =>
          obtain ⟨j, hj, rfl, hdr, hno⟩ := hrel
          have HN := Lib.hid hno
          have HDR := Lib.hid hdr
          clear hno
          by_cases hjk : j < k
          · obtain ⟨z, hz⟩ : ∃ z, Ps[j]? = some z := ⟨_, List.getElem?_eq_getElem (by omega)⟩
            obtain ⟨b', hbb, _, z0, z1, _⟩ := ((H.out.kp HKA.out).kp ((Keeps.refl [] V).drawn hdr)).at_ j z hz
            injection hbb with hbb
            injection hbb with hbb
            subst hbb
            have p0 : wr.cell? ⟨p4, 0, none⟩ = some (.int .i64 x.ow) := (HPB.out.drawn hdr).cell 0
            have p1 : wr.cell? ⟨p4, 1, none⟩ = some (.int .i64 x.ma) := (HPB.out.drawn hdr).cell 1
            have hj0 : (0 : Int) ≤ (j : Int) := by omega
            have hj1 : (j : Int) < (k : Int) := by omega
            have hj2 : (j : Int) < (n : Int) := by omega
            have HZ := Lib.hid hz
            clear hdr hz
            by_cases hzo : z.ow = x.ow
            · have h15 : chk (Ps.map rkey) = 15 := by
                rw [← HC.out, chkG, if_pos HOK.out, if_pos ((like_take Ps k (rkey x)).2 ⟨j, z, hjk, HZ.out, .inl hzo⟩)]
              have H15 := Lib.hid h15
              rw [hzo] at z0
              clear h15 hzo
              go_wp2_with fail
              go_quiet (fail)
              go_wp2
              go_ret
              exact ⟨by rw [H15.out]; rfl, (HKA.out.drawn HDR.out).drawn ⟨_, rfl⟩⟩
            · have hzo2 : (z.ow == x.ow) = false := by simpa using hzo
              by_cases hzm : z.ma = x.ma
              · have h15 : chk (Ps.map rkey) = 15 := by
                  rw [← HC.out, chkG, if_pos HOK.out, if_pos ((like_take Ps k (rkey x)).2 ⟨j, z, hjk, HZ.out, .inr hzm⟩)]
                have H15 := Lib.hid h15
                rw [hzm] at z1
                clear h15 hzm hzo
                go_wp2_with fail
                go_quiet (fail)
                go_wp2
                go_ret
                exact ⟨by rw [H15.out]; rfl, (HKA.out.drawn HDR.out).drawn ⟨_, rfl⟩⟩
              · have hzm2 : (z.ma == x.ma) = false := by simpa using hzm
                have HZZ := Lib.hid (And.intro hzo hzm)
                clear hzo hzm
                go_wp2_with fail
                go_quiet (fail)
                go_wp2
                go_roundw
                case rel => exact ⟨j + 1, by omega, by go_num, HDR.out.draws _, fun u v hu hv => by
                  by_cases hu' : u < j
                  · exact HN.out u v hu' hv
                  · obtain rfl : u = j := by omega
                    have := HZ.out
                    rw [this] at hv; injection hv with hv; subst hv; exact HZZ.out⟩
                case measure => simp [intOf]; omega
          · obtain rfl : j = k := by omega
            have hno : ((Ps.map rkey).take j).any (likeB (rkey x)) = false := by
              rw [Bool.eq_false_iff]
              intro h9
              obtain ⟨u, z, hu, hz, hl9⟩ := (like_take Ps j (rkey x)).1 h9
              have := HN.out u z hu hz
              rcases hl9 with h9 | h9
              · exact this.1 h9
              · exact this.2 h9
            have hch2 : chkG ((Ps.map rkey).take (j + 1)) ((Ps.map rkey).drop (j + 1)) = chk (Ps.map rkey) := by
              rw [← HC.out, chkG, if_pos HOK.out, if_neg (by rw [hno]; decide), HT.out]
            have HCH := Lib.hid hch2
            clear hno hch2 hdr
            go_wp2
            go_roundw
            case rel => exact ⟨j + 1, by omega, by go_num, HKA.out.drawn HDR.out, HCH.out⟩
            case measure => simp [intOf]; omega
      · have h2 : chk (Ps.map rkey) = 2 := by rw [← HC.out, chkG, if_neg hok]
        have H2 := Lib.hid (And.intro h2 (HK.out.alloc (.cells #[.int .i64 x.ow, .int .i64 x.ma, .int .i64 x.li, .slice x.wa x.wn x.wc, .int .i64 x.dr] 45)))
        rw [okP_iff] at hok
        simp only [rkey] at hok
        clear h2 HC HT hpB
        by_cases o1 : x.ow < 1
        · clear hok
          go_wp2
          go_ret
          exact ⟨by rw [H2.out.1]; rfl, H2.out.2⟩
        · by_cases o2 : 8 < x.ow
          · clear hok
            go_wp2
            go_ret
            exact ⟨by rw [H2.out.1]; rfl, H2.out.2⟩
          · by_cases o3 : x.ma < 0
            · clear hok
              go_wp2
              go_ret
              exact ⟨by rw [H2.out.1]; rfl, H2.out.2⟩
            · by_cases o4 : 255 < x.ma
              · clear hok
                go_wp2
                go_ret
                exact ⟨by rw [H2.out.1]; rfl, H2.out.2⟩
              · by_cases o5 : x.li < 0
                · clear hok
                  go_wp2
                  go_ret
                  exact ⟨by rw [H2.out.1]; rfl, H2.out.2⟩
                · have o6 : 16 < x.li := by omega
                  clear hok
                  go_wp2
                  go_ret
                  exact ⟨by rw [H2.out.1]; rfl, H2.out.2⟩
    · obtain rfl : k = n := by omega
      have h1 : chk (Ps.map rkey) = 0 := by
        rw [← hch, List.drop_eq_nil_of_le (by simp; omega)]
        simp [chkG]
      have HK := Lib.hid (And.intro h1 hkr)
      clear hch h1 hkr
      go_wp2
      go_ret
      exact ⟨by rw [HK.out.1]; rfl, HK.out.2⟩
end Nc
end Go.Proofs.Ytdbkgpnbmafpmaa
