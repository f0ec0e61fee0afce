/- The document's ports: For. -/
import Derived.Test.YtdbkgpnbmafpmaaNicH
namespace Go.Proofs.Ytdbkgpnbmafpmaa
open Go.RowKit Go.Maps
namespace Nc
open Sm Fr
open PlainAid (bt)
/-- Where the port is that bytes are for. -/
def fi (Ps : List RP) (s : ByteArray) : Int := if pE s = 0 then (match Ps.findIdx? (fun x => x.ma == bt s 0) with | some i => (i : Int) | none => -1) else -1
theorem fi_bad {Ps : List RP} {s : ByteArray} (h : pE s ≠ 0) : fi Ps s = -1 := by unfold fi; rw [if_neg h]
theorem fi_at {Ps : List RP} {s : ByteArray} {i : Nat} {x : RP} (h : pE s = 0) (hx : Ps[i]? = some x) (ho : x.ma = bt s 0) (hno : ∀ j z, j < i → Ps[j]? = some z → z.ma ≠ bt s 0) : fi Ps s = i := by
  unfold fi
  rw [if_pos h]
  have hi := (List.getElem?_eq_some_iff.1 hx).1
  have hxe : Ps[i] = x := by rw [List.getElem?_eq_getElem hi] at hx; injection hx
  have : Ps.findIdx? (fun x => x.ma == bt s 0) = some i := by
    rw [List.findIdx?_eq_some_iff_getElem]
    refine ⟨hi, by rw [hxe]; simpa using ho, fun j hj => by simpa using hno j _ hj (List.getElem?_eq_getElem (by omega))⟩
  rw [this]
theorem fi_no {Ps : List RP} {s : ByteArray} (hno : ∀ (j : Nat) z, Ps[j]? = some z → z.ma ≠ bt s 0) : fi Ps s = -1 := by
  unfold fi
  have : Ps.findIdx? (fun x => x.ma == bt s 0) = none := by
    rw [List.findIdx?_eq_none_iff]
    intro x hx
    obtain ⟨i, hi, rfl⟩ := List.getElem_of_mem hx
    simpa using hno i _ (List.getElem?_eq_getElem hi)
  rw [this]
  by_cases h : pE s = 0
  · rw [if_pos h]
  · rw [if_neg h]
set_option maxRecDepth 100000 in
set_option maxHeartbeats 1000000 in
theorem rfor_any (a : Option Addr) (n c : Nat) (Ps : List RP) (s : ByteArray) (w : World) (h : Rr w a n Ps) (hn : n ≤ 8) (hm : s.size ≤ 9223372036854775807) : Calls Try.prog 13 #[.slice a n c, .string s] w fun e w' => e = .returned (.int .i64 (fi Ps s)) ∧ Keeps [] w w' := by
  have hl := h.1
  have H := Lib.hid h
  clear h
  by_cases h0 : pE s = 0
  · have HP := Lib.hid (rparse_good s w hm h0)
    have HAT := Lib.hid (fun (i : Nat) (x : RP) => fi_at (Ps := Ps) (i := i) (x := x) h0)
    have HNO := Lib.hid (fi_no (Ps := Ps) (s := s))
    clear h0
    generalize fi Ps s = res at *
    generalize bt s 0 = b0 at *
    go_enter Try.func13, Try.ntmps13
    go_wp2_with fail
    refine HP.out.mono ?_
    rintro e w1 ⟨r, rfl, hr, hb⟩
    have hk1 : Keeps [] w (w1.alloc (.cells #[.int .i64 b0, .int .i64 (bt s 1), .string r] 65)) := (Keeps.of_below hb []).alloc _
    have HKA := Lib.hid hk1
    have HPB : Hid (Blk _ w1.heap.size 65 #[.int .i64 b0, .int .i64 (bt s 1), .string r]) := Lib.hid (Blk.new w1 65 #[.int .i64 b0, .int .i64 (bt s 1), .string r])
    clear hk1 hb hr HP
    go_wp2
    generalize w1.alloc (.cells #[.int .i64 b0, .int .i64 (bt s 1), .string r] 65) = V at *
    generalize w1.heap.size = p5 at *
    go_loopw [7] (fun i wr => ∃ j : Nat, j ≤ n ∧ i = .int .i64 j ∧ Drawn V wr ∧ ∀ (u : Nat) z, u < j → Ps[u]? = some z → z.ma ≠ b0) (fun i _ => n - (intOf i).toNat)
    case atStart => exact ⟨0, by omega, rfl, Drawn.refl _, by omega⟩
    case round =>
      obtain ⟨j, hj, rfl, hdr, hno⟩ := hrel
      have HN := Lib.hid hno
      have HDR := Lib.hid hdr
      clear hno
      by_cases hlt : j < n
      · obtain ⟨x, hx⟩ : ∃ x, Ps[j]? = some x := ⟨_, List.getElem?_eq_getElem (by omega)⟩
        obtain ⟨b, rfl, hb, _, x1, _⟩ := ((H.out.kp HKA.out).kp ((Keeps.refl [] V).drawn hdr)).at_ j x hx
        have p0 : wr.cell? ⟨p5, 0, none⟩ = some (.int .i64 b0) := (HPB.out.drawn hdr).cell 0
        have hj0 : (0 : Int) ≤ (j : Int) := by omega
        have hj1 : (j : Int) < (n : Int) := by omega
        have HX := Lib.hid hx
        clear hdr hx
        by_cases ho : x.ma = b0
        · have hoi := HAT.out j x HX.out ho HN.out
          have HO := Lib.hid hoi
          rw [ho] at x1
          clear hoi ho
          go_wp2_with fail
          go_quiet (fail)
          go_wp2
          go_ret
          exact ⟨by rw [HO.out]; rfl, (HKA.out.drawn HDR.out).drawn ⟨_, rfl⟩⟩
        · have hne : (x.ma == b0) = false := by simpa using ho
          have HZ := Lib.hid ho
          clear ho
          go_wp2_with fail
          go_quiet (fail)
          go_wp2
          go_roundw
          case rel => exact ⟨j + 1, by omega, by go_num, HDR.out.draws _, fun u v hu hv => by
            by_cases hu' : u < j
            · exact HN.out u v hu' hv
            · obtain rfl : u = j := by omega
              have := HX.out
              rw [this] at hv; injection hv with hv; subst hv; exact HZ.out⟩
          case measure => simp [intOf]; omega
      · obtain rfl : j = n := by omega
        have hoi := HNO.out (fun u z hz => HN.out u z (by have := (List.getElem?_eq_some_iff.1 hz).1; omega) hz)
        have HO := Lib.hid hoi
        clear hoi hdr
        go_wp2
        go_ret
        exact ⟨by rw [HO.out]; rfl, HKA.out.drawn HDR.out⟩
  · have HP := Lib.hid (rparse_bad s w hm h0)
    have HB := Lib.hid (fi_bad (Ps := Ps) h0)
    have hne : (pE s == 0) = false := by simpa using h0
    generalize fi Ps s = res at *
    generalize pE s = pe at *
    clear h0
    go_enter Try.func13, Try.ntmps13
    go_wp2_with fail
    refine HP.out.mono ?_
    rintro e w1 ⟨r, rfl, hr, hb⟩
    have HKA := Lib.hid (((Keeps.of_below hb []).alloc (.cells #[.int .i64 0, .int .i64 0, .string r] 65) : Keeps [] w _))
    clear hb hr HP
    by_cases hn0 : 0 < n
    · have hn1 : (0 : Int) < (n : Int) := by omega
      go_wp2
      go_loopw [7] (fun i wr => i = .int .i64 0 ∧ wr = w1.alloc (.cells #[.int .i64 0, .int .i64 0, .string r] 65)) (fun _ _ => 0)
      case atStart => exact ⟨rfl, rfl⟩
      case round =>
        obtain ⟨rfl, rfl⟩ := hrel
        go_wp2
        go_ret
        exact ⟨by rw [HB.out]; rfl, HKA.out⟩
    · obtain rfl : n = 0 := by omega
      go_wp2
      go_loopw [7] (fun i wr => i = .int .i64 0 ∧ wr = w1.alloc (.cells #[.int .i64 0, .int .i64 0, .string r] 65)) (fun _ _ => 0)
      case atStart => exact ⟨rfl, rfl⟩
      case round =>
        obtain ⟨rfl, rfl⟩ := hrel
        go_wp2
        go_ret
        exact ⟨by rw [HB.out]; rfl, HKA.out⟩
end Nc
end Go.Proofs.Ytdbkgpnbmafpmaa
