/- The document's ports: For. The law's ports: the first 8, for both. The law FrameParses: its walk. An argument that is a slice of structs, whatever the number of their fields (each of one cell): what a walk is told of it. The law FramePrints: its walk. -/
import Derived.Test.YtdbkgpnbmafpmaaZfAH
import Derived.Great.BuildSlice
import Derived.Deep.CutRange
import Derived.Test.YtdbkgpnbmafpmaaZfAF
import Derived.Test.YtdbkgpnbmafpmaaZfAA
import Derived.Deep.Slices
import Derived.Deep.Fields
import Derived.ChangeSame
namespace Go.Proofs.Ytdbkgpnbmafpmaa
open Go.RowKit Go.Maps
namespace Nc
open Sm Fr
open PlainAid (bt)
/-- Where the port is that bytes are for. -/
def fi (Ps : List RP) (s : ByteArray) : Int := if pE s = 0 then (match Ps.findIdx? (fun x => x.ma == bt s 0) with | some i => (i : Int) | none => -1) else -1
theorem fi_bad {Ps : List RP} {s : ByteArray} (h : pE s ≠ 0) : fi Ps s = -1 := by unfold fi; rw [if_neg h]
theorem fi_at {Ps : List RP} {s : ByteArray} {i : Nat} {x : RP} (h : pE s = 0) (hx : Ps[i]? = some x) (ho : x.ma = bt s 0) (hno : ∀ j z, j < i → Ps[j]? = some z → z.ma ≠ bt s 0) : fi Ps s = i := by
  unfold fi
  rw [if_pos h]
  have hi := (List.getElem?_eq_some_iff.1 hx).1
  have hxe : Ps[i] = x := by rw [List.getElem?_eq_getElem hi] at hx; injection hx
  have : Ps.findIdx? (fun x => x.ma == bt s 0) = some i := by
    rw [List.findIdx?_eq_some_iff_getElem]
    refine ⟨hi, by rw [hxe]; simpa using ho, fun j hj => by simpa using hno j _ hj (List.getElem?_eq_getElem (by omega))⟩
  rw [this]
theorem fi_no {Ps : List RP} {s : ByteArray} (hno : ∀ (j : Nat) z, Ps[j]? = some z → z.ma ≠ bt s 0) : fi Ps s = -1 := by
  unfold fi
  have : Ps.findIdx? (fun x => x.ma == bt s 0) = none := by
    rw [List.findIdx?_eq_none_iff]
    intro x hx
    obtain ⟨i, hi, rfl⟩ := List.getElem_of_mem hx
    simpa using hno i _ (List.getElem?_eq_getElem hi)
  rw [this]
  by_cases h : pE s = 0
  · rw [if_pos h]
  · rw [if_neg h]
set_option maxRecDepth 100000 in
set_option maxHeartbeats 1000000 in
theorem rfor_any (a : Option Addr) (n c : Nat) (Ps : List RP) (s : ByteArray) (w : World) (h : Rr w a n Ps) (hn : n ≤ 8) (hm : s.size ≤ 9223372036854775807) : Calls Try.prog 13 #[.slice a n c, .string s] w fun e w' => e = .returned (.int .i64 (fi Ps s)) ∧ Keeps [] w w' := by
  have hl := h.1
  have H := Lib.hid h
  clear h
  by_cases h0 : pE s = 0
  · have HP := Lib.hid (rparse_good s w hm h0)
    have HAT := Lib.hid (fun (i : Nat) (x : RP) => fi_at (Ps := Ps) (i := i) (x := x) h0)
    have HNO := Lib.hid (fi_no (Ps := Ps) (s := s))
    clear h0
    generalize fi Ps s = res at *
    generalize bt s 0 = b0 at *
    go_enter Try.func13, Try.ntmps13
    go_wp2_with fail
    refine HP.out.mono ?_
    rintro e w1 ⟨r, rfl, hr, hb⟩
    have hk1 : Keeps [] w (w1.alloc (.cells #[.int .i64 b0, .int .i64 (bt s 1), .string r] 65)) := (Keeps.of_below hb []).alloc _
    have HKA := Lib.hid hk1
    have HPB : Hid (Blk _ w1.heap.size 65 #[.int .i64 b0, .int .i64 (bt s 1), .string r]) := Lib.hid (Blk.new w1 65 #[.int .i64 b0, .int .i64 (bt s 1), .string r])
    clear hk1 hb hr HP
    go_wp2
    generalize w1.alloc (.cells #[.int .i64 b0, .int .i64 (bt s 1), .string r] 65) = V at *
    generalize w1.heap.size = p5 at *
    go_loopw [7] (fun i wr => ∃ j : Nat, j ≤ n ∧ i = .int .i64 j ∧ Drawn V wr ∧ ∀ (u : Nat) z, u < j → Ps[u]? = some z → z.ma ≠ b0) (fun i _ => n - (intOf i).toNat)
    case atStart => exact ⟨0, by omega, rfl, Drawn.refl _, by omega⟩
    case round =>
      obtain ⟨j, hj, rfl, hdr, hno⟩ := hrel
      have HN := Lib.hid hno
      have HDR := Lib.hid hdr
      clear hno
      by_cases hlt : j < n
      · obtain ⟨x, hx⟩ : ∃ x, Ps[j]? = some x := ⟨_, List.getElem?_eq_getElem (by omega)⟩
        obtain ⟨b, rfl, hb, _, x1, _⟩ := ((H.out.kp HKA.out).kp ((Keeps.refl [] V).drawn hdr)).at_ j x hx
        have p0 : wr.cell? ⟨p5, 0, none⟩ = some (.int .i64 b0) := (HPB.out.drawn hdr).cell 0
        have hj0 : (0 : Int) ≤ (j : Int) := by omega
        have hj1 : (j : Int) < (n : Int) := by omega
        have HX := Lib.hid hx
        clear hdr hx
        by_cases ho : x.ma = b0
        · have hoi := HAT.out j x HX.out ho HN.out
          have HO := Lib.hid hoi
          rw [ho] at x1
          clear hoi ho
          go_wp2_with fail
          go_quiet (fail)
          go_wp2
          go_ret
          exact ⟨by rw [HO.out]; rfl, (HKA.out.drawn HDR.out).drawn ⟨_, rfl⟩⟩
        · have hne : (x.ma == b0) = false := by simpa using ho
          have HZ := Lib.hid ho
          clear ho
          go_wp2_with fail
          go_quiet (fail)
          go_wp2
          go_roundw
          case rel => exact ⟨j + 1, by omega, by go_num, HDR.out.draws _, fun u v hu hv => by
            by_cases hu' : u < j
            · exact HN.out u v hu' hv
            · obtain rfl : u = j := by omega
              have := HX.out
              rw [this] at hv; injection hv with hv; subst hv; exact HZ.out⟩
          case measure => simp [intOf]; omega
      · obtain rfl : j = n := by omega
        have hoi := HNO.out (fun u z hz => HN.out u z (by have := (List.getElem?_eq_some_iff.1 hz).1; omega) hz)
        have HO := Lib.hid hoi
        clear hoi hdr
        go_wp2
        go_ret
        exact ⟨by rw [HO.out]; rfl, HKA.out.drawn HDR.out⟩
  · have HP := Lib.hid (rparse_bad s w hm h0)
    have HB := Lib.hid (fi_bad (Ps := Ps) h0)
    have hne : (pE s == 0) = false := by simpa using h0
    generalize fi Ps s = res at *
    generalize pE s = pe at *
    clear h0
    go_enter Try.func13, Try.ntmps13
    go_wp2_with fail
    refine HP.out.mono ?_
    rintro e w1 ⟨r, rfl, hr, hb⟩
    have HKA := Lib.hid (((Keeps.of_below hb []).alloc (.cells #[.int .i64 0, .int .i64 0, .string r] 65) : Keeps [] w _))
    clear hb hr HP
    by_cases hn0 : 0 < n
    · have hn1 : (0 : Int) < (n : Int) := by omega
      go_wp2
      go_loopw [7] (fun i wr => i = .int .i64 0 ∧ wr = w1.alloc (.cells #[.int .i64 0, .int .i64 0, .string r] 65)) (fun _ _ => 0)
      case atStart => exact ⟨rfl, rfl⟩
      case round =>
        obtain ⟨rfl, rfl⟩ := hrel
        go_wp2
        go_ret
        exact ⟨by rw [HB.out]; rfl, HKA.out⟩
    · obtain rfl : n = 0 := by omega
      go_wp2
      go_loopw [7] (fun i wr => i = .int .i64 0 ∧ wr = w1.alloc (.cells #[.int .i64 0, .int .i64 0, .string r] 65)) (fun _ _ => 0)
      case atStart => exact ⟨rfl, rfl⟩
      case round =>
        obtain ⟨rfl, rfl⟩ := hrel
        go_wp2
        go_ret
        exact ⟨by rw [HB.out]; rfl, HKA.out⟩
end Nc
end Go.Proofs.Ytdbkgpnbmafpmaa
namespace Go.Proofs.Ytdbkgpnbmafpmaa
open Go.RowKit Go.Maps
namespace Nc
open Sm
def rps (xs : List Pr) : List RP := xs.map (fun p => ⟨p.ow, p.ma, p.li, none, 0, 0, 0⟩)
def rflat (Ps : List RP) : List Value := Ps.flatMap rpc
theorem rflat_len (l : List RP) : (rflat l).length = l.length * 5 := by
  induction l with
  | nil => rfl
  | cons x t ih => simp only [rflat, List.flatMap_cons, List.length_append, List.length_cons] at ih ⊢; rw [ih]; simp [rpc]; omega
theorem rpc_one (x : RP) : ∀ u ∈ rpc x, u.oneCell' = true := by
  intro u hu
  simp only [rpc, List.mem_cons, List.not_mem_nil, or_false] at hu
  rcases hu with rfl | rfl | rfl | rfl | rfl <;> rfl
theorem rflat_app (a b : List RP) : rflat (a ++ b) = rflat a ++ rflat b := by simp [rflat]
theorem rflat_get (l : List RP) : ∀ (i : Nat) (x : RP), l[i]? = some x → ∀ j, j < 5 → (rflat l)[i * 5 + j]? = (rpc x)[j]? := by
  induction l with
  | nil => intro i x h; simp at h
  | cons y t ih =>
    intro i x h j hj
    have e : rflat (y :: t) = rpc y ++ rflat t := by simp [rflat]
    rw [e]
    rcases i with _ | i
    · simp at h
      subst h
      rw [Nat.zero_mul, Nat.zero_add, List.getElem?_append_left (by simpa [rpc] using hj)]
    · simp at h
      rw [List.getElem?_append_right (by simp [rpc]; omega)]
      rw [show (i + 1) * 5 + j - (rpc y).length = i * 5 + j from by simp [rpc]; omega]
      exact ih i x h j hj
theorem rr_own {w : World} {B n c : Nat} {a : Option Addr} {Ps : List RP} (h : w.ownsRow B 45 5 (.slice a n c) n (rflat Ps)) (hl : Ps.length = n) : Rr w a n Ps := by
  refine ⟨hl, fun h0 => ?_⟩
  obtain ⟨b, cap, hv, _, hlt⟩ := h.form h0
  injection hv with e1
  subst e1
  refine ⟨b, rfl, hlt, fun i x hx j u hu => ?_⟩
  have hi := (List.getElem?_eq_some_iff.1 hx).1
  have hj := (List.getElem?_eq_some_iff.1 hu).1
  rw [h.cellAt (i * 5 + j) (by simp [rpc] at hj; omega), rflat_get Ps i x hx j (by simpa [rpc] using hj)]
  exact hu
theorem rp_info : (Try.prog.info? 45).map (fun i => (i.zero, i.size, i.bytes)) = some (some (.agg #[.int .i64 0, .int .i64 0, .int .i64 0, .slice none 0 0, .int .i64 0]), 5, 56) := by kernel_rfl
/-- What ports answers. -/
def IsPorts (a : Option Addr) (n cap : Nat) (xs : List Pr) (w : World) (e : Ending) (w' : World) : Prop :=
  ∃ a' c', e = .returned (.tuple #[.slice a n cap, .slice a' n c']) ∧ Keeps [] w w' ∧ w'.ownsRow w.heap.size 45 5 (.slice a' n c') n (rflat (rps xs))
theorem rps_len (xs : List Pr) : (rps xs).length = xs.length := by simp [rps]
theorem rps_key (xs : List Pr) : (rps xs).map rkey = xs := by
  unfold rps
  rw [List.map_map]
  exact (List.map_congr_left (fun _ _ => rfl)).trans (List.map_id _)
theorem reads5 {w : World} {b : Nat} {x : RP} (h : Blk w b 45 (rpc x).toArray) : Reads w w.heap.size 5 (some ⟨b, 0, none⟩) 1 (rpc x) := by
  refine ⟨rfl, fun _ => ⟨_, rfl, h.lt, fun j u hu => ?_⟩⟩
  have e : (⟨b, 0, none⟩ : Addr).add j = ⟨b, j, none⟩ := by unfold Addr.add; by_cases h0 : j = 0 <;> simp [h0]
  rw [e, h.cell]
  simpa using hu
attribute [local irreducible] rps rflat
theorem rps_snoc (xs : List Pr) (x : Pr) : rflat (rps (xs ++ [x])) = rflat (rps xs) ++ rpc ⟨x.ow, x.ma, x.li, none, 0, 0, 0⟩ := by
  unfold rps
  rw [List.map_append, rflat_app]
  unfold rflat
  simp
set_option maxRecDepth 100000 in
set_option maxHeartbeats 2000000 in
theorem ports_any (a : Option Addr) (len n cap : Nat) (xs : List Pr) (w : World) (hR : Rows3 w a n xs) (hn : n ≤ 8) (hl : len ≤ cap) (hc : cap ≤ 9223372036854775807) (hmn : (n = len ∨ (n = 8 ∧ 8 < len))) (h0 : a = none → cap = 0) :
    Calls Try.prog 7 #[.slice a len cap] w (IsPorts a n cap xs w) := by
  obtain ⟨i0, hi0, hz0, hz1, hz2⟩ := info_parts rp_info
  have HI := Lib.hid (And.intro hi0 (And.intro hz0 (And.intro hz1 hz2)))
  clear hi0 hz0 hz1 hz2
  have HR := Lib.hid hR
  have hxl := hR.1
  have hmi : (if (len : Int) ≤ 8 then (len : Int) else 8) = (n : Int) := by
    rcases hmn with rfl | ⟨rfl, h9⟩
    · rw [if_pos (by omega)]
    · rw [if_neg (by omega)]; rfl
  have hown0 := FiF.own_emptyF w w.heap.size (Nat.le_refl _) 45 5
  have hk0 : Keeps [] w (w.alloc (.cells #[] 45)) := (Keeps.refl _ _).alloc _
  have H0 := Lib.hid (And.intro hown0 hk0)
  clear hR hown0 hk0 h0
  rcases hmn with rfl | ⟨rfl, h9⟩
  · go_wp2
    generalize w.alloc (.cells #[] 45) = V0 at *
    have hs0 : w.heap.size ≤ w.heap.size := Nat.le_refl _
    go_loopw [4, 5] (fun u i wr => ∃ (k : Nat) (a' : Option Addr) (c' : Nat), k ≤ n ∧ i = .int .i64 k ∧ u = .slice a' k c' ∧ wr.ownsRow w.heap.size 45 5 (.slice a' k c') k (rflat (rps (xs.take k))) ∧ Keeps [] w wr) (fun u i _ => n - (intOf i).toNat)
    case atStart => exact ⟨0, _, 0, by omega, rfl, rfl, by simpa [rps, rflat] using H0.out.1, H0.out.2⟩
    case round =>
      obtain ⟨k, a', c', hk, rfl, rfl, hown, hkr⟩ := hrel
      have HN := Lib.hid (And.intro hown hkr)
      clear H0
      by_cases hlt : k < n
      · obtain ⟨x, hx⟩ : ∃ x, xs[k]? = some x := ⟨_, List.getElem?_eq_getElem (by omega)⟩
        obtain ⟨htk, _⟩ := take_at xs k x hx
        obtain ⟨b, off, rfl, hbl, hc⟩ := (HR.out.kp hkr).2 (by omega)
        obtain ⟨x0, x1, x2⟩ := hc k x hx
        have hki0 : (0 : Int) ≤ (k : Int) := by omega
        have hki1 : (k : Int) < (n : Int) := by omega
        have HT := Lib.hid htk
        clear htk hc hx
        have hb0 : b < w.heap.size := by
          obtain ⟨b', off', e1, e2, _⟩ := HR.out.2 (by omega)
          injection e1 with e1
          injection e1 with e1
          omega
        have HKA := Lib.hid (((Keeps.refl [] wr).alloc (.cells #[.int .i64 x.ow, .int .i64 x.ma, .int .i64 x.li, .slice none 0 0, .int .i64 0] 45)).drew)
        have hownA := ownsRow_keeps hown HKA.out (by simp)
        have hrdA := reads5 (x := ⟨x.ow, x.ma, x.li, none, 0, 0, 0⟩) ((Blk.new wr 45 #[.int .i64 x.ow, .int .i64 x.ma, .int .i64 x.li, .slice none 0 0, .int .i64 0]).drew)
        clear hown hkr
        go_wp2
        refine wp_region_held_drew (S := (fun V => V.cell? ⟨b, off + k * 3, none⟩ = some (.int .i64 x.ow) ∧ V.cell? ⟨b, off + k * 3 + 1, none⟩ = some (.int .i64 x.ma) ∧ V.cell? ⟨b, off + k * 3 + 2, none⟩ = some (.int .i64 x.li))) (by kernel_rfl) ⟨x0, x1, x2⟩ (fun hHeld => ?_)
        refine' wpAnyH_take (i := 0) (oi := _) (v := _) ?hP0 (by kernel_rfl) (by kernel_rfl) (by kernel_rfl) ?hQP0 (Or.inl ⟨?hwP0, ?hyP0⟩) hHeld ?restP0
        case hP0 => (simp only [List.getElem?_toArray, List.getElem?_cons_zero]; rfl)
        case hQP0 => exact fun _ _ _ h => h
        case hwP0 => rfl
        case hyP0 => (intro w hSw; (try dsimp only at hSw); go_simp; try with_reducible rfl)
        try simp only [Act.put, List.setIfInBounds_toArray, List.set_cons_zero, List.set_cons_succ]
        refine' wpAnyH_take (i := 1) (oi := _) (v := _) ?hP1 (by kernel_rfl) (by kernel_rfl) (by kernel_rfl) ?hQP1 (Or.inl ⟨?hwP1, ?hyP1⟩) hHeld ?restP1
        case hP1 => (simp only [List.getElem?_toArray, List.getElem?_cons_succ, List.getElem?_cons_zero]; rfl)
        case hQP1 => exact fun _ _ _ h => h
        case hwP1 => rfl
        case hyP1 => (intro w hSw; (try dsimp only at hSw); go_simp; try with_reducible rfl)
        try simp only [Act.put, List.setIfInBounds_toArray, List.set_cons_zero, List.set_cons_succ]
        refine' wpAnyH_take (i := 2) (oi := _) (v := _) ?hP2 (by kernel_rfl) (by kernel_rfl) (by kernel_rfl) ?hQP2 (Or.inl ⟨?hwP2, ?hyP2⟩) hHeld ?restP2
        case hP2 => (simp only [List.getElem?_toArray, List.getElem?_cons_succ, List.getElem?_cons_zero]; rfl)
        case hQP2 => exact fun _ _ _ h => h
        case hwP2 => rfl
        case hyP2 => (intro w hSw; (try dsimp only at hSw); go_simp; try with_reducible rfl)
        try simp only [Act.put, List.setIfInBounds_toArray, List.set_cons_zero, List.set_cons_succ]
        refine' wpAnyH_take (i := 3) (oi := _) (v := _) ?hP3 (by kernel_rfl) (by kernel_rfl) (by kernel_rfl) ?hQP3 (Or.inl ⟨?hwP3, ?hyP3⟩) hHeld ?restP3
        case hP3 => (simp only [List.getElem?_toArray, List.getElem?_cons_succ, List.getElem?_cons_zero]; rfl)
        case hQP3 => exact fun _ _ _ h => h
        case hwP3 => rfl
        case hyP3 => (intro w hSw; (try dsimp only at hSw); go_simp; try with_reducible rfl)
        try simp only [Act.put, List.setIfInBounds_toArray, List.set_cons_zero, List.set_cons_succ]
        refine' wpAnyH_take (i := 4) (oi := _) (v := _) ?hP4 (by kernel_rfl) (by kernel_rfl) (by kernel_rfl) ?hQP4 (Or.inl ⟨?hwP4, ?hyP4⟩) hHeld ?restP4
        case hP4 => (simp only [List.getElem?_toArray, List.getElem?_cons_succ, List.getElem?_cons_zero]; rfl)
        case hQP4 => exact fun _ _ _ h => h
        case hwP4 => rfl
        case hyP4 => (intro w hSw; (try dsimp only at hSw); go_simp; try with_reducible rfl)
        try simp only [Act.put, List.setIfInBounds_toArray, List.set_cons_zero, List.set_cons_succ]
        refine' wpAnyH_take (i := 5) (oi := _) (v := _) ?hP5 (by kernel_rfl) (by kernel_rfl) (by kernel_rfl) ?hQP5 (Or.inl ⟨?hwP5, ?hyP5⟩) hHeld ?restP5
        case hP5 => (simp only [List.getElem?_toArray, List.getElem?_cons_succ, List.getElem?_cons_zero]; rfl)
        case hQP5 => exact fun _ _ _ h => h
        case hwP5 => rfl
        case hyP5 => (intro w hSw; (try dsimp only at hSw); go_simp; try with_reducible rfl)
        try simp only [Act.put, List.setIfInBounds_toArray, List.set_cons_zero, List.set_cons_succ]
        refine' wpAnyH_take (i := 6) (oi := _) (v := _) ?hP6 (by kernel_rfl) (by kernel_rfl) (by kernel_rfl) ?hQP6 (Or.inl ⟨?hwP6, ?hyP6⟩) hHeld ?restP6
        case hP6 => (simp only [List.getElem?_toArray, List.getElem?_cons_succ, List.getElem?_cons_zero]; rfl)
        case hQP6 => exact fun _ _ _ h => h
        case hwP6 => rfl
        case hyP6 => (intro w hSw; (try dsimp only at hSw); go_simp; try with_reducible rfl)
        try simp only [Act.put, List.setIfInBounds_toArray, List.set_cons_zero, List.set_cons_succ]
        refine' wpAnyH_take (i := 7) (oi := _) (v := _) ?hP7 (by kernel_rfl) (by kernel_rfl) (by kernel_rfl) ?hQP7 (Or.inl ⟨?hwP7, ?hyP7⟩) hHeld ?restP7
        case hP7 => (simp only [List.getElem?_toArray, List.getElem?_cons_succ, List.getElem?_cons_zero]; rfl)
        case hQP7 => exact fun _ _ _ h => h
        case hwP7 => rfl
        case hyP7 => (intro w hSw; (try dsimp only at hSw); go_simp; try with_reducible rfl)
        try simp only [Act.put, List.setIfInBounds_toArray, List.set_cons_zero, List.set_cons_succ]
        refine' wpAnyH_take (i := 8) (oi := _) (v := _) ?hP8 (by kernel_rfl) (by kernel_rfl) (by kernel_rfl) ?hQP8 (Or.inl ⟨?hwP8, ?hyP8⟩) hHeld ?restP8
        case hP8 => (simp only [List.getElem?_toArray, List.getElem?_cons_succ, List.getElem?_cons_zero]; rfl)
        case hQP8 => exact fun _ _ _ h => h
        case hwP8 => rfl
        case hyP8 => (intro w hSw; (try dsimp only at hSw); go_simp; try with_reducible rfl)
        try simp only [Act.put, List.setIfInBounds_toArray, List.set_cons_zero, List.set_cons_succ]
        refine' wpAnyH_take (i := 9) (oi := _) (v := _) ?hP9 (by kernel_rfl) (by kernel_rfl) (by kernel_rfl) ?hQP9 (Or.inl ⟨?hwP9, ?hyP9⟩) hHeld ?restP9
        case hP9 => (simp only [List.getElem?_toArray, List.getElem?_cons_succ, List.getElem?_cons_zero]; rfl)
        case hQP9 => exact fun _ _ _ h => h
        case hwP9 => rfl
        case hyP9 => (intro w hSw; (try dsimp only at hSw); go_simp; try with_reducible rfl)
        try simp only [Act.put, List.setIfInBounds_toArray, List.set_cons_zero, List.set_cons_succ]
        refine' wpAnyH_take (i := 10) (oi := _) (v := _) ?hP10 (by kernel_rfl) (by kernel_rfl) (by kernel_rfl) ?hQP10 (Or.inl ⟨?hwP10, ?hyP10⟩) hHeld ?restP10
        case hP10 => (simp only [List.getElem?_toArray, List.getElem?_cons_succ, List.getElem?_cons_zero]; rfl)
        case hQP10 => exact fun _ _ _ h => h
        case hwP10 => rfl
        case hyP10 => (intro w hSw; (try dsimp only at hSw); go_simp; try with_reducible rfl)
        try simp only [Act.put, List.setIfInBounds_toArray, List.set_cons_zero, List.set_cons_succ]
        refine' wpAnyH_take (i := 11) (oi := _) (v := _) ?hP11 (by kernel_rfl) (by kernel_rfl) (by kernel_rfl) ?hQP11 (Or.inl ⟨?hwP11, ?hyP11⟩) hHeld ?restP11
        case hP11 => (simp only [List.getElem?_toArray, List.getElem?_cons_succ, List.getElem?_cons_zero]; rfl)
        case hQP11 => exact fun _ _ _ h => h
        case hwP11 => rfl
        case hyP11 => (intro w hSw; (try dsimp only at hSw); go_simp; try with_reducible rfl)
        try simp only [Act.put, List.setIfInBounds_toArray, List.set_cons_zero, List.set_cons_succ]
        refine' wpAnyH_take (i := 12) (oi := _) (v := _) ?hP12 (by kernel_rfl) (by kernel_rfl) (by kernel_rfl) ?hQP12 (Or.inl ⟨?hwP12, ?hyP12⟩) hHeld ?restP12
        case hP12 => (simp only [List.getElem?_toArray, List.getElem?_cons_succ, List.getElem?_cons_zero]; rfl)
        case hQP12 => exact fun _ _ _ h => h
        case hwP12 => rfl
        case hyP12 => (intro w hSw; (try dsimp only at hSw); go_simp; try with_reducible rfl)
        try simp only [Act.put, List.setIfInBounds_toArray, List.set_cons_zero, List.set_cons_succ]
        refine' wpAnyH_take (i := 13) (oi := _) (v := _) ?hP13 (by kernel_rfl) (by kernel_rfl) (by kernel_rfl) ?hQP13 (Or.inl ⟨?hwP13, ?hyP13⟩) hHeld ?restP13
        case hP13 => (simp only [List.getElem?_toArray, List.getElem?_cons_succ, List.getElem?_cons_zero]; rfl)
        case hQP13 => exact fun _ _ _ h => h
        case hwP13 => rfl
        case hyP13 => (intro w hSw; (try dsimp only at hSw); go_simp; try with_reducible rfl)
        try simp only [Act.put, List.setIfInBounds_toArray, List.set_cons_zero, List.set_cons_succ]
        refine' wpAnyH_take (i := 14) (oi := _) (v := _) ?hP14 (by kernel_rfl) (by kernel_rfl) (by kernel_rfl) ?hQP14 (Or.inl ⟨?hwP14, ?hyP14⟩) hHeld ?restP14
        case hP14 => (simp only [List.getElem?_toArray, List.getElem?_cons_succ, List.getElem?_cons_zero]; rfl)
        case hQP14 => exact fun _ _ _ h => h
        case hwP14 => rfl
        case hyP14 => (intro w hSw; (try dsimp only at hSw); go_simp; try with_reducible rfl)
        try simp only [Act.put, List.setIfInBounds_toArray, List.set_cons_zero, List.set_cons_succ]
        refine' wpAnyH_take (i := 15) (oi := _) (v := _) ?hP15 (by kernel_rfl) (by kernel_rfl) (by kernel_rfl) ?hQP15 (Or.inl ⟨?hwP15, ?hyP15⟩) hHeld ?restP15
        case hP15 => (simp only [List.getElem?_toArray, List.getElem?_cons_succ, List.getElem?_cons_zero]; rfl)
        case hQP15 => exact fun _ _ _ h => h
        case hwP15 => rfl
        case hyP15 => (intro w hSw; (try dsimp only at hSw); go_simp; try with_reducible rfl)
        try simp only [Act.put, List.setIfInBounds_toArray, List.set_cons_zero, List.set_cons_succ]
        refine' wpAnyH_take (i := 16) (oi := _) (v := _) ?hP16 (by kernel_rfl) (by kernel_rfl) (by kernel_rfl) ?hQP16 (Or.inl ⟨?hwP16, ?hyP16⟩) hHeld ?restP16
        case hP16 => (simp only [List.getElem?_toArray, List.getElem?_cons_succ, List.getElem?_cons_zero]; rfl)
        case hQP16 => exact fun _ _ _ h => h
        case hwP16 => rfl
        case hyP16 => (intro w hSw; (try dsimp only at hSw); go_simp; try with_reducible rfl)
        try simp only [Act.put, List.setIfInBounds_toArray, List.set_cons_zero, List.set_cons_succ]
        refine wpAnyH_ready (rs := [17]) (by kernel_rfl) (by simp) ?_
        refine AllReadyH.cons rfl (fun K hK => ?_) AllReadyH.nil
        go_simp
        refine hK.out _ _ (⟨(((Keeps.refl [] wr).alloc (.cells #[.int .i64 x.ow, .int .i64 x.ma, .int .i64 x.li, .slice none 0 0, .int .i64 0] 45)).drew.cell hbl (by simp)).trans hHeld.1, (((Keeps.refl [] wr).alloc (.cells #[.int .i64 x.ow, .int .i64 x.ma, .int .i64 x.li, .slice none 0 0, .int .i64 0] 45)).drew.cell hbl (by simp)).trans hHeld.2.1, (((Keeps.refl [] wr).alloc (.cells #[.int .i64 x.ow, .int .i64 x.ma, .int .i64 x.li, .slice none 0 0, .int .i64 0] 45)).drew.cell hbl (by simp)).trans hHeld.2.2⟩) (fun hHeld' => ?_)
        clear hK K hHeld
        have hHeld := hHeld'
        clear hHeld'
        try simp only [Act.put, List.setIfInBounds_toArray, List.set_cons_zero, List.set_cons_succ]
        refine wpAnyH_ready (rs := [18]) (by kernel_rfl) (by simp) ?_
        refine' AllReadyH.cons (o := _) ?hoP18 (fun K hK => ?stP18) AllReadyH.nil
        case hoP18 => (simp only [List.getElem?_toArray, List.getElem?_cons_succ, List.getElem?_cons_zero]; rfl)
        rw [if_pos (by rfl)]
        refine wp_append_any _ (.tmp 18) (.tmp 35) 24 rfl w.heap.size 45 i0 _ 5 56 Try.underlying24 HI.out.1 HI.out.2.1 HI.out.2.2.1 HI.out.2.2.2 rfl (by decide) (.slice a' k c') k _ rfl hownA _ _ 1 1 (rpc ⟨x.ow, x.ma, x.li, none, 0, 0, 0⟩) rfl hrdA (rpc_one _) (by simp only [maxLen]; omega) (by omega) (by have := HN.out.2.size; have := HKA.out.size; omega) ?_
        intro v2 V2 hown2 hg2 hat2
        obtain ⟨p2, c2, hv2⟩ := FiF.own_formF hown2
        subst hv2
        have hkb : ∀ p : Addr, p.block = b → V2.cell? p = (wr.alloc (.cells #[.int .i64 x.ow, .int .i64 x.ma, .int .i64 x.li, .slice none 0 0, .int .i64 0] 45)).drew.cell? p := fun p hp => World.cell?_of_block (hg2.block p.block (by rw [hp]; have := HKA.out.size; omega) (fun e => by have := (hownA.lt _ e.symm).1; omega))
        have HG := Lib.hid (And.intro hown2 ((HN.out.2.trans HKA.out).grown hg2 (fun b hb => .inr (by have := (hownA.lt b hb).1; omega))))
        clear hat2 hown2 hg2
        refine hK.out _ _ (⟨(hkb _ rfl).trans hHeld.1, (hkb _ rfl).trans hHeld.2.1, (hkb _ rfl).trans hHeld.2.2⟩) (fun hHeld' => ?_)
        clear hK K hHeld
        have hHeld := hHeld'
        clear hHeld'
        try simp only [Act.put, List.setIfInBounds_toArray, List.set_cons_zero, List.set_cons_succ]
        refine' wpAnyH_take (i := 19) (oi := _) (v := _) ?hP19 (by kernel_rfl) (by kernel_rfl) (by kernel_rfl) ?hQP19 (Or.inl ⟨?hwP19, ?hyP19⟩) hHeld ?restP19
        case hP19 => (simp only [List.getElem?_toArray, List.getElem?_cons_succ, List.getElem?_cons_zero]; rfl)
        case hQP19 => exact fun _ _ _ h => h
        case hwP19 => rfl
        case hyP19 => (intro w hSw; (try dsimp only at hSw); go_simp; try with_reducible rfl)
        try simp only [Act.put, List.setIfInBounds_toArray, List.set_cons_zero, List.set_cons_succ]
        refine wpAnyH_done (by kernel_rfl) ?_ _
        clear hHeld hkb hrdA hownA x0 x1 x2
        have hs := rps_snoc (xs.take k) x
        rw [← HT.out] at hs
        have hown3 := HG.out.1
        rw [← hs] at hown3
        have HG2 := Lib.hid (And.intro hown3 HG.out.2)
        clear hs hown3 HG HKA
        go_wp2
        go_roundw
        case rel => exact ⟨k + 1, p2, c2, by omega, by go_num, rfl, HG2.out.1, HG2.out.2⟩
        case measure => simp [intOf]; omega
      · obtain rfl : k = n := by omega
        rw [List.take_of_length_le (by omega)] at hown
        have HN := Lib.hid (And.intro hkr hown)
        clear hown hkr
        go_wp2
        refine bodyPost_ret (v := .tuple #[.slice a k cap, .slice a' k c']) (by simp [results, Try.results7, go_sem]) rfl ?_
        exact ⟨a', c', rfl, HN.out.1, HN.out.2⟩
  · go_wp2
    generalize w.alloc (.cells #[] 45) = V0 at *
    have hs0 : w.heap.size ≤ w.heap.size := Nat.le_refl _
    go_loopw [4, 5] (fun u i wr => ∃ (k : Nat) (a' : Option Addr) (c' : Nat), k ≤ 8 ∧ i = .int .i64 k ∧ u = .slice a' k c' ∧ wr.ownsRow w.heap.size 45 5 (.slice a' k c') k (rflat (rps (xs.take k))) ∧ Keeps [] w wr) (fun u i _ => 8 - (intOf i).toNat)
    case atStart => exact ⟨0, _, 0, by omega, rfl, rfl, by simpa [rps, rflat] using H0.out.1, H0.out.2⟩
    case round =>
      obtain ⟨k, a', c', hk, rfl, rfl, hown, hkr⟩ := hrel
      have HN := Lib.hid (And.intro hown hkr)
      clear H0
      by_cases hlt : k < 8
      · obtain ⟨x, hx⟩ : ∃ x, xs[k]? = some x := ⟨_, List.getElem?_eq_getElem (by omega)⟩
        obtain ⟨htk, _⟩ := take_at xs k x hx
        obtain ⟨b, off, rfl, hbl, hc⟩ := (HR.out.kp hkr).2 (by omega)
        obtain ⟨x0, x1, x2⟩ := hc k x hx
        have hki0 : (0 : Int) ≤ (k : Int) := by omega
        have hki1 : (k : Int) < (8 : Int) := by omega
        have HT := Lib.hid htk
        clear htk hc hx
        have hb0 : b < w.heap.size := by
          obtain ⟨b', off', e1, e2, _⟩ := HR.out.2 (by omega)
          injection e1 with e1
          injection e1 with e1
          omega
        have HKA := Lib.hid (((Keeps.refl [] wr).alloc (.cells #[.int .i64 x.ow, .int .i64 x.ma, .int .i64 x.li, .slice none 0 0, .int .i64 0] 45)).drew)
        have hownA := ownsRow_keeps hown HKA.out (by simp)
        have hrdA := reads5 (x := ⟨x.ow, x.ma, x.li, none, 0, 0, 0⟩) ((Blk.new wr 45 #[.int .i64 x.ow, .int .i64 x.ma, .int .i64 x.li, .slice none 0 0, .int .i64 0]).drew)
        clear hown hkr
        go_wp2
        refine wp_region_held_drew (S := (fun V => V.cell? ⟨b, off + k * 3, none⟩ = some (.int .i64 x.ow) ∧ V.cell? ⟨b, off + k * 3 + 1, none⟩ = some (.int .i64 x.ma) ∧ V.cell? ⟨b, off + k * 3 + 2, none⟩ = some (.int .i64 x.li))) (by kernel_rfl) ⟨x0, x1, x2⟩ (fun hHeld => ?_)
        refine' wpAnyH_take (i := 0) (oi := _) (v := _) ?hQ0 (by kernel_rfl) (by kernel_rfl) (by kernel_rfl) ?hQQ0 (Or.inl ⟨?hwQ0, ?hyQ0⟩) hHeld ?restQ0
        case hQ0 => (simp only [List.getElem?_toArray, List.getElem?_cons_zero]; rfl)
        case hQQ0 => exact fun _ _ _ h => h
        case hwQ0 => rfl
        case hyQ0 => (intro w hSw; (try dsimp only at hSw); go_simp; try with_reducible rfl)
        try simp only [Act.put, List.setIfInBounds_toArray, List.set_cons_zero, List.set_cons_succ]
        refine' wpAnyH_take (i := 1) (oi := _) (v := _) ?hQ1 (by kernel_rfl) (by kernel_rfl) (by kernel_rfl) ?hQQ1 (Or.inl ⟨?hwQ1, ?hyQ1⟩) hHeld ?restQ1
        case hQ1 => (simp only [List.getElem?_toArray, List.getElem?_cons_succ, List.getElem?_cons_zero]; rfl)
        case hQQ1 => exact fun _ _ _ h => h
        case hwQ1 => rfl
        case hyQ1 => (intro w hSw; (try dsimp only at hSw); go_simp; try with_reducible rfl)
        try simp only [Act.put, List.setIfInBounds_toArray, List.set_cons_zero, List.set_cons_succ]
        refine' wpAnyH_take (i := 2) (oi := _) (v := _) ?hQ2 (by kernel_rfl) (by kernel_rfl) (by kernel_rfl) ?hQQ2 (Or.inl ⟨?hwQ2, ?hyQ2⟩) hHeld ?restQ2
        case hQ2 => (simp only [List.getElem?_toArray, List.getElem?_cons_succ, List.getElem?_cons_zero]; rfl)
        case hQQ2 => exact fun _ _ _ h => h
        case hwQ2 => rfl
        case hyQ2 => (intro w hSw; (try dsimp only at hSw); go_simp; try with_reducible rfl)
        try simp only [Act.put, List.setIfInBounds_toArray, List.set_cons_zero, List.set_cons_succ]
        refine' wpAnyH_take (i := 3) (oi := _) (v := _) ?hQ3 (by kernel_rfl) (by kernel_rfl) (by kernel_rfl) ?hQQ3 (Or.inl ⟨?hwQ3, ?hyQ3⟩) hHeld ?restQ3
        case hQ3 => (simp only [List.getElem?_toArray, List.getElem?_cons_succ, List.getElem?_cons_zero]; rfl)
        case hQQ3 => exact fun _ _ _ h => h
        case hwQ3 => rfl
        case hyQ3 => (intro w hSw; (try dsimp only at hSw); go_simp; try with_reducible rfl)
        try simp only [Act.put, List.setIfInBounds_toArray, List.set_cons_zero, List.set_cons_succ]
        refine' wpAnyH_take (i := 4) (oi := _) (v := _) ?hQ4 (by kernel_rfl) (by kernel_rfl) (by kernel_rfl) ?hQQ4 (Or.inl ⟨?hwQ4, ?hyQ4⟩) hHeld ?restQ4
        case hQ4 => (simp only [List.getElem?_toArray, List.getElem?_cons_succ, List.getElem?_cons_zero]; rfl)
        case hQQ4 => exact fun _ _ _ h => h
        case hwQ4 => rfl
        case hyQ4 => (intro w hSw; (try dsimp only at hSw); go_simp; try with_reducible rfl)
        try simp only [Act.put, List.setIfInBounds_toArray, List.set_cons_zero, List.set_cons_succ]
        refine' wpAnyH_take (i := 5) (oi := _) (v := _) ?hQ5 (by kernel_rfl) (by kernel_rfl) (by kernel_rfl) ?hQQ5 (Or.inl ⟨?hwQ5, ?hyQ5⟩) hHeld ?restQ5
        case hQ5 => (simp only [List.getElem?_toArray, List.getElem?_cons_succ, List.getElem?_cons_zero]; rfl)
        case hQQ5 => exact fun _ _ _ h => h
        case hwQ5 => rfl
        case hyQ5 => (intro w hSw; (try dsimp only at hSw); go_simp; try with_reducible rfl)
        try simp only [Act.put, List.setIfInBounds_toArray, List.set_cons_zero, List.set_cons_succ]
        refine' wpAnyH_take (i := 6) (oi := _) (v := _) ?hQ6 (by kernel_rfl) (by kernel_rfl) (by kernel_rfl) ?hQQ6 (Or.inl ⟨?hwQ6, ?hyQ6⟩) hHeld ?restQ6
        case hQ6 => (simp only [List.getElem?_toArray, List.getElem?_cons_succ, List.getElem?_cons_zero]; rfl)
        case hQQ6 => exact fun _ _ _ h => h
        case hwQ6 => rfl
        case hyQ6 => (intro w hSw; (try dsimp only at hSw); go_simp; try with_reducible rfl)
        try simp only [Act.put, List.setIfInBounds_toArray, List.set_cons_zero, List.set_cons_succ]
        refine' wpAnyH_take (i := 7) (oi := _) (v := _) ?hQ7 (by kernel_rfl) (by kernel_rfl) (by kernel_rfl) ?hQQ7 (Or.inl ⟨?hwQ7, ?hyQ7⟩) hHeld ?restQ7
        case hQ7 => (simp only [List.getElem?_toArray, List.getElem?_cons_succ, List.getElem?_cons_zero]; rfl)
        case hQQ7 => exact fun _ _ _ h => h
        case hwQ7 => rfl
        case hyQ7 => (intro w hSw; (try dsimp only at hSw); go_simp; try with_reducible rfl)
        try simp only [Act.put, List.setIfInBounds_toArray, List.set_cons_zero, List.set_cons_succ]
        refine' wpAnyH_take (i := 8) (oi := _) (v := _) ?hQ8 (by kernel_rfl) (by kernel_rfl) (by kernel_rfl) ?hQQ8 (Or.inl ⟨?hwQ8, ?hyQ8⟩) hHeld ?restQ8
        case hQ8 => (simp only [List.getElem?_toArray, List.getElem?_cons_succ, List.getElem?_cons_zero]; rfl)
        case hQQ8 => exact fun _ _ _ h => h
        case hwQ8 => rfl
        case hyQ8 => (intro w hSw; (try dsimp only at hSw); go_simp; try with_reducible rfl)
        try simp only [Act.put, List.setIfInBounds_toArray, List.set_cons_zero, List.set_cons_succ]
        refine' wpAnyH_take (i := 9) (oi := _) (v := _) ?hQ9 (by kernel_rfl) (by kernel_rfl) (by kernel_rfl) ?hQQ9 (Or.inl ⟨?hwQ9, ?hyQ9⟩) hHeld ?restQ9
        case hQ9 => (simp only [List.getElem?_toArray, List.getElem?_cons_succ, List.getElem?_cons_zero]; rfl)
        case hQQ9 => exact fun _ _ _ h => h
        case hwQ9 => rfl
        case hyQ9 => (intro w hSw; (try dsimp only at hSw); go_simp; try with_reducible rfl)
        try simp only [Act.put, List.setIfInBounds_toArray, List.set_cons_zero, List.set_cons_succ]
        refine' wpAnyH_take (i := 10) (oi := _) (v := _) ?hQ10 (by kernel_rfl) (by kernel_rfl) (by kernel_rfl) ?hQQ10 (Or.inl ⟨?hwQ10, ?hyQ10⟩) hHeld ?restQ10
        case hQ10 => (simp only [List.getElem?_toArray, List.getElem?_cons_succ, List.getElem?_cons_zero]; rfl)
        case hQQ10 => exact fun _ _ _ h => h
        case hwQ10 => rfl
        case hyQ10 => (intro w hSw; (try dsimp only at hSw); go_simp; try with_reducible rfl)
        try simp only [Act.put, List.setIfInBounds_toArray, List.set_cons_zero, List.set_cons_succ]
        refine' wpAnyH_take (i := 11) (oi := _) (v := _) ?hQ11 (by kernel_rfl) (by kernel_rfl) (by kernel_rfl) ?hQQ11 (Or.inl ⟨?hwQ11, ?hyQ11⟩) hHeld ?restQ11
        case hQ11 => (simp only [List.getElem?_toArray, List.getElem?_cons_succ, List.getElem?_cons_zero]; rfl)
        case hQQ11 => exact fun _ _ _ h => h
        case hwQ11 => rfl
        case hyQ11 => (intro w hSw; (try dsimp only at hSw); go_simp; try with_reducible rfl)
        try simp only [Act.put, List.setIfInBounds_toArray, List.set_cons_zero, List.set_cons_succ]
        refine' wpAnyH_take (i := 12) (oi := _) (v := _) ?hQ12 (by kernel_rfl) (by kernel_rfl) (by kernel_rfl) ?hQQ12 (Or.inl ⟨?hwQ12, ?hyQ12⟩) hHeld ?restQ12
        case hQ12 => (simp only [List.getElem?_toArray, List.getElem?_cons_succ, List.getElem?_cons_zero]; rfl)
        case hQQ12 => exact fun _ _ _ h => h
        case hwQ12 => rfl
        case hyQ12 => (intro w hSw; (try dsimp only at hSw); go_simp; try with_reducible rfl)
        try simp only [Act.put, List.setIfInBounds_toArray, List.set_cons_zero, List.set_cons_succ]
        refine' wpAnyH_take (i := 13) (oi := _) (v := _) ?hQ13 (by kernel_rfl) (by kernel_rfl) (by kernel_rfl) ?hQQ13 (Or.inl ⟨?hwQ13, ?hyQ13⟩) hHeld ?restQ13
        case hQ13 => (simp only [List.getElem?_toArray, List.getElem?_cons_succ, List.getElem?_cons_zero]; rfl)
        case hQQ13 => exact fun _ _ _ h => h
        case hwQ13 => rfl
        case hyQ13 => (intro w hSw; (try dsimp only at hSw); go_simp; try with_reducible rfl)
        try simp only [Act.put, List.setIfInBounds_toArray, List.set_cons_zero, List.set_cons_succ]
        refine' wpAnyH_take (i := 14) (oi := _) (v := _) ?hQ14 (by kernel_rfl) (by kernel_rfl) (by kernel_rfl) ?hQQ14 (Or.inl ⟨?hwQ14, ?hyQ14⟩) hHeld ?restQ14
        case hQ14 => (simp only [List.getElem?_toArray, List.getElem?_cons_succ, List.getElem?_cons_zero]; rfl)
        case hQQ14 => exact fun _ _ _ h => h
        case hwQ14 => rfl
        case hyQ14 => (intro w hSw; (try dsimp only at hSw); go_simp; try with_reducible rfl)
        try simp only [Act.put, List.setIfInBounds_toArray, List.set_cons_zero, List.set_cons_succ]
        refine' wpAnyH_take (i := 15) (oi := _) (v := _) ?hQ15 (by kernel_rfl) (by kernel_rfl) (by kernel_rfl) ?hQQ15 (Or.inl ⟨?hwQ15, ?hyQ15⟩) hHeld ?restQ15
        case hQ15 => (simp only [List.getElem?_toArray, List.getElem?_cons_succ, List.getElem?_cons_zero]; rfl)
        case hQQ15 => exact fun _ _ _ h => h
        case hwQ15 => rfl
        case hyQ15 => (intro w hSw; (try dsimp only at hSw); go_simp; try with_reducible rfl)
        try simp only [Act.put, List.setIfInBounds_toArray, List.set_cons_zero, List.set_cons_succ]
        refine' wpAnyH_take (i := 16) (oi := _) (v := _) ?hQ16 (by kernel_rfl) (by kernel_rfl) (by kernel_rfl) ?hQQ16 (Or.inl ⟨?hwQ16, ?hyQ16⟩) hHeld ?restQ16
        case hQ16 => (simp only [List.getElem?_toArray, List.getElem?_cons_succ, List.getElem?_cons_zero]; rfl)
        case hQQ16 => exact fun _ _ _ h => h
        case hwQ16 => rfl
        case hyQ16 => (intro w hSw; (try dsimp only at hSw); go_simp; try with_reducible rfl)
        try simp only [Act.put, List.setIfInBounds_toArray, List.set_cons_zero, List.set_cons_succ]
        refine wpAnyH_ready (rs := [17]) (by kernel_rfl) (by simp) ?_
        refine AllReadyH.cons rfl (fun K hK => ?_) AllReadyH.nil
        go_simp
        refine hK.out _ _ (⟨(((Keeps.refl [] wr).alloc (.cells #[.int .i64 x.ow, .int .i64 x.ma, .int .i64 x.li, .slice none 0 0, .int .i64 0] 45)).drew.cell hbl (by simp)).trans hHeld.1, (((Keeps.refl [] wr).alloc (.cells #[.int .i64 x.ow, .int .i64 x.ma, .int .i64 x.li, .slice none 0 0, .int .i64 0] 45)).drew.cell hbl (by simp)).trans hHeld.2.1, (((Keeps.refl [] wr).alloc (.cells #[.int .i64 x.ow, .int .i64 x.ma, .int .i64 x.li, .slice none 0 0, .int .i64 0] 45)).drew.cell hbl (by simp)).trans hHeld.2.2⟩) (fun hHeld' => ?_)
        clear hK K hHeld
        have hHeld := hHeld'
        clear hHeld'
        try simp only [Act.put, List.setIfInBounds_toArray, List.set_cons_zero, List.set_cons_succ]
        refine wpAnyH_ready (rs := [18]) (by kernel_rfl) (by simp) ?_
        refine' AllReadyH.cons (o := _) ?hoQ18 (fun K hK => ?stQ18) AllReadyH.nil
        case hoQ18 => (simp only [List.getElem?_toArray, List.getElem?_cons_succ, List.getElem?_cons_zero]; rfl)
        rw [if_pos (by rfl)]
        refine wp_append_any _ (.tmp 18) (.tmp 35) 24 rfl w.heap.size 45 i0 _ 5 56 Try.underlying24 HI.out.1 HI.out.2.1 HI.out.2.2.1 HI.out.2.2.2 rfl (by decide) (.slice a' k c') k _ rfl hownA _ _ 1 1 (rpc ⟨x.ow, x.ma, x.li, none, 0, 0, 0⟩) rfl hrdA (rpc_one _) (by simp only [maxLen]; omega) (by omega) (by have := HN.out.2.size; have := HKA.out.size; omega) ?_
        intro v2 V2 hown2 hg2 hat2
        obtain ⟨p2, c2, hv2⟩ := FiF.own_formF hown2
        subst hv2
        have hkb : ∀ p : Addr, p.block = b → V2.cell? p = (wr.alloc (.cells #[.int .i64 x.ow, .int .i64 x.ma, .int .i64 x.li, .slice none 0 0, .int .i64 0] 45)).drew.cell? p := fun p hp => World.cell?_of_block (hg2.block p.block (by rw [hp]; have := HKA.out.size; omega) (fun e => by have := (hownA.lt _ e.symm).1; omega))
        have HG := Lib.hid (And.intro hown2 ((HN.out.2.trans HKA.out).grown hg2 (fun b hb => .inr (by have := (hownA.lt b hb).1; omega))))
        clear hat2 hown2 hg2
        refine hK.out _ _ (⟨(hkb _ rfl).trans hHeld.1, (hkb _ rfl).trans hHeld.2.1, (hkb _ rfl).trans hHeld.2.2⟩) (fun hHeld' => ?_)
        clear hK K hHeld
        have hHeld := hHeld'
        clear hHeld'
        try simp only [Act.put, List.setIfInBounds_toArray, List.set_cons_zero, List.set_cons_succ]
        refine' wpAnyH_take (i := 19) (oi := _) (v := _) ?hQ19 (by kernel_rfl) (by kernel_rfl) (by kernel_rfl) ?hQQ19 (Or.inl ⟨?hwQ19, ?hyQ19⟩) hHeld ?restQ19
        case hQ19 => (simp only [List.getElem?_toArray, List.getElem?_cons_succ, List.getElem?_cons_zero]; rfl)
        case hQQ19 => exact fun _ _ _ h => h
        case hwQ19 => rfl
        case hyQ19 => (intro w hSw; (try dsimp only at hSw); go_simp; try with_reducible rfl)
        try simp only [Act.put, List.setIfInBounds_toArray, List.set_cons_zero, List.set_cons_succ]
        refine wpAnyH_done (by kernel_rfl) ?_ _
        clear hHeld hkb hrdA hownA x0 x1 x2
        have hs := rps_snoc (xs.take k) x
        rw [← HT.out] at hs
        have hown3 := HG.out.1
        rw [← hs] at hown3
        have HG2 := Lib.hid (And.intro hown3 HG.out.2)
        clear hs hown3 HG HKA
        go_wp2
        go_roundw
        case rel => exact ⟨k + 1, p2, c2, by omega, by go_num, rfl, HG2.out.1, HG2.out.2⟩
        case measure => simp [intOf]; omega
      · obtain rfl : k = 8 := by omega
        rw [List.take_of_length_le (by omega)] at hown
        have HN := Lib.hid (And.intro hkr hown)
        clear hown hkr
        go_wp2
        refine bodyPost_ret (v := .tuple #[.slice a 8 cap, .slice a' 8 c']) (by simp [results, Try.results7, go_sem]) rfl ?_
        exact ⟨a', c', rfl, HN.out.1, HN.out.2⟩
end Nc
end Go.Proofs.Ytdbkgpnbmafpmaa
namespace Go.Proofs.Ytdbkgpnbmafpmaa
open Go.RowKit
attribute [local go_sem] Bw.and255 Bw.and65535
namespace Fr
open Sm Bi
open PlainAid (bt get_bt bt_nonneg bt_le)
attribute [local irreducible] prOut prErr pE dat forV
theorem same_data {r t : ByteArray} {l : List UInt8} (h : r.data.toList = l) (h' : t.data.toList = l) : (r.toList == t.toList) = true := seq_true (h.trans h'.symm)
end Fr
end Go.Proofs.Ytdbkgpnbmafpmaa
namespace Go.Proofs.Ytdbkgpnbmafpmaa
open Go.RowKit Go.ChangeShapes Go.WideShapes Go.Deep
namespace Sm
section
variable {H : Type} {enc : TypeId × Value → H} {P : Program} {w : World} {base : Nat} {spare : Nat → Bool} {held : Bool}
theorem open_slice_fields {t e : TypeId} {fs : Array Field} {fuel : Nat} {cs : List Value} {x : DataW H × List MemPlace} (ht : P.underlying t = some (.slice e)) (he : P.underlying e = some (.struct fs))
    (hone : oneCellFields P fs = true) (hC : P.cellsOf e = fs.size) (h : DataW.trod enc P w base spare held fuel t cs = some x) :
    (cs = [.slice none 0 0] ∧ x = (.nil, [])) ∨
    ∃ (a : Addr) (len cap m : Nat) (D : Nat → DataW H) (Pl : Nat → List MemPlace), cs = [.slice (some a) len cap] ∧ base ≤ a.block ∧ len ≤ cap ∧ cap ≤ maxLen ∧ m = (if spare a.block then cap else len) ∧
      x = (.slice ((List.range len).map D) ((List.range (m - len)).map fun j => D (len + j)), MemPlace.row a (m * fs.size) ++ (List.range m).flatMap Pl) ∧
      ∀ i, i < m → ∃ (ys : List (DataW H × List MemPlace)) (n : Nat), D i = .agg (ys.map (·.1)) ∧ Pl i = ys.flatMap (·.2) ∧ ys.length = fs.size ∧
        ∀ (j : Nat) (f : Field), fs[j]? = some f → ∃ (v : Value) (y : DataW H × List MemPlace), w.cell? (a.add (i * fs.size + j)) = some v ∧ ys[j]? = some y ∧ DataW.trod enc P w base spare held n f.type [v] = some y := by
  rcases open_slice ht h with h0 | ⟨a, len, cap, m, n, D, Pl, hcs, hb, hl, hm, hmm, hx, hi⟩
  · exact .inl h0
  · refine .inr ⟨a, len, cap, m, D, Pl, hcs, hb, hl, hm, hmm, by rw [hC] at hx; exact hx, fun i him => ?_⟩
    obtain ⟨cs', hc, ht'⟩ := hi i him
    rw [hC] at hc
    obtain ⟨ys, n', hn', hy, hlen, hyl, hf⟩ := DataW.trod_struct he ht'
    obtain ⟨_, hcl, hat⟩ := World.cells?_some hc
    simp only [Prod.mk.injEq] at hy
    refine ⟨ys, n', hy.1, hy.2, hyl, fun j f hj => ?_⟩
    obtain ⟨ho, hk⟩ := hone_of hone j f hj
    have hjl : j < fs.size := (Array.getElem?_eq_some_iff.1 hj).1
    have hcell := hat j hjl
    have hv : cs'[j]? = some (cs'[j]'(by omega)) := List.getElem?_eq_getElem (by omega)
    have h1 := hf j f hj
    rw [ho, hk] at h1
    have hone' : (cs'.drop j).take 1 = [cs'[j]'(by omega)] := by
      rw [List.drop_eq_getElem_cons (by omega)]
      rfl
    rw [hone'] at h1
    have hys : ys[j]? = some (ys[j]'(by omega)) := List.getElem?_eq_getElem (by omega)
    refine ⟨_, _, ?_, hys, h1.trans hys⟩
    rw [← Go.Deep.add_add, hcell, hv]
end

/-- What a cell of a kind may hold. -/
def cellOk : TypeDesc → Value → Prop
  | .int k, v => ∃ n, v = .int k n ∧ (Lit.int k n).wf = true
  | .string, v => ∃ s : ByteArray, v = .string s ∧ s.size ≤ maxLen
  | .bool, v => ∃ b, v = .bool b
  | _, _ => True
theorem cell_lt {w : World} {a : Addr} {v : Value} (h : w.cell? a = some v) : a.block < w.heap.size := by
  rcases Nat.lt_or_ge a.block w.heap.size with h1 | h1
  · exact h1
  · unfold World.cell? at h
    rw [Array.getElem?_eq_none h1] at h
    cases h
/-- A slice of structs of these kinds of fields: nil; or a row, whose elements' cells hold what their kinds may. -/
def Recs (w : World) (a : Option Addr) (len cap : Nat) (ks : List TypeDesc) (R : Nat → Nat → Value) : Prop :=
  (a = none ∧ len = 0 ∧ cap = 0) ∨
  ∃ x, a = some x ∧ len ≤ cap ∧ cap ≤ maxLen ∧ ∀ i, i < len → ∀ (j : Nat) (k : TypeDesc), ks[j]? = some k → w.cell? (x.add (i * ks.length + j)) = some (R i j) ∧ cellOk k (R i j)
theorem Recs.len {w : World} {a : Option Addr} {len cap : Nat} {ks : List TypeDesc} {R : Nat → Nat → Value} (h : Recs w a len cap ks R) : len ≤ cap ∧ cap ≤ 9223372036854775807 := by
  rcases h with ⟨_, rfl, rfl⟩ | ⟨_, _, h1, h2, _⟩
  · omega
  · unfold maxLen at h2; omega
/-- Where there is an element there is a block, and it is an old one. -/
theorem Recs.at_ {w : World} {a : Option Addr} {len cap : Nat} {ks : List TypeDesc} {R : Nat → Nat → Value} (h : Recs w a len cap ks R) (h0 : 0 < len) (hk : 0 < ks.length) :
    ∃ b off, a = some ⟨b, off, none⟩ ∧ b < w.heap.size ∧ ∀ i, i < len → ∀ (j : Nat) (k : TypeDesc), ks[j]? = some k → w.cell? ⟨b, off + (i * ks.length + j), none⟩ = some (R i j) ∧ cellOk k (R i j) := by
  rcases h with ⟨_, rfl, _⟩ | ⟨x, rfl, _, _, hc⟩
  · omega
  · obtain ⟨b, off, spot⟩ := x
    have hc0 := (hc 0 h0 0 (ks[0]'hk) (List.getElem?_eq_getElem hk)).1
    have hspot : spot = none := by simpa [Addr.add] using World.cell?_spot hc0
    subst hspot
    have hadd : ∀ n, (⟨b, off, none⟩ : Addr).add n = ⟨b, off + n, none⟩ := fun n => by unfold Addr.add; split <;> simp_all
    rw [hadd] at hc0
    refine ⟨b, off, rfl, cell_lt hc0, fun i hi j k hj => ?_⟩
    have := hc i hi j k hj
    rw [hadd] at this
    exact this
/-- A field as a number, as a text, as a truth value. -/
def numAt (R : Nat → Nat → Value) (i j : Nat) : Int := match R i j with | .int _ n => n | _ => 0
def strAt (R : Nat → Nat → Value) (i j : Nat) : ByteArray := match R i j with | .string s => s | _ => ⟨#[]⟩
theorem numAt_of {R : Nat → Nat → Value} {i j : Nat} {k : IntKind} (h : cellOk (.int k) (R i j)) : R i j = .int k (numAt R i j) ∧ (Lit.int k (numAt R i j)).wf = true := by
  obtain ⟨n, e, hw⟩ := h
  unfold numAt
  rw [e]
  exact ⟨rfl, hw⟩
theorem strAt_of {R : Nat → Nat → Value} {i j : Nat} (h : cellOk .string (R i j)) : R i j = .string (strAt R i j) ∧ (strAt R i j).size ≤ maxLen := by
  obtain ⟨n, e, hw⟩ := h
  unfold strAt
  rw [e]
  exact ⟨rfl, hw⟩
theorem i64_bd {n : Int} (h : (Lit.int .i64 n).wf = true) : -9223372036854775808 ≤ n ∧ n ≤ 9223372036854775807 := by
  simp [Lit.wf, IntKind.min, IntKind.max, IntKind.signed, IntKind.bits] at h
  omega
theorem Recs.below {w w' : World} {a : Option Addr} {len cap : Nat} {ks : List TypeDesc} {R : Nat → Nat → Value} (h : Recs w a len cap ks R) (hk : Below w.heap.size w w') : Recs w' a len cap ks R := by
  rcases h with h | ⟨x, rfl, h1, h2, hc⟩
  · exact .inl h
  · refine .inr ⟨x, rfl, h1, h2, fun i hi j k hj => ?_⟩
    obtain ⟨c, ok⟩ := hc i hi j k hj
    exact ⟨(hk.cell (cell_lt c)).trans c, ok⟩
theorem Recs.below' {w w' : World} {B : Nat} {a : Option Addr} {len cap : Nat} {ks : List TypeDesc} {R : Nat → Nat → Value} (h : Recs w a len cap ks R) (hk : Below B w w') (hB : w.heap.size ≤ B := by exact Nat.le_refl _) : Recs w' a len cap ks R := h.below (hk.mono hB)
theorem Recs.cut {w : World} {a : Option Addr} {len cap : Nat} {ks : List TypeDesc} {R : Nat → Nat → Value} (h : Recs w a len cap ks R) (m : Nat) (hm : m ≤ len) : Recs w a m cap ks R := by
  rcases h with ⟨rfl, rfl, rfl⟩ | ⟨x, rfl, h1, h2, hc⟩
  · exact .inl ⟨rfl, by omega, rfl⟩
  · exact .inr ⟨x, rfl, by omega, h2, fun i hi j k hj => hc i (by omega) j k hj⟩
section
variable {H : Type} {enc : TypeId × Value → H} {P : Program} {w : World} {base : Nat} {spare : Nat → Bool} {held : Bool}
theorem cell1_of {k : TypeDesc} {t : TypeId} {v : Value} {n : Nat} {y : DataW H × List MemPlace} (ht : P.underlying t = some k) (h : DataW.trod enc P w base spare held n t [v] = some y) : cellOk k v := by
  cases k with
  | int k =>
    obtain ⟨m, e, _, hw⟩ := DataW.trod_int ht h
    simp at e
    exact ⟨m, e, hw⟩
  | string =>
    obtain ⟨s, e, _, hw⟩ := DataW.trod_string ht h
    simp at e
    exact ⟨s, e, hw⟩
  | bool =>
    obtain ⟨b, e, _⟩ := DataW.trod_bool ht h
    simp at e
    exact ⟨b, e⟩
  | _ => trivial
theorem recs_of {t e : TypeId} {fs : Array Field} {a : Option Addr} {len cap : Nat} {d : DataW H} {p : List MemPlace} (ks : List TypeDesc) (ht : P.underlying t = some (.slice e)) (he : P.underlying e = some (.struct fs))
    (hone : oneCellFields P fs = true) (hC : P.cellsOf e = fs.size) (hn : ks.length = fs.size) (hd : ∀ (j : Nat) (f : Field) (k : TypeDesc), fs[j]? = some f → ks[j]? = some k → P.underlying f.type = some k)
    (h : DataW.Trod enc P w base spare held t (.slice a len cap) d p) : ∃ R, Recs w a len cap ks R := by
  obtain ⟨fuel, hf⟩ := h
  rcases open_slice_fields ht he hone hC hf with ⟨hcs, _⟩ | ⟨x, l, c, m, D, Pl, hcs, _, hl, hm, hmm, _, hi⟩
  · simp [Value.cells] at hcs
    obtain ⟨rfl, rfl, rfl⟩ := hcs
    exact ⟨fun _ _ => undef, .inl ⟨rfl, rfl, rfl⟩⟩
  · simp [Value.cells] at hcs
    obtain ⟨rfl, rfl, rfl⟩ := hcs
    refine ⟨fun i j => (w.cell? (x.add (i * ks.length + j))).getD undef, .inr ⟨x, rfl, hl, hm, fun i hil j k hj => ?_⟩⟩
    have him : i < m := by rw [hmm]; split <;> omega
    obtain ⟨ys, n, _, _, _, hfl⟩ := hi i him
    have hjl : j < fs.size := by
      have := (List.getElem?_eq_some_iff.1 hj).1
      omega
    obtain ⟨v, y, hc, _, hy⟩ := hfl j _ (Array.getElem?_eq_getElem hjl)
    rw [← hn] at hc
    have hok := cell1_of (hd j _ k (Array.getElem?_eq_getElem hjl) hj) hy
    simp only [hc]
    exact ⟨rfl, hok⟩
end
end Sm
end Go.Proofs.Ytdbkgpnbmafpmaa
namespace Go.Proofs.Ytdbkgpnbmafpmaa
open Go.RowKit
attribute [local go_sem] Bw.and255 Bw.and65535
namespace Fr
open Sm Bi
open PlainAid (bt get_bt bt_nonneg bt_le)
theorem byte_id (n : Int) (h0 : 0 ≤ n) (h1 : n ≤ 255) : ((UInt8.ofNat n.toNat).toNat : Int) = n := by
  simp
  omega
theorem getD_of {s : ByteArray} {l : List UInt8} (h : s.data.toList = l) (k : Nat) (hk : k < l.length) : bt s k = ((l.getD k 0).toNat : Int) := by
  rw [bt_def s k (by rw [size_of s l h]; exact hk), h]
theorem frL_len (tOO fr : Int) (d : ByteArray) : (frL tOO fr d).length = d.size + 3 := by
  unfold frL
  rw [List.length_append, Array.length_toList]
  show 3 + d.size = d.size + 3
  omega
theorem seal_get (l : List UInt8) (k : Nat) (hk : k < l.length) : (Cw.sealL l).getD k 0 = l.getD k 0 := by
  unfold Cw.sealL
  rw [List.getD_eq_getElem?_getD, List.getD_eq_getElem?_getD, List.getElem?_append_left hk]
/-- What a frame's bytes are parsed as. -/
theorem good_of (tOO fr : Int) (d t : ByteArray) (h1 : okB tOO = true) (h2 : okB fr = true) (h3 : d.size ≤ 32) (ht : t.data.toList = Cw.sealL (frL tOO fr d)) :
    t.size = d.size + 5 ∧ bt t 0 = tOO ∧ bt t 1 = fr ∧ bt t 2 = (d.size : Int) ∧ pE t = 0 ∧ dat t = d.data.toList := by
  obtain ⟨a0, a1⟩ := of_decide_eq_true h1
  obtain ⟨b0, b1⟩ := of_decide_eq_true h2
  have hz : t.size = d.size + 5 := by rw [size_of t _ ht, Cw.sealL_length, frL_len]
  have hl : (Cw.sealL (frL tOO fr d)).length = d.size + 5 := by rw [Cw.sealL_length, frL_len]
  have g : ∀ k, k < d.size + 3 → bt t k = (((frL tOO fr d).getD k 0).toNat : Int) := fun k hk => by
    rw [getD_of ht k (by rw [hl]; omega), seal_get _ _ (by rw [frL_len]; exact hk)]
  have e0 : bt t 0 = tOO := by rw [g 0 (by omega)]; exact byte_id tOO a0 a1
  have e1 : bt t 1 = fr := by rw [g 1 (by omega)]; exact byte_id fr b0 b1
  have e2 : bt t 2 = (d.size : Int) := by
    rw [g 2 (by omega)]
    exact byte_id (d.size : Int) (by omega) (by omega)
  have hc : Cm.crc 65535#16 t.data.toList = 0#16 := by rw [ht]; exact (Cw.openV_seal _).2
  refine ⟨hz, e0, e1, e2, ?_, ?_⟩
  · rw [pE_many t (by omega)]
    unfold pErr
    rw [e2, if_neg (by omega), if_neg (by omega), if_neg (by omega), if_pos hc]
  · unfold dat
    rw [ht, hz, show d.size + 5 - 2 = (frL tOO fr d).length from by rw [frL_len]; omega]
    unfold Cw.sealL
    rw [List.take_left]
    unfold frL
    simp
theorem pr_cases (tOO fr : Int) (d : ByteArray) : (okB tOO = true ∧ okB fr = true ∧ d.size ≤ 32 ∧ prErr tOO fr d = 0 ∧ prOut tOO fr d = Cw.sealL (frL tOO fr d)) ∨ prErr tOO fr d ≠ 0 := by
  by_cases h : okB tOO = true ∧ okB fr = true
  · by_cases h3 : d.size ≤ 32
    · obtain ⟨e1, e2⟩ := out_ok tOO fr d h.1 h.2 h3
      exact .inl ⟨h.1, h.2, h3, e2, e1⟩
    · right; rw [(out_long tOO fr d h.1 h.2 h3).2]; decide
  · right; rw [(out_bad tOO fr d h).2]; decide
attribute [local irreducible] prOut prErr pE dat forV sizeV
end Fr
end Go.Proofs.Ytdbkgpnbmafpmaa
