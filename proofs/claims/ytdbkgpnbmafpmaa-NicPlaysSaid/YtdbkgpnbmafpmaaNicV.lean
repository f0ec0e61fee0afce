/- The law NicPlays: its walk. -/
import Derived.Test.YtdbkgpnbmafpmaaNicU
namespace Go.Proofs.Ytdbkgpnbmafpmaa
open Go.RowKit Go.Maps Go.Deep
namespace Nc
open Sm Fr
open PlainAid (bt)
def deedK : List TypeDesc := [.int .i64, .int .i64, .int .i64, .int .i64, .string]
/-- The cells of a deed. -/
structure DeedAt (w : World) (b o5 : Nat) (o k to_ ti : Int) (te : ByteArray) : Prop where
  c0 : w.cell? ⟨b, o5, none⟩ = some (.int .i64 o)
  c1 : w.cell? ⟨b, o5 + 1, none⟩ = some (.int .i64 k)
  c2 : w.cell? ⟨b, o5 + 2, none⟩ = some (.int .i64 to_)
  c3 : w.cell? ⟨b, o5 + 3, none⟩ = some (.int .i64 ti)
  c4 : w.cell? ⟨b, o5 + 4, none⟩ = some (.string te)
theorem DeedAt.keeps {w w' : World} {S : List Nat} {b o5 : Nat} {o k to_ ti : Int} {te : ByteArray} (h : DeedAt w b o5 o k to_ ti te) (hk : Keeps S w w') (hS : ∀ z ∈ S, w.heap.size ≤ z) (hb : b < w.heap.size) : DeedAt w' b o5 o k to_ ti te := by
  have hn : b ∉ S := fun m => by have := hS b m; omega
  exact ⟨(hk.cell (p := ⟨b, o5, none⟩) hb hn).trans h.c0, (hk.cell (p := ⟨b, o5 + 1, none⟩) hb hn).trans h.c1, (hk.cell (p := ⟨b, o5 + 2, none⟩) hb hn).trans h.c2, (hk.cell (p := ⟨b, o5 + 3, none⟩) hb hn).trans h.c3, (hk.cell (p := ⟨b, o5 + 4, none⟩) hb hn).trans h.c4⟩
theorem deed_at {w : World} {a : Option Addr} {len cap : Nat} {R : Nat → Nat → Value} (hR : Recs w a len cap deedK R) (i : Nat) (hi : i < len) :
    ∃ b off o k to_ ti te, a = some ⟨b, off, none⟩ ∧ b < w.heap.size ∧ DeedAt w b (off + i * 5) o k to_ ti te ∧ (Lit.int .i64 k).wf = true ∧ te.size ≤ 9223372036854775807 := by
  obtain ⟨b, off, e, hb, hc⟩ := hR.at_ (by omega) (by decide)
  obtain ⟨h0, o, e0, _⟩ := hc i hi 0 _ rfl
  obtain ⟨h1, k, e1, w1⟩ := hc i hi 1 _ rfl
  obtain ⟨h2, to_, e2, _⟩ := hc i hi 2 _ rfl
  obtain ⟨h3, ti, e3, _⟩ := hc i hi 3 _ rfl
  obtain ⟨h4, te, e4, w4⟩ := hc i hi 4 _ rfl
  unfold maxLen at w4
  exact ⟨b, off, o, k, to_, ti, te, e, hb, ⟨by rw [← e0, ← h0]; rfl, by rw [← e1, ← h1]; rfl, by rw [← e2, ← h2]; rfl, by rw [← e3, ← h3]; rfl, by rw [← e4, ← h4]; rfl⟩, w1, w4⟩
section
variable {w w1 w2 w3 w' : World} {d m y c n j : Nat} {od od' : Int} {a la : Option Addr} {lg : List Sn} {L : List Pt} {lb G F : List Nat} {Ps : List RP} {xs : List Pr}
theorem step_any (lc : Nat) (o k to_ ti : Int) (te : ByteArray) (h : Stp w d m y od a c lg L la n lb Ps G xs j) (hj : j ≤ 900) (hk : (Lit.int .i64 k).wf = true) (hd : te.size ≤ 300) (ho : od' = od + if o = 0 then odd1 Ps te else 0) :
    Calls Try.prog 19 #[.pointer (some ⟨d, 0, none⟩), .slice la n lc, .agg (deed o k to_ ti te)] w fun e w' => e = .returned (.bool true) ∧ Nx w d m (foot d m y L) la n lb G xs (j + 1) od' w' := by
  subst ho
  by_cases h0 : o = 0
  · subst h0
    rw [if_pos rfl]
    exact step_0 lc k to_ ti te h (by omega) (by omega)
  · rw [if_neg h0, Int.add_zero]
    rcases hp : pt? L k with _ | x
    · by_cases h1 : o = 1
      · subst h1
        exact step_1a lc k to_ ti te h hk hp
      · exact step_2a lc o k to_ ti te h hj h0 h1 hk hd hp
    · by_cases h1 : o = 1
      · subst h1
        rcases hw : x.ws with _ | ⟨f, t⟩
        · exact step_1b lc k to_ ti te x h hk hp hw
        · exact step_1c lc k to_ ti te x f t h hk hp hw
      · by_cases hpe : Fr.prErr to_ x.ma te = 0
        · exact step_2c lc o k to_ ti te h hj h0 h1 hk hd x hp hpe
        · exact step_2b lc o k to_ ti te h hj h0 h1 hk hd x hp hpe
/-- The start: the ports of both. -/
theorem stp_0 (hr : RowP w1 la n lb (rps xs)) (hk : Keeps [] w1 w2) (h : New_ w2 w3 d m L xs) (hn : n ≤ 8) : Stp w3 d m d 0 none 0 [] L la n lb (rps xs) [] xs 0 := by
  have hk3 := hk.trans h.kp
  have hlt := hr.lt
  have hz := hk.size
  refine ⟨h.dv, hr.keeps hk3 (by simp), fun b hb hf => ?_, ⟨?_, fun i x p hx hp => ?_⟩, hn, by simp, ⟨h.ky, by omega, by omega, fun x hx => by rw [(h.em x hx).2]; omega⟩, by simp⟩
  · have := hlt b hb
    have := h.ft b hf
    omega
  · rw [rps_len, ← h.ky, List.length_map]
  · obtain ⟨e1, e2⟩ := h.em x (List.mem_of_getElem? hx)
    have hq := key_of h.ky hx
    rw [hp] at hq
    obtain rfl := Option.some.inj hq
    rw [e1, e2]
    exact ⟨rfl, rfl, rfl, rfl, rfl, Nat.le_refl _, Rd.none_⟩
/-- What the rounds of deeds keep. -/
def PRel (w0 : World) (d m : Nat) (la : Option Addr) (n : Nat) (lb : List Nat) (xs : List Pr) (len : Nat) (ov i : Value) (wr : World) : Prop :=
  ∃ (j : Nat) (od : Int) (y : Nat) (a : Option Addr) (c : Nat) (lg : List Sn) (L : List Pt) (Ps : List RP), j ≤ 40 ∧ j ≤ len ∧ i = .int .i64 j ∧ ov = .int .i64 od ∧ Stp wr d m y od a c lg L la n lb Ps [] xs j ∧ Keeps [] w0 wr ∧ ∀ b ∈ lb ++ foot d m y L, w0.heap.size ≤ b
theorem prel_mk {w0 wr : World} {len : Nat} {ov i : Value} (h : ∃ (j : Nat) (od : Int) (y : Nat) (a : Option Addr) (c : Nat) (lg : List Sn) (L : List Pt) (Ps : List RP), j ≤ 40 ∧ j ≤ len ∧ i = .int .i64 j ∧ ov = .int .i64 od ∧ Stp wr d m y od a c lg L la n lb Ps [] xs j ∧ Keeps [] w0 wr ∧ ∀ b ∈ lb ++ foot d m y L, w0.heap.size ≤ b) : PRel w0 d m la n lb xs len ov i wr := h
theorem prel_open {w0 wr : World} {len : Nat} {ov i : Value} (h : PRel w0 d m la n lb xs len ov i wr) : ∃ (j : Nat) (od : Int) (y : Nat) (a : Option Addr) (c : Nat) (lg : List Sn) (L : List Pt) (Ps : List RP), j ≤ 40 ∧ j ≤ len ∧ i = .int .i64 j ∧ ov = .int .i64 od ∧ Stp wr d m y od a c lg L la n lb Ps [] xs j ∧ Keeps [] w0 wr ∧ ∀ b ∈ lb ++ foot d m y L, w0.heap.size ≤ b := h
theorem Nx.open_ (h : Nx w d m F la n lb G xs j od' w') : ∃ y' a' c' lg' L' Ps', Stp w' d m y' od' a' c' lg' L' la n lb Ps' G xs j ∧ Keeps (lb ++ F) w w' ∧ ∀ b ∈ foot d m y' L', b ∈ F ∨ w.heap.size ≤ b := h
theorem nx_next {w0 wr w5 w6 : World} {y0 : Nat} {L0 : List Pt} (hk : Keeps [] w0 wr) (hB : ∀ b ∈ lb ++ foot d m y0 L0, w0.heap.size ≤ b) (hk5 : Keeps [] wr w5) (hn : Nx w5 d m (foot d m y0 L0) la n lb [] xs j od' w6) :
    ∃ y a c lg L Ps, Stp w6 d m y od' a c lg L la n lb Ps [] xs j ∧ Keeps [] w0 w6 ∧ ∀ b ∈ lb ++ foot d m y L, w0.heap.size ≤ b := by
  obtain ⟨y, a, c, lg, L, Ps, h1, h2, h3⟩ := hn
  refine ⟨y, a, c, lg, L, Ps, h1, (hk.next hk5 (by simp)).next h2 (fun x hx => .inr (hB x hx)), fun b hb => ?_⟩
  rcases List.mem_append.1 hb with hb | hb
  · exact hB b (List.mem_append.2 (.inl hb))
  · rcases h3 b hb with h4 | h4
    · exact hB b (List.mem_append.2 (.inr h4))
    · have := hk.size
      have := hk5.size
      omega
end
attribute [local irreducible] PRel Nx rps
set_option maxRecDepth 100000 in
set_option maxHeartbeats 4000000 in
theorem plays_law (a : Option Addr) (len cap : Nat) (R : Nat → Nat → Value) (ta : Option Addr) (tl tc : Nat) (T : Nat → Nat → Value) (w : World) (hR : Recs w a len cap portK R) (hT : Recs w ta tl tc deedK T) :
    Calls Try.prog 5 #[.slice a len cap, .slice ta tl tc] w fun e w' => e = .returned (.bool true) ∧ Below w.heap.size w w' := by
  obtain ⟨n, hn8, hnl, hmn⟩ : ∃ n, n ≤ 8 ∧ n ≤ len ∧ (n = len ∨ (n = 8 ∧ 8 < len)) := by
    by_cases h : len ≤ 8
    · exact ⟨len, h, Nat.le_refl _, .inl rfl⟩
    · exact ⟨8, by omega, by omega, .inr ⟨rfl, by omega⟩⟩
  have hrows := rows_of hR hnl
  have hxl := prs_len R n
  generalize prs R n = xs at *
  have hlc := hR.len
  have htl := hT.len
  have HP := Lib.hid (ports_any a len n cap xs w hrows hn8 hlc.1 hlc.2 hmn (by
    intro e; rcases hR with ⟨_, _, h⟩ | ⟨x, h, _⟩
    · exact h
    · rw [e] at h; cases h))
  have HR := Lib.hid hrows
  have HT := Lib.hid hT
  clear hR hrows hmn hlc hT
  go_enter Try.func5, Try.ntmps5
  go_wp2_with fail
  refine HP.out.mono ?_
  clear HP
  rintro e w1 ⟨a', c', rfl, hk1, hown⟩
  obtain ⟨lb, hrow, hlb⟩ := row_new hown (by rw [rps_len, hxl])
  have HROW := Lib.hid (And.intro hrow (And.intro hlb hk1))
  have HN := Lib.hid (new_dev a n cap xs w1 (HR.out.kp hk1) hn8)
  clear hown hrow hlb hk1
  go_wp2_with fail
  refine HN.out.mono ?_
  clear HN
  rintro e w2 (⟨hc0, d, m, L0, rfl, hN1⟩ | ⟨hc0, rfl, hk2⟩)
  · have hrr := (HROW.out.1.keeps hN1.kp (by simp)).rr
    have HC := Lib.hid (rcheck_any a' n c' _ w2 hrr hn8)
    rw [rps_key, hc0] at HC
    have h0 := stp_0 HROW.out.1 (Keeps.refl [] w1) hN1 hn8
    have HK2 := Lib.hid (And.intro (HROW.out.2.2.trans hN1.kp) (And.intro hN1.ft HROW.out.2.2.size))
    have H0 := Lib.hid h0
    clear hrr h0 hN1 hc0
    go_wp2_with fail
    refine HC.out.mono ?_
    clear HC
    rintro e w3 ⟨rfl, hk3⟩
    have HS := Lib.hid (H0.out.kp hk3)
    have HK3 := Lib.hid (HK2.out.1.trans hk3)
    have hb0 : ∀ b ∈ lb ++ foot d m d L0, w.heap.size ≤ b := by
      intro b hb
      rcases List.mem_append.1 hb with hb | hb
      · exact HROW.out.2.1 b hb
      · have := HK2.out.2.1 b hb
        have := HK2.out.2.2
        omega
    have HB0 := Lib.hid hb0
    clear hb0 hk3
    go_wp2
    go_loopw [9, 10] (fun u i wr => PRel w d m a' n lb xs tl u i wr) (fun _ i _ => 40 - (intOf i).toNat)
    case atStart => exact prel_mk ⟨0, 0, d, none, 0, [], L0, rps xs, by omega, by omega, rfl, rfl, HS.out, HK3.out, HB0.out⟩
    case round =>
      obtain ⟨j, od, y, ya, yc, lg, L, Ps, hj, hjl, rfl, rfl, hS, hKp, hB⟩ := prel_open hrel
      clear hrel
      have HH := Lib.hid (And.intro hS (And.intro hKp hB))
      have ho0 := hS.sd.o0
      have ho1 := hS.sd.o1
      clear hS hKp hB HS HB0 H0 HK2 HROW
      by_cases hlt : j < tl ∧ j < 40
      · obtain ⟨hj1, hj2⟩ := hlt
        obtain ⟨b, off, o, k, to_, ti, te, rfl, hb, hda, wk, wt⟩ := deed_at HT.out j hj1
        have hdw := hda.keeps HH.out.2.1 (by simp) hb
        obtain ⟨c0, c1, c2, c3, c4⟩ := hdw
        have HD := Lib.hid (And.intro hda hb)
        have hj0 : (0 : Int) ≤ (j : Int) := by omega
        have hj3 : (j : Int) < (tl : Int) := by omega
        have hj4 : (j : Int) < 40 := by omega
        have hbw : b < w.heap.size := hb
        clear hda hb
        by_cases h200 : te.size ≤ 200
        · have h200' : ((te.size : Nat) : Int) ≤ 200 := by omega
          by_cases ho : o = 0
          · subst ho
            have HF := Lib.hid (rfor_any a' n c' Ps te wr HH.out.1.rw.rr hn8 wt)
            go_wp2_with fail
            refine HF.out.mono ?_
            clear HF
            rintro e w5 ⟨rfl, hk5⟩
            have HST := Lib.hid (step_any c' 0 k to_ ti te (od' := od + odd1 Ps te) (HH.out.1.kp hk5) (by omega) wk (by omega) (by rw [if_pos rfl]))
            obtain ⟨c0, c1, c2, c3, c4⟩ := HD.out.1.keeps (HH.out.2.1.trans hk5) (by simp) HD.out.2
            have HK5 := Lib.hid hk5
            clear hk5
            by_cases hf : fi Ps te < 0
            · have hod : od + odd1 Ps te = od + 1 := by unfold odd1; rw [if_pos hf]
              rw [hod] at HST
              clear hod
              generalize fi Ps te = fv9 at *
              go_wp2_with fail
              refine HST.out.mono ?_
              clear HST c0 c1 c2 c3 c4
              rintro e w6 ⟨rfl, hnx⟩
              obtain ⟨y2, ya2, yc2, lg2, L2, Ps2, hS2, hK2, hB2⟩ := nx_next HH.out.2.1 HH.out.2.2 HK5.out hnx
              have H2 := Lib.hid (And.intro hS2 (And.intro hK2 hB2))
              clear hnx hS2 hK2 hB2
              go_wp2_with fail
              refine (told_any c' H2.out.1.dv H2.out.1.rw H2.out.1.dc hn8).mono ?_
              rintro e w7 ⟨rfl, hdr⟩
              have hk7 := (Keeps.refl [] w6).drawn hdr
              have H3 := Lib.hid (And.intro (H2.out.1.kp hk7) (And.intro (H2.out.2.1.trans hk7) H2.out.2.2))
              clear hdr hk7
              go_wp2_with fail
              refine (odd_any w7 H3.out.1.dv).mono ?_
              rintro e v ⟨rfl, rfl⟩
              go_wp2
              go_roundw
              case rel => exact prel_mk ⟨j + 1, _, y2, ya2, yc2, lg2, L2, Ps2, by omega, by omega, by go_num, rfl, H3.out⟩
              case measure => simp [intOf]; omega
            · have hod : od + odd1 Ps te = od := by unfold odd1; rw [if_neg hf]; omega
              rw [hod] at HST
              clear hod
              generalize fi Ps te = fv9 at *
              go_wp2_with fail
              refine HST.out.mono ?_
              clear HST c0 c1 c2 c3 c4
              rintro e w6 ⟨rfl, hnx⟩
              obtain ⟨y2, ya2, yc2, lg2, L2, Ps2, hS2, hK2, hB2⟩ := nx_next HH.out.2.1 HH.out.2.2 HK5.out hnx
              have H2 := Lib.hid (And.intro hS2 (And.intro hK2 hB2))
              clear hnx hS2 hK2 hB2
              go_wp2_with fail
              refine (told_any c' H2.out.1.dv H2.out.1.rw H2.out.1.dc hn8).mono ?_
              rintro e w7 ⟨rfl, hdr⟩
              have hk7 := (Keeps.refl [] w6).drawn hdr
              have H3 := Lib.hid (And.intro (H2.out.1.kp hk7) (And.intro (H2.out.2.1.trans hk7) H2.out.2.2))
              clear hdr hk7
              go_wp2_with fail
              refine (odd_any w7 H3.out.1.dv).mono ?_
              rintro e v ⟨rfl, rfl⟩
              go_wp2
              go_roundw
              case rel => exact prel_mk ⟨j + 1, _, y2, ya2, yc2, lg2, L2, Ps2, by omega, by omega, by go_num, rfl, H3.out⟩
              case measure => simp [intOf]; omega
          · have hob : (o == 0) = false := by simpa using ho
            have HST := Lib.hid (step_any c' o k to_ ti te (od' := od) HH.out.1 (by omega) wk (by omega) (by rw [if_neg ho]; omega))
            have hk5 := Keeps.refl [] wr
            have HK5 := Lib.hid hk5
            clear hk5 ho
            go_wp2_with fail
            refine HST.out.mono ?_
            clear HST c0 c1 c2 c3 c4
            rintro e w6 ⟨rfl, hnx⟩
            obtain ⟨y2, ya2, yc2, lg2, L2, Ps2, hS2, hK2, hB2⟩ := nx_next HH.out.2.1 HH.out.2.2 HK5.out hnx
            have H2 := Lib.hid (And.intro hS2 (And.intro hK2 hB2))
            clear hnx hS2 hK2 hB2
            go_wp2_with fail
            refine (told_any c' H2.out.1.dv H2.out.1.rw H2.out.1.dc hn8).mono ?_
            rintro e w7 ⟨rfl, hdr⟩
            have hk7 := (Keeps.refl [] w6).drawn hdr
            have H3 := Lib.hid (And.intro (H2.out.1.kp hk7) (And.intro (H2.out.2.1.trans hk7) H2.out.2.2))
            clear hdr hk7
            go_wp2_with fail
            refine (odd_any w7 H3.out.1.dv).mono ?_
            rintro e v ⟨rfl, rfl⟩
            go_wp2
            go_roundw
            case rel => exact prel_mk ⟨j + 1, _, y2, ya2, yc2, lg2, L2, Ps2, by omega, by omega, by go_num, rfl, H3.out⟩
            case measure => simp [intOf]; omega
        · have h200' : ¬ ((te.size : Nat) : Int) ≤ 200 := by omega
          clear c0 c1 c2 c3
          go_wp2_with fail
          refine (live_any _).mono ?_
          rintro e w5 ⟨rfl, hk5⟩
          have HZ := Lib.hid (HH.out.2.1.trans hk5)
          clear hk5
          go_wp2
          go_ret
          exact ⟨rfl, HZ.out.all⟩
      · have hcond : ¬ ((j : Int) < (tl : Int)) ∨ ((j : Int) < (tl : Int) ∧ ¬ ((j : Int) < 40)) := by omega
        rcases hcond with hq | hq <;> (
          go_wp2_with fail
          refine (live_any _).mono ?_
          rintro e w5 ⟨rfl, hk5⟩
          have HZ := Lib.hid (HH.out.2.1.trans hk5)
          clear hk5
          go_wp2
          go_ret
          exact ⟨rfl, HZ.out.all⟩)
  · have hcb : (chk xs != 0) = true := by simpa using hc0
    have hrr := (HROW.out.1.keeps hk2 (by simp)).rr
    have HC := Lib.hid (rcheck_any a' n c' _ w2 hrr hn8)
    rw [rps_key] at HC
    have HK2 := Lib.hid (HROW.out.2.2.trans hk2)
    clear hrr hk2 hc0
    generalize chk xs = ce at *
    go_wp2_with fail
    refine HC.out.mono ?_
    clear HC
    rintro e w3 ⟨rfl, hk3⟩
    have HK3 := Lib.hid (HK2.out.trans hk3)
    clear hk3
    go_wp2_with fail
    refine (live_any _).mono ?_
    rintro e w4 ⟨rfl, hk4⟩
    have HZ := Lib.hid (HK3.out.trans hk4)
    clear hk4
    go_wp2
    go_ret
    exact ⟨rfl, HZ.out.all⟩
end Nc
end Go.Proofs.Ytdbkgpnbmafpmaa
