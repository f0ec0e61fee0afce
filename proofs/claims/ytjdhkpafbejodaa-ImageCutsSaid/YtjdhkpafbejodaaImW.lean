/- What printing and parsing come to; the document's Print of many rows; what must be whatever is asked (live). -/
import Derived.Test.YtjdhkpafbejodaaImT
import Derived.Test.YtjdhkpafbejodaaImR
import Derived.Test.YtjdhkpafbejodaaImU
namespace Go.Proofs.Ytjdhkpafbejodaa
open Go.RowKit
namespace Im
open Sm Bi
theorem fewC_iff (c : Cfg) : fewC c = true ↔ c.ws.length ≤ 60 ∧ c.ss.length ≤ 60 ∧ c.cs.length ≤ 60 := by simp [fewC]
theorem nums_255 {c : Cfg} (hw : Wf c) (h1 : c.ws.length ≤ 255) (h2 : c.ss.length ≤ 255) (h3 : c.cs.length ≤ 255) : (nums c).length ≤ 4100 := by rw [nums_len hw]; omega
theorem nums_60 {c : Cfg} (hw : Wf c) (h1 : c.ws.length ≤ 60) (h2 : c.ss.length ≤ 60) (h3 : c.cs.length ≤ 60) : (nums c).length ≤ 1900 := by rw [nums_len hw]; omega
/-- What was printed, with more behind, and its check. -/
theorem pE_more {c : Cfg} (hw : Wf c) (ho : (nums c).all okN = true) (m : List UInt8) : pE (Cw.sealL (encN (nums c) ++ m)) = (if m = [] then 0 else 3) := by
  rw [pE_open (by rw [(Cw.openV_seal _).1]), (Cw.openV_seal _).1]
  exact (perr_more hw ho m).1
theorem pE_back {c : Cfg} (hw : Wf c) (ho : (nums c).all okN = true) : pE (Cw.sealL (encN (nums c))) = 0 ∧ pC (Cw.sealL (encN (nums c))) = c := by
  have h := pE_more hw ho []
  rw [List.append_nil, if_pos rfl] at h
  refine ⟨h, ?_⟩
  unfold pC
  rw [if_pos h, (Cw.openV_seal _).1]
  have := (perr_more hw ho []).2
  rwa [List.append_nil] at this
theorem pE_cut {c : Cfg} (hw : Wf c) (ho : (nums c).all okN = true) (k : Nat) (hk : k < (encN (nums c)).length) : pE (Cw.sealL ((encN (nums c)).take k)) = 5 := by
  rw [pE_open (by rw [(Cw.openV_seal _).1]), (Cw.openV_seal _).1]
  exact perr_cut hw ho k hk
/-- What was parsed: not too much; it is printed as it was. -/
theorem pC_255 (l : List UInt8) : (pC l).ws.length ≤ 255 ∧ (pC l).ss.length ≤ 255 ∧ (pC l).cs.length ≤ 255 := by
  unfold pC
  split
  · unfold cfgAt
    simp only [rowsAt_len]
    exact ⟨n1_le _, n2_le _, n3_le _⟩
  · exact ⟨by simp [zC], by simp [zC], by simp [zC]⟩
theorem pC_wf (l : List UInt8) : Wf (pC l) := by
  unfold pC
  split
  · exact cfgAt_wf _
  · exact ⟨by simp [zC], by simp [zC], by simp [zC]⟩
theorem pC_back {l : List UInt8} (h : pE l = 0) : pOut (pC l) = l ∧ pErr (pC l) = 0 ∧ (nums (pC l)).length ≤ l.length := by
  have hc : pC l = cfgAt (Cw.openV l).1 := by unfold pC; rw [if_pos h]
  have h2 : ¬ l.length < 2 := by
    intro h9
    rw [pE_short h9] at h
    cases h
  have hz : Cw.sealL (l.take (l.length - 2)) = l := by
    refine Classical.byContradiction fun h9 => ?_
    rw [pE_check (by omega) h9] at h
    cases h
  have hog := open_good (l := l) (by omega) hz
  have hp : perr (Cw.openV l).1 = 0 := by
    rw [pE_open (by rw [hog])] at h
    exact h
  have ho := cfg_ok (Cw.openV l).1
  have he := enc_cfg _ hp
  obtain ⟨q1, q2⟩ := p_ok ho
  rw [hc, q1, q2, he]
  refine ⟨by rw [hog]; exact hz, rfl, ?_⟩
  have hl := enc_len (cfgAt_wf (Cw.openV l).1) ho
  rw [he] at hl
  rw [nums_len (cfgAt_wf _)]
  have h3 : (Cw.openV l).1.length ≤ l.length := open_le l
  omega
theorem take_data (s : ByteArray) (k : Nat) : (s.extract 0 k).data.toList = s.data.toList.take k := by simp
/-! The document's Print, whatever the number of rows. -/
def IsAny (c : Cfg) (W : World) (e : Ending) (W' : World) : Prop := ∃ (r : ByteArray) (n : Int), e = .returned (.tuple #[.string r, .int .i64 n]) ∧ Below W.heap.size W W' ∧ (c.ws.length ≤ 255 ∧ c.ss.length ≤ 255 ∧ c.cs.length ≤ 255 → r.data.toList = pOut c ∧ n = pErr c)
set_option maxRecDepth 100000 in
theorem rprint_big (c : Cfg) (a1 : Option Addr) (c1 : Nat) (a2 : Option Addr) (c2 : Nat) (a3 : Option Addr) (c3 : Nat) (W : World) (h : ¬ (c.ws.length ≤ 255 ∧ c.ss.length ≤ 255 ∧ c.cs.length ≤ 255)) :
    Calls Try.prog 12 #[cv c a1 c1 a2 c2 a3 c3] W (IsAny c W) := by
  have HB := Lib.hid ((Below.refl W.heap.size W).alloc (Nat.le_refl _) (.cells #[.int .i64 c.fr, .slice a1 c.ws.length c1, .slice a2 c.ss.length c2, .slice a3 c.cs.length c3] 28))
  have HH := Lib.hid h
  unfold cv
  by_cases h1 : c.ws.length ≤ 255
  · by_cases h2 : c.ss.length ≤ 255
    · have h3 : ¬ c.cs.length ≤ 255 := fun h3 => h ⟨h1, h2, h3⟩
      have k1 : ¬ (255 : Int) < (c.ws.length : Int) := by omega
      have k2 : ¬ (255 : Int) < (c.ss.length : Int) := by omega
      have k3 : (255 : Int) < (c.cs.length : Int) := by omega
      clear h h1 h2 h3
      go_enter Try.func12, Try.ntmps12
      go_wp2
      go_ret2
      exact ⟨⟨#[]⟩, 4, rfl, HB.out, fun h9 => absurd h9 HH.out⟩
    · have k1 : ¬ (255 : Int) < (c.ws.length : Int) := by omega
      have k2 : (255 : Int) < (c.ss.length : Int) := by omega
      clear h h1 h2
      go_enter Try.func12, Try.ntmps12
      go_wp2
      go_ret2
      exact ⟨⟨#[]⟩, 4, rfl, HB.out, fun h9 => absurd h9 HH.out⟩
  · have k1 : (255 : Int) < (c.ws.length : Int) := by omega
    clear h h1
    go_enter Try.func12, Try.ntmps12
    go_wp2
    go_ret2
    exact ⟨⟨#[]⟩, 4, rfl, HB.out, fun h9 => absurd h9 HH.out⟩
theorem rprint_all (c : Cfg) (a1 : Option Addr) (c1 : Nat) (a2 : Option Addr) (c2 : Nat) (a3 : Option Addr) (c3 : Nat) (W : World) (hr : CfR W c a1 a2 a3) :
    Calls Try.prog 12 #[cv c a1 c1 a2 c2 a3 c3] W (IsAny c W) := by
  by_cases h : c.ws.length ≤ 255 ∧ c.ss.length ≤ 255 ∧ c.cs.length ≤ 255
  · refine (rprint_any c a1 c1 a2 c2 a3 c3 W hr h.1 h.2.1 h.2.2 (nums_255 hr.wf h.1 h.2.1 h.2.2)).mono ?_
    rintro e W' ⟨r, rfl, h1, h2⟩
    exact ⟨r, _, rfl, h2, fun _ => ⟨h1, rfl⟩⟩
  · exact rprint_big c a1 c1 a2 c2 a3 c3 W h
/-! live -/
def c513 : Cfg := ⟨513, [], [], []⟩
theorem c513_wf : Wf c513 := ⟨by simp [c513], by simp [c513], by simp [c513]⟩
theorem c513_ok : (nums c513).all okN = true := by decide
theorem c513_enc : encN (nums c513) = [67, 1, 1, 2, 0, 0, 0] := by decide
theorem c513_out : pOut c513 = Cw.sealL [67, 1, 1, 2, 0, 0, 0] ∧ pErr c513 = 0 := by
  have := p_ok c513_ok
  rw [c513_enc] at this
  exact this
theorem c513_back : pE (Cw.sealL [67, 1, 1, 2, 0, 0, 0]) = 0 ∧ pC (Cw.sealL [67, 1, 1, 2, 0, 0, 0]) = c513 := by
  have := pE_back c513_wf c513_ok
  rw [c513_enc] at this
  exact this
theorem c513_r (w : World) (a1 a2 a3 : Option Addr) : CfR w c513 a1 a2 a3 := ⟨ri_nil _ _ _, ri_nil _ _ _, ri_nil _ _ _⟩
theorem print_513 (V : World) : Calls Try.prog 11 #[.agg #[.int .i64 513, .slice none 0 0, .slice none 0 0, .slice none 0 0]] V (IsPr (Cw.sealL [67, 1, 1, 2, 0, 0, 0]) 0 V) := by
  have := print_any c513 none 0 none 0 none 0 V (c513_r V none none none) (by decide) (by decide) (by decide) (by decide)
  rw [c513_out.1, c513_out.2] at this
  exact this
theorem parse_513 (s : ByteArray) (hs : s.data.toList = Cw.sealL [67, 1, 1, 2, 0, 0, 0]) (V : World) : Calls Try.prog 8 #[.string s] V fun e V' => ∃ (a1 : Option Addr) (c1 : Nat) (a2 : Option Addr) (c2 : Nat) (a3 : Option Addr) (c3 : Nat), e = .returned (.tuple #[.agg #[.int .i64 513, .slice a1 0 c1, .slice a2 0 c2, .slice a3 0 c3], .int .i64 0]) ∧ Below V.heap.size V V' := by
  have hz : s.size = 9 := by rw [size_of s _ hs, Cw.sealL_length]; rfl
  refine (parse_any s V (by omega)).mono ?_
  rw [hs]
  rintro e V' ⟨a1, c1, a2, c2, a3, c3, rfl, _, hb⟩
  rw [c513_back.1, c513_back.2]
  exact ⟨a1, c1, a2, c2, a3, c3, rfl, hb⟩
theorem size_513 (a1 : Option Addr) (c1 : Nat) (a2 : Option Addr) (c2 : Nat) (a3 : Option Addr) (c3 : Nat) (V : World) : Calls Try.prog 15 #[.agg #[.int .i64 513, .slice a1 0 c1, .slice a2 0 c2, .slice a3 0 c3]] V fun e V' => e = .returned (.int .i64 9) ∧ Below V.heap.size V V' := size_any c513 a1 c1 a2 c2 a3 c3 V (by decide) (by decide) (by decide)
theorem live_any (w : World) : Calls Try.prog 6 #[] w fun e w' => e = .returned (.bool true) ∧ Below w.heap.size w w' := by
  go_enter Try.func6, Try.ntmps6
  go_wp2_with fail
  refine (print_513 _).mono ?_
  rintro e v1 ⟨r, rfl, hr, hb1⟩
  have HC := Lib.hid (parse_513 r hr)
  have hz : r.size = 9 := by rw [size_of r _ hr, Cw.sealL_length]; rfl
  have h7 : ((r.extract 0 7).toList == [67, 1, 1, 2, 0, 0, 0]) = true := seq_lit (by rw [take_data, hr]; rfl)
  have hl7 : (ByteArray.mk #[67, 1, 1, 2, 0, 0, 0]).toList = [67, 1, 1, 2, 0, 0, 0] := by rw [ByteArray.toList_eq]
  have hz1 : (7 : Int) ≤ (r.size : Int) := by omega
  have hz2 : ((r.size : Int) == 9) = true := by rw [hz]; rfl
  have HB1 := Lib.hid hb1
  clear hr hb1
  go_wp2_with fail
  refine (HC.out _).mono ?_
  clear HC
  rintro e v2 ⟨a1, c1, a2, c2, a3, c3, rfl, hb2⟩
  have hB2 := HB1.out.trans (hb2.mono HB1.out.size)
  have HB3 := Lib.hid (hB2.alloc hB2.size (.cells #[.int .i64 513, .slice a1 0 c1, .slice a2 0 c2, .slice a3 0 c3] 28))
  clear hB2 hb2 HB1
  go_wp2_with fail
  refine (size_513 a1 c1 a2 c2 a3 c3 _).mono ?_
  rintro e v3 ⟨rfl, hb3⟩
  have HB4 := Lib.hid (HB3.out.trans (hb3.mono HB3.out.size))
  clear hb3 HB3
  go_wp2_with fail
  go_ret
  exact ⟨ret_bool (by decide), HB4.out⟩
end Im
end Go.Proofs.Ytjdhkpafbejodaa
