/- The law FrameCuts: its walk. -/
import Derived.Test.YtflkeibfoagifaaFrameG
namespace Go.Proofs.Ytflkeibfoagifaa
open Go.RowKit
attribute [local go_sem] Bw.and255 Bw.and65535
namespace Fr
open Sm Bi
open PlainAid (bt get_bt bt_nonneg bt_le)
theorem u8_bd {n : Int} (h : (Lit.int .u8 n).wf = true) : 0 ≤ n ∧ n ≤ 255 := by
  simp [Lit.wf, IntKind.min, IntKind.max, IntKind.signed, IntKind.bits] at h
  omega
theorem bt_data (s t : ByteArray) (k : Nat) (hs : k < s.size) (ht : k < t.size) (h : s.data.toList.getD k 0 = t.data.toList.getD k 0) : bt s k = bt t k := by
  rw [bt_def s k hs, bt_def t k ht, h]
/-- A frame's bytes cut off. -/
theorem cut_few (t : ByteArray) (n k : Nat) (hz : t.size = n + 5) (hn : n ≤ 32) (h2 : bt t 2 = (n : Int)) (hk : k < t.size) : pE (t.extract 0 k) = 5 := by
  have hd := take_data t k
  have hsz : (t.extract 0 k).size = k := by
    rw [size_of _ _ hd, List.length_take, Array.length_toList]
    show min k t.size = k
    omega
  by_cases h3 : k < 3
  · exact pE_few _ (by omega)
  · rw [pE_many _ (by omega)]
    have e2 : bt (t.extract 0 k) 2 = (n : Int) := by
      rw [← h2]
      refine bt_data _ _ 2 (by omega) (by omega) ?_
      rw [hd, List.getD_eq_getElem?_getD, List.getD_eq_getElem?_getD, List.getElem?_take, if_pos (by omega)]
    unfold pErr
    rw [e2, hsz, if_neg (by omega), if_pos (by omega)]
theorem app_data (r t : ByteArray) : (r ++ t).data.toList = r.data.toList ++ t.data.toList := by simp
theorem app_size (r t : ByteArray) : (r ++ t).size = r.size + t.size := by
  rw [size_of _ _ (app_data r t), List.length_append, Array.length_toList, Array.length_toList]; rfl
theorem more_many (t more : ByteArray) (n : Nat) (hz : t.size = n + 5) (hn : n ≤ 32) (h2 : bt t 2 = (n : Int)) (hm : 0 < more.size) : pE (t ++ more) = 3 := by
  have hsz := app_size t more
  rw [pE_many _ (by omega)]
  have e2 : bt (t ++ more) 2 = (n : Int) := by
    rw [← h2]
    refine bt_data _ _ 2 (by omega) (by omega) ?_
    rw [app_data, List.getD_eq_getElem?_getD, List.getD_eq_getElem?_getD, List.getElem?_append_left (by rw [Array.length_toList]; show 2 < t.size; omega)]
  unfold pErr
  rw [e2, hsz, if_neg (by omega), if_neg (by omega), if_pos (by omega)]
attribute [local irreducible] prOut prErr pE dat forV sizeV
set_option maxRecDepth 100000 in
set_option maxHeartbeats 2000000 in
theorem cuts_law (to fr : Int) (d : ByteArray) (at_ : Int) (more : ByteArray) (W : World) (_ : (Lit.int .i64 to).wf = true) (_ : (Lit.int .i64 fr).wf = true) (hm : d.size ≤ maxLen) (wa : (Lit.int .u8 at_).wf = true) (hmm : more.size ≤ maxLen) :
    Calls Try.prog 4 #[.agg #[.int .i64 to, .int .i64 fr, .string d], .int .u8 at_, .string more] W fun e W' => e = .returned (.bool true) ∧ Below W.heap.size W W' := by
  unfold maxLen at hm hmm
  obtain ⟨a0, a1⟩ := u8_bd wa
  clear wa
  have hB0 := (Below.refl W.heap.size W).alloc (Nat.le_refl _) (.cells #[.int .i64 to, .int .i64 fr, .string d] 23)
  by_cases hs : 200 < d.size
  · go_enter Try.func4, Try.ntmps4
    go_wp2_with (go_at_call 6; refine (live_any _).mono ?_; rintro e v7 ⟨rfl, hb7⟩)
    go_ret
    exact ⟨rfl, hB0.trans (hb7.mono (by simp))⟩
  by_cases hs2 : 50 < more.size
  · have hd : d.size ≤ 200 := by omega
    clear hs
    go_enter Try.func4, Try.ntmps4
    go_wp2_with (go_at_call 6; refine (live_any _).mono ?_; rintro e v7 ⟨rfl, hb7⟩)
    go_ret
    exact ⟨rfl, hB0.trans (hb7.mono (by simp))⟩
  have hd : d.size ≤ 200 := by omega
  have hmo : more.size ≤ 50 := by omega
  clear hs hs2
  have HR := Lib.hid (fun V => rprint_any to fr d V (by omega))
  rcases pr_cases to fr d with ⟨h1, h2, h3, he, ho⟩ | he
  · rw [he, ho] at HR
    clear he ho
    have HG := Lib.hid (fun t ht => good_of to fr d t h1 h2 h3 ht)
    clear h1 h2
    go_enter Try.func4, Try.ntmps4
    go_wp2_with fail
    generalize W.alloc (.cells #[.int .i64 to, .int .i64 fr, .string d] 23) = v0 at *
    refine (HR.out _).mono ?_
    clear HR
    rintro e v1 ⟨t, rfl, ht, hb1⟩
    have hB1 := hB0.trans (hb1.mono hB0.size)
    clear hB0 hb1
    obtain ⟨z, _, _, e2, _, _⟩ := HG.out t ht
    have hpos : (0 : Int) < (t.size : Int) := by omega
    obtain ⟨k, hk⟩ := Int.eq_ofNat_of_zero_le (Int.emod_nonneg at_ (show (t.size : Int) ≠ 0 by omega))
    have hkl : k < t.size := by
      have := Int.emod_lt_of_pos at_ hpos
      omega
    have hk2 : at_.tmod (t.size : Int) = (k : Int) := by rw [Int.tmod_eq_emod_of_nonneg a0]; exact hk
    have HC := Lib.hid (fun V => parse_bad (t.extract 0 k) V (by have := cut_few t d.size k z h3 e2 hkl; have hh := size_of _ _ (take_data t k); rw [List.length_take, Array.length_toList] at hh; have : t.data.size = t.size := rfl; omega) (by rw [cut_few t d.size k z h3 e2 hkl]; decide))
    rw [cut_few t d.size k z h3 e2 hkl] at HC
    have hsum : t.size + more.size ≤ 9223372036854775807 := by omega
    have hki : (k : Int) ≤ (t.size : Int) := by omega
    have hki0 : (0 : Int) ≤ (k : Int) := by omega
    have htz : (1 : Int) ≤ (t.size : Int) := by omega
    have HZ := Lib.hid z
    have HE2 := Lib.hid e2
    have HT := Lib.hid ht
    by_cases hme : more.size = 0
    · have hmd : more.data.toList = [] := List.eq_nil_of_length_eq_zero (by rw [Array.length_toList]; exact hme)
      have hmt := sempty hmd
      have htm : (t ++ more).data.toList = Cw.sealL (frL to fr d) := by rw [app_data, hmd, List.append_nil]; exact ht
      obtain ⟨zz, _, _, _, e3, _⟩ := HG.out (t ++ more) htm
      have HD := Lib.hid (fun V => parse_good (t ++ more) V (by omega) e3)
      generalize bt (t ++ more) 0 = c0 at *
      generalize bt (t ++ more) 1 = c1 at *
      clear z e2 ht hmd htm zz e3 hme HG
      go_wp2_with fail
      refine (HC.out _).mono ?_
      clear HC
      rintro e v2 ⟨r2, rfl, _, hb2⟩
      have hB2 := (hB1.trans (hb2.mono hB1.size)).alloc (hB1.trans (hb2.mono hB1.size)).size (.cells #[.int .i64 0, .int .i64 0, .string r2] 23)
      clear hB1 hb2
      go_wp2_with fail
      generalize v2.alloc (.cells #[.int .i64 0, .int .i64 0, .string r2] 23) = v3 at *
      refine (HD.out _).mono ?_
      clear HD
      rintro e v4 ⟨r4, rfl, _, hb4⟩
      have hB4 := hB2.trans (hb4.mono hB2.size)
      clear hB2 hb4
      go_wp2_with (go_at_call 6; refine (live_any _).mono ?_; rintro e v7 ⟨rfl, hb7⟩)
      go_ret
      exact ⟨rfl, (hB4.alloc hB4.size _).trans (hb7.mono (by have := hB4.size; simp; omega))⟩
    · have hmn : ¬ more.data.toList = [] := fun h => hme (by have := congrArg List.length h; rwa [Array.length_toList] at this)
      have hmt := snonempty hmn
      have HD := Lib.hid (fun V => parse_bad (t ++ more) V (by rw [app_size]; omega) (by rw [more_many t more d.size z h3 e2 (by omega)]; decide))
      rw [more_many t more d.size z h3 e2 (by omega)] at HD
      clear z e2 ht hmn hme HG
      go_wp2_with fail
      refine (HC.out _).mono ?_
      clear HC
      rintro e v2 ⟨r2, rfl, _, hb2⟩
      have hB2 := (hB1.trans (hb2.mono hB1.size)).alloc (hB1.trans (hb2.mono hB1.size)).size (.cells #[.int .i64 0, .int .i64 0, .string r2] 23)
      clear hB1 hb2
      go_wp2_with fail
      generalize v2.alloc (.cells #[.int .i64 0, .int .i64 0, .string r2] 23) = v3 at *
      refine (HD.out _).mono ?_
      clear HD
      rintro e v4 ⟨r4, rfl, _, hb4⟩
      have hB4 := hB2.trans (hb4.mono hB2.size)
      clear hB2 hb4
      go_wp2_with (go_at_call 6; refine (live_any _).mono ?_; rintro e v7 ⟨rfl, hb7⟩)
      go_ret
      exact ⟨rfl, (hB4.alloc hB4.size _).trans (hb7.mono (by have := hB4.size; simp; omega))⟩
  · have hne : (prErr to fr d != 0) = true := by simpa using he
    have HE := Lib.hid he
    clear he
    generalize prErr to fr d = p at *
    generalize prOut to fr d = l at *
    go_enter Try.func4, Try.ntmps4
    go_wp2_with fail
    generalize W.alloc (.cells #[.int .i64 to, .int .i64 fr, .string d] 23) = v0 at *
    refine (HR.out _).mono ?_
    clear HR
    rintro e v1 ⟨t, rfl, _, hb1⟩
    have hB1 := hB0.trans (hb1.mono hB0.size)
    clear hB0 hb1
    go_wp2_with (go_at_call 6; refine (live_any _).mono ?_; rintro e v7 ⟨rfl, hb7⟩)
    go_ret
    exact ⟨rfl, hB1.trans (hb7.mono hB1.size)⟩
end Fr
end Go.Proofs.Ytflkeibfoagifaa
