/- The frame that bytes are: the program's Parse. The frame that bytes are: the reference's Parse. What parsing comes to; what is asked whatever is asked of frames (live); For; and the law FrameParses. -/
import Derived.Test.YtdbkgpnbmafpmaaZfAE
import Derived.Test.YtdbkgpnbmafpmaaZfAA
namespace Go.Proofs.Ytdbkgpnbmafpmaa
open Go.RowKit
attribute [local go_sem] Bw.and255 Bw.and65535
namespace Fr
open Sm Bi
open PlainAid (bt get_bt bt_nonneg bt_le)
def sizeV (n : Int) : Int := if 0 ≤ n ∧ n ≤ 32 then n + 5 else 0
theorem size_any (n : Int) (w : World) : Calls Try.prog 42 #[.int .i64 n] w fun e w' => e = .returned (.int .i64 (sizeV n)) ∧ w = w' := by
  unfold sizeV
  by_cases h : 0 ≤ n ∧ n ≤ 32
  · rw [if_pos h]
    obtain ⟨h0, h1⟩ := h
    go_enter Try.func42, Try.ntmps42
    go_wp2
    go_ret
    exact ⟨rfl, rfl⟩
  · rw [if_neg h]
    by_cases h0 : n < 0
    · clear h
      go_enter Try.func42, Try.ntmps42
      go_wp2
      go_ret
      exact ⟨rfl, rfl⟩
    · have h1 : 32 < n := by omega
      clear h
      go_enter Try.func42, Try.ntmps42
      go_wp2
      go_ret
      exact ⟨rfl, rfl⟩
theorem yes_byte (s : ByteArray) (k : Nat) (h : k + 1 ≤ s.size) : rdByte s k 0 = bt s k ∧ rdAt s k 0 1 = (k : Int) + 1 ∧ rdErr s k 0 1 = 0 := by
  refine ⟨?_, ?_, ?_⟩
  · unfold rdByte; rw [if_pos ⟨rfl, by omega⟩]; rfl
  · unfold rdAt; rw [if_pos ⟨rfl, by omega, by omega⟩]
  · unfold rdErr; rw [if_neg (by omega), if_neg (by omega), if_neg (by omega)]
theorem byte_at (b : Nat) (s : ByteArray) (k : Nat) (w : World) (h : Rd w b s k 0) (hk : k + 1 ≤ s.size) (hm : s.size ≤ 9223372036854775807) :
    Calls Try.prog 41 #[.pointer (some ⟨b, 0, none⟩)] w (IsRd b s ((k : Int) + 1) 0 (.int .i64 (bt s k)) w) := by
  obtain ⟨e1, e2, e3⟩ := yes_byte s k hk
  have := byte_any b s k 0 w h (by omega) (by omega) hm
  rw [e1, e2, e3] at this
  exact this
theorem rdByte_bd (s : ByteArray) (a e : Int) : 0 ≤ rdByte s a e ∧ rdByte s a e ≤ 255 := by
  unfold rdByte
  split
  · exact ⟨bt_nonneg _ _, bt_le _ _⟩
  · omega
theorem rdAt_bd (s : ByteArray) (a e n : Int) (h : 0 ≤ a ∧ a ≤ s.size) : 0 ≤ rdAt s a e n ∧ rdAt s a e n ≤ s.size := by
  unfold rdAt; split <;> omega
theorem few (s : ByteArray) (h : s.size < 3) : rdErr s (rdAt s (rdAt s 0 0 1) (rdErr s 0 0 1) 1) (rdErr s (rdAt s 0 0 1) (rdErr s 0 0 1) 1) 1 = 5 := by
  have : s.size = 0 ∨ s.size = 1 ∨ s.size = 2 := by omega
  unfold rdErr rdAt
  rcases this with h | h | h <;> rw [h] <;> simp
def IsFr (to fr : Int) (l : List UInt8) (n : Int) (W : World) (e : Ending) (W' : World) : Prop :=
  ∃ r : ByteArray, e = .returned (.tuple #[.agg #[.int .i64 to, .int .i64 fr, .string r], .int .i64 n]) ∧ r.data.toList = l ∧ Below W.heap.size W W'
/-- The result's block, and the reader's, a while into the walk. -/
structure At (W w : World) (b : Nat) (s : ByteArray) (a e : Int) : Prop where
  z : Blk w W.heap.size 39 #[.int .i64 0, .int .i64 0, .string ⟨#[]⟩]
  r : Rd w b s a e
  k : Below W.heap.size W w
  hb : W.heap.size < b
theorem At.next {W w w' : World} {b : Nat} {s : ByteArray} {a e a' e' : Int} (h : At W w b s a e) (hr : Rd w' b s a' e') (hk : Keeps [b] w w') : At W w' b s a' e' :=
  ⟨h.z.keeps hk (by have := h.hb; simp; omega), hr, h.k.trans (hk.below h.k.size (by have := h.hb; simp; omega)), h.hb⟩
theorem At.below {W w w' : World} {b : Nat} {s : ByteArray} {a e : Int} (h : At W w b s a e) (hk : Below w.heap.size w w') : At W w' b s a e :=
  ⟨h.z.below hk h.z.lt, Rd.keeps h.r (Keeps.of_below hk []) (by simp), h.k.trans (hk.mono h.k.size), h.hb⟩
theorem start_at (W w1 : World) (s : ByteArray) (hr : Rd w1 (W.alloc (.cells #[.int .i64 0, .int .i64 0, .string ⟨#[]⟩] 39)).heap.size s 0 0) (hk : Keeps [] (W.alloc (.cells #[.int .i64 0, .int .i64 0, .string ⟨#[]⟩] 39)) w1) :
    At W w1 (W.heap.size + 1) s 0 0 := by
  refine ⟨(Blk.new W _ _).keeps hk (by simp), by simpa using hr, ((Below.refl _ W).alloc (Nat.le_refl _) _).trans (hk.all.mono (by simp)), by omega⟩
attribute [local irreducible] rdAt rdErr rdByte Rd
set_option maxRecDepth 100000 in
set_option maxHeartbeats 2000000 in
theorem parse_few (s : ByteArray) (W : World) (hs : s.size < 3) (hm : s.size ≤ 9223372036854775807) : Calls Try.prog 27 #[.string s] W (IsFr 0 0 [] 5 W) := by
  have HF := Lib.hid (few s hs)
  go_enter Try.func27, Try.ntmps27
  go_wp2_with fail
  refine (new_any _ _).mono ?_
  rintro e w1 ⟨rfl, hr1, hk1⟩
  have hA := start_at W w1 s hr1 hk1
  have hz : (W.alloc (.cells #[.int .i64 0, .int .i64 0, .string ⟨#[]⟩] 39)).heap.size = W.heap.size + 1 := by simp
  rw [hz]
  clear hz hr1 hk1
  have hp0 : (0 : Int) ≤ 0 ∧ (0 : Int) ≤ s.size := by omega
  have HC := Lib.hid (byte_any (W.heap.size + 1) s _ _ w1 hA.r hp0.1 hp0.2 hm)
  go_wp2_with fail
  refine HC.out.mono ?_
  clear HC
  rintro e w2 ⟨rfl, hr2, hk2⟩
  have hA2 := hA.next hr2 hk2
  have hp1 := rdAt_bd s 0 0 1 hp0
  have hv0 := rdByte_bd s 0 0
  clear hA hr2 hk2 hp0
  generalize rdByte s 0 0 = v0 at *
  generalize rdAt s 0 0 1 = a1 at *
  generalize rdErr s 0 0 1 = e1 at *
  have HC := Lib.hid (byte_any (W.heap.size + 1) s _ _ w2 hA2.r hp1.1 hp1.2 hm)
  go_wp2_with fail
  refine HC.out.mono ?_
  clear HC
  rintro e w3 ⟨rfl, hr3, hk3⟩
  have hA3 := hA2.next hr3 hk3
  have hp2 := rdAt_bd s a1 e1 1 hp1
  have hv1 := rdByte_bd s a1 e1
  clear hA2 hr3 hk3 hp1
  generalize rdByte s a1 e1 = v1 at *
  generalize rdAt s a1 e1 1 = a2 at *
  generalize rdErr s a1 e1 1 = e2 at *
  have hA4 := hA3.below ((Below.refl _ w3).alloc (Nat.le_refl _) (.cells #[.int .i64 v0, .int .i64 v1, .string ⟨#[]⟩] 39))
  have HC := Lib.hid (byte_any (W.heap.size + 1) s _ _ _ hA4.r hp2.1 hp2.2 hm)
  clear hA3 hp2
  go_wp2_with fail
  refine HC.out.mono ?_
  clear HC
  rintro e w5 ⟨rfl, hr5, hk5⟩
  have hA5 := hA4.next hr5 hk5
  rw [HF.out] at hA5
  clear hA4 hr5 hk5
  generalize rdByte s a2 e2 = v2 at *
  generalize rdAt s a2 e2 1 = a3 at *
  go_wp2_with fail
  refine (size_any _ _).mono ?_
  rintro e w6 ⟨rfl, rfl⟩
  generalize sizeV v2 = sv at *
  have HE := Lib.hid (err_any (W.heap.size + 1) s _ _ w5 hA5.r)
  go_wp2_with fail
  refine HE.out.mono ?_
  clear HE
  rintro e w6 ⟨rfl, hd6⟩
  have hA6 := hA5.below (hd6.below _)
  have HE := Lib.hid (err_any (W.heap.size + 1) s _ _ w6 hA6.r)
  clear hA5 hd6
  go_wp2_with fail
  refine HE.out.mono ?_
  clear HE
  rintro e w7 ⟨rfl, hd7⟩
  have hA5 := hA6.below (hd7.below _)
  clear hA6 hd7
  obtain ⟨hz5, _, hb5, _⟩ := hA5
  have q0 := hz5.cell 0
  have q1 := hz5.cell 1
  have q2 := hz5.cell 2
  have qf := hz5.frozen
  have ql := hz5.lt
  clear hz5
  go_wp2
  refine bodyPost_ret (v := .tuple #[.agg #[.int .i64 0, .int .i64 0, .string ⟨#[]⟩], .int .i64 5]) (by simp [results, Try.results27, go_sem, q0, q1, q2]) rfl ⟨⟨#[]⟩, rfl, rfl, ?_⟩
  repeat (refine Below.setCell ?_ (by simp) _)
  exact hb5
theorem drop_data (r : ByteArray) (k : Nat) : (r.extract k r.size).data.toList = r.data.toList.drop k := by
  rw [ByteArray.data_extract, Array.toList_extract, List.extract_eq_take_drop]
  exact List.take_of_length_le (by rw [List.length_drop, Array.length_toList]; exact Nat.le_refl _)
theorem size_yes (n : Int) (h0 : 0 ≤ n) (h1 : n ≤ 32) : sizeV n = n + 5 := by unfold sizeV; rw [if_pos ⟨h0, h1⟩]
theorem size_no (n : Int) (h1 : 32 < n) : sizeV n = 0 := by unfold sizeV; rw [if_neg (by omega)]
theorem open_bad (s : ByteArray) (V : World) (h2 : 2 ≤ s.size) (hs : s.size ≤ 400) (hc : ¬ Cm.crc 65535#16 s.data.toList = 0#16) : Calls Try.prog 44 #[.string s] V (Cw.IsPair [] 10 V) := by
  have := Cw.open_any s V hs
  unfold Cw.openV at this
  rw [if_neg (by simp; omega), if_neg hc] at this
  exact this
theorem open_good (s : ByteArray) (V : World) (h2 : 2 ≤ s.size) (hs : s.size ≤ 400) (hc : Cm.crc 65535#16 s.data.toList = 0#16) : Calls Try.prog 44 #[.string s] V (Cw.IsPair (s.data.toList.take (s.size - 2)) 0 V) := by
  have := Cw.open_any s V hs
  unfold Cw.openV at this
  rw [if_neg (by simp; omega), if_pos hc] at this
  simpa using this
/-- What is wrong with bytes that are three or more. -/
def pErr (s : ByteArray) : Int :=
  if 32 < bt s 2 then 4 else if (s.size : Int) < bt s 2 + 5 then 5 else if bt s 2 + 5 < (s.size : Int) then 3 else if Cm.crc 65535#16 s.data.toList = 0#16 then 0 else 10
set_option maxRecDepth 100000 in
set_option maxHeartbeats 4000000 in
theorem parse_many (s : ByteArray) (W : World) (hs : 3 ≤ s.size) (hm : s.size ≤ 9223372036854775807) (P : Ending → World → Prop)
    (hbad : pErr s ≠ 0 → ∀ e W', IsFr 0 0 [] (pErr s) W e W' → P e W') (hgood : pErr s = 0 → ∀ e W', IsFr (bt s 0) (bt s 1) ((s.data.toList.take (s.size - 2)).drop 3) 0 W e W' → P e W') :
    Calls Try.prog 27 #[.string s] W P := by
  have HBAD := Lib.hid hbad
  have HGOOD := Lib.hid hgood
  clear hbad hgood
  go_enter Try.func27, Try.ntmps27
  go_wp2_with fail
  refine (new_any _ _).mono ?_
  rintro e w1 ⟨rfl, hr1, hk1⟩
  have hA := start_at W w1 s hr1 hk1
  have hz : (W.alloc (.cells #[.int .i64 0, .int .i64 0, .string ⟨#[]⟩] 39)).heap.size = W.heap.size + 1 := by simp
  rw [hz]
  clear hz hr1 hk1
  have HC := Lib.hid (byte_at (W.heap.size + 1) s 0 w1 hA.r (by omega) hm)
  go_wp2_with fail
  refine HC.out.mono ?_
  clear HC
  rintro e w2 ⟨rfl, hr2, hk2⟩
  have hA2 := hA.next hr2 hk2
  clear hA hr2 hk2
  have HC := Lib.hid (byte_at (W.heap.size + 1) s 1 w2 hA2.r (by omega) hm)
  go_wp2_with fail
  refine HC.out.mono ?_
  clear HC
  rintro e w3 ⟨rfl, hr3, hk3⟩
  have hA3 := hA2.next hr3 hk3
  clear hA2 hr3 hk3
  have hA4 := hA3.below ((Below.refl _ w3).alloc (Nat.le_refl _) (.cells #[.int .i64 (bt s 0), .int .i64 (bt s 1), .string ⟨#[]⟩] 39))
  have hf4 := Blk.new w3 39 #[.int .i64 (bt s 0), .int .i64 (bt s 1), .string ⟨#[]⟩]
  have hbf : W.heap.size + 1 < w3.heap.size := Rd.lt hA3.r
  have HC := Lib.hid (byte_at (W.heap.size + 1) s 2 _ hA4.r (by omega) hm)
  clear hA3
  go_wp2_with fail
  refine HC.out.mono ?_
  clear HC
  rintro e w5 ⟨rfl, hr5, hk5⟩
  have hA5 := hA4.next hr5 hk5
  have hf5 := hf4.keeps hk5 (by simp; omega)
  clear hA4 hr5 hk5 hf4
  go_wp2_with fail
  refine (size_any _ _).mono ?_
  rintro e w6 ⟨rfl, rfl⟩
  have hn0 := bt_nonneg s 2
  have hn1 := bt_le s 2
  by_cases hn : 32 < bt s 2
  · have HP : Hid (pErr s = 4) := Lib.hid (by unfold pErr; rw [if_pos hn])
    rw [size_no _ hn]
    clear HGOOD
    generalize bt s 2 = n at *
    have HE := Lib.hid (err_any (W.heap.size + 1) s _ _ w5 hA5.r)
    go_wp2_with fail
    refine HE.out.mono ?_
    clear HE
    rintro e w7 ⟨rfl, hd7⟩
    have hA7 := hA5.below (hd7.below _)
    have hf7 := hf5.drawn hd7
    clear hA5 hf5 hd7
    obtain ⟨hz7, _, hb7, _⟩ := hA7
    have q0 := hz7.cell 0
    have q1 := hz7.cell 1
    have q2 := hz7.cell 2
    have qf := hz7.frozen
    have ql := hz7.lt
    clear hz7 hf7
    go_wp2
    refine bodyPost_ret (v := .tuple #[.agg #[.int .i64 0, .int .i64 0, .string ⟨#[]⟩], .int .i64 4]) (by simp [results, Try.results27, go_sem, q0, q1, q2]) rfl ?_
    refine HBAD.out (by rw [HP.out]; decide) _ _ ⟨⟨#[]⟩, by rw [HP.out], rfl, ?_⟩
    repeat (refine Below.setCell ?_ (by simp) _)
    exact hb7
  · rw [size_yes _ hn0 (by omega)]
    by_cases h5 : (s.size : Int) < bt s 2 + 5
    · have HP : Hid (pErr s = 5) := Lib.hid (by unfold pErr; rw [if_neg hn, if_pos h5])
      clear HGOOD
      generalize bt s 2 = n at *
      have HE := Lib.hid (err_any (W.heap.size + 1) s _ _ w5 hA5.r)
      go_wp2_with fail
      refine HE.out.mono ?_
      clear HE
      rintro e w7 ⟨rfl, hd7⟩
      have hA7 := hA5.below (hd7.below _)
      have hf7 := hf5.drawn hd7
      clear hA5 hf5 hd7
      obtain ⟨hz7, _, hb7, _⟩ := hA7
      have q0 := hz7.cell 0
      have q1 := hz7.cell 1
      have q2 := hz7.cell 2
      have qf := hz7.frozen
      have ql := hz7.lt
      clear hz7 hf7
      go_wp2
      refine bodyPost_ret (v := .tuple #[.agg #[.int .i64 0, .int .i64 0, .string ⟨#[]⟩], .int .i64 5]) (by simp [results, Try.results27, go_sem, q0, q1, q2]) rfl ?_
      refine HBAD.out (by rw [HP.out]; decide) _ _ ⟨⟨#[]⟩, by rw [HP.out], rfl, ?_⟩
      repeat (refine Below.setCell ?_ (by simp) _)
      exact hb7
    · by_cases h6 : bt s 2 + 5 < (s.size : Int)
      · have HP : Hid (pErr s = 3) := Lib.hid (by unfold pErr; rw [if_neg hn, if_neg h5, if_pos h6])
        clear HGOOD
        generalize bt s 2 = n at *
        have HE := Lib.hid (err_any (W.heap.size + 1) s _ _ w5 hA5.r)
        go_wp2_with fail
        refine HE.out.mono ?_
        clear HE
        rintro e w7 ⟨rfl, hd7⟩
        have hA7 := hA5.below (hd7.below _)
        have hf7 := hf5.drawn hd7
        clear hA5 hf5 hd7
        obtain ⟨hz7, _, hb7, _⟩ := hA7
        have q0 := hz7.cell 0
        have q1 := hz7.cell 1
        have q2 := hz7.cell 2
        have qf := hz7.frozen
        have ql := hz7.lt
        clear hz7 hf7
        go_wp2
        refine bodyPost_ret (v := .tuple #[.agg #[.int .i64 0, .int .i64 0, .string ⟨#[]⟩], .int .i64 3]) (by simp [results, Try.results27, go_sem, q0, q1, q2]) rfl ?_
        refine HBAD.out (by rw [HP.out]; decide) _ _ ⟨⟨#[]⟩, by rw [HP.out], rfl, ?_⟩
        repeat (refine Below.setCell ?_ (by simp) _)
        exact hb7
      · have hle : s.size ≤ 37 := by omega
        have hge : 5 ≤ s.size := by omega
        by_cases hc : Cm.crc 65535#16 s.data.toList = 0#16
        · have HP : Hid (pErr s = 0) := Lib.hid (by unfold pErr; rw [if_neg hn, if_neg h5, if_neg h6, if_pos hc])
          have HO := Lib.hid (fun V => open_good s V (by omega) (by omega) hc)
          clear HBAD hc
          generalize bt s 2 = n at *
          have HE := Lib.hid (err_any (W.heap.size + 1) s _ _ w5 hA5.r)
          go_wp2_with fail
          refine HE.out.mono ?_
          clear HE
          rintro e w7 ⟨rfl, hd7⟩
          have hA7 := hA5.below (hd7.below _)
          have hf7 := hf5.drawn hd7
          clear hA5 hf5 hd7
          obtain ⟨hz7, _, hb7, _⟩ := hA7
          go_wp2_with fail
          refine (HO.out _).mono ?_
          clear HO
          rintro e w8 ⟨r, rfl, hr, hb8⟩
          have hz8 := hz7.below hb8 hz7.lt
          have hf8 := hf7.below hb8 hf7.lt
          have hB8 := hb7.trans (hb8.mono hb7.size)
          have hrs : 3 ≤ r.size := by
            have := size_of r _ hr
            rw [List.length_take] at this
            simp at this
            omega
          have HR := Lib.hid hr
          clear hr hb8 hz7 hf7 hb7
          generalize w3.heap.size = bf at *
          have q0 := hz8.cell 0
          have q1 := hz8.cell 1
          have q2 := hz8.cell 2
          have qf := hz8.frozen
          have ql := hz8.lt
          have p0 := hf8.cell 0
          have p1 := hf8.cell 1
          have p2 := hf8.cell 2
          have pf := hf8.frozen
          have pl := hf8.lt
          clear hz8 hf8
          have hbd : W.heap.size < bf := by omega
          go_wp2
          refine bodyPost_ret (v := .tuple #[.agg #[.int .i64 (bt s 0), .int .i64 (bt s 1), .string (r.extract 3 r.size)], .int .i64 0]) (by simp [results, Try.results27, go_sem, q0, q1, q2]) rfl ?_
          refine HGOOD.out HP.out _ _ ⟨r.extract 3 r.size, rfl, ?_, ?_⟩
          · rw [← HR.out, drop_data]
          · repeat (refine Below.setCell ?_ (by first | (simp; done) | (simp; omega)) _)
            exact hB8
        · have HP : Hid (pErr s = 10) := Lib.hid (by unfold pErr; rw [if_neg hn, if_neg h5, if_neg h6, if_neg hc])
          have HO := Lib.hid (fun V => open_bad s V (by omega) (by omega) hc)
          clear HGOOD hc
          generalize bt s 2 = n at *
          have HE := Lib.hid (err_any (W.heap.size + 1) s _ _ w5 hA5.r)
          go_wp2_with fail
          refine HE.out.mono ?_
          clear HE
          rintro e w7 ⟨rfl, hd7⟩
          have hA7 := hA5.below (hd7.below _)
          have hf7 := hf5.drawn hd7
          clear hA5 hf5 hd7
          obtain ⟨hz7, _, hb7, _⟩ := hA7
          go_wp2_with fail
          refine (HO.out _).mono ?_
          clear HO
          rintro e w8 ⟨r, rfl, hr, hb8⟩
          have hz8 := hz7.below hb8 hz7.lt
          have hB8 := hb7.trans (hb8.mono hb7.size)
          clear hr hb8 hz7 hf7 hb7
          have q0 := hz8.cell 0
          have q1 := hz8.cell 1
          have q2 := hz8.cell 2
          have qf := hz8.frozen
          have ql := hz8.lt
          clear hz8
          go_wp2
          refine bodyPost_ret (v := .tuple #[.agg #[.int .i64 0, .int .i64 0, .string ⟨#[]⟩], .int .i64 10]) (by simp [results, Try.results27, go_sem, q0, q1, q2]) rfl ?_
          refine HBAD.out (by rw [HP.out]; decide) _ _ ⟨⟨#[]⟩, by rw [HP.out], rfl, ?_⟩
          repeat (refine Below.setCell ?_ (by simp) _)
          exact hB8
end Fr
end Go.Proofs.Ytdbkgpnbmafpmaa
namespace Go.Proofs.Ytdbkgpnbmafpmaa
open Go.RowKit
attribute [local go_sem] Bw.and255 Bw.and65535
namespace Fr
open Sm Bi
open PlainAid (bt get_bt bt_nonneg bt_le)
theorem take_data (s : ByteArray) (k : Nat) : (s.extract 0 k).data.toList = s.data.toList.take k := by
  rw [ByteArray.data_extract, Array.toList_extract, List.extract_eq_take_drop]
  simp
theorem mid_data (s : ByteArray) (k m : Nat) : (s.extract k m).data.toList = (s.data.toList.take m).drop k := by
  rw [ByteArray.data_extract, Array.toList_extract, List.extract_eq_take_drop, List.drop_take]
theorem rparse_few (s : ByteArray) (W : World) (hs : s.size < 3) : Calls Try.prog 29 #[.string s] W (IsFr 0 0 [] 5 W) := by
  go_enter Try.func29, Try.ntmps29
  go_wp2
  refine bodyPost_ret (v := .tuple #[.agg #[.int .i64 0, .int .i64 0, .string ⟨#[]⟩], .int .i64 5]) (by simp [results, Try.results29, go_sem]) rfl ⟨⟨#[]⟩, rfl, rfl, ?_⟩
  repeat (refine Below.setCell ?_ (by simp) _)
  exact (Below.refl _ _).alloc (Nat.le_refl _) _
set_option maxRecDepth 100000 in
set_option maxHeartbeats 4000000 in
theorem rparse_many (s : ByteArray) (W : World) (hs : 3 ≤ s.size) (hm : s.size ≤ 9223372036854775807) (P : Ending → World → Prop)
    (hbad : pErr s ≠ 0 → ∀ e W', IsFr 0 0 [] (pErr s) W e W' → P e W') (hgood : pErr s = 0 → ∀ e W', IsFr (bt s 0) (bt s 1) ((s.data.toList.take (s.size - 2)).drop 3) 0 W e W' → P e W') :
    Calls Try.prog 29 #[.string s] W P := by
  have HBAD := Lib.hid hbad
  have HGOOD := Lib.hid hgood
  clear hbad hgood
  obtain ⟨m, hbm⟩ := Int.eq_ofNat_of_zero_le (bt_nonneg s 2)
  have hm255 : (m : Int) ≤ 255 := by rw [← hbm]; exact bt_le s 2
  have gb := get_bt s
  have z2 : 2 < s.size := by omega
  have z2i : (2 : Int) < (s.size : Int) := by omega
  by_cases hn : 32 < (m : Int)
  · have HP : Hid (pErr s = 4) := Lib.hid (by unfold pErr; rw [if_pos (by rw [hbm]; exact hn)])
    clear HGOOD
    go_enter Try.func29, Try.ntmps29
    go_wp2
    refine bodyPost_ret (v := .tuple #[.agg #[.int .i64 0, .int .i64 0, .string ⟨#[]⟩], .int .i64 4]) (by simp [results, Try.results29, go_sem]) rfl ?_
    refine HBAD.out (by rw [HP.out]; decide) _ _ ⟨⟨#[]⟩, by rw [HP.out], rfl, ?_⟩
    repeat (refine Below.setCell ?_ (by simp) _)
    exact (Below.refl _ _).alloc (Nat.le_refl _) _
  · by_cases h5 : (s.size : Int) < (m : Int) + 5
    · have HP : Hid (pErr s = 5) := Lib.hid (by unfold pErr; rw [hbm, if_neg hn, if_pos h5])
      clear HGOOD
      go_enter Try.func29, Try.ntmps29
      go_wp2
      refine bodyPost_ret (v := .tuple #[.agg #[.int .i64 0, .int .i64 0, .string ⟨#[]⟩], .int .i64 5]) (by simp [results, Try.results29, go_sem]) rfl ?_
      refine HBAD.out (by rw [HP.out]; decide) _ _ ⟨⟨#[]⟩, by rw [HP.out], rfl, ?_⟩
      repeat (refine Below.setCell ?_ (by simp) _)
      exact (Below.refl _ _).alloc (Nat.le_refl _) _
    · by_cases h6 : (m : Int) + 5 < (s.size : Int)
      · have HP : Hid (pErr s = 3) := Lib.hid (by unfold pErr; rw [hbm, if_neg hn, if_neg h5, if_pos h6])
        clear HGOOD
        go_enter Try.func29, Try.ntmps29
        go_wp2
        refine bodyPost_ret (v := .tuple #[.agg #[.int .i64 0, .int .i64 0, .string ⟨#[]⟩], .int .i64 3]) (by simp [results, Try.results29, go_sem]) rfl ?_
        refine HBAD.out (by rw [HP.out]; decide) _ _ ⟨⟨#[]⟩, by rw [HP.out], rfl, ?_⟩
        repeat (refine Below.setCell ?_ (by simp) _)
        exact (Below.refl _ _).alloc (Nat.le_refl _) _
      · have hsz : s.size = m + 5 := by omega
        have hlen : s.data.toList.length = m + 5 := by simpa using hsz
        have hiff := Cw.seal_iff s.data.toList (by omega)
        rw [hlen, show m + 5 - 2 = m + 3 from by omega] at hiff
        have HS := Lib.hid (fun V => rseal_x (s.extract 0 (m + 3)) (s.data.toList.take (m + 3)) V (take_data s (m + 3)) (by rw [List.length_take]; omega))
        have hsl0 : (0 : Int) ≤ (m : Int) + 3 := by omega
        have hsl1 : (m : Int) + 3 ≤ (s.size : Int) := by omega
        by_cases hc : Cm.crc 65535#16 s.data.toList = 0#16
        · have HP : Hid (pErr s = 0) := Lib.hid (by unfold pErr; rw [hbm, if_neg hn, if_neg h5, if_neg h6, if_pos hc])
          have HQ : Hid (∀ r : ByteArray, r.data.toList = Cw.sealL (s.data.toList.take (m + 3)) → (r.toList == s.toList) = true) := Lib.hid fun r hr => seq_true (hr.trans (hiff.2 hc))
          have HDAT : Hid ((s.extract 3 (m + 3)).data.toList = (s.data.toList.take (s.size - 2)).drop 3) := Lib.hid (by rw [mid_data, hsz]; rfl)
          have z0 : 0 < s.size := by omega
          have z1 : 1 < s.size := by omega
          have z0i : (0 : Int) < (s.size : Int) := by omega
          have z1i : (1 : Int) < (s.size : Int) := by omega
          have h3m : (3 : Int) ≤ (m : Int) + 3 := by omega
          have hg5 : (m : Int) + 5 ≤ (s.size : Int) := by omega
          have hl5 : (s.size : Int) ≤ (m : Int) + 5 := by omega
          clear HBAD hc hiff hlen h5 h6 hsz
          go_enter Try.func29, Try.ntmps29
          go_wp2_with fail
          refine (HS.out _).mono ?_
          clear HS
          rintro e v1 ⟨r, rfl, hr, hb⟩
          have hsame := HQ.out r hr
          have hz := (Blk.new W 65 #[.int .i64 0, .int .i64 0, .string ⟨#[]⟩]).below hb (by simp)
          have hB : Below W.heap.size W v1 := ((Below.refl _ W).alloc (Nat.le_refl _) (.cells #[.int .i64 0, .int .i64 0, .string ⟨#[]⟩] 65)).trans (hb.mono (by simp))
          have q0 := hz.cell 0
          have q1 := hz.cell 1
          have q2 := hz.cell 2
          have qf := hz.frozen
          have ql := hz.lt
          have b0 := bt_nonneg s 0
          have b1 := bt_le s 0
          have b2 := bt_nonneg s 1
          have b3 := bt_le s 1
          have hw3 : IntKind.i64.wrap ((m : Int) + 3) = (m : Int) + 3 := IntWalk.i64_in _ (by omega)
          have hw0 : IntKind.i64.wrap (bt s 0) = bt s 0 := IntWalk.i64_in _ (by omega)
          have hw1 : IntKind.i64.wrap (bt s 1) = bt s 1 := IntWalk.i64_in _ (by omega)
          have hw2 : ((m : Int) + 3).toNat = m + 3 := by omega
          clear hr hb hz HQ
          go_wp2
          refine wp_region_held_drew (S := AnyW) (by kernel_rfl) trivial (fun hHeld => ?_)
          refine' wpAnyH_take (i := 0) (oi := _) (v := _) ?hR0 (by kernel_rfl) (by kernel_rfl) (by kernel_rfl) ?hQR0 (Or.inl ⟨?hwR0, ?hyR0⟩) hHeld ?restR0
          case hR0 => (simp only [List.getElem?_toArray, List.getElem?_cons_zero]; rfl)
          case hQR0 => exact fun _ _ _ h => h
          case hwR0 => rfl
          case hyR0 => (intro w hSw; (try dsimp only at hSw); go_simp; try with_reducible rfl)
          try simp only [Act.put, List.setIfInBounds_toArray, List.set_cons_zero, List.set_cons_succ]
          refine' wpAnyH_take (i := 1) (oi := _) (v := _) ?hR1 (by kernel_rfl) (by kernel_rfl) (by kernel_rfl) ?hQR1 (Or.inl ⟨?hwR1, ?hyR1⟩) hHeld ?restR1
          case hR1 => (simp only [List.getElem?_toArray, List.getElem?_cons_succ, List.getElem?_cons_zero]; rfl)
          case hQR1 => exact fun _ _ _ h => h
          case hwR1 => rfl
          case hyR1 => (intro w hSw; (try dsimp only at hSw); go_simp; try with_reducible rfl)
          try simp only [Act.put, List.setIfInBounds_toArray, List.set_cons_zero, List.set_cons_succ]
          refine' wpAnyH_take (i := 2) (oi := _) (v := _) ?hR2 (by kernel_rfl) (by kernel_rfl) (by kernel_rfl) ?hQR2 (Or.inl ⟨?hwR2, ?hyR2⟩) hHeld ?restR2
          case hR2 => (simp only [List.getElem?_toArray, List.getElem?_cons_succ, List.getElem?_cons_zero]; rfl)
          case hQR2 => exact fun _ _ _ h => h
          case hwR2 => rfl
          case hyR2 => (intro w hSw; (try dsimp only at hSw); go_simp; try with_reducible rfl)
          try simp only [Act.put, List.setIfInBounds_toArray, List.set_cons_zero, List.set_cons_succ]
          refine' wpAnyH_take (i := 3) (oi := _) (v := _) ?hR3 (by kernel_rfl) (by kernel_rfl) (by kernel_rfl) ?hQR3 (Or.inl ⟨?hwR3, ?hyR3⟩) hHeld ?restR3
          case hR3 => (simp only [List.getElem?_toArray, List.getElem?_cons_succ, List.getElem?_cons_zero]; rfl)
          case hQR3 => exact fun _ _ _ h => h
          case hwR3 => rfl
          case hyR3 => (intro w hSw; (try dsimp only at hSw); go_simp; try with_reducible rfl)
          try simp only [Act.put, List.setIfInBounds_toArray, List.set_cons_zero, List.set_cons_succ]
          refine' wpAnyH_take (i := 4) (oi := _) (v := _) ?hR4 (by kernel_rfl) (by kernel_rfl) (by kernel_rfl) ?hQR4 (Or.inl ⟨?hwR4, ?hyR4⟩) hHeld ?restR4
          case hR4 => (simp only [List.getElem?_toArray, List.getElem?_cons_succ, List.getElem?_cons_zero]; rfl)
          case hQR4 => exact fun _ _ _ h => h
          case hwR4 => rfl
          case hyR4 => (intro w hSw; (try dsimp only at hSw); go_simp; try with_reducible rfl)
          try simp only [Act.put, List.setIfInBounds_toArray, List.set_cons_zero, List.set_cons_succ]
          refine' wpAnyH_take (i := 5) (oi := _) (v := _) ?hR5 (by kernel_rfl) (by kernel_rfl) (by kernel_rfl) ?hQR5 (Or.inl ⟨?hwR5, ?hyR5⟩) hHeld ?restR5
          case hR5 => (simp only [List.getElem?_toArray, List.getElem?_cons_succ, List.getElem?_cons_zero]; rfl)
          case hQR5 => exact fun _ _ _ h => h
          case hwR5 => rfl
          case hyR5 => (intro w hSw; (try dsimp only at hSw); go_simp; try with_reducible rfl)
          try simp only [Act.put, List.setIfInBounds_toArray, List.set_cons_zero, List.set_cons_succ]
          refine' wpAnyH_take (i := 6) (oi := _) (v := _) ?hR6 (by kernel_rfl) (by kernel_rfl) (by kernel_rfl) ?hQR6 (Or.inl ⟨?hwR6, ?hyR6⟩) hHeld ?restR6
          case hR6 => (simp only [List.getElem?_toArray, List.getElem?_cons_succ, List.getElem?_cons_zero]; rfl)
          case hQR6 => exact fun _ _ _ h => h
          case hwR6 => rfl
          case hyR6 => (intro w hSw; (try dsimp only at hSw); go_simp; try with_reducible rfl)
          try simp only [Act.put, List.setIfInBounds_toArray, List.set_cons_zero, List.set_cons_succ]
          refine' wpAnyH_take (i := 7) (oi := _) (v := _) ?hR7 (by kernel_rfl) (by kernel_rfl) (by kernel_rfl) ?hQR7 (Or.inl ⟨?hwR7, ?hyR7⟩) hHeld ?restR7
          case hR7 => (simp only [List.getElem?_toArray, List.getElem?_cons_succ, List.getElem?_cons_zero]; rfl)
          case hQR7 => exact fun _ _ _ h => h
          case hwR7 => rfl
          case hyR7 => (intro w hSw; (try dsimp only at hSw); go_simp; try with_reducible rfl)
          try simp only [Act.put, List.setIfInBounds_toArray, List.set_cons_zero, List.set_cons_succ]
          refine' wpAnyH_take (i := 8) (oi := _) (v := _) ?hR8 (by kernel_rfl) (by kernel_rfl) (by kernel_rfl) ?hQR8 (Or.inl ⟨?hwR8, ?hyR8⟩) hHeld ?restR8
          case hR8 => (simp only [List.getElem?_toArray, List.getElem?_cons_succ, List.getElem?_cons_zero]; rfl)
          case hQR8 => exact fun _ _ _ h => h
          case hwR8 => rfl
          case hyR8 => (intro w hSw; (try dsimp only at hSw); go_simp; try with_reducible rfl)
          try simp only [Act.put, List.setIfInBounds_toArray, List.set_cons_zero, List.set_cons_succ]
          refine' wpAnyH_take (i := 9) (oi := _) (v := _) ?hR9 (by kernel_rfl) (by kernel_rfl) (by kernel_rfl) ?hQR9 (Or.inl ⟨?hwR9, ?hyR9⟩) hHeld ?restR9
          case hR9 => (simp only [List.getElem?_toArray, List.getElem?_cons_succ, List.getElem?_cons_zero]; rfl)
          case hQR9 => exact fun _ _ _ h => h
          case hwR9 => rfl
          case hyR9 => (intro w hSw; (try dsimp only at hSw); go_simp; try with_reducible rfl)
          try simp only [Act.put, List.setIfInBounds_toArray, List.set_cons_zero, List.set_cons_succ]
          refine' wpAnyH_take (i := 10) (oi := _) (v := _) ?hR10 (by kernel_rfl) (by kernel_rfl) (by kernel_rfl) ?hQR10 (Or.inl ⟨?hwR10, ?hyR10⟩) hHeld ?restR10
          case hR10 => (simp only [List.getElem?_toArray, List.getElem?_cons_succ, List.getElem?_cons_zero]; rfl)
          case hQR10 => exact fun _ _ _ h => h
          case hwR10 => rfl
          case hyR10 => (intro w hSw; (try dsimp only at hSw); go_simp; try with_reducible rfl)
          try simp only [Act.put, List.setIfInBounds_toArray, List.set_cons_zero, List.set_cons_succ]
          refine wpAnyH_ready (rs := [11]) (by kernel_rfl) (by simp) ?_
          refine AllReadyH.cons rfl (fun K hK => ?_) AllReadyH.nil
          go_simp
          refine hK.out _ _ (trivial) (fun hHeld' => ?_)
          clear hK K hHeld
          have hHeld := hHeld'
          clear hHeld'
          try simp only [Act.put, List.setIfInBounds_toArray, List.set_cons_zero, List.set_cons_succ]
          refine' wpAnyH_take (i := 12) (oi := _) (v := _) ?hR12 (by kernel_rfl) (by kernel_rfl) (by kernel_rfl) ?hQR12 (Or.inl ⟨?hwR12, ?hyR12⟩) hHeld ?restR12
          case hR12 => (simp only [List.getElem?_toArray, List.getElem?_cons_succ, List.getElem?_cons_zero]; rfl)
          case hQR12 => exact fun _ _ _ h => h
          case hwR12 => rfl
          case hyR12 => (intro w hSw; (try dsimp only at hSw); go_simp; try with_reducible rfl)
          try simp only [Act.put, List.setIfInBounds_toArray, List.set_cons_zero, List.set_cons_succ]
          refine wpAnyH_done (by kernel_rfl) ?_ _
          clear hHeld
          go_wp2
          refine bodyPost_ret (v := .tuple #[.agg #[.int .i64 (bt s 0), .int .i64 (bt s 1), .string (s.extract 3 (m + 3))], .int .i64 0]) (by simp [results, Try.results29, go_sem, q0, q1, q2]) rfl ?_
          refine HGOOD.out HP.out _ _ ⟨_, rfl, HDAT.out, ?_⟩
          refine Below.drew ?_
          repeat (refine Below.setCell ?_ (by simp) _)
          exact hB
        · have HP : Hid (pErr s = 10) := Lib.hid (by unfold pErr; rw [hbm, if_neg hn, if_neg h5, if_neg h6, if_neg hc])
          have HQ : Hid (∀ r : ByteArray, r.data.toList = Cw.sealL (s.data.toList.take (m + 3)) → (r.toList == s.toList) = false) := Lib.hid fun r hr => seq_false (fun h => hc (hiff.1 (hr.symm.trans h)))
          have hg5 : (m : Int) + 5 ≤ (s.size : Int) := by omega
          have hl5 : (s.size : Int) ≤ (m : Int) + 5 := by omega
          clear HGOOD hc hiff hlen h5 h6 hsz
          go_enter Try.func29, Try.ntmps29
          go_wp2_with fail
          refine (HS.out _).mono ?_
          clear HS
          rintro e v1 ⟨r, rfl, hr, hb⟩
          have hsame := HQ.out r hr
          have hz := (Blk.new W 65 #[.int .i64 0, .int .i64 0, .string ⟨#[]⟩]).below hb (by simp)
          have hB : Below W.heap.size W v1 := ((Below.refl _ W).alloc (Nat.le_refl _) (.cells #[.int .i64 0, .int .i64 0, .string ⟨#[]⟩] 65)).trans (hb.mono (by simp))
          have q0 := hz.cell 0
          have q1 := hz.cell 1
          have q2 := hz.cell 2
          have qf := hz.frozen
          have ql := hz.lt
          clear hr hb hz HQ
          go_wp2
          refine bodyPost_ret (v := .tuple #[.agg #[.int .i64 0, .int .i64 0, .string ⟨#[]⟩], .int .i64 10]) (by simp [results, Try.results29, go_sem, q0, q1, q2]) rfl ?_
          refine HBAD.out (by rw [HP.out]; decide) _ _ ⟨⟨#[]⟩, by rw [HP.out], rfl, ?_⟩
          repeat (refine Below.setCell ?_ (by simp) _)
          exact hB
end Fr
end Go.Proofs.Ytdbkgpnbmafpmaa
namespace Go.Proofs.Ytdbkgpnbmafpmaa
open Go.RowKit
attribute [local go_sem] Bw.and255 Bw.and65535
namespace Fr
open Sm Bi
open PlainAid (bt get_bt bt_nonneg bt_le)
def pE (s : ByteArray) : Int := if s.size < 3 then 5 else pErr s
def dat (s : ByteArray) : List UInt8 := (s.data.toList.take (s.size - 2)).drop 3
theorem pE_few (s : ByteArray) (h : s.size < 3) : pE s = 5 := by unfold pE; rw [if_pos h]
theorem pE_many (s : ByteArray) (h : ¬ s.size < 3) : pE s = pErr s := by unfold pE; rw [if_neg h]
theorem parse_bad (s : ByteArray) (W : World) (hm : s.size ≤ 9223372036854775807) (h : pE s ≠ 0) : Calls Try.prog 27 #[.string s] W (IsFr 0 0 [] (pE s) W) := by
  by_cases h3 : s.size < 3
  · rw [pE_few s h3]; exact parse_few s W h3 hm
  · rw [pE_many s h3] at h ⊢
    exact parse_many s W (by omega) hm _ (fun _ _ _ hh => hh) (fun h0 => absurd h0 h)
theorem parse_good (s : ByteArray) (W : World) (hm : s.size ≤ 9223372036854775807) (h : pE s = 0) : Calls Try.prog 27 #[.string s] W (IsFr (bt s 0) (bt s 1) (dat s) 0 W) := by
  by_cases h3 : s.size < 3
  · rw [pE_few s h3] at h; exact absurd h (by decide)
  · rw [pE_many s h3] at h
    exact parse_many s W (by omega) hm _ (fun h0 => absurd h h0) (fun _ _ _ hh => hh)
theorem rparse_bad (s : ByteArray) (W : World) (hm : s.size ≤ 9223372036854775807) (h : pE s ≠ 0) : Calls Try.prog 29 #[.string s] W (IsFr 0 0 [] (pE s) W) := by
  by_cases h3 : s.size < 3
  · rw [pE_few s h3]; exact rparse_few s W h3
  · rw [pE_many s h3] at h ⊢
    exact rparse_many s W (by omega) hm _ (fun _ _ _ hh => hh) (fun h0 => absurd h0 h)
theorem rparse_good (s : ByteArray) (W : World) (hm : s.size ≤ 9223372036854775807) (h : pE s = 0) : Calls Try.prog 29 #[.string s] W (IsFr (bt s 0) (bt s 1) (dat s) 0 W) := by
  by_cases h3 : s.size < 3
  · rw [pE_few s h3] at h; exact absurd h (by decide)
  · rw [pE_many s h3] at h
    exact rparse_many s W (by omega) hm _ (fun h0 => absurd h h0) (fun _ _ _ hh => hh)
theorem live_out : prOut 7 9 ⟨#[104, 105]⟩ = Cw.sealL [7, 9, 2, 104, 105] ∧ prErr 7 9 ⟨#[104, 105]⟩ = 0 := by
  obtain ⟨h1, h2⟩ := out_ok 7 9 ⟨#[104, 105]⟩ (by decide) (by decide) (by decide)
  exact ⟨h1, h2⟩
/-- Is it a frame for somebody? -/
def forV (s : ByteArray) (mac : Int) : Bool := decide (pE s = 0) && (bt s 0 == mac)
theorem bt_def (s : ByteArray) (k : Nat) (h : k < s.size) : bt s k = ((s.data.toList.getD k 0).toNat : Int) := by
  rw [bt_get s k h]
  simp [List.getD_eq_getElem?_getD, h]
  rfl
theorem head3 (l : List UInt8) (h : 3 ≤ l.length) : l = [l.getD 0 0, l.getD 1 0, l.getD 2 0] ++ l.drop 3 := by
  match l, h with
  | a :: b :: c :: r, _ => rfl
theorem good_facts (s : ByteArray) (h : pE s = 0) : 5 ≤ s.size ∧ s.size ≤ 37 ∧ (s.size : Int) = bt s 2 + 5 ∧ Cm.crc 65535#16 s.data.toList = 0#16 := by
  by_cases h3 : s.size < 3
  · rw [pE_few s h3] at h; exact absurd h (by decide)
  · rw [pE_many s h3] at h
    unfold pErr at h
    have h0 := bt_nonneg s 2
    by_cases a1 : 32 < bt s 2
    · rw [if_pos a1] at h; exact absurd h (by decide)
    · rw [if_neg a1] at h
      by_cases a2 : (s.size : Int) < bt s 2 + 5
      · rw [if_pos a2] at h; exact absurd h (by decide)
      · rw [if_neg a2] at h
        by_cases a3 : bt s 2 + 5 < (s.size : Int)
        · rw [if_pos a3] at h; exact absurd h (by decide)
        · rw [if_neg a3] at h
          by_cases a4 : Cm.crc 65535#16 s.data.toList = 0#16
          · exact ⟨by omega, by omega, by omega, a4⟩
          · rw [if_neg a4] at h; exact absurd h (by decide)
/-- What is parsed is printed as those bytes. -/
theorem back_print (s r : ByteArray) (h : pE s = 0) (hr : r.data.toList = dat s) : prOut (bt s 0) (bt s 1) r = s.data.toList ∧ prErr (bt s 0) (bt s 1) r = 0 := by
  obtain ⟨h5, h37, hsz, hc⟩ := good_facts s h
  have hlen : s.data.toList.length = s.size := by simp
  have hrs : r.size = s.size - 5 := by
    rw [size_of r _ hr]
    unfold dat
    rw [List.length_drop, List.length_take, hlen]
    omega
  have hok : ∀ k, okB (bt s k) = true := fun k => decide_eq_true ⟨bt_nonneg s k, bt_le s k⟩
  obtain ⟨e1, e2⟩ := out_ok (bt s 0) (bt s 1) r (hok 0) (hok 1) (by omega)
  refine ⟨?_, e2⟩
  rw [e1]
  have hl : frL (bt s 0) (bt s 1) r = s.data.toList.take (s.size - 2) := by
    have h3 := head3 (s.data.toList.take (s.size - 2)) (by rw [List.length_take, hlen]; omega)
    rw [h3]
    unfold frL
    rw [hr]
    unfold dat
    rw [bt_def s 0 (by omega), bt_def s 1 (by omega)]
    have h2 := bt_def s 2 (by omega)
    have hn : r.size = (s.data.toList.getD 2 0).toNat := by omega
    rw [hn]
    have g : ∀ k, k < 3 → (s.data.toList.take (s.size - 2)).getD k 0 = s.data.toList.getD k 0 := fun k hk => by
      rw [List.getD_eq_getElem?_getD, List.getD_eq_getElem?_getD, List.getElem?_take, if_pos (by omega)]
    rw [g 0 (by omega), g 1 (by omega), g 2 (by omega)]
    simp
  rw [hl]
  have := (Cw.seal_iff s.data.toList (by rw [hlen]; omega)).2 hc
  rwa [hlen] at this
end Fr
end Go.Proofs.Ytdbkgpnbmafpmaa
