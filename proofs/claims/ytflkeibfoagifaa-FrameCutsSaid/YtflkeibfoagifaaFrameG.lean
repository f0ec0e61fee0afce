/- The law FramePrints: its walk. -/
import Derived.Test.YtflkeibfoagifaaFrameF
import Derived.Test.YtflkeibfoagifaaRecs
namespace Go.Proofs.Ytflkeibfoagifaa
open Go.RowKit
attribute [local go_sem] Bw.and255 Bw.and65535
namespace Fr
open Sm Bi
open PlainAid (bt get_bt bt_nonneg bt_le)
theorem byte_id (n : Int) (h0 : 0 ≤ n) (h1 : n ≤ 255) : ((UInt8.ofNat n.toNat).toNat : Int) = n := by
  simp
  omega
theorem getD_of {s : ByteArray} {l : List UInt8} (h : s.data.toList = l) (k : Nat) (hk : k < l.length) : bt s k = ((l.getD k 0).toNat : Int) := by
  rw [bt_def s k (by rw [size_of s l h]; exact hk), h]
theorem frL_len (to fr : Int) (d : ByteArray) : (frL to fr d).length = d.size + 3 := by
  unfold frL
  rw [List.length_append, Array.length_toList]
  show 3 + d.size = d.size + 3
  omega
theorem seal_get (l : List UInt8) (k : Nat) (hk : k < l.length) : (Cw.sealL l).getD k 0 = l.getD k 0 := by
  unfold Cw.sealL
  rw [List.getD_eq_getElem?_getD, List.getD_eq_getElem?_getD, List.getElem?_append_left hk]
/-- What a frame's bytes are parsed as. -/
theorem good_of (to fr : Int) (d t : ByteArray) (h1 : okB to = true) (h2 : okB fr = true) (h3 : d.size ≤ 32) (ht : t.data.toList = Cw.sealL (frL to fr d)) :
    t.size = d.size + 5 ∧ bt t 0 = to ∧ bt t 1 = fr ∧ bt t 2 = (d.size : Int) ∧ pE t = 0 ∧ dat t = d.data.toList := by
  obtain ⟨a0, a1⟩ := of_decide_eq_true h1
  obtain ⟨b0, b1⟩ := of_decide_eq_true h2
  have hz : t.size = d.size + 5 := by rw [size_of t _ ht, Cw.sealL_length, frL_len]
  have hl : (Cw.sealL (frL to fr d)).length = d.size + 5 := by rw [Cw.sealL_length, frL_len]
  have g : ∀ k, k < d.size + 3 → bt t k = (((frL to fr d).getD k 0).toNat : Int) := fun k hk => by
    rw [getD_of ht k (by rw [hl]; omega), seal_get _ _ (by rw [frL_len]; exact hk)]
  have e0 : bt t 0 = to := by rw [g 0 (by omega)]; exact byte_id to a0 a1
  have e1 : bt t 1 = fr := by rw [g 1 (by omega)]; exact byte_id fr b0 b1
  have e2 : bt t 2 = (d.size : Int) := by
    rw [g 2 (by omega)]
    exact byte_id (d.size : Int) (by omega) (by omega)
  have hc : Cm.crc 65535#16 t.data.toList = 0#16 := by rw [ht]; exact (Cw.openV_seal _).2
  refine ⟨hz, e0, e1, e2, ?_, ?_⟩
  · rw [pE_many t (by omega)]
    unfold pErr
    rw [e2, if_neg (by omega), if_neg (by omega), if_neg (by omega), if_pos hc]
  · unfold dat
    rw [ht, hz, show d.size + 5 - 2 = (frL to fr d).length from by rw [frL_len]; omega]
    unfold Cw.sealL
    rw [List.take_left]
    unfold frL
    simp
theorem pr_cases (to fr : Int) (d : ByteArray) : (okB to = true ∧ okB fr = true ∧ d.size ≤ 32 ∧ prErr to fr d = 0 ∧ prOut to fr d = Cw.sealL (frL to fr d)) ∨ prErr to fr d ≠ 0 := by
  by_cases h : okB to = true ∧ okB fr = true
  · by_cases h3 : d.size ≤ 32
    · obtain ⟨e1, e2⟩ := out_ok to fr d h.1 h.2 h3
      exact .inl ⟨h.1, h.2, h3, e2, e1⟩
    · right; rw [(out_long to fr d h.1 h.2 h3).2]; decide
  · right; rw [(out_bad to fr d h).2]; decide
attribute [local irreducible] prOut prErr pE dat forV sizeV
set_option maxRecDepth 100000 in
set_option maxHeartbeats 2000000 in
theorem prints_law (to fr : Int) (d : ByteArray) (n : Int) (W : World) (_ : (Lit.int .i64 to).wf = true) (_ : (Lit.int .i64 fr).wf = true) (hm : d.size ≤ maxLen) (_ : (Lit.int .i64 n).wf = true) :
    Calls Try.prog 3 #[.agg #[.int .i64 to, .int .i64 fr, .string d], .int .i64 n] W fun e W' => e = .returned (.bool true) ∧ Below W.heap.size W W' := by
  unfold maxLen at hm
  have hB0 := (Below.refl W.heap.size W).alloc (Nat.le_refl _) (.cells #[.int .i64 to, .int .i64 fr, .string d] 23)
  by_cases hs : 200 < d.size
  · go_enter Try.func3, Try.ntmps3
    go_wp2_with (go_at_call 6; refine (live_any _).mono ?_; rintro e v7 ⟨rfl, hb7⟩)
    go_ret
    exact ⟨rfl, hB0.trans (hb7.mono (by simp))⟩
  have hd : d.size ≤ 200 := by omega
  clear hs
  have HP := Lib.hid (fun V => print_any to fr d V (by omega))
  have HR := Lib.hid (fun V => rprint_any to fr d V (by omega))
  have HSZ := Lib.hid (fun V => size_any n V)
  have hf := Blk.new W 23 #[.int .i64 to, .int .i64 fr, .string d]
  have hsv : (0 ≤ n ∧ n ≤ 32 ∧ sizeV n = n + 5) ∨ ((n < 0 ∨ 32 < n) ∧ sizeV n = 0) := by
    by_cases h : 0 ≤ n ∧ n ≤ 32
    · exact .inl ⟨h.1, h.2, size_yes n h.1 h.2⟩
    · exact .inr ⟨by omega, by unfold sizeV; rw [if_neg h]⟩
  have hsd : d.size ≤ 32 → sizeV (d.size : Int) = (d.size : Int) + 5 := fun h => size_yes _ (by omega) (by omega)
  have HSD := Lib.hid hsd
  have HS2 := Lib.hid (fun V => size_any (d.size : Int) V)
  clear hsd
  go_enter Try.func3, Try.ntmps3
  go_wp2_with fail
  generalize W.alloc (.cells #[.int .i64 to, .int .i64 fr, .string d] 23) = v0 at *
  refine (HP.out _).mono ?_
  clear HP
  rintro e v1 ⟨r1, rfl, hr1, hb1⟩
  have hf1 := hf.below hb1 hf.lt
  have hB1 := hB0.trans (hb1.mono hB0.size)
  clear hf hB0 hb1
  have q0 := hf1.cell 0
  have q1 := hf1.cell 1
  have q2 := hf1.cell 2
  go_wp2_with fail
  refine (HR.out _).mono ?_
  clear HR q0 q1 q2
  rintro e v2 ⟨r2, rfl, hr2, hb2⟩
  have hf2 := hf1.below hb2 hf1.lt
  have hB2 := hB1.trans (hb2.mono hB1.size)
  have hsame := same_data hr1 hr2
  clear hf1 hB1 hb2
  rcases pr_cases to fr d with ⟨h1, h2, h3, he, ho⟩ | he
  · rw [he]
    rw [ho] at hr1 hr2
    obtain ⟨z1, _, _, _, _, _⟩ := good_of to fr d r1 h1 h2 h3 hr1
    obtain ⟨_, e0, e1, _, e3, e4⟩ := good_of to fr d r2 h1 h2 h3 hr2
    have hz1 : ((r1.size : Int) == (d.size : Int) + 5) = true := by rw [z1]; simp
    have HPP := Lib.hid (fun V => parse_good r2 V (by have := size_of r2 _ hr2; rw [Cw.sealL_length, frL_len] at this; omega) e3)
    rw [e0, e1, e4] at HPP
    have HS3 := HSD.out h3
    rw [HS3] at HS2
    clear HS3 HSD z1 e0 e1 e3 e4 hr1 hr2 he ho h1 h2 h3
    have HHZ : Hid (W.heap.size < v2.heap.size) := Lib.hid hf2.lt
    rcases hsv with ⟨n0, n1, hv⟩ | ⟨hnn | hnn, hv⟩
    all_goals
      rw [hv] at HSZ
      clear hv
      go_wp2_with fail
      refine (HSZ.out _).mono ?_
      rintro e v3 ⟨rfl, rfl⟩
      go_wp2_with fail
      refine (HPP.out _).mono ?_
      clear HPP HSZ
      rintro e v3 ⟨r3, rfl, hr3, hb3⟩
      have hf3 := hf2.below hb3 hf2.lt
      have hB3 := hB2.trans (hb3.mono hB2.size)
      have hsame3 := seq_true (r := r3) (s := d) hr3
      clear hf2 hB2 hb3 hr3
      have hf4 := hf3.alloc (.cells #[.int .i64 to, .int .i64 fr, .string r3] 23)
      have hg4 := Blk.new v3 23 #[.int .i64 to, .int .i64 fr, .string r3]
      have hB4 := hB3.alloc hB3.size (.cells #[.int .i64 to, .int .i64 fr, .string r3] 23)
      clear hf3 hB3
      go_wp2_with fail
      generalize v3.alloc (.cells #[.int .i64 to, .int .i64 fr, .string r3] 23) = v4 at *
      generalize v3.heap.size = g3 at *
      refine (live_any _).mono ?_
      rintro e v5 ⟨rfl, hb5⟩
      have hf5 := hf4.below hb5 hf4.lt
      have hg5 := hg4.below hb5 hg4.lt
      have hB5 := hB4.trans (hb5.mono hB4.size)
      clear hf4 hg4 hB4 hb5
      have q0 := hf5.cell 0
      have q1 := hf5.cell 1
      have q2 := hf5.cell 2
      have p0 := hg5.cell 0
      have p1 := hg5.cell 1
      have p2 := hg5.cell 2
      clear hf5 hg5
      go_wp2_with fail
      refine (HS2.out _).mono ?_
      clear HS2
      rintro e v6 ⟨rfl, rfl⟩
      go_wp2
      go_ret
      exact ⟨rfl, hB5⟩
  · have hne : (prErr to fr d != 0) = true := by simpa using he
    have hne2 : (prErr to fr d == 0) = false := by simpa using he
    have HE := Lib.hid he
    clear he hr1 hr2 HSD HS2 hf2
    generalize prErr to fr d = p at *
    rcases hsv with ⟨n0, n1, hv⟩ | ⟨hnn | hnn, hv⟩
    all_goals
      rw [hv] at HSZ
      clear hv
      go_wp2_with fail
      refine (HSZ.out _).mono ?_
      rintro e v3 ⟨rfl, rfl⟩
      go_wp2_with fail
      refine (live_any _).mono ?_
      rintro e v5 ⟨rfl, hb5⟩
      have hB5 := hB2.trans (hb5.mono hB2.size)
      clear hB2 hb5
      go_wp2_with fail
      refine (HSZ.out _).mono ?_
      rintro e v6 ⟨rfl, rfl⟩
      go_wp2
      go_ret
      exact ⟨rfl, hB5⟩
end Fr
end Go.Proofs.Ytflkeibfoagifaa
