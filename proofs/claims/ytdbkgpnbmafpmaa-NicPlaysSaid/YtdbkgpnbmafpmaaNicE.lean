/- A device: Log, Send. -/
import Derived.Test.YtdbkgpnbmafpmaaNicD
import Derived.Test.YtdbkgpnbmafpmaaFrameA
namespace Go.Proofs.Ytdbkgpnbmafpmaa
open Go.RowKit Go.Maps
attribute [local go_sem] FiF.cs
namespace Nc
open Sm
theorem snc_one (x : Sn) : ∀ u ∈ snc x, u.oneCell' = true := by
  intro u hu
  simp only [snc, List.mem_cons, List.not_mem_nil, or_false] at hu
  rcases hu with rfl | rfl | rfl <;> rfl
theorem sflat_len (l : List Sn) : (sflat l).length = l.length * 3 := by
  induction l with
  | nil => rfl
  | cons x t ih => simp only [sflat, List.flatMap_cons, List.length_append, List.length_cons] at ih ⊢; rw [ih]; simp [snc]; omega
theorem sflat_all (l : List Sn) : ∀ u ∈ sflat l, u.oneCell' = true := by
  intro u hu
  simp only [sflat, List.mem_flatMap] at hu
  obtain ⟨x, _, hx⟩ := hu
  exact snc_one x u hx
theorem sflat_app (a b : List Sn) : sflat (a ++ b) = sflat a ++ sflat b := by simp [sflat]
theorem sflat_get (l : List Sn) : ∀ (i : Nat) (x : Sn), l[i]? = some x → ∀ j, j < 3 → (sflat l)[i * 3 + j]? = (snc x)[j]? := by
  induction l with
  | nil => intro i x h; simp at h
  | cons y t ih =>
    intro i x h j hj
    have e : sflat (y :: t) = snc y ++ sflat t := by simp [sflat]
    rw [e]
    rcases i with _ | i
    · simp at h
      subst h
      rw [Nat.zero_mul, Nat.zero_add, List.getElem?_append_left (by simpa [snc] using hj)]
    · simp at h
      rw [List.getElem?_append_right (by simp [snc]; omega)]
      rw [show (i + 1) * 3 + j - (snc y).length = i * 3 + j from by simp [snc]; omega]
      exact ih i x h j hj
theorem sn_info : (Try.prog.info? 50).map (fun i => (i.zero, i.size, i.bytes)) = some (some (.agg #[.int .i64 0, .int .i64 0, .string ⟨#[]⟩]), 3, 32) := by kernel_rfl
theorem lnil_eq (n c : Nat) (w : World) : (binOp .eql 47 (.slice none n c) (.slice none 0 0)).run Try.prog w = .ok (.bool true) w := by kernel_rfl
theorem lnil_ne (a : Addr) (n c : Nat) (w : World) : (binOp .eql 47 (.slice (some a) n c) (.slice none 0 0)).run Try.prog w = .ok (.bool false) w := by kernel_rfl
theorem own_low {w : World} {B B' size n : Nat} {e : TypeId} {v : Value} {xs : List Value} (h : w.ownsRow B' e size v n xs) (hb : B ≤ B') : w.ownsRow B e size v n xs :=
  ⟨h.1, h.2.imp id fun ⟨g, cap, cur, h1, h2, h3⟩ => ⟨g, cap, cur, h1, Nat.le_trans hb h2, h3⟩⟩
/-- A copy of the log. -/
def IsLog (lg : List Sn) (w : World) (e : Ending) (w' : World) : Prop :=
  ∃ a' c', e = .returned (.slice a' lg.length c') ∧ Keeps [] w w' ∧ (0 < lg.length → ∃ y', a' = some ⟨y', 0, none⟩ ∧ y' < w'.heap.size ∧ ∀ i x, lg[i]? = some x → ∀ j, j < 3 → w'.cell? ⟨y', i * 3 + j, none⟩ = (snc x)[j]?)
section
variable {d m y c : Nat} {od : Int} {a : Option Addr} {lg : List Sn} {L : List Pt}
set_option maxRecDepth 100000 in
set_option maxHeartbeats 1000000 in
theorem clone_lg {w : World} (h : Lg w d y a c lg) (hm : lg.length ≤ 1000) : Calls Try.prog 35 #[.slice a lg.length c] w (IsLog lg w) := by
  rcases h with ⟨rfl, rfl, rfl, _⟩ | ⟨rfl, h⟩
  · have hne := lnil_eq
    go_enter Try.func35, Try.ntmps35
    go_wp2
    go_ret
    exact ⟨none, 0, rfl, Keeps.refl _ _, fun h => absurd h (by simp)⟩
  · obtain ⟨i0, hi0, hz0, hz1, hz2⟩ := info_parts sn_info
    have HI := Lib.hid (And.intro hi0 (And.intro hz0 (And.intro hz1 hz2)))
    clear hi0 hz0 hz1 hz2
    have HR := Lib.hid (Reads.of_own h)
    clear h
    have hown0 := FiF.own_emptyF w w.heap.size (Nat.le_refl _) 50 3
    have hrd0 := HR.out.alloc (Nat.le_refl _) (.cells #[] 50)
    have hk0 : Keeps [] w (w.alloc (.cells #[] 50)) := (Keeps.refl _ _).alloc _
    have hne := lnil_ne
    go_enter Try.func35, Try.ntmps35
    go_wp2_with (at_builtin; refine wpList_append_any _ rfl (.tmp 5) (.tmp 6) _ rfl w.heap.size 50 i0 _ 3 32 Try.underlying47 HI.out.1 HI.out.2.1 HI.out.2.2.1 HI.out.2.2.2 rfl (by decide) (.slice (some ⟨w.heap.size, 0, none⟩) 0 0) 0 _ rfl hown0 _ _ lg.length c _ rfl hrd0 (sflat_all _) (by simp only [maxLen]; omega) (by omega) (by simp) ?_; intro v2 w2 hown2 hg2 hat2; obtain ⟨p2, c2, hv2⟩ := FiF.own_formF hown2; subst hv2; rw [Nat.zero_add, List.nil_append] at hown2; have hk2 := hk0.grown hg2 (fun b hb => .inr (by have := (hown0.lt b hb).1; exact this)))
    go_ret
    refine ⟨p2, c2, rfl, hk2, fun h0 => ?_⟩
    obtain ⟨y', cap, hv, hb, hl⟩ := hown2.form h0
    injection hv with e1
    subst e1
    refine ⟨y', rfl, hl, fun i x hx j hj => ?_⟩
    have hi := (List.getElem?_eq_some_iff.1 hx).1
    rw [hown2.cellAt (i * 3 + j) (by omega), sflat_get lg i x hx j hj]
theorem log_dev (w : World) (h : Dev w d m od y a c lg L) (hm : lg.length ≤ 1000) : Calls Try.prog 18 #[.pointer (some ⟨d, 0, none⟩)] w (IsLog lg w) := by
  obtain ⟨_, _, c2, _⟩ := h.cells
  have HC := Lib.hid (clone_lg h.lg hm)
  clear h
  go_enter Try.func18, Try.ntmps18
  go_wp2_with fail
  refine HC.out.mono ?_
  rintro e w' ⟨a', c', rfl, hk, hr⟩
  have HR := Lib.hid (And.intro hk hr)
  clear hk hr
  go_wp2
  go_ret
  exact ⟨a', c', rfl, HR.out.1, HR.out.2⟩
theorem Lg.own {w : World} (h : Lg w d y a c lg) : w.ownsRow 0 50 3 (.slice a lg.length c) lg.length (sflat lg) := by
  rcases h with ⟨rfl, rfl, rfl, _⟩ | ⟨rfl, h⟩
  · exact ⟨rfl, .inl ⟨rfl, rfl⟩⟩
  · exact h
theorem Lg.blk {w : World} (h : Lg w d y a c lg) : ∀ k, (Value.slice a lg.length c).ownBlock = some k → k = y := by
  intro k hk
  rcases h with ⟨rfl, rfl, rfl, _⟩ | ⟨rfl, h⟩
  · cases hk
  · simp [Value.ownBlock] at hk; exact hk.symm
/-- The log has a row more. -/
theorem Dev.logged {w w' : World} {a' : Option Addr} {c' y' : Nat} {lg' : List Sn} (h : Dev w d m od y a c lg L) (hk : Keeps [d, y] w w') (hb : Blk w' d 68 #[.map (some m), .int .i64 od, .slice a' lg'.length c']) (hl : Lg w' d y' a' c' lg') (hy : y' = y ∨ w.heap.size ≤ y') : To d m (foot d m y L) od lg' L w w' := by
  have hlt := h.lt
  have hd := h.dm
  have hym := h.ym
  have hml := hlt m (by simp [foot])
  have hyl := hlt y (by simp [foot])
  refine ⟨y', a', c', ⟨hb, h.mp.keeps hk (by simp; exact ⟨Ne.symm hd, Ne.symm hym⟩), hl, fun x hx => (h.pt x hx).keeps hk (fun b hb => by have := h.fr x hx b hb; simp; exact ⟨this.1, this.2.2⟩), h.ap, fun x hx b hb => ?_, hd, ?_, h.ln⟩, hk.more (by intro b hb; simp at hb; rcases hb with rfl | rfl <;> simp [foot]), fun b hb => ?_⟩
  · obtain ⟨h1, h2, h3⟩ := h.fr x hx b hb
    refine ⟨h1, h2, ?_⟩
    rcases hy with rfl | hy
    · exact h3
    · have := hlt b (bk_sub hx b hb); omega
  · rcases hy with rfl | hy
    · exact hym
    · omega
  · rcases mem_foot.1 hb with rfl | rfl | rfl | ⟨x, hx, hb⟩
    · exact .inl (by simp [foot])
    · exact .inl (by simp [foot])
    · rcases hy with rfl | hy
      · exact .inl (by simp [foot])
      · exact .inr hy
    · exact .inl (bk_sub hx b hb)
def IsSn (d m y : Nat) (od : Int) (lg : List Sn) (L : List Pt) (ti k pe : Int) (po : List UInt8) (w : World) (e : Ending) (w' : World) : Prop :=
  ∃ r : ByteArray, r.data.toList = po ∧ e = .returned (.int .i64 pe) ∧ To d m (foot d m y L) od (if pe = 0 then lg ++ [⟨ti, k, r⟩] else lg) L w w'
theorem IsSn.open_ {ti k pe : Int} {po : List UInt8} {w w' : World} {e : Ending} (h : IsSn d m y od lg L ti k pe po w e w') : ∃ r : ByteArray, r.data.toList = po ∧ e = .returned (.int .i64 pe) ∧ To d m (foot d m y L) od (if pe = 0 then lg ++ [⟨ti, k, r⟩] else lg) L w w' := h
theorem sn_mk {ti k pe : Int} {po : List UInt8} {w w' : World} {e : Ending} (h : ∃ r : ByteArray, r.data.toList = po ∧ e = .returned (.int .i64 pe) ∧ To d m (foot d m y L) od (if pe = 0 then lg ++ [⟨ti, k, r⟩] else lg) L w w') : IsSn d m y od lg L ti k pe po w e w' := h
def IsSend (d m y : Nat) (od : Int) (lg : List Sn) (L : List Pt) (ti k to : Int) (da : ByteArray) (w : World) (e : Ending) (w' : World) : Prop :=
  match pt? L k with
  | none => e = .returned (.int .i64 7) ∧ To d m (foot d m y L) od lg L w w'
  | some x => IsSn d m y od lg L ti k (Fr.prErr to x.ma da) (Fr.prOut to x.ma da) w e w'
theorem reads_sn (w : World) (x : Sn) : Reads (w.alloc (.cells #[.int .i64 x.ti, .int .i64 x.ow, .string x.da] 50)) (w.heap.size + 1) 3 (some ⟨w.heap.size, 0, none⟩) 1 (snc x) := by
  refine ⟨rfl, fun _ => ⟨_, rfl, by simp, fun j u hu => ?_⟩⟩
  have e : (⟨w.heap.size, 0, none⟩ : Addr).add j = ⟨w.heap.size, j, none⟩ := by unfold Addr.add; by_cases h0 : j = 0 <;> simp [h0]
  rw [e, (Blk.new w 50 #[.int .i64 x.ti, .int .i64 x.ow, .string x.da]).cell]
  simpa [snc] using hu
attribute [local irreducible] IsSn
set_option maxRecDepth 100000 in
set_option maxHeartbeats 1000000 in
theorem send_dev (ti k to : Int) (da : ByteArray) (w : World) (h : Dev w d m od y a c lg L) (hk : (Lit.int .i64 k).wf = true) (hd : da.size ≤ 300) (hm : lg.length ≤ 1000) :
    Calls Try.prog 17 #[.pointer (some ⟨d, 0, none⟩), .int .i64 ti, .int .i64 k, .int .i64 to, .string da] w (IsSend d m y od lg L ti k to da w) := by
  have HF := Lib.hid (find_any k w h hk)
  rw [fnd_pt] at HF
  rcases hp : pt? L k with _ | x
  · unfold IsSend
    rw [hp] at HF ⊢
    have HD := Lib.hid h
    clear h
    go_enter Try.func17, Try.ntmps17
    go_wp2_with fail
    refine HF.out.mono ?_
    rintro e w' ⟨rfl, rfl⟩
    simp only [Option.map_none, pv]
    go_wp2
    go_ret
    exact ⟨rfl, To.refl HD.out (Keeps.refl _ _)⟩
  · unfold IsSend
    rw [hp] at HF ⊢
    dsimp only
    obtain ⟨hx, hxo⟩ := pt_mem hp
    obtain ⟨_, p1, _, _⟩ := (h.pt x hx).cells
    have HP := Lib.hid (Fr.print_any to x.ma da w hd)
    obtain ⟨i0, hi0, hz0, hz1, hz2⟩ := info_parts sn_info
    have HI := Lib.hid (And.intro hi0 (And.intro hz0 (And.intro hz1 hz2)))
    clear hi0 hz0 hz1 hz2
    have HD := Lib.hid h
    clear h
    have hpe : Fr.prErr to x.ma da = 0 ∨ Fr.prErr to x.ma da ≠ 0 := by omega
    generalize Fr.prErr to x.ma da = pe at *
    generalize Fr.prOut to x.ma da = po at *
    rcases hpe with rfl | hpe
    · go_enter Try.func17, Try.ntmps17
      go_wp2_with fail
      refine HF.out.mono ?_
      rintro e w' ⟨rfl, rfl⟩
      simp only [Option.map_some, pv]
      go_wp2_with fail
      refine HP.out.mono ?_
      rintro e w1 ⟨rr, rfl, hrr, hb1⟩
      have hk1 := Keeps.of_below hb1 []
      have hD1 := HD.out.kp hk1
      obtain ⟨_, _, c2, cf⟩ := hD1.cells
      have hrow := hD1.lg.own
      have hdl := hD1.b.lt
      have hD2 := Lib.hid hD1
      have HRR := Lib.hid hrr
      have HK1 := Lib.hid hk1
      clear hD1 hb1 hk1 hrr
      go_wp2_with (at_builtin; refine wpList_append_any _ rfl (.tmp 41) (.tmp 46) _ rfl 0 50 i0 _ 3 32 Try.underlying47 HI.out.1 HI.out.2.1 HI.out.2.2.1 HI.out.2.2.2 rfl (by decide) (.slice a lg.length c) lg.length _ rfl (ownsRow_keeps hrow ((Keeps.refl [] w1).alloc (.cells #[.int .i64 ti, .int .i64 k, .string rr] 50)) (by simp)) _ _ 1 1 (snc ⟨ti, k, rr⟩) rfl (reads_sn w1 ⟨ti, k, rr⟩) (snc_one _) (by simp only [maxLen]; omega) (by omega) (by omega) ?_; intro vv w2 hown hg2 hat2; obtain ⟨p2, cc, rfl⟩ := FiF.own_formF hown; have hbd := ((hD2.out.b.alloc (.cells #[.int .i64 ti, .int .i64 k, .string rr] 50))).grown hg2 (fun e => own_blk_ne (ownsRow_keeps hrow ((Keeps.refl [] w1).alloc (.cells #[.int .i64 ti, .int .i64 k, .string rr] 50)) (by simp)) (hD2.out.b.alloc (.cells #[.int .i64 ti, .int .i64 k, .string rr] 50)) (by decide) e.symm); have hcd := hbd.cell 2; have hfd := hbd.frozen)
      go_ret
      refine sn_mk ⟨rr, HRR.out, rfl, ?_⟩
      rw [if_pos rfl]
      refine To.from ?_ HK1.out
      have hk2 : Keeps [y] w1 w2 := (((Keeps.refl [y] w1).alloc (.cells #[.int .i64 ti, .int .i64 k, .string rr] 50))).grown hg2 (fun k e => .inl (by have := hD2.out.lg.blk k e; simp [this]))
      have hlen : (lg ++ [(⟨ti, k, rr⟩ : Sn)]).length = lg.length + 1 := by simp
      have hfl : sflat lg ++ snc ⟨ti, k, rr⟩ = sflat (lg ++ [⟨ti, k, rr⟩]) := by rw [sflat_app]; simp [sflat]
      rw [hfl] at hown
      obtain ⟨y', cap, hv, _, hlt⟩ := hown.form (by omega)
      injection hv with e1
      subst e1
      have hyy : y' = y ∨ w1.heap.size ≤ y' := by
        rcases hat2 with hat | hat
        · exact .inl (hD2.out.lg.blk y' (by rw [← hat]; rfl))
        · right
          simp [Value.ownBlock] at hat
          omega
      refine hD2.out.logged (hk2.more (by simp) |>.setCell (p := ⟨d, 2, none⟩) (by simp) _) ?_ (y' := y') (a' := some ⟨y', 0, none⟩) (c' := cc) ?_ hyy
      · rw [hlen]
        exact hbd.set_ 2 _
      · refine .inr ⟨rfl, ?_⟩
        rw [hlen]
        exact ownsRow_setCell hown _ _ (own_blk_ne hown hbd (by decide))
    · have hpn : (pe == 0) = false := by simpa using hpe
      go_enter Try.func17, Try.ntmps17
      go_wp2_with fail
      refine HF.out.mono ?_
      rintro e w' ⟨rfl, rfl⟩
      simp only [Option.map_some, pv]
      go_wp2_with fail
      refine HP.out.mono ?_
      rintro e w1 ⟨rr, rfl, hrr, hb1⟩
      have HRR := Lib.hid hrr
      have HK1 := Lib.hid (Keeps.of_below hb1 [])
      clear hrr hb1
      go_wp2
      go_ret
      refine sn_mk ⟨rr, HRR.out, rfl, ?_⟩
      rw [if_neg hpe]
      exact To.refl HD.out HK1.out
end
end Nc
end Go.Proofs.Ytdbkgpnbmafpmaa
