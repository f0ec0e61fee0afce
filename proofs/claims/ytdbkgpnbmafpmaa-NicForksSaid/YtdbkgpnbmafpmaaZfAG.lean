/- A device: bytes come. -/
import Derived.Test.YtdbkgpnbmafpmaaZfAE
import Derived.Test.YtdbkgpnbmafpmaaZfAF
import Derived.Test.YtdbkgpnbmafpmaaZfAA
namespace Go.Proofs.Ytdbkgpnbmafpmaa
open Go.RowKit Go.Maps
attribute [local go_sem] FiF.cs
namespace Nc
open Sm Fr
open PlainAid (bt)
/-- The frame that bytes are. -/
def frS (s : ByteArray) : FiF.It := ⟨bt s 0, bt s 1, ⟨(dat s).toArray⟩⟩
theorem ba_of {r : ByteArray} {l : List UInt8} (h : r.data.toList = l) : r = ⟨l.toArray⟩ := by
  cases r; simp at h; subst h; simp
/-- The port that bytes are for. -/
def hit (L : List Pt) (s : ByteArray) : Option Pt := if pE s = 0 then L.find? (fun x => x.ma == bt s 0) else none
/-- What a port makes of a frame. -/
def comeP (x : Pt) (s : ByteArray) (r' : Nat) : Pt := if (x.ws.length : Int) < x.li then { x with ws := x.ws ++ [frS s], r := r' } else { x with dr := x.dr + 1, r := r' }
section
variable {w : World} {d m y c : Nat} {od : Int} {a : Option Addr} {lg : List Sn} {L : List Pt}
theorem Dev.odd (h : Dev w d m od y a c lg L) {w' : World} (hk : Keeps [] w w') : To d m (foot d m y L) (od + 1) lg L w (w'.setCell ⟨d, 1, none⟩ (.int .i64 (od + 1))) := by
  have h1 := h.kp hk
  have hks : Keeps [d] w' (w'.setCell ⟨d, 1, none⟩ (.int .i64 (od + 1))) := (Keeps.refl _ w').setCell (p := ⟨d, 1, none⟩) (by simp) _
  refine ⟨y, a, c, ⟨h1.b.set_ 1 _, h1.mp.keeps hks (by simp; exact Ne.symm h.dm), ?_, fun x hx => (h1.pt x hx).keeps hks (fun b hb => by have := h.fr x hx b hb; simp; exact this.1), h.ap, h.fr, h.dm, h.ym, h.ln⟩, (hk.more (by simp)).next hks (by simp [foot]), fun b hb => .inl hb⟩
  rcases h1.lg with h2 | ⟨rfl, h2⟩
  · exact .inl h2
  · exact .inr ⟨rfl, ownsRow_setCell h2 _ _ (own_blk_ne h2 h1.b (by decide))⟩
def IsCome (d m y : Nat) (od : Int) (lg : List Sn) (L : List Pt) (s : ByteArray) (w : World) (e : Ending) (w' : World) : Prop :=
  match hit L s with
  | none => e = .returned (.tuple #[.int .i64 0, .bool false]) ∧ To d m (foot d m y L) (od + 1) lg L w w'
  | some x => ∃ r', e = .returned (.tuple #[.int .i64 x.ow, .bool (decide ((x.ws.length : Int) < x.li))]) ∧ To d m (foot d m y L) od lg (upd L (comeP x s r')) w w'
theorem own_hit {s : ByteArray} {x : Pt} (h : hit L s = some x) : pE s = 0 ∧ x ∈ L ∧ x.ma = bt s 0 := by
  unfold hit at h
  by_cases h0 : pE s = 0
  · rw [if_pos h0] at h
    exact ⟨h0, List.mem_of_find?_eq_some h, by have := List.find?_some h; simpa using this⟩
  · rw [if_neg h0] at h; cases h
theorem hit_none {s : ByteArray} (h : hit L s = none) (h0 : pE s = 0) : own L (bt s 0) = 0 := by
  unfold hit at h
  rw [if_pos h0] at h
  unfold own
  rw [h]
  rfl
theorem come_miss (s : ByteArray) (w : World) (h : Dev w d m od y a c lg L) (hm : s.size ≤ 9223372036854775807) (ho : 0 ≤ od ∧ od ≤ 100000) (hh : hit L s = none) :
    Calls Try.prog 12 #[.pointer (some ⟨d, 0, none⟩), .string s] w (IsCome d m y od lg L s w) := by
  unfold IsCome
  rw [hh]
  dsimp only
  by_cases h0 : pE s = 0
  · have HP := Lib.hid (parse_good s w hm h0)
    have hw0 := hit_none hh h0
    generalize bt s 0 = b0 at *
    have HD := Lib.hid h
    clear h hh
    go_enter Try.func12, Try.ntmps12
    go_wp2_with fail
    refine HP.out.mono ?_
    rintro e w1 ⟨r, rfl, hr, hb⟩
    have hk1 : Keeps [] w (w1.alloc (.cells #[.int .i64 b0, .int .i64 (bt s 1), .string r] 39)) := (Keeps.of_below hb []).alloc _
    have hD1 := HD.out.kp hk1
    have HO := Lib.hid (owner_any b0 _ hD1)
    rw [hw0] at HO
    obtain ⟨_, c1, _, cf⟩ := (HD.out.kp (Keeps.of_below hb [])).cells
    have hdl := (HD.out.kp (Keeps.of_below hb [])).b.lt
    have HK1 := Lib.hid (Keeps.of_below hb [])
    clear hb hk1 hD1 hr
    go_wp2_with fail
    refine HO.out.mono ?_
    rintro e w2 ⟨rfl, rfl⟩
    go_wp2
    refine bodyPost_ret (v := .tuple #[.int .i64 0, .bool false]) (by simp [results, Try.results12, go_sem]) rfl ?_
    exact ⟨rfl, (HD.out.odd HK1.out).then ((Keeps.refl _ _).alloc _)⟩
  · have HP := Lib.hid (parse_bad s w hm h0)
    have HD := Lib.hid h
    have hne : (pE s == 0) = false := by simpa using h0
    generalize pE s = pe at *
    clear h hh
    go_enter Try.func12, Try.ntmps12
    go_wp2_with fail
    refine HP.out.mono ?_
    rintro e w1 ⟨r, rfl, hr, hb⟩
    have hk1 : Keeps [] w (w1.alloc (.cells #[.int .i64 0, .int .i64 0, .string r] 39)) := (Keeps.of_below hb []).alloc _
    have hD1 := HD.out.kp hk1
    have HO := Lib.hid (owner_any 0 _ hD1)
    obtain ⟨_, c1, _, cf⟩ := (HD.out.kp (Keeps.of_below hb [])).cells
    have hdl := (HD.out.kp (Keeps.of_below hb [])).b.lt
    have HK1 := Lib.hid (Keeps.of_below hb [])
    clear hb hk1 hD1 hr
    go_wp2_with fail
    refine HO.out.mono ?_
    rintro e w2 ⟨rfl, rfl⟩
    go_wp2
    refine bodyPost_ret (v := .tuple #[.int .i64 0, .bool false]) (by simp [results, Try.results12, go_sem]) rfl ?_
    exact ⟨rfl, (HD.out.odd HK1.out).then ((Keeps.refl _ _).alloc _)⟩
theorem keep_c {w v1 : World} {x : Pt} {S : List Nat} {p6 : Nat} {t : TypeId} {u0 u1 u2 : Value} (h : Dev w d m od y a c lg L) (hk : Keeps S w v1) (hx : x ∈ L) (hfn : fnd L x.ow = some x.p) (h1 : d ∉ S) (h2 : m ∉ S) (h3 : x.p ∉ S) (hB : Blk w p6 t #[u0, u1, u2]) (h4 : p6 ∉ S) :
    (v1.cell? ⟨d, 0, none⟩ = some (.map (some m)) ∧ v1.cell? ⟨x.p, 3, none⟩ = some (.pointer (some ⟨x.g, 0, none⟩)) ∧ (Instr.lookup 66 (.map (some m)) (.int .i64 x.ow) false).run Try.prog v1 = .ok (.pointer (some ⟨x.p, 0, none⟩)) v1) ∧ (v1.cell? ⟨p6, 0, none⟩ = some u0 ∧ v1.cell? ⟨p6, 1, none⟩ = some u1 ∧ v1.cell? ⟨p6, 2, none⟩ = some u2) := by
  have hpx := h.pt x hx
  have hlk := (h.mp.keeps hk h2).look x.ow (WalkArith.wf_i64 (by have := hpx.o1; have := hpx.o2; omega))
  rw [hfn] at hlk
  have hB1 := hB.keeps hk h4
  exact ⟨⟨(h.b.keeps hk h1).cell 0, (hpx.b.keeps hk h3).cell 3, hlk⟩, hB1.cell 0, hB1.cell 1, hB1.cell 2⟩
set_option maxRecDepth 100000 in
set_option maxHeartbeats 1000000 in
theorem come_hit (s : ByteArray) (x : Pt) (w : World) (h : Dev w d m od y a c lg L) (hm : s.size ≤ 9223372036854775807) (hdr : x.dr < 100000) (hh : hit L s = some x) :
    Calls Try.prog 12 #[.pointer (some ⟨d, 0, none⟩), .string s] w (IsCome d m y od lg L s w) := by
  unfold IsCome
  rw [hh]
  dsimp only
  obtain ⟨h0, hx, hma⟩ := own_hit hh
  have HP := Lib.hid (parse_good s w hm h0)
  have hfs : ∀ r : ByteArray, r.data.toList = dat s → FiF.val (frS s) = .agg #[.int .i64 (bt s 0), .int .i64 (bt s 1), .string r] := fun r hr => by rw [ba_of hr]; rfl
  have HFS := Lib.hid hfs
  have hlt := h.lt
  have hox := own_of h.ap hx
  rw [hma] at hox
  have ho1 := (h.pt x hx).o1
  have ho2 := (h.pt x hx).o2
  have hfx := h.fr x hx
  have hpg := (h.pt x hx).pg
  have hpr := (h.pt x hx).pr
  have hg := hfx x.g (by simp [bks])
  have hr9 := hfx x.r (by simp [bks])
  have hgl := hlt _ (bk_sub hx x.g (by simp [bks]))
  have hrl := hlt _ (bk_sub hx x.r (by simp [bks]))
  have hpl := hlt _ (bk_sub hx x.p (by simp [bks]))
  have hdl0 := hlt d (by simp [foot])
  have hml0 := hlt m (by simp [foot])
  have hfn := fnd_of h.ap hx
  have HD := Lib.hid h
  have how0 : (x.ow == 0) = false := by simp; omega
  clear h hfs hlt hfx
  by_cases hf : (x.ws.length : Int) < x.li
  · go_enter Try.func12, Try.ntmps12
    go_wp2_with fail
    refine HP.out.mono ?_
    rintro e w1 ⟨rr, rfl, hrr, hb⟩
    have hB := Blk.new w1 39 #[.int .i64 (bt s 0), .int .i64 (bt s 1), .string rr]
    have hk1 : Keeps [] w (w1.alloc (.cells #[.int .i64 (bt s 0), .int .i64 (bt s 1), .string rr] 39)) := (Keeps.of_below hb []).alloc _
    have hD1 := HD.out.kp hk1
    have HO := Lib.hid (owner_any (bt s 0) _ hD1)
    rw [hox] at HO
    have hval := HFS.out rr hrr
    have hw1l : w.heap.size ≤ w1.heap.size := hb.size
    have hD1' := Lib.hid hD1
    have HK := Lib.hid hk1
    have e0 : (w1.alloc (.cells #[.int .i64 (bt s 0), .int .i64 (bt s 1), .string rr] 39)).cell? ⟨w1.heap.size, 0, none⟩ = some (.int .i64 (bt s 0)) := hB.cell 0
    clear hb hk1 hD1 hrr
    go_wp2_with fail
    refine HO.out.mono ?_
    rintro e w2 ⟨rfl, rfl⟩
    clear HO
    have hD2 := hD1'.out.kp ((Keeps.refl _ _).drew)
    have hB2 := hB.drew
    have g0 := hD2.cells.1
    have g1 := (hD2.pt x hx).cells.2.2.2
    have g2 := hD2.mp.look x.ow (WalkArith.wf_i64 (by omega))
    rw [hfn] at g2
    simp only [pv] at g2
    have b0 : (w1.alloc (.cells #[.int .i64 (bt s 0), .int .i64 (bt s 1), .string rr] 39)).drew.cell? ⟨w1.heap.size, 0, none⟩ = some (.int .i64 (bt s 0)) := hB2.cell 0
    have b1 : (w1.alloc (.cells #[.int .i64 (bt s 0), .int .i64 (bt s 1), .string rr] 39)).drew.cell? ⟨w1.heap.size, 1, none⟩ = some (.int .i64 (bt s 1)) := hB2.cell 1
    have b2 : (w1.alloc (.cells #[.int .i64 (bt s 0), .int .i64 (bt s 1), .string rr] 39)).drew.cell? ⟨w1.heap.size, 2, none⟩ = some (.string rr) := hB2.cell 2
    have HD2 := Lib.hid hD2
    clear hD2
    go_wp2
    refine wp_region_held_drew (S := (fun V => (V.cell? ⟨d, 0, none⟩ = some (.map (some m)) ∧ V.cell? ⟨x.p, 3, none⟩ = some (.pointer (some ⟨x.g, 0, none⟩)) ∧ (Instr.lookup 66 (.map (some m)) (.int .i64 x.ow) false).run Try.prog V = .ok (.pointer (some ⟨x.p, 0, none⟩)) V) ∧ (V.cell? ⟨w1.heap.size, 0, none⟩ = some (.int .i64 (bt s 0)) ∧ V.cell? ⟨w1.heap.size, 1, none⟩ = some (.int .i64 (bt s 1)) ∧ V.cell? ⟨w1.heap.size, 2, none⟩ = some (.string rr)))) (by kernel_rfl) ⟨⟨g0, g1, g2⟩, b0, b1, b2⟩ (fun hHeld => ?_)
    refine' wpAnyH_take (i := 0) (oi := _) (v := _) ?hK0 (by kernel_rfl) (by kernel_rfl) (by kernel_rfl) ?hQK0 (Or.inl ⟨?hwK0, ?hyK0⟩) hHeld ?restK0
    case hK0 => (simp only [List.getElem?_toArray, List.getElem?_cons_zero]; rfl)
    case hQK0 => exact fun _ _ _ h => h
    case hwK0 => rfl
    case hyK0 => (intro w hSw; (try dsimp only at hSw); go_simp; try with_reducible rfl)
    try simp only [Act.put, List.setIfInBounds_toArray, List.set_cons_zero, List.set_cons_succ]
    refine' wpAnyH_take (i := 1) (oi := _) (v := _) ?hK1 (by kernel_rfl) (by kernel_rfl) (by kernel_rfl) ?hQK1 (Or.inl ⟨?hwK1, ?hyK1⟩) hHeld ?restK1
    case hK1 => (simp only [List.getElem?_toArray, List.getElem?_cons_succ, List.getElem?_cons_zero]; rfl)
    case hQK1 => exact fun _ _ _ h => h
    case hwK1 => rfl
    case hyK1 => (intro w hSw; (try dsimp only at hSw); go_simp; try with_reducible rfl)
    try simp only [Act.put, List.setIfInBounds_toArray, List.set_cons_zero, List.set_cons_succ]
    refine' wpAnyH_take (i := 2) (oi := _) (v := _) ?hK2 (by kernel_rfl) (by kernel_rfl) (by kernel_rfl) ?hQK2 (Or.inl ⟨?hwK2, ?hyK2⟩) hHeld ?restK2
    case hK2 => (simp only [List.getElem?_toArray, List.getElem?_cons_succ, List.getElem?_cons_zero]; rfl)
    case hQK2 => exact fun _ _ _ h => h
    case hwK2 => rfl
    case hyK2 => (intro w hSw; (try dsimp only at hSw); go_simp; try with_reducible rfl)
    try simp only [Act.put, List.setIfInBounds_toArray, List.set_cons_zero, List.set_cons_succ]
    refine' wpAnyH_take (i := 3) (oi := _) (v := _) ?hK3 (by kernel_rfl) (by kernel_rfl) (by kernel_rfl) ?hQK3 (Or.inl ⟨?hwK3, ?hyK3⟩) hHeld ?restK3
    case hK3 => (simp only [List.getElem?_toArray, List.getElem?_cons_succ, List.getElem?_cons_zero]; rfl)
    case hQK3 => exact fun _ _ _ h => h
    case hwK3 => rfl
    case hyK3 => (intro w hSw; (try dsimp only at hSw); go_simp; try with_reducible rfl)
    try simp only [Act.put, List.setIfInBounds_toArray, List.set_cons_zero, List.set_cons_succ]
    refine' wpAnyH_take (i := 4) (oi := _) (v := _) ?hK4 (by kernel_rfl) (by kernel_rfl) (by kernel_rfl) ?hQK4 (Or.inl ⟨?hwK4, ?hyK4⟩) hHeld ?restK4
    case hK4 => (simp only [List.getElem?_toArray, List.getElem?_cons_succ, List.getElem?_cons_zero]; rfl)
    case hQK4 => exact fun _ _ _ h => h
    case hwK4 => rfl
    case hyK4 => (intro w hSw; (try dsimp only at hSw); go_simp; try with_reducible rfl)
    try simp only [Act.put, List.setIfInBounds_toArray, List.set_cons_zero, List.set_cons_succ]
    refine' wpAnyH_take (i := 5) (oi := _) (v := _) ?hK5 (by kernel_rfl) (by kernel_rfl) (by kernel_rfl) ?hQK5 (Or.inl ⟨?hwK5, ?hyK5⟩) hHeld ?restK5
    case hK5 => (simp only [List.getElem?_toArray, List.getElem?_cons_succ, List.getElem?_cons_zero]; rfl)
    case hQK5 => exact fun _ _ _ h => h
    case hwK5 => rfl
    case hyK5 => (intro w hSw; (try dsimp only at hSw); go_simp; try with_reducible rfl)
    try simp only [Act.put, List.setIfInBounds_toArray, List.set_cons_zero, List.set_cons_succ]
    refine' wpAnyH_take (i := 6) (oi := _) (v := _) ?hK6 (by kernel_rfl) (by kernel_rfl) (by kernel_rfl) ?hQK6 (Or.inl ⟨?hwK6, ?hyK6⟩) hHeld ?restK6
    case hK6 => (simp only [List.getElem?_toArray, List.getElem?_cons_succ, List.getElem?_cons_zero]; rfl)
    case hQK6 => exact fun _ _ _ h => h
    case hwK6 => rfl
    case hyK6 => (intro w hSw; (try dsimp only at hSw); go_simp; try with_reducible rfl)
    try simp only [Act.put, List.setIfInBounds_toArray, List.set_cons_zero, List.set_cons_succ]
    refine' wpAnyH_take (i := 7) (oi := _) (v := _) ?hK7 (by kernel_rfl) (by kernel_rfl) (by kernel_rfl) ?hQK7 (Or.inl ⟨?hwK7, ?hyK7⟩) hHeld ?restK7
    case hK7 => (simp only [List.getElem?_toArray, List.getElem?_cons_succ, List.getElem?_cons_zero]; rfl)
    case hQK7 => exact fun _ _ _ h => h
    case hwK7 => rfl
    case hyK7 => (intro w hSw; (try dsimp only at hSw); go_simp; try with_reducible rfl)
    try simp only [Act.put, List.setIfInBounds_toArray, List.set_cons_zero, List.set_cons_succ]
    refine' wpAnyH_take (i := 8) (oi := _) (v := _) ?hK8 (by kernel_rfl) (by kernel_rfl) (by kernel_rfl) ?hQK8 (Or.inl ⟨?hwK8, ?hyK8⟩) hHeld ?restK8
    case hK8 => (simp only [List.getElem?_toArray, List.getElem?_cons_succ, List.getElem?_cons_zero]; rfl)
    case hQK8 => exact fun _ _ _ h => h
    case hwK8 => rfl
    case hyK8 => (intro w hSw; (try dsimp only at hSw); go_simp; try with_reducible rfl)
    try simp only [Act.put, List.setIfInBounds_toArray, List.set_cons_zero, List.set_cons_succ]
    refine' wpAnyH_take (i := 9) (oi := _) (v := _) ?hK9 (by kernel_rfl) (by kernel_rfl) (by kernel_rfl) ?hQK9 (Or.inl ⟨?hwK9, ?hyK9⟩) hHeld ?restK9
    case hK9 => (simp only [List.getElem?_toArray, List.getElem?_cons_succ, List.getElem?_cons_zero]; rfl)
    case hQK9 => exact fun _ _ _ h => h
    case hwK9 => rfl
    case hyK9 => (intro w hSw; (try dsimp only at hSw); go_simp; try with_reducible rfl)
    try simp only [Act.put, List.setIfInBounds_toArray, List.set_cons_zero, List.set_cons_succ]
    refine' wpAnyH_take (i := 10) (oi := _) (v := _) ?hK10 (by kernel_rfl) (by kernel_rfl) (by kernel_rfl) ?hQK10 (Or.inl ⟨?hwK10, ?hyK10⟩) hHeld ?restK10
    case hK10 => (simp only [List.getElem?_toArray, List.getElem?_cons_succ, List.getElem?_cons_zero]; rfl)
    case hQK10 => exact fun _ _ _ h => h
    case hwK10 => rfl
    case hyK10 => (intro w hSw; (try dsimp only at hSw); go_simp; try with_reducible rfl)
    try simp only [Act.put, List.setIfInBounds_toArray, List.set_cons_zero, List.set_cons_succ]
    refine wpAnyH_ready (rs := [11]) (by kernel_rfl) (by simp) ?_
    refine AllReadyH.cons rfl (fun K hK => ?_) AllReadyH.nil
    go_simp
    refine ((show Calls Try.prog _ #[.pointer (some ⟨x.g, 0, none⟩), .agg #[.int .i64 (bt s 0), .int .i64 (bt s 1), .string rr]] _ _ from hval ▸ FiF.push_ok x.g x.r x.ws x.li x.dr (frS s) _ (HD2.out.pt x hx).q hf)).mono ?_
    rintro e v1 ⟨rfl, r1, hq1, hkq, hr1⟩
    try go_wp2_with fail
    refine hK.out _ _ (keep_c (HD2.out) hkq hx hfn (by simp; exact ⟨Ne.symm hg.1, Ne.symm hr9.1⟩) (by simp; exact ⟨Ne.symm hg.2.1, Ne.symm hr9.2.1⟩) (by simp; exact ⟨hpg, hpr⟩) hB2 (by simp; omega)) (fun hHeld' => ?_)
    clear hK K hHeld
    have hHeld := hHeld'
    clear hHeld'
    try simp only [Act.put, List.setIfInBounds_toArray, List.set_cons_zero, List.set_cons_succ]
    refine' wpAnyH_take (i := 12) (oi := _) (v := _) ?hK12 (by kernel_rfl) (by kernel_rfl) (by kernel_rfl) ?hQK12 (Or.inl ⟨?hwK12, ?hyK12⟩) hHeld ?restK12
    case hK12 => (simp only [List.getElem?_toArray, List.getElem?_cons_succ, List.getElem?_cons_zero]; rfl)
    case hQK12 => exact fun _ _ _ h => h
    case hwK12 => rfl
    case hyK12 => (intro w hSw; (try dsimp only at hSw); go_simp; try with_reducible rfl)
    try simp only [Act.put, List.setIfInBounds_toArray, List.set_cons_zero, List.set_cons_succ]
    refine' wpAnyH_take (i := 13) (oi := _) (v := _) ?hK13 (by kernel_rfl) (by kernel_rfl) (by kernel_rfl) ?hQK13 (Or.inl ⟨?hwK13, ?hyK13⟩) hHeld ?restK13
    case hK13 => (simp only [List.getElem?_toArray, List.getElem?_cons_succ, List.getElem?_cons_zero]; rfl)
    case hQK13 => exact fun _ _ _ h => h
    case hwK13 => rfl
    case hyK13 => (intro w hSw; (try dsimp only at hSw); go_simp; try with_reducible rfl)
    try simp only [Act.put, List.setIfInBounds_toArray, List.set_cons_zero, List.set_cons_succ]
    refine wpAnyH_done (by kernel_rfl) ?_ _
    clear hHeld g0 g1 g2 b0 b1 b2 e0
    have HT := Lib.hid (HD2.out.turn (x' := comeP x s r1) hx (by unfold comeP; rw [if_pos hf]; exact ⟨rfl, rfl, rfl, rfl, rfl⟩) hkq (by unfold comeP; rw [if_pos hf]; exact hr1) (by unfold comeP; rw [if_pos hf]; exact hq1))
    have hkd := (HK.out.trans ((Keeps.refl [] (w1.alloc (.cells #[.int .i64 (bt s 0), .int .i64 (bt s 1), .string rr] 39))).drew))
    have HTT := Lib.hid (HT.out.from hkd)
    clear HT hkd hq1 hkq
    go_wp2
    refine bodyPost_ret (v := .tuple #[.int .i64 x.ow, .bool true]) (by simp [results, Try.results12, go_sem]) rfl ?_
    refine ⟨r1, ?_, HTT.out⟩
    rw [decide_eq_true hf]
  · go_enter Try.func12, Try.ntmps12
    go_wp2_with fail
    refine HP.out.mono ?_
    rintro e w1 ⟨rr, rfl, hrr, hb⟩
    have hB := Blk.new w1 39 #[.int .i64 (bt s 0), .int .i64 (bt s 1), .string rr]
    have hk1 : Keeps [] w (w1.alloc (.cells #[.int .i64 (bt s 0), .int .i64 (bt s 1), .string rr] 39)) := (Keeps.of_below hb []).alloc _
    have hD1 := HD.out.kp hk1
    have HO := Lib.hid (owner_any (bt s 0) _ hD1)
    rw [hox] at HO
    have hval := HFS.out rr hrr
    have hw1l : w.heap.size ≤ w1.heap.size := hb.size
    have hD1' := Lib.hid hD1
    have HK := Lib.hid hk1
    have e0 : (w1.alloc (.cells #[.int .i64 (bt s 0), .int .i64 (bt s 1), .string rr] 39)).cell? ⟨w1.heap.size, 0, none⟩ = some (.int .i64 (bt s 0)) := hB.cell 0
    clear hb hk1 hD1 hrr
    go_wp2_with fail
    refine HO.out.mono ?_
    rintro e w2 ⟨rfl, rfl⟩
    clear HO
    have hD2 := hD1'.out.kp ((Keeps.refl _ _).drew)
    have hB2 := hB.drew
    have g0 := hD2.cells.1
    have g1 := (hD2.pt x hx).cells.2.2.2
    have g2 := hD2.mp.look x.ow (WalkArith.wf_i64 (by omega))
    rw [hfn] at g2
    simp only [pv] at g2
    have b0 : (w1.alloc (.cells #[.int .i64 (bt s 0), .int .i64 (bt s 1), .string rr] 39)).drew.cell? ⟨w1.heap.size, 0, none⟩ = some (.int .i64 (bt s 0)) := hB2.cell 0
    have b1 : (w1.alloc (.cells #[.int .i64 (bt s 0), .int .i64 (bt s 1), .string rr] 39)).drew.cell? ⟨w1.heap.size, 1, none⟩ = some (.int .i64 (bt s 1)) := hB2.cell 1
    have b2 : (w1.alloc (.cells #[.int .i64 (bt s 0), .int .i64 (bt s 1), .string rr] 39)).drew.cell? ⟨w1.heap.size, 2, none⟩ = some (.string rr) := hB2.cell 2
    have HD2 := Lib.hid hD2
    clear hD2
    go_wp2
    refine wp_region_held_drew (S := (fun V => (V.cell? ⟨d, 0, none⟩ = some (.map (some m)) ∧ V.cell? ⟨x.p, 3, none⟩ = some (.pointer (some ⟨x.g, 0, none⟩)) ∧ (Instr.lookup 66 (.map (some m)) (.int .i64 x.ow) false).run Try.prog V = .ok (.pointer (some ⟨x.p, 0, none⟩)) V) ∧ (V.cell? ⟨w1.heap.size, 0, none⟩ = some (.int .i64 (bt s 0)) ∧ V.cell? ⟨w1.heap.size, 1, none⟩ = some (.int .i64 (bt s 1)) ∧ V.cell? ⟨w1.heap.size, 2, none⟩ = some (.string rr)))) (by kernel_rfl) ⟨⟨g0, g1, g2⟩, b0, b1, b2⟩ (fun hHeld => ?_)
    refine' wpAnyH_take (i := 0) (oi := _) (v := _) ?hJ0 (by kernel_rfl) (by kernel_rfl) (by kernel_rfl) ?hQJ0 (Or.inl ⟨?hwJ0, ?hyJ0⟩) hHeld ?restJ0
    case hJ0 => (simp only [List.getElem?_toArray, List.getElem?_cons_zero]; rfl)
    case hQJ0 => exact fun _ _ _ h => h
    case hwJ0 => rfl
    case hyJ0 => (intro w hSw; (try dsimp only at hSw); go_simp; try with_reducible rfl)
    try simp only [Act.put, List.setIfInBounds_toArray, List.set_cons_zero, List.set_cons_succ]
    refine' wpAnyH_take (i := 1) (oi := _) (v := _) ?hJ1 (by kernel_rfl) (by kernel_rfl) (by kernel_rfl) ?hQJ1 (Or.inl ⟨?hwJ1, ?hyJ1⟩) hHeld ?restJ1
    case hJ1 => (simp only [List.getElem?_toArray, List.getElem?_cons_succ, List.getElem?_cons_zero]; rfl)
    case hQJ1 => exact fun _ _ _ h => h
    case hwJ1 => rfl
    case hyJ1 => (intro w hSw; (try dsimp only at hSw); go_simp; try with_reducible rfl)
    try simp only [Act.put, List.setIfInBounds_toArray, List.set_cons_zero, List.set_cons_succ]
    refine' wpAnyH_take (i := 2) (oi := _) (v := _) ?hJ2 (by kernel_rfl) (by kernel_rfl) (by kernel_rfl) ?hQJ2 (Or.inl ⟨?hwJ2, ?hyJ2⟩) hHeld ?restJ2
    case hJ2 => (simp only [List.getElem?_toArray, List.getElem?_cons_succ, List.getElem?_cons_zero]; rfl)
    case hQJ2 => exact fun _ _ _ h => h
    case hwJ2 => rfl
    case hyJ2 => (intro w hSw; (try dsimp only at hSw); go_simp; try with_reducible rfl)
    try simp only [Act.put, List.setIfInBounds_toArray, List.set_cons_zero, List.set_cons_succ]
    refine' wpAnyH_take (i := 3) (oi := _) (v := _) ?hJ3 (by kernel_rfl) (by kernel_rfl) (by kernel_rfl) ?hQJ3 (Or.inl ⟨?hwJ3, ?hyJ3⟩) hHeld ?restJ3
    case hJ3 => (simp only [List.getElem?_toArray, List.getElem?_cons_succ, List.getElem?_cons_zero]; rfl)
    case hQJ3 => exact fun _ _ _ h => h
    case hwJ3 => rfl
    case hyJ3 => (intro w hSw; (try dsimp only at hSw); go_simp; try with_reducible rfl)
    try simp only [Act.put, List.setIfInBounds_toArray, List.set_cons_zero, List.set_cons_succ]
    refine' wpAnyH_take (i := 4) (oi := _) (v := _) ?hJ4 (by kernel_rfl) (by kernel_rfl) (by kernel_rfl) ?hQJ4 (Or.inl ⟨?hwJ4, ?hyJ4⟩) hHeld ?restJ4
    case hJ4 => (simp only [List.getElem?_toArray, List.getElem?_cons_succ, List.getElem?_cons_zero]; rfl)
    case hQJ4 => exact fun _ _ _ h => h
    case hwJ4 => rfl
    case hyJ4 => (intro w hSw; (try dsimp only at hSw); go_simp; try with_reducible rfl)
    try simp only [Act.put, List.setIfInBounds_toArray, List.set_cons_zero, List.set_cons_succ]
    refine' wpAnyH_take (i := 5) (oi := _) (v := _) ?hJ5 (by kernel_rfl) (by kernel_rfl) (by kernel_rfl) ?hQJ5 (Or.inl ⟨?hwJ5, ?hyJ5⟩) hHeld ?restJ5
    case hJ5 => (simp only [List.getElem?_toArray, List.getElem?_cons_succ, List.getElem?_cons_zero]; rfl)
    case hQJ5 => exact fun _ _ _ h => h
    case hwJ5 => rfl
    case hyJ5 => (intro w hSw; (try dsimp only at hSw); go_simp; try with_reducible rfl)
    try simp only [Act.put, List.setIfInBounds_toArray, List.set_cons_zero, List.set_cons_succ]
    refine' wpAnyH_take (i := 6) (oi := _) (v := _) ?hJ6 (by kernel_rfl) (by kernel_rfl) (by kernel_rfl) ?hQJ6 (Or.inl ⟨?hwJ6, ?hyJ6⟩) hHeld ?restJ6
    case hJ6 => (simp only [List.getElem?_toArray, List.getElem?_cons_succ, List.getElem?_cons_zero]; rfl)
    case hQJ6 => exact fun _ _ _ h => h
    case hwJ6 => rfl
    case hyJ6 => (intro w hSw; (try dsimp only at hSw); go_simp; try with_reducible rfl)
    try simp only [Act.put, List.setIfInBounds_toArray, List.set_cons_zero, List.set_cons_succ]
    refine' wpAnyH_take (i := 7) (oi := _) (v := _) ?hJ7 (by kernel_rfl) (by kernel_rfl) (by kernel_rfl) ?hQJ7 (Or.inl ⟨?hwJ7, ?hyJ7⟩) hHeld ?restJ7
    case hJ7 => (simp only [List.getElem?_toArray, List.getElem?_cons_succ, List.getElem?_cons_zero]; rfl)
    case hQJ7 => exact fun _ _ _ h => h
    case hwJ7 => rfl
    case hyJ7 => (intro w hSw; (try dsimp only at hSw); go_simp; try with_reducible rfl)
    try simp only [Act.put, List.setIfInBounds_toArray, List.set_cons_zero, List.set_cons_succ]
    refine' wpAnyH_take (i := 8) (oi := _) (v := _) ?hJ8 (by kernel_rfl) (by kernel_rfl) (by kernel_rfl) ?hQJ8 (Or.inl ⟨?hwJ8, ?hyJ8⟩) hHeld ?restJ8
    case hJ8 => (simp only [List.getElem?_toArray, List.getElem?_cons_succ, List.getElem?_cons_zero]; rfl)
    case hQJ8 => exact fun _ _ _ h => h
    case hwJ8 => rfl
    case hyJ8 => (intro w hSw; (try dsimp only at hSw); go_simp; try with_reducible rfl)
    try simp only [Act.put, List.setIfInBounds_toArray, List.set_cons_zero, List.set_cons_succ]
    refine' wpAnyH_take (i := 9) (oi := _) (v := _) ?hJ9 (by kernel_rfl) (by kernel_rfl) (by kernel_rfl) ?hQJ9 (Or.inl ⟨?hwJ9, ?hyJ9⟩) hHeld ?restJ9
    case hJ9 => (simp only [List.getElem?_toArray, List.getElem?_cons_succ, List.getElem?_cons_zero]; rfl)
    case hQJ9 => exact fun _ _ _ h => h
    case hwJ9 => rfl
    case hyJ9 => (intro w hSw; (try dsimp only at hSw); go_simp; try with_reducible rfl)
    try simp only [Act.put, List.setIfInBounds_toArray, List.set_cons_zero, List.set_cons_succ]
    refine' wpAnyH_take (i := 10) (oi := _) (v := _) ?hJ10 (by kernel_rfl) (by kernel_rfl) (by kernel_rfl) ?hQJ10 (Or.inl ⟨?hwJ10, ?hyJ10⟩) hHeld ?restJ10
    case hJ10 => (simp only [List.getElem?_toArray, List.getElem?_cons_succ, List.getElem?_cons_zero]; rfl)
    case hQJ10 => exact fun _ _ _ h => h
    case hwJ10 => rfl
    case hyJ10 => (intro w hSw; (try dsimp only at hSw); go_simp; try with_reducible rfl)
    try simp only [Act.put, List.setIfInBounds_toArray, List.set_cons_zero, List.set_cons_succ]
    refine wpAnyH_ready (rs := [11]) (by kernel_rfl) (by simp) ?_
    refine AllReadyH.cons rfl (fun K hK => ?_) AllReadyH.nil
    go_simp
    refine ((show Calls Try.prog _ #[.pointer (some ⟨x.g, 0, none⟩), .agg #[.int .i64 (bt s 0), .int .i64 (bt s 1), .string rr]] _ _ from hval ▸ FiF.push_full x.g x.r x.ws x.li x.dr (frS s) _ (HD2.out.pt x hx).q (by omega) hdr)).mono ?_
    rintro e v1 ⟨rfl, hq1, hkq⟩
    try go_wp2_with fail
    refine hK.out _ _ (keep_c (HD2.out) hkq hx hfn (by simp; exact ⟨Ne.symm hg.1, Ne.symm hr9.1⟩) (by simp; exact ⟨Ne.symm hg.2.1, Ne.symm hr9.2.1⟩) (by simp; exact ⟨hpg, hpr⟩) hB2 (by simp; omega)) (fun hHeld' => ?_)
    clear hK K hHeld
    have hHeld := hHeld'
    clear hHeld'
    try simp only [Act.put, List.setIfInBounds_toArray, List.set_cons_zero, List.set_cons_succ]
    refine' wpAnyH_take (i := 12) (oi := _) (v := _) ?hJ12 (by kernel_rfl) (by kernel_rfl) (by kernel_rfl) ?hQJ12 (Or.inl ⟨?hwJ12, ?hyJ12⟩) hHeld ?restJ12
    case hJ12 => (simp only [List.getElem?_toArray, List.getElem?_cons_succ, List.getElem?_cons_zero]; rfl)
    case hQJ12 => exact fun _ _ _ h => h
    case hwJ12 => rfl
    case hyJ12 => (intro w hSw; (try dsimp only at hSw); go_simp; try with_reducible rfl)
    try simp only [Act.put, List.setIfInBounds_toArray, List.set_cons_zero, List.set_cons_succ]
    refine' wpAnyH_take (i := 13) (oi := _) (v := _) ?hJ13 (by kernel_rfl) (by kernel_rfl) (by kernel_rfl) ?hQJ13 (Or.inl ⟨?hwJ13, ?hyJ13⟩) hHeld ?restJ13
    case hJ13 => (simp only [List.getElem?_toArray, List.getElem?_cons_succ, List.getElem?_cons_zero]; rfl)
    case hQJ13 => exact fun _ _ _ h => h
    case hwJ13 => rfl
    case hyJ13 => (intro w hSw; (try dsimp only at hSw); go_simp; try with_reducible rfl)
    try simp only [Act.put, List.setIfInBounds_toArray, List.set_cons_zero, List.set_cons_succ]
    refine wpAnyH_done (by kernel_rfl) ?_ _
    clear hHeld g0 g1 g2 b0 b1 b2 e0
    have HT := Lib.hid (HD2.out.turn (x' := comeP x s x.r) hx (by unfold comeP; rw [if_neg (by omega)]; exact ⟨rfl, rfl, rfl, rfl, rfl⟩) hkq (by unfold comeP; rw [if_neg (by omega)]; exact .inl rfl) (by unfold comeP; rw [if_neg (by omega)]; exact hq1))
    have hkd := (HK.out.trans ((Keeps.refl [] (w1.alloc (.cells #[.int .i64 (bt s 0), .int .i64 (bt s 1), .string rr] 39))).drew))
    have HTT := Lib.hid (HT.out.from hkd)
    clear HT hkd hq1 hkq
    go_wp2
    refine bodyPost_ret (v := .tuple #[.int .i64 x.ow, .bool false]) (by simp [results, Try.results12, go_sem]) rfl ?_
    refine ⟨x.r, ?_, HTT.out⟩
    rw [decide_eq_false (by omega)]
end
end Nc
end Go.Proofs.Ytdbkgpnbmafpmaa
