/- A device: New. The document's ports: Owner, Check, For. -/
import Derived.Test.YtdbkgpnbmafpmaaZfAG
namespace Go.Proofs.Ytdbkgpnbmafpmaa
open Go.RowKit Go.Maps
attribute [local go_sem] FiF.cs
namespace Nc
open Sm
/-- A port as it is asked for. -/
structure Pr where
  ow : Int
  ma : Int
  li : Int
def okP (x : Pr) : Prop := 1 ≤ x.ow ∧ x.ow ≤ 8 ∧ 0 ≤ x.ma ∧ x.ma ≤ 255 ∧ 0 ≤ x.li ∧ x.li ≤ 16
instance (x : Pr) : Decidable (okP x) := by unfold okP; infer_instance
def key (x : Pt) : Pr := ⟨x.ow, x.ma, x.li⟩
def likeB (x z : Pr) : Bool := z.ow == x.ow || z.ma == x.ma
/-- What is wrong with the ports that are asked for. -/
def chkG : List Pr → List Pr → Int
  | _, [] => 0
  | done, x :: t => if okP x then (if done.any (likeB x) then 15 else chkG (done ++ [x]) t) else 2
def chk (xs : List Pr) : Int := chkG [] xs
/-- Rows of ports in memory. -/
def Rows3 (w : World) (a : Option Addr) (n : Nat) (xs : List Pr) : Prop :=
  xs.length = n ∧ (0 < n → ∃ b off, a = some ⟨b, off, none⟩ ∧ b < w.heap.size ∧ ∀ i x, xs[i]? = some x → w.cell? ⟨b, off + i * 3, none⟩ = some (.int .i64 x.ow) ∧ w.cell? ⟨b, off + i * 3 + 1, none⟩ = some (.int .i64 x.ma) ∧ w.cell? ⟨b, off + i * 3 + 2, none⟩ = some (.int .i64 x.li))
theorem Rows3.kp {w w' : World} {a : Option Addr} {n : Nat} {xs : List Pr} (h : Rows3 w a n xs) (hk : Keeps [] w w') : Rows3 w' a n xs := by
  refine ⟨h.1, fun h0 => ?_⟩
  obtain ⟨b, off, rfl, hb, hc⟩ := h.2 h0
  exact ⟨b, off, rfl, Nat.lt_of_lt_of_le hb hk.size, fun i x hx => by
    obtain ⟨h1, h2, h3⟩ := hc i x hx
    exact ⟨(hk.cell (p := ⟨b, off + i * 3, none⟩) hb (by simp)).trans h1, (hk.cell (p := ⟨b, off + i * 3 + 1, none⟩) hb (by simp)).trans h2, (hk.cell (p := ⟨b, off + i * 3 + 2, none⟩) hb (by simp)).trans h3⟩⟩
structure New_ (w w' : World) (d m : Nat) (L : List Pt) (xs : List Pr) : Prop where
  dv : Dev w' d m 0 d none 0 [] L
  kp : Keeps [] w w'
  ft : ∀ b ∈ foot d m d L, w.heap.size ≤ b
  ky : L.map key = xs
  em : ∀ x ∈ L, x.ws = [] ∧ x.dr = 0
def IsNew (xs : List Pr) (w : World) (e : Ending) (w' : World) : Prop :=
  (chk xs = 0 ∧ ∃ d m L, e = .returned (.tuple #[.pointer (some ⟨d, 0, none⟩), .int .i64 0]) ∧ New_ w w' d m L xs) ∨ (chk xs ≠ 0 ∧ e = .returned (.tuple #[.pointer none, .int .i64 (chk xs)]) ∧ Keeps [] w w')
theorem fnd_app (L : List Pt) (x : Pt) (h : ∀ z ∈ L, z.ow ≠ x.ow) : fnd (L ++ [x]) = fun j => if j = x.ow then some x.p else fnd L j := by
  funext j
  unfold fnd
  rw [List.find?_append]
  by_cases e : j = x.ow
  · subst e
    rw [if_pos rfl, List.find?_eq_none.2 (fun z hz => by simpa using h z hz)]
    simp
  · rw [if_neg e]
    have hx : (x.ow == j) = false := by simpa using fun h9 => e h9.symm
    rcases he : L.find? (fun z => z.ow == j) with _ | z
    · rw [he]
      simp [List.find?_cons, hx]
    · rw [he]
      rfl
/-- A port more. -/
theorem New_.add {w w1 w2 : World} {d m p g : Nat} {L : List Pt} {xs : List Pr} {x : Pr} (h : New_ w w1 d m L xs) (hok : okP x) (hn : xs.any (likeB x) = false) (hk : Keeps [] w1 w2) (hp : Blk w2 p 74 #[.int .i64 x.ow, .int .i64 x.ma, .int .i64 x.li, .pointer (some ⟨g, 0, none⟩)]) (hq : FiF.Qu w2 g g [] x.li 0)
    (hp0 : w1.heap.size ≤ p) (hg0 : w1.heap.size ≤ g) (hpg : p ≠ g) (hln : L.length < 8) {w3 : World} (hmp : MapP w3 m (L.length + 1) (fun j => if j = x.ow then some p else fnd L j)) (hg : w2.grownBy w3 (some m)) : New_ w w3 d m (L ++ [⟨x.ow, x.ma, x.li, p, g, g, [], 0⟩]) (xs ++ [x]) := by
  have hk3 : Keeps [m] w2 w3 := (Keeps.refl [m] w2).grown hg (fun b e => by cases e; simp)
  have hlt := h.dv.lt
  have hz := h.kp.size
  have hz1 := hk.size
  have hml := hlt m (by simp [foot])
  have hdl := hlt d (by simp [foot])
  have hnow : ∀ z ∈ L, z.ow ≠ x.ow ∧ z.ma ≠ x.ma := by
    intro z hz
    have h1 : key z ∈ xs := by rw [← h.ky]; exact List.mem_map_of_mem hz
    have h2 := List.any_eq_false.1 hn (key z) h1
    simp [likeB, key] at h2
    exact h2
  obtain ⟨o1, o2, m1, m2, l1, l2⟩ := hok
  have hD2 := h.dv.kp hk
  refine ⟨⟨hD2.b.keeps hk3 (by simp; exact h.dv.dm), ?_, .inl ⟨rfl, rfl, rfl, rfl⟩, ?_, ?_, ?_, h.dv.dm, h.dv.dm, by simp; omega⟩, (h.kp.trans hk).next hk3 (by simp; exact h.ft m (by simp [foot])), ?_, by rw [List.map_append, h.ky]; rfl, ?_⟩
  · rw [List.length_append, fnd_app L _ (fun z hz => (hnow z hz).1)]
    exact hmp
  · intro z hz
    rw [List.mem_append] at hz
    rcases hz with hz | hz
    · exact (hD2.pt z hz).keeps hk3 (fun b hb => by have := h.dv.fr z hz b hb; simp; exact this.2.1)
    · simp at hz
      subst hz
      exact ⟨hp.keeps hk3 (by simp; omega), hq.keeps hk3 (by simp; omega) (by simp; omega), o1, o2, m1, m2, l1, l2, hpg, hpg⟩
  · rw [List.pairwise_append]
    refine ⟨h.dv.ap, List.pairwise_singleton _ _, fun z hz v hv => ?_⟩
    simp at hv
    subst hv
    refine ⟨(hnow z hz).1, (hnow z hz).2, fun b hb hbv => ?_⟩
    have := hlt b (bk_sub hz b hb)
    simp [bks] at hbv
    omega
  · intro z hz b hb
    rw [List.mem_append] at hz
    rcases hz with hz | hz
    · exact h.dv.fr z hz b hb
    · simp at hz
      subst hz
      simp [bks] at hb
      omega
  · intro b hb
    rcases mem_foot.1 hb with rfl | rfl | rfl | ⟨z, hz, hb⟩
    · exact h.ft _ (by simp [foot])
    · exact h.ft _ (by simp [foot])
    · exact h.ft _ (by simp [foot])
    · rw [List.mem_append] at hz
      rcases hz with hz | hz
      · exact h.ft b (bk_sub hz b hb)
      · simp at hz
        subst hz
        simp [bks] at hb
        omega
  · intro z hz
    rw [List.mem_append] at hz
    rcases hz with hz | hz
    · exact h.em z hz
    · simp at hz; subst hz; exact ⟨rfl, rfl⟩
theorem new_0 (w : World) : New_ w ((w.alloc (.map #[] 0)).alloc (.cells #[.map (some w.heap.size), .int .i64 0, .slice none 0 0] 68)) (w.heap.size + 1) w.heap.size [] [] := by
  have hB := Blk.new (w.alloc (.map #[] 0)) 68 #[.map (some w.heap.size), .int .i64 0, .slice none 0 0]
  simp only [World.size_alloc] at hB
  exact ⟨⟨hB, (MapP.made w).keeps ((Keeps.refl [] _).alloc _) (by simp), .inl ⟨rfl, rfl, rfl, rfl⟩, by simp, List.Pairwise.nil, by simp, by omega, by omega, by simp⟩, ((Keeps.refl [] w).alloc _).alloc _, by intro b hb; simp [foot] at hb; omega, rfl, by simp⟩
theorem New_.kk {w w1 w2 : World} {d m : Nat} {L : List Pt} {xs : List Pr} (h : New_ w w1 d m L xs) (hk : Keeps [] w1 w2) : New_ w w2 d m L xs := ⟨h.dv.kp hk, h.kp.trans hk, h.ft, h.ky, h.em⟩
theorem wp_mapSet {o : Oper} {a : Act} {w : World} {K : Act → World → Prop} {Q : Exit → Act → World → Prop} (t : TypeId) (x y z : Operand) (ho : o.op = .mapUpdate t x y z) {w' : World} (hrun : (Instr.mapUpdate t (a.eval x) (a.eval y) (a.eval z)).run Try.prog w = .ok () w') (h : K (a.put o.dst undef) w') : o.wp Try.prog a w K Q := by
  unfold Oper.wp
  simp [execOp, ho, hrun, Result.andThen]
  exact h
theorem take_at (xs : List Pr) (k : Nat) (x : Pr) (h : xs[k]? = some x) : xs.take (k + 1) = xs.take k ++ [x] ∧ xs.drop k = x :: xs.drop (k + 1) := by
  have hk := (List.getElem?_eq_some_iff.1 h).1
  have hx : xs[k] = x := by rw [List.getElem?_eq_getElem hk] at h; injection h
  exact ⟨by rw [List.take_succ_eq_append_getElem hk, hx], by rw [List.drop_eq_getElem_cons hk, hx]⟩
set_option maxRecDepth 100000 in
set_option maxHeartbeats 2000000 in
theorem new_dev (a : Option Addr) (n cap : Nat) (xs : List Pr) (w : World) (hR : Rows3 w a n xs) (hn : n ≤ 8) :
    Calls Try.prog 11 #[.slice a n cap] w (IsNew xs w) := by
  have hmm := @run_makeMap Try.prog
  have HR := Lib.hid hR
  have hxl := hR.1
  clear hR
  have h0 := Lib.hid (new_0 w)
  go_enter Try.func11, Try.ntmps11
  go_wp2
  clear hmm
  generalize (w.alloc (.map #[] 0)).alloc (.cells #[.map (some w.heap.size), .int .i64 0, .slice none 0 0] 68) = V0 at *
  have hm0 : w.heap.size ≤ w.heap.size := Nat.le_refl _
  obtain ⟨m, hm⟩ : ∃ m, w.heap.size = m := ⟨_, rfl⟩
  obtain ⟨d, hd⟩ : ∃ d, w.heap.size + 1 = d := ⟨_, rfl⟩
  rw [hd] at h0 ⊢
  have h0 : Hid (New_ w V0 d m [] []) := by rw [← hm]; exact h0
  clear hm0 hm hd
  go_loopw [12] (fun i wr => ∃ (k : Nat) (L : List Pt), k ≤ n ∧ i = .int .i64 k ∧ New_ w wr d m L (xs.take k) ∧ chkG (xs.take k) (xs.drop k) = chk xs) (fun i _ => n - (intOf i).toNat)
  case atStart => exact ⟨0, [], by omega, rfl, h0.out, rfl⟩
  case round =>
    clear h0
    obtain ⟨k, L, hk, rfl, hN, hch⟩ := hrel
    by_cases hlt : k < n
    · obtain ⟨x, hx⟩ : ∃ x, xs[k]? = some x := ⟨_, List.getElem?_eq_getElem (by omega)⟩
      obtain ⟨htk, hdk⟩ := take_at xs k x hx
      rw [hdk] at hch
      obtain ⟨b, off, rfl, hbl, hc⟩ := (HR.out.kp hN.kp).2 (by omega)
      obtain ⟨x0, x1, x2⟩ := hc k x hx
      have hki0 : (0 : Int) ≤ (k : Int) := by omega
      have hki1 : (k : Int) < (n : Int) := by omega
      have hLl : L.length = k := by have h9 := congrArg List.length hN.ky; simp at h9; omega
      have HN := Lib.hid hN
      have HC := Lib.hid hch
      have HT := Lib.hid htk
      clear hN hch htk hdk hc hx
      have hpB := Blk.new wr 62 #[.int .i64 x.ow, .int .i64 x.ma, .int .i64 x.li]
      go_wp2_with fail
      refine (may_any x.ow x.ma x.li _).mono ?_
      rintro e V1 ⟨rfl, hk1⟩
      have hNV := HN.out.kk (((Keeps.refl [] wr).alloc (.cells #[.int .i64 x.ow, .int .i64 x.ma, .int .i64 x.li] 62)).trans hk1)
      have hpB1 := hpB.keeps hk1 (by simp)
      have hpl := hpB1.lt
      have HN9 : m < wr.heap.size := HN.out.dv.mp.lt
      clear hpB x0 x1 x2
      by_cases hok : okP x
      · have hmy : decide (1 ≤ x.ow ∧ x.ow ≤ 8 ∧ 0 ≤ x.ma ∧ x.ma ≤ 255 ∧ 0 ≤ x.li ∧ x.li ≤ 16) = true := decide_eq_true hok
        rw [hmy]
        have hwf : (Lit.int .i64 x.ow).wf = true := WalkArith.wf_i64 (by unfold okP at hok; omega)
        have hlk := hNV.dv.mp.look x.ow hwf
        have HV := Lib.hid hNV
        have HP := Lib.hid hpB1
        have HOK := Lib.hid hok
        clear hmy hk1 HN hok hpB1
        rcases hf : fnd L x.ow with _ | p
        · rw [hf] at hlk
          simp only [pv] at hlk
          have hnf := fnd_none hf
          have HNF := Lib.hid hnf
          have HFN := Lib.hid hf
          clear hnf hf
          go_wp2
          have hVd := HV.out.kk ((Keeps.refl [] V1).drew)
          have g0 := hVd.dv.cells.1
          have g1 : (Instr.lookup 66 (.map (some m)) (.int .i64 x.ow) false).run Try.prog V1.drew = .ok (.pointer none) V1.drew := by
            have := hVd.dv.mp.look x.ow hwf
            rwa [show fnd L x.ow = none from HFN.out] at this
          have b0 : V1.drew.cell? ⟨wr.heap.size, 0, none⟩ = some (.int .i64 x.ow) := HP.out.drew.cell 0
          have b1 : V1.drew.cell? ⟨wr.heap.size, 1, none⟩ = some (.int .i64 x.ma) := HP.out.drew.cell 1
          refine wp_region_held_drew (S := (fun V => (V.cell? ⟨d, 0, none⟩ = some (.map (some m)) ∧ (Instr.lookup 66 (.map (some m)) (.int .i64 x.ow) false).run Try.prog V = .ok (.pointer none) V) ∧ V.cell? ⟨wr.heap.size, 0, none⟩ = some (.int .i64 x.ow) ∧ V.cell? ⟨wr.heap.size, 1, none⟩ = some (.int .i64 x.ma))) (by kernel_rfl) ⟨⟨g0, g1⟩, b0, b1⟩ (fun hHeld => ?_)
          refine' wpAnyH_take (i := 0) (oi := _) (v := _) ?hA0 (by kernel_rfl) (by kernel_rfl) (by kernel_rfl) ?hQA0 (Or.inl ⟨?hwA0, ?hyA0⟩) hHeld ?restA0
          case hA0 => (simp only [List.getElem?_toArray, List.getElem?_cons_zero]; rfl)
          case hQA0 => exact fun _ _ _ h => h
          case hwA0 => rfl
          case hyA0 => (intro w hSw; (try dsimp only at hSw); go_simp; try with_reducible rfl)
          try simp only [Act.put, List.setIfInBounds_toArray, List.set_cons_zero, List.set_cons_succ]
          refine' wpAnyH_take (i := 1) (oi := _) (v := _) ?hA1 (by kernel_rfl) (by kernel_rfl) (by kernel_rfl) ?hQA1 (Or.inl ⟨?hwA1, ?hyA1⟩) hHeld ?restA1
          case hA1 => (simp only [List.getElem?_toArray, List.getElem?_cons_succ, List.getElem?_cons_zero]; rfl)
          case hQA1 => exact fun _ _ _ h => h
          case hwA1 => rfl
          case hyA1 => (intro w hSw; (try dsimp only at hSw); go_simp; try with_reducible rfl)
          try simp only [Act.put, List.setIfInBounds_toArray, List.set_cons_zero, List.set_cons_succ]
          refine' wpAnyH_take (i := 2) (oi := _) (v := _) ?hA2 (by kernel_rfl) (by kernel_rfl) (by kernel_rfl) ?hQA2 (Or.inl ⟨?hwA2, ?hyA2⟩) hHeld ?restA2
          case hA2 => (simp only [List.getElem?_toArray, List.getElem?_cons_succ, List.getElem?_cons_zero]; rfl)
          case hQA2 => exact fun _ _ _ h => h
          case hwA2 => rfl
          case hyA2 => (intro w hSw; (try dsimp only at hSw); go_simp; try with_reducible rfl)
          try simp only [Act.put, List.setIfInBounds_toArray, List.set_cons_zero, List.set_cons_succ]
          refine' wpAnyH_take (i := 3) (oi := _) (v := _) ?hA3 (by kernel_rfl) (by kernel_rfl) (by kernel_rfl) ?hQA3 (Or.inl ⟨?hwA3, ?hyA3⟩) hHeld ?restA3
          case hA3 => (simp only [List.getElem?_toArray, List.getElem?_cons_succ, List.getElem?_cons_zero]; rfl)
          case hQA3 => exact fun _ _ _ h => h
          case hwA3 => rfl
          case hyA3 => (intro w hSw; (try dsimp only at hSw); go_simp; try with_reducible rfl)
          try simp only [Act.put, List.setIfInBounds_toArray, List.set_cons_zero, List.set_cons_succ]
          refine' wpAnyH_take (i := 4) (oi := _) (v := _) ?hA4 (by kernel_rfl) (by kernel_rfl) (by kernel_rfl) ?hQA4 (Or.inl ⟨?hwA4, ?hyA4⟩) hHeld ?restA4
          case hA4 => (simp only [List.getElem?_toArray, List.getElem?_cons_succ, List.getElem?_cons_zero]; rfl)
          case hQA4 => exact fun _ _ _ h => h
          case hwA4 => rfl
          case hyA4 => (intro w hSw; (try dsimp only at hSw); go_simp; try with_reducible rfl)
          try simp only [Act.put, List.setIfInBounds_toArray, List.set_cons_zero, List.set_cons_succ]
          refine' wpAnyH_take (i := 5) (oi := _) (v := _) ?hA5 (by kernel_rfl) (by kernel_rfl) (by kernel_rfl) ?hQA5 (Or.inl ⟨?hwA5, ?hyA5⟩) hHeld ?restA5
          case hA5 => (simp only [List.getElem?_toArray, List.getElem?_cons_succ, List.getElem?_cons_zero]; rfl)
          case hQA5 => exact fun _ _ _ h => h
          case hwA5 => rfl
          case hyA5 => (intro w hSw; (try dsimp only at hSw); go_simp; try with_reducible rfl)
          try simp only [Act.put, List.setIfInBounds_toArray, List.set_cons_zero, List.set_cons_succ]
          refine' wpAnyH_take (i := 6) (oi := _) (v := _) ?hA6 (by kernel_rfl) (by kernel_rfl) (by kernel_rfl) ?hQA6 (Or.inl ⟨?hwA6, ?hyA6⟩) hHeld ?restA6
          case hA6 => (simp only [List.getElem?_toArray, List.getElem?_cons_succ, List.getElem?_cons_zero]; rfl)
          case hQA6 => exact fun _ _ _ h => h
          case hwA6 => rfl
          case hyA6 => (intro w hSw; (try dsimp only at hSw); go_simp; try with_reducible rfl)
          try simp only [Act.put, List.setIfInBounds_toArray, List.set_cons_zero, List.set_cons_succ]
          refine' wpAnyH_take (i := 7) (oi := _) (v := _) ?hA7 (by kernel_rfl) (by kernel_rfl) (by kernel_rfl) ?hQA7 (Or.inl ⟨?hwA7, ?hyA7⟩) hHeld ?restA7
          case hA7 => (simp only [List.getElem?_toArray, List.getElem?_cons_succ, List.getElem?_cons_zero]; rfl)
          case hQA7 => exact fun _ _ _ h => h
          case hwA7 => rfl
          case hyA7 => (intro w hSw; (try dsimp only at hSw); go_simp; try with_reducible rfl)
          try simp only [Act.put, List.setIfInBounds_toArray, List.set_cons_zero, List.set_cons_succ]
          refine' wpAnyH_take (i := 8) (oi := _) (v := _) ?hA8 (by kernel_rfl) (by kernel_rfl) (by kernel_rfl) ?hQA8 (Or.inl ⟨?hwA8, ?hyA8⟩) hHeld ?restA8
          case hA8 => (simp only [List.getElem?_toArray, List.getElem?_cons_succ, List.getElem?_cons_zero]; rfl)
          case hQA8 => exact fun _ _ _ h => h
          case hwA8 => rfl
          case hyA8 => (intro w hSw; (try dsimp only at hSw); go_simp; try with_reducible rfl)
          try simp only [Act.put, List.setIfInBounds_toArray, List.set_cons_zero, List.set_cons_succ]
          refine' wpAnyH_take (i := 9) (oi := _) (v := _) ?hA9 (by kernel_rfl) (by kernel_rfl) (by kernel_rfl) ?hQA9 (Or.inl ⟨?hwA9, ?hyA9⟩) hHeld ?restA9
          case hA9 => (simp only [List.getElem?_toArray, List.getElem?_cons_succ, List.getElem?_cons_zero]; rfl)
          case hQA9 => exact fun _ _ _ h => h
          case hwA9 => rfl
          case hyA9 => (intro w hSw; (try dsimp only at hSw); go_simp; try with_reducible rfl)
          try simp only [Act.put, List.setIfInBounds_toArray, List.set_cons_zero, List.set_cons_succ]
          refine' wpAnyH_take (i := 10) (oi := _) (v := _) ?hA10 (by kernel_rfl) (by kernel_rfl) (by kernel_rfl) ?hQA10 (Or.inl ⟨?hwA10, ?hyA10⟩) hHeld ?restA10
          case hA10 => (simp only [List.getElem?_toArray, List.getElem?_cons_succ, List.getElem?_cons_zero]; rfl)
          case hQA10 => exact fun _ _ _ h => h
          case hwA10 => rfl
          case hyA10 => (intro w hSw; (try dsimp only at hSw); go_simp; try with_reducible rfl)
          try simp only [Act.put, List.setIfInBounds_toArray, List.set_cons_zero, List.set_cons_succ]
          refine' wpAnyH_take (i := 11) (oi := _) (v := _) ?hA11 (by kernel_rfl) (by kernel_rfl) (by kernel_rfl) ?hQA11 (Or.inl ⟨?hwA11, ?hyA11⟩) hHeld ?restA11
          case hA11 => (simp only [List.getElem?_toArray, List.getElem?_cons_succ, List.getElem?_cons_zero]; rfl)
          case hQA11 => exact fun _ _ _ h => h
          case hwA11 => rfl
          case hyA11 => (intro w hSw; (try dsimp only at hSw); go_simp; try with_reducible rfl)
          try simp only [Act.put, List.setIfInBounds_toArray, List.set_cons_zero, List.set_cons_succ]
          refine wpAnyH_ready (rs := [12]) (by kernel_rfl) (by simp) ?_
          refine AllReadyH.cons rfl (fun K hK => ?_) AllReadyH.nil
          go_simp
          refine (owner_any x.ma _ hVd.dv).mono ?_
          rintro e V2 ⟨rfl, rfl⟩
          try go_wp2_with fail
          refine hK.out _ _ (hHeld) (fun hHeld' => ?_)
          clear hK K hHeld
          have hHeld := hHeld'
          clear hHeld'
          try simp only [Act.put, List.setIfInBounds_toArray, List.set_cons_zero, List.set_cons_succ]
          refine' wpAnyH_take (i := 13) (oi := _) (v := _) ?hA13 (by kernel_rfl) (by kernel_rfl) (by kernel_rfl) ?hQA13 (Or.inl ⟨?hwA13, ?hyA13⟩) hHeld ?restA13
          case hA13 => (simp only [List.getElem?_toArray, List.getElem?_cons_succ, List.getElem?_cons_zero]; rfl)
          case hQA13 => exact fun _ _ _ h => h
          case hwA13 => rfl
          case hyA13 => (intro w hSw; (try dsimp only at hSw); go_simp; try with_reducible rfl)
          try simp only [Act.put, List.setIfInBounds_toArray, List.set_cons_zero, List.set_cons_succ]
          refine' wpAnyH_take (i := 14) (oi := _) (v := _) ?hA14 (by kernel_rfl) (by kernel_rfl) (by kernel_rfl) ?hQA14 (Or.inl ⟨?hwA14, ?hyA14⟩) hHeld ?restA14
          case hA14 => (simp only [List.getElem?_toArray, List.getElem?_cons_succ, List.getElem?_cons_zero]; rfl)
          case hQA14 => exact fun _ _ _ h => h
          case hwA14 => rfl
          case hyA14 => (intro w hSw; (try dsimp only at hSw); go_simp; try with_reducible rfl)
          try simp only [Act.put, List.setIfInBounds_toArray, List.set_cons_zero, List.set_cons_succ]
          refine wpAnyH_done (by kernel_rfl) ?_ _
          clear hHeld
          by_cases hma : own L x.ma = 0
          · rw [hma]
            have hno : (xs.take k).any (likeB x) = false := by
              rw [List.any_eq_false]
              intro u hu
              rw [← HV.out.ky, List.mem_map] at hu
              obtain ⟨z, hz, rfl⟩ := hu
              have h1 := HNF.out z hz
              have h2 : z.ma ≠ x.ma := fun e => by
                have := own_of HV.out.dv.ap hz
                rw [e, hma] at this
                have := (HV.out.dv.pt z hz).o1
                omega
              simp [likeB, key, h1, h2]
            have hch2 : chkG (xs.take (k + 1)) (xs.drop (k + 1)) = chk xs := by
              rw [← HC.out, chkG, if_pos HOK.out, if_neg (by rw [hno]; decide), HT.out]
            have HCH := Lib.hid (And.intro hno hch2)
            clear hno hch2 g0 g1 b0 b1 hma
            go_wp2
            obtain ⟨V2, hV2⟩ : ∃ V2, V1.drew.drew = V2 := ⟨_, rfl⟩
            have hkd : Keeps [] V1 V2 := by rw [← hV2]; exact ((Keeps.refl [] V1).drew).drew
            have hN2 := HV.out.kk hkd
            have hP2 := HP.out.keeps hkd (by simp)
            clear hVd
            have g0 := hN2.dv.cells.1
            have b0 : V2.cell? ⟨wr.heap.size, 0, none⟩ = some (.int .i64 x.ow) := hP2.cell 0
            have b1 : V2.cell? ⟨wr.heap.size, 1, none⟩ = some (.int .i64 x.ma) := hP2.cell 1
            have b2 : V2.cell? ⟨wr.heap.size, 2, none⟩ = some (.int .i64 x.li) := hP2.cell 2
            have hdl2 := hN2.dv.b.lt
            have hbl2 := hP2.lt
            have hml2 := hN2.dv.mp.lt
            have hdm := hN2.dv.dm
            have hbm : wr.heap.size ≠ m := by have := HN9; omega
            refine wp_region_held_drew (S := (fun V => V.cell? ⟨d, 0, none⟩ = some (.map (some m)) ∧ V.cell? ⟨wr.heap.size, 0, none⟩ = some (.int .i64 x.ow) ∧ V.cell? ⟨wr.heap.size, 1, none⟩ = some (.int .i64 x.ma) ∧ V.cell? ⟨wr.heap.size, 2, none⟩ = some (.int .i64 x.li))) (by kernel_rfl) (by rw [hV2]; exact ⟨g0, b0, b1, b2⟩) (fun hHeld => ?_)
            rw [hV2] at hHeld ⊢
            refine' wpAnyH_take (i := 0) (oi := _) (v := _) ?hC0 (by kernel_rfl) (by kernel_rfl) (by kernel_rfl) ?hQC0 (Or.inl ⟨?hwC0, ?hyC0⟩) hHeld ?restC0
            case hC0 => (simp only [List.getElem?_toArray, List.getElem?_cons_zero]; rfl)
            case hQC0 => exact fun _ _ _ h => h
            case hwC0 => rfl
            case hyC0 => (intro w hSw; (try dsimp only at hSw); go_simp; try with_reducible rfl)
            try simp only [Act.put, List.setIfInBounds_toArray, List.set_cons_zero, List.set_cons_succ]
            refine' wpAnyH_take (i := 1) (oi := _) (v := _) ?hC1 (by kernel_rfl) (by kernel_rfl) (by kernel_rfl) ?hQC1 (Or.inl ⟨?hwC1, ?hyC1⟩) hHeld ?restC1
            case hC1 => (simp only [List.getElem?_toArray, List.getElem?_cons_succ, List.getElem?_cons_zero]; rfl)
            case hQC1 => exact fun _ _ _ h => h
            case hwC1 => rfl
            case hyC1 => (intro w hSw; (try dsimp only at hSw); go_simp; try with_reducible rfl)
            try simp only [Act.put, List.setIfInBounds_toArray, List.set_cons_zero, List.set_cons_succ]
            refine' wpAnyH_take (i := 2) (oi := _) (v := _) ?hC2 (by kernel_rfl) (by kernel_rfl) (by kernel_rfl) ?hQC2 (Or.inl ⟨?hwC2, ?hyC2⟩) hHeld ?restC2
            case hC2 => (simp only [List.getElem?_toArray, List.getElem?_cons_succ, List.getElem?_cons_zero]; rfl)
            case hQC2 => exact fun _ _ _ h => h
            case hwC2 => rfl
            case hyC2 => (intro w hSw; (try dsimp only at hSw); go_simp; try with_reducible rfl)
            try simp only [Act.put, List.setIfInBounds_toArray, List.set_cons_zero, List.set_cons_succ]
            refine' wpAnyH_take (i := 3) (oi := _) (v := _) ?hC3 (by kernel_rfl) (by kernel_rfl) (by kernel_rfl) ?hQC3 (Or.inl ⟨?hwC3, ?hyC3⟩) hHeld ?restC3
            case hC3 => (simp only [List.getElem?_toArray, List.getElem?_cons_succ, List.getElem?_cons_zero]; rfl)
            case hQC3 => exact fun _ _ _ h => h
            case hwC3 => rfl
            case hyC3 => (intro w hSw; (try dsimp only at hSw); go_simp; try with_reducible rfl)
            try simp only [Act.put, List.setIfInBounds_toArray, List.set_cons_zero, List.set_cons_succ]
            refine' wpAnyH_take (i := 4) (oi := _) (v := _) ?hC4 (by kernel_rfl) (by kernel_rfl) (by kernel_rfl) ?hQC4 (Or.inl ⟨?hwC4, ?hyC4⟩) hHeld ?restC4
            case hC4 => (simp only [List.getElem?_toArray, List.getElem?_cons_succ, List.getElem?_cons_zero]; rfl)
            case hQC4 => exact fun _ _ _ h => h
            case hwC4 => rfl
            case hyC4 => (intro w hSw; (try dsimp only at hSw); go_simp; try with_reducible rfl)
            try simp only [Act.put, List.setIfInBounds_toArray, List.set_cons_zero, List.set_cons_succ]
            refine' wpAnyH_take (i := 5) (oi := _) (v := _) ?hC5 (by kernel_rfl) (by kernel_rfl) (by kernel_rfl) ?hQC5 (Or.inl ⟨?hwC5, ?hyC5⟩) hHeld ?restC5
            case hC5 => (simp only [List.getElem?_toArray, List.getElem?_cons_succ, List.getElem?_cons_zero]; rfl)
            case hQC5 => exact fun _ _ _ h => h
            case hwC5 => rfl
            case hyC5 => (intro w hSw; (try dsimp only at hSw); go_simp; try with_reducible rfl)
            try simp only [Act.put, List.setIfInBounds_toArray, List.set_cons_zero, List.set_cons_succ]
            refine' wpAnyH_take (i := 6) (oi := _) (v := _) ?hC6 (by kernel_rfl) (by kernel_rfl) (by kernel_rfl) ?hQC6 (Or.inl ⟨?hwC6, ?hyC6⟩) hHeld ?restC6
            case hC6 => (simp only [List.getElem?_toArray, List.getElem?_cons_succ, List.getElem?_cons_zero]; rfl)
            case hQC6 => exact fun _ _ _ h => h
            case hwC6 => rfl
            case hyC6 => (intro w hSw; (try dsimp only at hSw); go_simp; try with_reducible rfl)
            try simp only [Act.put, List.setIfInBounds_toArray, List.set_cons_zero, List.set_cons_succ]
            refine' wpAnyH_take (i := 7) (oi := _) (v := _) ?hC7 (by kernel_rfl) (by kernel_rfl) (by kernel_rfl) ?hQC7 (Or.inl ⟨?hwC7, ?hyC7⟩) hHeld ?restC7
            case hC7 => (simp only [List.getElem?_toArray, List.getElem?_cons_succ, List.getElem?_cons_zero]; rfl)
            case hQC7 => exact fun _ _ _ h => h
            case hwC7 => rfl
            case hyC7 => (intro w hSw; (try dsimp only at hSw); go_simp; try with_reducible rfl)
            try simp only [Act.put, List.setIfInBounds_toArray, List.set_cons_zero, List.set_cons_succ]
            refine' wpAnyH_take (i := 8) (oi := _) (v := _) ?hC8 (by kernel_rfl) (by kernel_rfl) (by kernel_rfl) ?hQC8 (Or.inl ⟨?hwC8, ?hyC8⟩) hHeld ?restC8
            case hC8 => (simp only [List.getElem?_toArray, List.getElem?_cons_succ, List.getElem?_cons_zero]; rfl)
            case hQC8 => exact fun _ _ _ h => h
            case hwC8 => rfl
            case hyC8 => (intro w hSw; (try dsimp only at hSw); go_simp; try with_reducible rfl)
            try simp only [Act.put, List.setIfInBounds_toArray, List.set_cons_zero, List.set_cons_succ]
            refine wpAnyH_ready (rs := [9]) (by kernel_rfl) (by simp) ?_
            refine AllReadyH.cons rfl (fun K hK => ?_) AllReadyH.nil
            go_simp
            refine (FiF.new_any x.li _).mono ?_
            rintro e V3 ⟨rfl, hq3, hk3⟩
            try go_wp2_with fail
            refine hK.out _ _ (⟨(hk3.cell (p := ⟨d, 0, none⟩) hdl2 (by simp)).trans hHeld.1, (hk3.cell (p := ⟨wr.heap.size, 0, none⟩) hbl2 (by simp)).trans hHeld.2.1, (hk3.cell (p := ⟨wr.heap.size, 1, none⟩) hbl2 (by simp)).trans hHeld.2.2.1, (hk3.cell (p := ⟨wr.heap.size, 2, none⟩) hbl2 (by simp)).trans hHeld.2.2.2⟩) (fun hHeld' => ?_)
            clear hK K hHeld
            have hHeld := hHeld'
            clear hHeld'
            try simp only [Act.put, List.setIfInBounds_toArray, List.set_cons_zero, List.set_cons_succ]
            refine' wpAnyH_take (i := 10) (oi := _) (v := _) ?hC10 (by kernel_rfl) (by kernel_rfl) (by kernel_rfl) ?hQC10 (Or.inl ⟨?hwC10, ?hyC10⟩) hHeld ?restC10
            case hC10 => (simp only [List.getElem?_toArray, List.getElem?_cons_succ, List.getElem?_cons_zero]; rfl)
            case hQC10 => exact fun _ _ _ h => h
            case hwC10 => rfl
            case hyC10 => (intro w hSw; (try dsimp only at hSw); go_simp; try with_reducible rfl)
            try simp only [Act.put, List.setIfInBounds_toArray, List.set_cons_zero, List.set_cons_succ]
            refine wpAnyH_ready (rs := [11]) (by kernel_rfl) (by simp) ?_
            refine AllReadyH.cons rfl (fun K hK => ?_) AllReadyH.nil
            go_simp
            refine hK.out _ _ (⟨(((Keeps.refl [] V3).alloc (.cells #[.int .i64 x.ow, .int .i64 x.ma, .int .i64 x.li, .pointer (some ⟨V2.heap.size, 0, none⟩)] 74)).cell (p := ⟨d, 0, none⟩) (Nat.lt_of_lt_of_le hdl2 hk3.size) (by simp)).trans hHeld.1, (((Keeps.refl [] V3).alloc (.cells #[.int .i64 x.ow, .int .i64 x.ma, .int .i64 x.li, .pointer (some ⟨V2.heap.size, 0, none⟩)] 74)).cell (p := ⟨wr.heap.size, 0, none⟩) (Nat.lt_of_lt_of_le hbl2 hk3.size) (by simp)).trans hHeld.2.1, (((Keeps.refl [] V3).alloc (.cells #[.int .i64 x.ow, .int .i64 x.ma, .int .i64 x.li, .pointer (some ⟨V2.heap.size, 0, none⟩)] 74)).cell (p := ⟨wr.heap.size, 1, none⟩) (Nat.lt_of_lt_of_le hbl2 hk3.size) (by simp)).trans hHeld.2.2.1, (((Keeps.refl [] V3).alloc (.cells #[.int .i64 x.ow, .int .i64 x.ma, .int .i64 x.li, .pointer (some ⟨V2.heap.size, 0, none⟩)] 74)).cell (p := ⟨wr.heap.size, 2, none⟩) (Nat.lt_of_lt_of_le hbl2 hk3.size) (by simp)).trans hHeld.2.2.2⟩) (fun hHeld' => ?_)
            clear hK K hHeld
            have hHeld := hHeld'
            clear hHeld'
            try simp only [Act.put, List.setIfInBounds_toArray, List.set_cons_zero, List.set_cons_succ]
            have hk4 : Keeps [] V3 (V3.alloc (.cells #[.int .i64 x.ow, .int .i64 x.ma, .int .i64 x.li, .pointer (some ⟨V2.heap.size, 0, none⟩)] 74)) := (Keeps.refl _ _).alloc _
            have hN4 := (hN2.kk hk3).kk hk4
            obtain ⟨V5, hrun5, hmp5, hg5⟩ := hN4.dv.mp.store x.ow hwf V3.heap.size (by simp only [maxLen]; omega)
            have hkm : Keeps [m] (V3.alloc (.cells #[.int .i64 x.ow, .int .i64 x.ma, .int .i64 x.li, .pointer (some ⟨V2.heap.size, 0, none⟩)] 74)) V5 := (Keeps.refl [m] _).grown hg5 (fun b e => by cases e; simp)
            refine wpAnyH_ready (rs := [12]) (by kernel_rfl) (by simp) ?_
            refine' AllReadyH.cons (o := _) ?hoC12 (fun K hK => ?stC12) AllReadyH.nil
            case hoC12 => (simp only [List.getElem?_toArray, List.getElem?_cons_succ, List.getElem?_cons_zero]; rfl)
            rw [if_pos (by rfl)]
            refine wp_mapSet _ _ _ _ rfl hrun5 ?_
            refine hK.out _ _ (⟨(hkm.cell (p := ⟨d, 0, none⟩) (Nat.lt_of_lt_of_le hdl2 (Nat.le_trans hk3.size hk4.size)) (by simp; omega)).trans hHeld.1, (hkm.cell (p := ⟨wr.heap.size, 0, none⟩) (Nat.lt_of_lt_of_le hbl2 (Nat.le_trans hk3.size hk4.size)) (by simp; omega)).trans hHeld.2.1, (hkm.cell (p := ⟨wr.heap.size, 1, none⟩) (Nat.lt_of_lt_of_le hbl2 (Nat.le_trans hk3.size hk4.size)) (by simp; omega)).trans hHeld.2.2.1, (hkm.cell (p := ⟨wr.heap.size, 2, none⟩) (Nat.lt_of_lt_of_le hbl2 (Nat.le_trans hk3.size hk4.size)) (by simp; omega)).trans hHeld.2.2.2⟩) (fun hHeld' => ?_)
            clear hK K hHeld
            have hHeld := hHeld'
            clear hHeld'
            try simp only [Act.put, List.setIfInBounds_toArray, List.set_cons_zero, List.set_cons_succ]
            refine wpAnyH_done (by kernel_rfl) ?_ _
            clear hHeld g0 b0 b1 b2
            have hok9 := HOK.out
            unfold okP at hok9
            have hlim : FiF.lim16 x.li = x.li := by
              unfold FiF.lim16
              rw [if_neg (by omega), if_neg (by omega)]
            rw [hlim] at hq3
            have hq4 := hq3.kp hk4
            have hNN := Lib.hid (hN2.add HOK.out HCH.out.1 (hk3.trans hk4) (Blk.new V3 _ _) hq4 hk3.size (Nat.le_refl _) (by have := hq3.lt.1; omega) (by omega) hmp5 hg5)
            clear hq3 hq4 hN4 hN2 hmp5 hg5 hrun5 hkm hk3 hk4
            go_wp2
            go_roundw
            case rel => exact ⟨k + 1, _, by omega, by go_num, by rw [HT.out]; exact hNN.out, HCH.out.2⟩
            case measure => simp [intOf]; omega
          · have hany : (xs.take k).any (likeB x) = true := by
              obtain ⟨z, hz, hzm⟩ : ∃ z ∈ L, z.ma = x.ma := by
                rcases he : L.find? (fun z => z.ma == x.ma) with _ | z
                · exact absurd (by unfold own; rw [he]; rfl) hma
                · exact ⟨z, List.mem_of_find?_eq_some he, by have := List.find?_some he; simpa using this⟩
              rw [List.any_eq_true]
              exact ⟨key z, by rw [← HV.out.ky]; exact List.mem_map_of_mem hz, by simp [likeB, key, hzm]⟩
            have h15 : chk xs = 15 := by
              rw [← HC.out, chkG, if_pos HOK.out, if_pos hany]
            have H15 := Lib.hid h15
            have hne : (own L x.ma != 0) = true := by simpa using hma
            clear hany h15
            generalize own L x.ma = ow at *
            go_wp2
            refine bodyPost_ret (v := .tuple #[.pointer none, .int .i64 15]) (by simp [results, Try.results11, go_sem]) rfl ?_
            exact .inr ⟨by rw [H15.out]; decide, by rw [H15.out], HV.out.kp.drew⟩
        · rw [hf] at hlk
          simp only [pv] at hlk
          obtain ⟨z, hz, hzo, _, _⟩ := fnd_some hf
          have hany : (xs.take k).any (likeB x) = true := by
            rw [List.any_eq_true]
            exact ⟨key z, by rw [← HV.out.ky]; exact List.mem_map_of_mem hz, by simp [likeB, key, hzo]⟩
          have h15 : chk xs = 15 := by
            rw [← HC.out, chkG, if_pos HOK.out, if_pos hany]
          have H15 := Lib.hid h15
          have HFN := Lib.hid hf
          clear hf hany h15 hz hzo
          go_wp2
          have hVd := HV.out.kk ((Keeps.refl [] V1).drew)
          have g0 := hVd.dv.cells.1
          have g1 : (Instr.lookup 66 (.map (some m)) (.int .i64 x.ow) false).run Try.prog V1.drew = .ok (.pointer (some ⟨p, 0, none⟩)) V1.drew := by
            have := hVd.dv.mp.look x.ow hwf
            rwa [show fnd L x.ow = some p from HFN.out] at this
          have b0 : V1.drew.cell? ⟨wr.heap.size, 0, none⟩ = some (.int .i64 x.ow) := HP.out.drew.cell 0
          have b1 : V1.drew.cell? ⟨wr.heap.size, 1, none⟩ = some (.int .i64 x.ma) := HP.out.drew.cell 1
          refine wp_region_held_drew (S := (fun V => (V.cell? ⟨d, 0, none⟩ = some (.map (some m)) ∧ (Instr.lookup 66 (.map (some m)) (.int .i64 x.ow) false).run Try.prog V = .ok (.pointer (some ⟨p, 0, none⟩)) V) ∧ V.cell? ⟨wr.heap.size, 0, none⟩ = some (.int .i64 x.ow) ∧ V.cell? ⟨wr.heap.size, 1, none⟩ = some (.int .i64 x.ma))) (by kernel_rfl) ⟨⟨g0, g1⟩, b0, b1⟩ (fun hHeld => ?_)
          refine' wpAnyH_take (i := 0) (oi := _) (v := _) ?hB0 (by kernel_rfl) (by kernel_rfl) (by kernel_rfl) ?hQB0 (Or.inl ⟨?hwB0, ?hyB0⟩) hHeld ?restB0
          case hB0 => (simp only [List.getElem?_toArray, List.getElem?_cons_zero]; rfl)
          case hQB0 => exact fun _ _ _ h => h
          case hwB0 => rfl
          case hyB0 => (intro w hSw; (try dsimp only at hSw); go_simp; try with_reducible rfl)
          try simp only [Act.put, List.setIfInBounds_toArray, List.set_cons_zero, List.set_cons_succ]
          refine' wpAnyH_take (i := 1) (oi := _) (v := _) ?hB1 (by kernel_rfl) (by kernel_rfl) (by kernel_rfl) ?hQB1 (Or.inl ⟨?hwB1, ?hyB1⟩) hHeld ?restB1
          case hB1 => (simp only [List.getElem?_toArray, List.getElem?_cons_succ, List.getElem?_cons_zero]; rfl)
          case hQB1 => exact fun _ _ _ h => h
          case hwB1 => rfl
          case hyB1 => (intro w hSw; (try dsimp only at hSw); go_simp; try with_reducible rfl)
          try simp only [Act.put, List.setIfInBounds_toArray, List.set_cons_zero, List.set_cons_succ]
          refine' wpAnyH_take (i := 2) (oi := _) (v := _) ?hB2 (by kernel_rfl) (by kernel_rfl) (by kernel_rfl) ?hQB2 (Or.inl ⟨?hwB2, ?hyB2⟩) hHeld ?restB2
          case hB2 => (simp only [List.getElem?_toArray, List.getElem?_cons_succ, List.getElem?_cons_zero]; rfl)
          case hQB2 => exact fun _ _ _ h => h
          case hwB2 => rfl
          case hyB2 => (intro w hSw; (try dsimp only at hSw); go_simp; try with_reducible rfl)
          try simp only [Act.put, List.setIfInBounds_toArray, List.set_cons_zero, List.set_cons_succ]
          refine' wpAnyH_take (i := 3) (oi := _) (v := _) ?hB3 (by kernel_rfl) (by kernel_rfl) (by kernel_rfl) ?hQB3 (Or.inl ⟨?hwB3, ?hyB3⟩) hHeld ?restB3
          case hB3 => (simp only [List.getElem?_toArray, List.getElem?_cons_succ, List.getElem?_cons_zero]; rfl)
          case hQB3 => exact fun _ _ _ h => h
          case hwB3 => rfl
          case hyB3 => (intro w hSw; (try dsimp only at hSw); go_simp; try with_reducible rfl)
          try simp only [Act.put, List.setIfInBounds_toArray, List.set_cons_zero, List.set_cons_succ]
          refine' wpAnyH_take (i := 4) (oi := _) (v := _) ?hB4 (by kernel_rfl) (by kernel_rfl) (by kernel_rfl) ?hQB4 (Or.inl ⟨?hwB4, ?hyB4⟩) hHeld ?restB4
          case hB4 => (simp only [List.getElem?_toArray, List.getElem?_cons_succ, List.getElem?_cons_zero]; rfl)
          case hQB4 => exact fun _ _ _ h => h
          case hwB4 => rfl
          case hyB4 => (intro w hSw; (try dsimp only at hSw); go_simp; try with_reducible rfl)
          try simp only [Act.put, List.setIfInBounds_toArray, List.set_cons_zero, List.set_cons_succ]
          refine' wpAnyH_take (i := 5) (oi := _) (v := _) ?hB5 (by kernel_rfl) (by kernel_rfl) (by kernel_rfl) ?hQB5 (Or.inl ⟨?hwB5, ?hyB5⟩) hHeld ?restB5
          case hB5 => (simp only [List.getElem?_toArray, List.getElem?_cons_succ, List.getElem?_cons_zero]; rfl)
          case hQB5 => exact fun _ _ _ h => h
          case hwB5 => rfl
          case hyB5 => (intro w hSw; (try dsimp only at hSw); go_simp; try with_reducible rfl)
          try simp only [Act.put, List.setIfInBounds_toArray, List.set_cons_zero, List.set_cons_succ]
          refine' wpAnyH_take (i := 6) (oi := _) (v := _) ?hB6 (by kernel_rfl) (by kernel_rfl) (by kernel_rfl) ?hQB6 (Or.inl ⟨?hwB6, ?hyB6⟩) hHeld ?restB6
          case hB6 => (simp only [List.getElem?_toArray, List.getElem?_cons_succ, List.getElem?_cons_zero]; rfl)
          case hQB6 => exact fun _ _ _ h => h
          case hwB6 => rfl
          case hyB6 => (intro w hSw; (try dsimp only at hSw); go_simp; try with_reducible rfl)
          try simp only [Act.put, List.setIfInBounds_toArray, List.set_cons_zero, List.set_cons_succ]
          refine' wpAnyH_take (i := 7) (oi := _) (v := _) ?hB7 (by kernel_rfl) (by kernel_rfl) (by kernel_rfl) ?hQB7 (Or.inl ⟨?hwB7, ?hyB7⟩) hHeld ?restB7
          case hB7 => (simp only [List.getElem?_toArray, List.getElem?_cons_succ, List.getElem?_cons_zero]; rfl)
          case hQB7 => exact fun _ _ _ h => h
          case hwB7 => rfl
          case hyB7 => (intro w hSw; (try dsimp only at hSw); go_simp; try with_reducible rfl)
          try simp only [Act.put, List.setIfInBounds_toArray, List.set_cons_zero, List.set_cons_succ]
          refine' wpAnyH_take (i := 8) (oi := _) (v := _) ?hB8 (by kernel_rfl) (by kernel_rfl) (by kernel_rfl) ?hQB8 (Or.inl ⟨?hwB8, ?hyB8⟩) hHeld ?restB8
          case hB8 => (simp only [List.getElem?_toArray, List.getElem?_cons_succ, List.getElem?_cons_zero]; rfl)
          case hQB8 => exact fun _ _ _ h => h
          case hwB8 => rfl
          case hyB8 => (intro w hSw; (try dsimp only at hSw); go_simp; try with_reducible rfl)
          try simp only [Act.put, List.setIfInBounds_toArray, List.set_cons_zero, List.set_cons_succ]
          refine wpAnyH_off (i := 9) (d := some 28) rfl (by kernel_rfl) (by kernel_rfl) (by kernel_rfl) (fun _ _ _ h => h) (by rfl) hHeld ?_
          try simp only [Act.put, List.setIfInBounds_toArray, List.set_cons_zero, List.set_cons_succ]
          refine wpAnyH_off (i := 10) (d := some 29) rfl (by kernel_rfl) (by kernel_rfl) (by kernel_rfl) (fun _ _ _ h => h) (by rfl) hHeld ?_
          try simp only [Act.put, List.setIfInBounds_toArray, List.set_cons_zero, List.set_cons_succ]
          refine wpAnyH_off (i := 11) (d := some 30) rfl (by kernel_rfl) (by kernel_rfl) (by kernel_rfl) (fun _ _ _ h => h) (by rfl) hHeld ?_
          try simp only [Act.put, List.setIfInBounds_toArray, List.set_cons_zero, List.set_cons_succ]
          refine wpAnyH_off (i := 12) (d := some 31) rfl (by kernel_rfl) (by kernel_rfl) (by kernel_rfl) (fun _ _ _ h => h) (by rfl) hHeld ?_
          try simp only [Act.put, List.setIfInBounds_toArray, List.set_cons_zero, List.set_cons_succ]
          refine wpAnyH_off (i := 13) (d := some 32) rfl (by kernel_rfl) (by kernel_rfl) (by kernel_rfl) (fun _ _ _ h => h) (by rfl) hHeld ?_
          try simp only [Act.put, List.setIfInBounds_toArray, List.set_cons_zero, List.set_cons_succ]
          refine' wpAnyH_take (i := 14) (oi := _) (v := _) ?hB14 (by kernel_rfl) (by kernel_rfl) (by kernel_rfl) ?hQB14 (Or.inl ⟨?hwB14, ?hyB14⟩) hHeld ?restB14
          case hB14 => (simp only [List.getElem?_toArray, List.getElem?_cons_succ, List.getElem?_cons_zero]; rfl)
          case hQB14 => exact fun _ _ _ h => h
          case hwB14 => rfl
          case hyB14 => (intro w hSw; (try dsimp only at hSw); go_simp; try with_reducible rfl)
          try simp only [Act.put, List.setIfInBounds_toArray, List.set_cons_zero, List.set_cons_succ]
          refine wpAnyH_done (by kernel_rfl) ?_ _
          clear hHeld
          go_wp2
          refine bodyPost_ret (v := .tuple #[.pointer none, .int .i64 15]) (by simp [results, Try.results11, go_sem]) rfl ?_
          exact .inr ⟨by rw [H15.out]; decide, by rw [H15.out], HV.out.kp.drew⟩
      · have hmy : decide (1 ≤ x.ow ∧ x.ow ≤ 8 ∧ 0 ≤ x.ma ∧ x.ma ≤ 255 ∧ 0 ≤ x.li ∧ x.li ≤ 16) = false := decide_eq_false hok
        rw [hmy]
        have h2 : chk xs = 2 := by rw [← HC.out, chkG, if_neg hok]
        have H2 := Lib.hid (And.intro h2 hNV.kp)
        clear hmy hNV hk1 HN hok h2 hpB1
        go_wp2
        refine bodyPost_ret (v := .tuple #[.pointer none, .int .i64 2]) (by simp [results, Try.results11, go_sem]) rfl ?_
        exact .inr ⟨by rw [H2.out.1]; decide, by rw [H2.out.1], H2.out.2⟩
    · obtain rfl : k = n := by omega
      have h1 : chk xs = 0 := by
        rw [← hch, List.drop_eq_nil_of_le (by omega)]
        simp [chkG]
      have htk : xs.take k = xs := List.take_of_length_le (by omega)
      rw [htk] at hN
      have HN := Lib.hid (And.intro h1 hN)
      clear hN hch h1 htk
      go_wp2
      refine bodyPost_ret (v := .tuple #[.pointer (some ⟨d, 0, none⟩), .int .i64 0]) (by simp [results, Try.results11, go_sem]) rfl ?_
      exact .inl ⟨HN.out.1, d, m, L, rfl, HN.out.2⟩
end Nc
end Go.Proofs.Ytdbkgpnbmafpmaa
namespace Go.Proofs.Ytdbkgpnbmafpmaa
open Go.RowKit Go.Maps
namespace Nc
open Sm Fr
open PlainAid (bt)
/-- A port of the document's. -/
structure RP where
  ow : Int
  ma : Int
  li : Int
  wa : Option Addr
  wn : Nat
  wc : Nat
  dr : Int
def rpc (x : RP) : List Value := [.int .i64 x.ow, .int .i64 x.ma, .int .i64 x.li, .slice x.wa x.wn x.wc, .int .i64 x.dr]
def rkey (x : RP) : Pr := ⟨x.ow, x.ma, x.li⟩
def Rr (w : World) (a : Option Addr) (n : Nat) (Ps : List RP) : Prop :=
  Ps.length = n ∧ (0 < n → ∃ b, a = some ⟨b, 0, none⟩ ∧ b < w.heap.size ∧ ∀ i x, Ps[i]? = some x → w.rangeAt b (i * 5) (rpc x))
theorem Rr.keeps {w w' : World} {a : Option Addr} {n : Nat} {Ps : List RP} {S : List Nat} (h : Rr w a n Ps) (hk : Keeps S w w') (hS : ∀ b, a = some ⟨b, 0, none⟩ → b ∉ S) : Rr w' a n Ps := by
  refine ⟨h.1, fun h0 => ?_⟩
  obtain ⟨b, rfl, hb, hc⟩ := h.2 h0
  exact ⟨b, rfl, Nat.lt_of_lt_of_le hb hk.size, fun i x hx j u hu => (hk.cell (p := ⟨b, i * 5 + j, none⟩) hb (hS b rfl)).trans (hc i x hx j u hu)⟩
theorem Rr.kp {w w' : World} {a : Option Addr} {n : Nat} {Ps : List RP} (h : Rr w a n Ps) (hk : Keeps [] w w') : Rr w' a n Ps := h.keeps hk (by simp)
theorem Rr.at_ {w : World} {a : Option Addr} {n : Nat} {Ps : List RP} (h : Rr w a n Ps) (i : Nat) (x : RP) (hx : Ps[i]? = some x) : ∃ b, a = some ⟨b, 0, none⟩ ∧ b < w.heap.size ∧ w.cell? ⟨b, i * 5, none⟩ = some (.int .i64 x.ow) ∧ w.cell? ⟨b, i * 5 + 1, none⟩ = some (.int .i64 x.ma) ∧ w.cell? ⟨b, i * 5 + 2, none⟩ = some (.int .i64 x.li) ∧ w.cell? ⟨b, i * 5 + 3, none⟩ = some (.slice x.wa x.wn x.wc) ∧ w.cell? ⟨b, i * 5 + 4, none⟩ = some (.int .i64 x.dr) := by
  have hi := (List.getElem?_eq_some_iff.1 hx).1
  obtain ⟨b, e, hb, hc⟩ := h.2 (by rw [← h.1]; omega)
  have := hc i x hx
  exact ⟨b, e, hb, this 0 _ rfl, this 1 _ rfl, this 2 _ rfl, this 3 _ rfl, this 4 _ rfl⟩
/-- Where an owner's port is. -/
def oi (Ps : List RP) (k : Int) : Int := match Ps.findIdx? (fun x => x.ow == k) with | some i => (i : Int) | none => -1
theorem oi_at {Ps : List RP} {k : Int} {i : Nat} {x : RP} (hx : Ps[i]? = some x) (ho : x.ow = k) (hno : ∀ j z, j < i → Ps[j]? = some z → z.ow ≠ k) : oi Ps k = i := by
  unfold oi
  have hi := (List.getElem?_eq_some_iff.1 hx).1
  have hxe : Ps[i] = x := by rw [List.getElem?_eq_getElem hi] at hx; injection hx
  have : Ps.findIdx? (fun x => x.ow == k) = some i := by
    rw [List.findIdx?_eq_some_iff_getElem]
    refine ⟨hi, by rw [hxe]; simpa using ho, fun j hj => by simpa using hno j _ hj (List.getElem?_eq_getElem (by omega))⟩
  rw [this]
theorem oi_no {Ps : List RP} {k : Int} (hno : ∀ (j : Nat) z, Ps[j]? = some z → z.ow ≠ k) : oi Ps k = -1 := by
  unfold oi
  have : Ps.findIdx? (fun x => x.ow == k) = none := by
    rw [List.findIdx?_eq_none_iff]
    intro x hx
    obtain ⟨i, hi, rfl⟩ := List.getElem_of_mem hx
    simpa using hno i _ (List.getElem?_eq_getElem hi)
  rw [this]
theorem rowner_any (a : Option Addr) (n c : Nat) (Ps : List RP) (k : Int) (w : World) (h : Rr w a n Ps) (hn : n ≤ 8) : Calls Try.prog 8 #[.slice a n c, .int .i64 k] w fun e w' => e = .returned (.int .i64 (oi Ps k)) ∧ w = w' := by
  have hl := h.1
  have H := Lib.hid h
  clear h
  go_enter Try.func8, Try.ntmps8
  go_wp2
  go_loopw [5] (fun i wr => ∃ j : Nat, j ≤ n ∧ i = .int .i64 j ∧ wr = w ∧ ∀ (u : Nat) z, u < j → Ps[u]? = some z → z.ow ≠ k) (fun i _ => n - (intOf i).toNat)
  case atStart => exact ⟨0, by omega, rfl, rfl, by omega⟩
  case round =>
    obtain ⟨j, hj, rfl, rfl, hno⟩ := hrel
    have HN := Lib.hid hno
    clear hno
    by_cases hlt : j < n
    · obtain ⟨x, hx⟩ : ∃ x, Ps[j]? = some x := ⟨_, List.getElem?_eq_getElem (by omega)⟩
      obtain ⟨b, rfl, hb, x0, _⟩ := H.out.at_ j x hx
      have hj0 : (0 : Int) ≤ (j : Int) := by omega
      have hj1 : (j : Int) < (n : Int) := by omega
      by_cases ho : x.ow = k
      · have hoi := oi_at hx ho HN.out
        have HO := Lib.hid hoi
        rw [ho] at x0
        clear hoi hx ho
        go_wp2
        go_ret
        exact ⟨by rw [HO.out]; rfl, rfl⟩
      · have hne : (x.ow == k) = false := by simpa using ho
        have HX := Lib.hid (And.intro hx ho)
        clear hx ho
        go_wp2
        go_roundw
        case rel => exact ⟨j + 1, by omega, by go_num, trivial, fun u z hu hz => by
          by_cases hu' : u < j
          · exact HN.out u z hu' hz
          · obtain rfl : u = j := by omega
            rw [HX.out.1] at hz; injection hz with hz; subst hz; exact HX.out.2⟩
        case measure => simp [intOf]; omega
    · obtain rfl : j = n := by omega
      have hoi : oi Ps k = -1 := oi_no (fun u z hz => HN.out u z (by have := (List.getElem?_eq_some_iff.1 hz).1; omega) hz)
      have HO := Lib.hid hoi
      clear hoi
      go_wp2
      go_ret
      exact ⟨by rw [HO.out]; rfl, rfl⟩
theorem okP_iff (x : Pr) : okP x ↔ ¬ x.ow < 1 ∧ ¬ 8 < x.ow ∧ ¬ x.ma < 0 ∧ ¬ 255 < x.ma ∧ ¬ x.li < 0 ∧ ¬ 16 < x.li := by unfold okP; omega
theorem like_take (Ps : List RP) (k : Nat) (x : Pr) : ((Ps.map rkey).take k).any (likeB x) = true ↔ ∃ (u : Nat) (z : RP), u < k ∧ Ps[u]? = some z ∧ (z.ow = x.ow ∨ z.ma = x.ma) := by
  rw [List.any_eq_true]
  constructor
  · rintro ⟨p, hp, hl⟩
    obtain ⟨i, hi, rfl⟩ := List.getElem_of_mem hp
    have hi' : i < k ∧ i < Ps.length := by simp at hi; omega
    refine ⟨i, Ps[i]'hi'.2, hi'.1, List.getElem?_eq_getElem hi'.2, ?_⟩
    simpa [likeB, rkey] using hl
  · rintro ⟨u, z, hu, hz, hl⟩
    have hu' := (List.getElem?_eq_some_iff.1 hz).1
    refine ⟨rkey z, ?_, by simpa [likeB, rkey] using hl⟩
    rw [List.mem_iff_getElem?]
    refine ⟨u, ?_⟩
    rw [List.getElem?_take, if_pos hu, List.getElem?_map, hz]
    rfl
set_option maxRecDepth 100000 in
set_option maxHeartbeats 2000000 in
theorem rcheck_any (a : Option Addr) (n c : Nat) (Ps : List RP) (w : World) (h : Rr w a n Ps) (hn : n ≤ 8) : Calls Try.prog 9 #[.slice a n c] w fun e w' => e = .returned (.int .i64 (chk (Ps.map rkey))) ∧ Keeps [] w w' := by
  have hl := h.1
  have H := Lib.hid h
  clear h
  go_enter Try.func9, Try.ntmps9
  go_wp2
  go_loopw [3] (fun i wr => ∃ k : Nat, k ≤ n ∧ i = .int .i64 k ∧ Keeps [] w wr ∧ chkG ((Ps.map rkey).take k) ((Ps.map rkey).drop k) = chk (Ps.map rkey)) (fun i _ => n - (intOf i).toNat)
  case atStart => exact ⟨0, by omega, rfl, Keeps.refl _ _, rfl⟩
  case round =>
    obtain ⟨k, hk, rfl, hkr, hch⟩ := hrel
    by_cases hlt : k < n
    · obtain ⟨x, hx⟩ : ∃ x, Ps[k]? = some x := ⟨_, List.getElem?_eq_getElem (by omega)⟩
      obtain ⟨htk, hdk⟩ := take_at (Ps.map rkey) k (rkey x) (by rw [List.getElem?_map, hx]; rfl)
      rw [hdk] at hch
      obtain ⟨b, rfl, hb, x0, x1, x2, x3, x4⟩ := (H.out.kp hkr).at_ k x hx
      have hki0 : (0 : Int) ≤ (k : Int) := by omega
      have hki1 : (k : Int) < (n : Int) := by omega
      have HC := Lib.hid hch
      have HT := Lib.hid htk
      have HK := Lib.hid hkr
      have hpB := Lib.hid (Blk.new wr 45 #[.int .i64 x.ow, .int .i64 x.ma, .int .i64 x.li, .slice x.wa x.wn x.wc, .int .i64 x.dr])
      clear hch htk hdk hx hkr
      by_cases hok : okP (rkey x)
      · have HOK := Lib.hid hok
        obtain ⟨o1, o2, o3, o4, o5, o6⟩ := (okP_iff _).1 hok
        simp only [rkey] at o1 o2 o3 o4 o5 o6
        clear hok
        go_wp2
        have HKA := Lib.hid (HK.out.alloc (.cells #[.int .i64 x.ow, .int .i64 x.ma, .int .i64 x.li, .slice x.wa x.wn x.wc, .int .i64 x.dr] 45))
        clear x0 x1 x2 x3 x4
        generalize wr.alloc (.cells #[.int .i64 x.ow, .int .i64 x.ma, .int .i64 x.li, .slice x.wa x.wn x.wc, .int .i64 x.dr] 45) = V at *
        have HPB : Hid (Blk V wr.heap.size 45 #[.int .i64 x.ow, .int .i64 x.ma, .int .i64 x.li, .slice x.wa x.wn x.wc, .int .i64 x.dr]) := hpB
        clear hpB HK
        generalize wr.heap.size = p4 at *
        go_loopw [5] (fun i wx => ∃ j : Nat, j ≤ k ∧ i = .int .i64 j ∧ Drawn V wx ∧ ∀ (u : Nat) z, u < j → Ps[u]? = some z → z.ow ≠ x.ow ∧ z.ma ≠ x.ma) (fun i _ => k - (intOf i).toNat)
        case atStart => exact ⟨0, by omega, rfl, Drawn.refl _, by omega⟩
        case round =>
          obtain ⟨j, hj, rfl, hdr, hno⟩ := hrel
          have HN := Lib.hid hno
          have HDR := Lib.hid hdr
          clear hno
          by_cases hjk : j < k
          · obtain ⟨z, hz⟩ : ∃ z, Ps[j]? = some z := ⟨_, List.getElem?_eq_getElem (by omega)⟩
            obtain ⟨b', hbb, _, z0, z1, _⟩ := ((H.out.kp HKA.out).kp ((Keeps.refl [] V).drawn hdr)).at_ j z hz
            injection hbb with hbb
            injection hbb with hbb
            subst hbb
            have p0 : wr.cell? ⟨p4, 0, none⟩ = some (.int .i64 x.ow) := (HPB.out.drawn hdr).cell 0
            have p1 : wr.cell? ⟨p4, 1, none⟩ = some (.int .i64 x.ma) := (HPB.out.drawn hdr).cell 1
            have hj0 : (0 : Int) ≤ (j : Int) := by omega
            have hj1 : (j : Int) < (k : Int) := by omega
            have hj2 : (j : Int) < (n : Int) := by omega
            have HZ := Lib.hid hz
            clear hdr hz
            by_cases hzo : z.ow = x.ow
            · have h15 : chk (Ps.map rkey) = 15 := by
                rw [← HC.out, chkG, if_pos HOK.out, if_pos ((like_take Ps k (rkey x)).2 ⟨j, z, hjk, HZ.out, .inl hzo⟩)]
              have H15 := Lib.hid h15
              rw [hzo] at z0
              clear h15 hzo
              go_wp2_with fail
              go_quiet (fail)
              go_wp2
              go_ret
              exact ⟨by rw [H15.out]; rfl, (HKA.out.drawn HDR.out).drawn ⟨_, rfl⟩⟩
            · have hzo2 : (z.ow == x.ow) = false := by simpa using hzo
              by_cases hzm : z.ma = x.ma
              · have h15 : chk (Ps.map rkey) = 15 := by
                  rw [← HC.out, chkG, if_pos HOK.out, if_pos ((like_take Ps k (rkey x)).2 ⟨j, z, hjk, HZ.out, .inr hzm⟩)]
                have H15 := Lib.hid h15
                rw [hzm] at z1
                clear h15 hzm hzo
                go_wp2_with fail
                go_quiet (fail)
                go_wp2
                go_ret
                exact ⟨by rw [H15.out]; rfl, (HKA.out.drawn HDR.out).drawn ⟨_, rfl⟩⟩
              · have hzm2 : (z.ma == x.ma) = false := by simpa using hzm
                have HZZ := Lib.hid (And.intro hzo hzm)
                clear hzo hzm
                go_wp2_with fail
                go_quiet (fail)
                go_wp2
                go_roundw
                case rel => exact ⟨j + 1, by omega, by go_num, HDR.out.draws _, fun u v hu hv => by
                  by_cases hu' : u < j
                  · exact HN.out u v hu' hv
                  · obtain rfl : u = j := by omega
                    have := HZ.out
                    rw [this] at hv; injection hv with hv; subst hv; exact HZZ.out⟩
                case measure => simp [intOf]; omega
          · obtain rfl : j = k := by omega
            have hno : ((Ps.map rkey).take j).any (likeB (rkey x)) = false := by
              rw [Bool.eq_false_iff]
              intro h9
              obtain ⟨u, z, hu, hz, hl9⟩ := (like_take Ps j (rkey x)).1 h9
              have := HN.out u z hu hz
              rcases hl9 with h9 | h9
              · exact this.1 h9
              · exact this.2 h9
            have hch2 : chkG ((Ps.map rkey).take (j + 1)) ((Ps.map rkey).drop (j + 1)) = chk (Ps.map rkey) := by
              rw [← HC.out, chkG, if_pos HOK.out, if_neg (by rw [hno]; decide), HT.out]
            have HCH := Lib.hid hch2
            clear hno hch2 hdr
            go_wp2
            go_roundw
            case rel => exact ⟨j + 1, by omega, by go_num, HKA.out.drawn HDR.out, HCH.out⟩
            case measure => simp [intOf]; omega
      · have h2 : chk (Ps.map rkey) = 2 := by rw [← HC.out, chkG, if_neg hok]
        have H2 := Lib.hid (And.intro h2 (HK.out.alloc (.cells #[.int .i64 x.ow, .int .i64 x.ma, .int .i64 x.li, .slice x.wa x.wn x.wc, .int .i64 x.dr] 45)))
        rw [okP_iff] at hok
        simp only [rkey] at hok
        clear h2 HC HT hpB
        by_cases o1 : x.ow < 1
        · clear hok
          go_wp2
          go_ret
          exact ⟨by rw [H2.out.1]; rfl, H2.out.2⟩
        · by_cases o2 : 8 < x.ow
          · clear hok
            go_wp2
            go_ret
            exact ⟨by rw [H2.out.1]; rfl, H2.out.2⟩
          · by_cases o3 : x.ma < 0
            · clear hok
              go_wp2
              go_ret
              exact ⟨by rw [H2.out.1]; rfl, H2.out.2⟩
            · by_cases o4 : 255 < x.ma
              · clear hok
                go_wp2
                go_ret
                exact ⟨by rw [H2.out.1]; rfl, H2.out.2⟩
              · by_cases o5 : x.li < 0
                · clear hok
                  go_wp2
                  go_ret
                  exact ⟨by rw [H2.out.1]; rfl, H2.out.2⟩
                · have o6 : 16 < x.li := by omega
                  clear hok
                  go_wp2
                  go_ret
                  exact ⟨by rw [H2.out.1]; rfl, H2.out.2⟩
    · obtain rfl : k = n := by omega
      have h1 : chk (Ps.map rkey) = 0 := by
        rw [← hch, List.drop_eq_nil_of_le (by simp; omega)]
        simp [chkG]
      have HK := Lib.hid (And.intro h1 hkr)
      clear hch h1 hkr
      go_wp2
      go_ret
      exact ⟨by rw [HK.out.1]; rfl, HK.out.2⟩
end Nc
end Go.Proofs.Ytdbkgpnbmafpmaa
