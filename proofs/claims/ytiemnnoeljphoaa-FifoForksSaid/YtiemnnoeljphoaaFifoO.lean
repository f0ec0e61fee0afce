/- The law FifoForks: its walk. -/
import Derived.Test.YtiemnnoeljphoaaFifoM
import Derived.Test.YtiemnnoeljphoaaFifoN
namespace Go.Proofs.Ytiemnnoeljphoaa
open Go.RowKit
namespace FiR
open Sm FiS
/-- Both queues, apart. -/
structure Two (w wr : World) (g r x y : Nat) (l : List ByteArray) (lim dr : Int) (a : Option Addr) (c : Nat) (f rf x2 y2 : Nat) (l2 : List ByteArray) (dr2 : Int) (a2 : Option Addr) (c2 k : Nat) : Prop where
  s : Sy wr g r x y l lim dr a c
  t : Sy wr f rf x2 y2 l2 lim dr2 a2 c2
  kp : Keeps [] w wr
  bs : w.heap.size ≤ f ∧ w.heap.size ≤ rf ∧ w.heap.size ≤ x2
  ap : ∀ b ∈ [f, rf, x2], b ≠ g ∧ b ≠ r ∧ b ≠ x ∧ b ≠ y
  dk : dr2 ≤ dr + (k : Int)
def Forked (w : World) (g r x y : Nat) (l : List ByteArray) (lim dr : Int) (a : Option Addr) (c : Nat) (f x2 k : Nat) (wr : World) : Prop :=
  ∃ rf y2 l2 dr2 a2 c2, Two w wr g r x y l lim dr a c f rf x2 y2 l2 dr2 a2 c2 k
theorem Forked.open_ {w wr : World} {g r x y c f x2 k : Nat} {l : List ByteArray} {lim dr : Int} {a : Option Addr} (h : Forked w g r x y l lim dr a c f x2 k wr) : ∃ rf y2 l2 dr2 a2 c2, Two w wr g r x y l lim dr a c f rf x2 y2 l2 dr2 a2 c2 k := h
theorem Two.step {w wr w' : World} {g r x y c f rf x2 y2 c2 k : Nat} {l l2 : List ByteArray} {lim dr dr2 : Int} {a a2 : Option Addr} {e : Ending} (h : Two w wr g r x y l lim dr a c f rf x2 y2 l2 dr2 a2 c2 k)
    (hs : IsStep f rf x2 y2 lim dr2 wr e w') : e = .returned (.bool true) ∧ Forked w g r x y l lim dr a c f x2 (k + 1) w' := by
  obtain ⟨h1, r', y', l', dr', a', c', h2, h3, h4, h5, h6⟩ := hs
  have hz := h.kp.size
  obtain ⟨b1, b2, b3⟩ := h.bs
  have hl := h.s.lt
  have hdk := h.dk
  have hap := h.ap
  refine ⟨h1, r', y', l', dr', a', c', ⟨h.s.keeps h3 hap, h2, h.kp.next h3 (by simp; omega), ⟨b1, by omega, b3⟩, ?_, by omega⟩⟩
  intro b hb
  simp only [List.mem_cons, List.not_mem_nil, or_false] at hb
  rcases hb with rfl | rfl | rfl
  · exact hap _ (by simp)
  · rcases h4 with rfl | h4
    · exact hap _ (by simp)
    · omega
  · exact hap _ (by simp)
theorem Forked.drew {w wr : World} {g r x y c f x2 k : Nat} {l : List ByteArray} {lim dr : Int} {a : Option Addr} (h : Forked w g r x y l lim dr a c f x2 k wr) : Forked w g r x y l lim dr a c f x2 k wr.drew := by
  obtain ⟨rf, y2, l2, dr2, a2, c2, h⟩ := h
  exact ⟨rf, y2, l2, dr2, a2, c2, ⟨h.s.keeps ((Keeps.refl [] wr).drew) (by simp), h.t.keeps ((Keeps.refl [] wr).drew) (by simp), h.kp.drew, h.bs, h.ap, h.dk⟩⟩
/-- Where the copied list lies. -/
def yOf (a : Option Addr) (y x2 : Nat) : Nat := if a = none then x2 else y
theorem forked_0 {w wr w1 w2 : World} {g r x y c : Nat} {l : List ByteArray} {lim dr : Int} {a : Option Addr} {e : Ending} (h : Sy wr g r x y l lim dr a c) (hk : Keeps [] w wr) (hs : IsFork l lim dr wr e w1) (h2 : Keeps [] w1 w2) (hB : Blk w2 w1.heap.size 37 #[.slice a l.length c, .int .i64 lim, .int .i64 dr]) :
    Forked w g r x y l lim dr a c wr.heap.size w1.heap.size 0 w2 := by
  obtain ⟨_, rf, hq, hk1, hrf⟩ := hs
  have hz := hk.size
  have hz1 := hk1.size
  obtain ⟨l1, l2', l3, l4⟩ := h.lt
  have hlf := hq.lt
  have hy2 : yOf a y w1.heap.size = w1.heap.size ∨ yOf a y w1.heap.size = y := by unfold yOf; split <;> simp
  have hS2 : Sy w2 g r x y l lim dr a c := (h.keeps hk1 (by simp)).keeps h2 (by simp)
  refine ⟨rf, yOf a y w1.heap.size, l, dr, a, c, ⟨hS2, ⟨hq.keeps h2 (by simp) (by simp), ⟨hB, ?_, hS2.p.bd⟩, by omega, by omega, by omega, by omega⟩, (hk.trans hk1).trans h2, by omega, ?_, by omega⟩⟩
  · rcases hS2.p.row with ⟨e1, e2, e3, e4⟩ | ⟨e1, e2⟩
    · exact .inl ⟨e1, e2, e3, by unfold yOf; rw [if_pos e1]⟩
    · refine .inr ⟨?_, e2⟩
      unfold yOf
      rw [e1, if_neg (by simp)]
  · intro b hb
    simp only [List.mem_cons, List.not_mem_nil, or_false] at hb
    omega
theorem keep4 {W V v : World} {x x2 : Nat} {u1 u2 u3 : Value} (h : V.cell? ⟨x, 0, none⟩ = some u1 ∧ V.cell? ⟨x, 2, none⟩ = some u2 ∧ V.cell? ⟨x2, 0, none⟩ = some u3 ∧ Keeps [] W V) (hk : Keeps [] V v) (hx : x < W.heap.size) (hx2 : x2 < W.heap.size) :
    v.cell? ⟨x, 0, none⟩ = some u1 ∧ v.cell? ⟨x, 2, none⟩ = some u2 ∧ v.cell? ⟨x2, 0, none⟩ = some u3 ∧ Keeps [] W v := by
  have := h.2.2.2.size
  exact ⟨(hk.cell (p := ⟨x, 0, none⟩) (by show x < _; omega) (by simp)).trans h.1, (hk.cell (p := ⟨x, 2, none⟩) (by show x < _; omega) (by simp)).trans h.2.1, (hk.cell (p := ⟨x2, 0, none⟩) (by show x2 < _; omega) (by simp)).trans h.2.2.1, h.2.2.2.trans hk⟩
theorem q_keep {v v' : World} (h : v = v') : Keeps [] v v' := by subst h; exact Keeps.refl _ _
attribute [local irreducible] Plays Forked
set_option maxRecDepth 100000 in
set_option maxHeartbeats 4000000 in
theorem forks_law (o : Int) (a : Option Addr) (len cap : Nat) (R : Nat → Nat → Value) (aa : Option Addr) (len2 cap2 : Nat) (R2 : Nat → Nat → Value) (w : World) (_wo : (Lit.int .i64 o).wf = true) (hR : Recs w a len cap deedK R) (hR2 : Recs w aa len2 cap2 deedK R2) :
    Calls Try.prog 5 #[.int .i64 o, .slice a len cap, .slice aa len2 cap2] w fun e w' => e = .returned (.bool true) ∧ Below w.heap.size w w' := by
  obtain ⟨hlen, hcap⟩ := hR.len
  obtain ⟨hlen2, hcap2⟩ := hR2.len
  have HR := Lib.hid hR
  have HR2 := Lib.hid hR2
  clear hR hR2
  go_enter Try.func5, Try.ntmps5
  go_wp2_with fail
  refine (new_any o _).mono ?_
  rintro e w1 ⟨rfl, hq, hk⟩
  go_wp2_with fail
  refine (rnew_any o _).mono ?_
  rintro e w2 ⟨rfl, hp, hk2⟩
  have h0 := plays_0 hq hk hp hk2 rfl rfl
  clear hq hk hp hk2
  generalize w.heap.size = g at *
  generalize w1.heap.size = x at *
  go_wp2
  go_loopw [9] (fun i wr => ∃ k : Nat, k ≤ len ∧ k ≤ 60 ∧ i = .int .i64 k ∧ Plays w g x (lim16 o) k wr) (fun i _ => 60 - (intOf i).toNat)
  case atStart => exact ⟨0, by omega, by omega, rfl, h0⟩
  case round =>
    clear h0
    obtain ⟨k, hkl, hk80, rfl, hh⟩ := hrel
    by_cases hlt : k < len ∧ k < 60
    · obtain ⟨hkl', hk80'⟩ := hlt
      obtain ⟨b, off, rfl, hbl, hcells⟩ := HR.out.at_ (by omega) (by decide)
      clear HR
      obtain ⟨hc0, d, hd, wd⟩ := hcells k hkl' 0 _ rfl
      obtain ⟨hc1, n, hn, wn⟩ := hcells k hkl' 1 _ rfl
      obtain ⟨hc2, t, ht, wt⟩ := hcells k hkl' 2 _ rfl
      rw [hd] at hc0
      rw [hn] at hc1
      rw [ht] at hc2
      clear hd hn ht hcells wd wn wt
      obtain ⟨r, y, l, dr, a1, c1, hS, hK, hg, hr, hx, hdr⟩ := hh.open_
      clear hh HR2
      have g0 : wr.cell? ⟨b, off + k * 3, none⟩ = some (.int .i64 d) := (hK.cell (p := ⟨b, off + (k * 3 + 0), none⟩) hbl (by simp)).trans hc0
      have g1 : wr.cell? ⟨b, off + k * 3 + 1, none⟩ = some (.int .i64 n) := (hK.cell (p := ⟨b, off + (k * 3 + 1), none⟩) hbl (by simp)).trans hc1
      have g2 : wr.cell? ⟨b, off + k * 3 + 2, none⟩ = some (.string t) := (hK.cell (p := ⟨b, off + (k * 3 + 2), none⟩) hbl (by simp)).trans hc2
      clear hc0 hc1 hc2
      have HS := Lib.hid hS
      have HST := Lib.hid (fun e w' h => Plays.step (k := k) (e := e) (w' := w') hS hK hg hr hx hdr h)
      have hdd : dr < 100000 := by omega
      have hk0 : (0 : Int) ≤ (k : Int) := by omega
      have hk1 : (k : Int) < (len : Int) := by omega
      clear hS hK
      go_wp2_with fail
      refine (step_any g r x y l (lim16 o) dr a1 c1 d n t _ HS.out hdd).mono ?_
      intro e v1 hst
      have hpl := HST.out e v1 hst
      obtain ⟨rfl, hpl⟩ := hpl
      clear hst HST HS g0 g1 g2
      go_wp2
      go_roundw
      case rel => exact ⟨k + 1, by omega, by omega, by go_num, hpl⟩
      case measure => simp [intOf]; omega
    · have hlt' : len ≤ k ∨ 60 ≤ k := by omega
      clear hlt HR
      obtain ⟨r, y, l, dr, a1, c1, hS, hK, hg, hr, hx, hdr⟩ := hh.open_
      clear hh
      have hll := hS.p.len
      have hlts := hS.lt
      have hdr9 : dr ≤ 60 := by omega
      have HS := Lib.hid hS
      have HK := Lib.hid hK
      clear hS hK hdr hk80
      by_cases hc1 : k < len
      · have hk60 : ¬ k < 60 := by omega
        go_wp2_with fail
        refine (fork_any g r l (lim16 o) dr _ HS.out.q).mono ?_
        intro e v1 hf
        have hf' := hf
        obtain ⟨rfl, rf, hqf, hkf, hrf⟩ := hf'
        have hSf := HS.out.keeps hkf (by simp)
        have x0 : v1.drew.cell? ⟨x, 0, none⟩ = some (.slice a1 l.length c1) := hSf.p.q.cell 0
        have x1 : v1.drew.cell? ⟨x, 1, none⟩ = some (.int .i64 (lim16 o)) := hSf.p.q.cell 1
        have x2 : v1.drew.cell? ⟨x, 2, none⟩ = some (.int .i64 dr) := hSf.p.q.cell 2
        have hT := forked_0 HS.out HK.out hf (((Keeps.refl [] v1).alloc (.cells #[.slice a1 l.length c1, .int .i64 (lim16 o), .int .i64 dr] 37)).drew) (Blk.new v1 _ _).drew
        have hwv := (HK.out.trans hkf).size
        have hwz := HK.out.size
        have hwf := hkf.size
        clear hf hqf hkf hrf hSf HS HK
        go_wp2
        refine wp_region_held_drew (S := (fun V => V.cell? ⟨x, 0, none⟩ = some (.slice a1 l.length c1) ∧ V.cell? ⟨x, 1, none⟩ = some (.int .i64 (lim16 o)) ∧ V.cell? ⟨x, 2, none⟩ = some (.int .i64 dr))) (by kernel_rfl) ⟨x0, x1, x2⟩ (fun hHeld => ?_)
        refine' wpAnyH_take (i := 0) (oi := _) (v := _) ?hAu0 (by kernel_rfl) (by kernel_rfl) (by kernel_rfl) ?hQAu0 (Or.inl ⟨?hwAu0, ?hyAu0⟩) hHeld ?restAu0
        case hAu0 => (simp only [List.getElem?_toArray, List.getElem?_cons_zero]; rfl)
        case hQAu0 => exact fun _ _ _ h => h
        case hwAu0 => rfl
        case hyAu0 => (intro w hSw; (try dsimp only at hSw); go_simp; try with_reducible rfl)
        try simp only [Act.put, List.setIfInBounds_toArray, List.set_cons_zero, List.set_cons_succ]
        refine' wpAnyH_take (i := 1) (oi := _) (v := _) ?hAu1 (by kernel_rfl) (by kernel_rfl) (by kernel_rfl) ?hQAu1 (Or.inl ⟨?hwAu1, ?hyAu1⟩) hHeld ?restAu1
        case hAu1 => (simp only [List.getElem?_toArray, List.getElem?_cons_succ, List.getElem?_cons_zero]; rfl)
        case hQAu1 => exact fun _ _ _ h => h
        case hwAu1 => rfl
        case hyAu1 => (intro w hSw; (try dsimp only at hSw); go_simp; try with_reducible rfl)
        try simp only [Act.put, List.setIfInBounds_toArray, List.set_cons_zero, List.set_cons_succ]
        refine' wpAnyH_take (i := 2) (oi := _) (v := _) ?hAu2 (by kernel_rfl) (by kernel_rfl) (by kernel_rfl) ?hQAu2 (Or.inl ⟨?hwAu2, ?hyAu2⟩) hHeld ?restAu2
        case hAu2 => (simp only [List.getElem?_toArray, List.getElem?_cons_succ, List.getElem?_cons_zero]; rfl)
        case hQAu2 => exact fun _ _ _ h => h
        case hwAu2 => rfl
        case hyAu2 => (intro w hSw; (try dsimp only at hSw); go_simp; try with_reducible rfl)
        try simp only [Act.put, List.setIfInBounds_toArray, List.set_cons_zero, List.set_cons_succ]
        refine' wpAnyH_take (i := 3) (oi := _) (v := _) ?hAu3 (by kernel_rfl) (by kernel_rfl) (by kernel_rfl) ?hQAu3 (Or.inl ⟨?hwAu3, ?hyAu3⟩) hHeld ?restAu3
        case hAu3 => (simp only [List.getElem?_toArray, List.getElem?_cons_succ, List.getElem?_cons_zero]; rfl)
        case hQAu3 => exact fun _ _ _ h => h
        case hwAu3 => rfl
        case hyAu3 => (intro w hSw; (try dsimp only at hSw); go_simp; try with_reducible rfl)
        try simp only [Act.put, List.setIfInBounds_toArray, List.set_cons_zero, List.set_cons_succ]
        refine' wpAnyH_take (i := 4) (oi := _) (v := _) ?hAu4 (by kernel_rfl) (by kernel_rfl) (by kernel_rfl) ?hQAu4 (Or.inl ⟨?hwAu4, ?hyAu4⟩) hHeld ?restAu4
        case hAu4 => (simp only [List.getElem?_toArray, List.getElem?_cons_succ, List.getElem?_cons_zero]; rfl)
        case hQAu4 => exact fun _ _ _ h => h
        case hwAu4 => rfl
        case hyAu4 => (intro w hSw; (try dsimp only at hSw); go_simp; try with_reducible rfl)
        try simp only [Act.put, List.setIfInBounds_toArray, List.set_cons_zero, List.set_cons_succ]
        refine' wpAnyH_take (i := 5) (oi := _) (v := _) ?hAu5 (by kernel_rfl) (by kernel_rfl) (by kernel_rfl) ?hQAu5 (Or.inl ⟨?hwAu5, ?hyAu5⟩) hHeld ?restAu5
        case hAu5 => (simp only [List.getElem?_toArray, List.getElem?_cons_succ, List.getElem?_cons_zero]; rfl)
        case hQAu5 => exact fun _ _ _ h => h
        case hwAu5 => rfl
        case hyAu5 => (intro w hSw; (try dsimp only at hSw); go_simp; try with_reducible rfl)
        try simp only [Act.put, List.setIfInBounds_toArray, List.set_cons_zero, List.set_cons_succ]
        refine' wpAnyH_take (i := 6) (oi := _) (v := _) ?hAu6 (by kernel_rfl) (by kernel_rfl) (by kernel_rfl) ?hQAu6 (Or.inl ⟨?hwAu6, ?hyAu6⟩) hHeld ?restAu6
        case hAu6 => (simp only [List.getElem?_toArray, List.getElem?_cons_succ, List.getElem?_cons_zero]; rfl)
        case hQAu6 => exact fun _ _ _ h => h
        case hwAu6 => rfl
        case hyAu6 => (intro w hSw; (try dsimp only at hSw); go_simp; try with_reducible rfl)
        try simp only [Act.put, List.setIfInBounds_toArray, List.set_cons_zero, List.set_cons_succ]
        refine' wpAnyH_take (i := 7) (oi := _) (v := _) ?hAu7 (by kernel_rfl) (by kernel_rfl) (by kernel_rfl) ?hQAu7 (Or.inl ⟨?hwAu7, ?hyAu7⟩) hHeld ?restAu7
        case hAu7 => (simp only [List.getElem?_toArray, List.getElem?_cons_succ, List.getElem?_cons_zero]; rfl)
        case hQAu7 => exact fun _ _ _ h => h
        case hwAu7 => rfl
        case hyAu7 => (intro w hSw; (try dsimp only at hSw); go_simp; try with_reducible rfl)
        try simp only [Act.put, List.setIfInBounds_toArray, List.set_cons_zero, List.set_cons_succ]
        refine' wpAnyH_take (i := 8) (oi := _) (v := _) ?hAu8 (by kernel_rfl) (by kernel_rfl) (by kernel_rfl) ?hQAu8 (Or.inl ⟨?hwAu8, ?hyAu8⟩) hHeld ?restAu8
        case hAu8 => (simp only [List.getElem?_toArray, List.getElem?_cons_succ, List.getElem?_cons_zero]; rfl)
        case hQAu8 => exact fun _ _ _ h => h
        case hwAu8 => rfl
        case hyAu8 => (intro w hSw; (try dsimp only at hSw); go_simp; try with_reducible rfl)
        try simp only [Act.put, List.setIfInBounds_toArray, List.set_cons_zero, List.set_cons_succ]
        refine' wpAnyH_take (i := 9) (oi := _) (v := _) ?hAu9 (by kernel_rfl) (by kernel_rfl) (by kernel_rfl) ?hQAu9 (Or.inl ⟨?hwAu9, ?hyAu9⟩) hHeld ?restAu9
        case hAu9 => (simp only [List.getElem?_toArray, List.getElem?_cons_succ, List.getElem?_cons_zero]; rfl)
        case hQAu9 => exact fun _ _ _ h => h
        case hwAu9 => rfl
        case hyAu9 => (intro w hSw; (try dsimp only at hSw); go_simp; try with_reducible rfl)
        try simp only [Act.put, List.setIfInBounds_toArray, List.set_cons_zero, List.set_cons_succ]
        refine' wpAnyH_take (i := 10) (oi := _) (v := _) ?hAu10 (by kernel_rfl) (by kernel_rfl) (by kernel_rfl) ?hQAu10 (Or.inl ⟨?hwAu10, ?hyAu10⟩) hHeld ?restAu10
        case hAu10 => (simp only [List.getElem?_toArray, List.getElem?_cons_succ, List.getElem?_cons_zero]; rfl)
        case hQAu10 => exact fun _ _ _ h => h
        case hwAu10 => rfl
        case hyAu10 => (intro w hSw; (try dsimp only at hSw); go_simp; try with_reducible rfl)
        try simp only [Act.put, List.setIfInBounds_toArray, List.set_cons_zero, List.set_cons_succ]
        refine' wpAnyH_take (i := 11) (oi := _) (v := _) ?hAu11 (by kernel_rfl) (by kernel_rfl) (by kernel_rfl) ?hQAu11 (Or.inl ⟨?hwAu11, ?hyAu11⟩) hHeld ?restAu11
        case hAu11 => (simp only [List.getElem?_toArray, List.getElem?_cons_succ, List.getElem?_cons_zero]; rfl)
        case hQAu11 => exact fun _ _ _ h => h
        case hwAu11 => rfl
        case hyAu11 => (intro w hSw; (try dsimp only at hSw); go_simp; try with_reducible rfl)
        try simp only [Act.put, List.setIfInBounds_toArray, List.set_cons_zero, List.set_cons_succ]
        refine' wpAnyH_take (i := 12) (oi := _) (v := _) ?hAu12 (by kernel_rfl) (by kernel_rfl) (by kernel_rfl) ?hQAu12 (Or.inl ⟨?hwAu12, ?hyAu12⟩) hHeld ?restAu12
        case hAu12 => (simp only [List.getElem?_toArray, List.getElem?_cons_succ, List.getElem?_cons_zero]; rfl)
        case hQAu12 => exact fun _ _ _ h => h
        case hwAu12 => rfl
        case hyAu12 => (intro w hSw; (try dsimp only at hSw); go_simp; try with_reducible rfl)
        try simp only [Act.put, List.setIfInBounds_toArray, List.set_cons_zero, List.set_cons_succ]
        refine wpAnyH_ready (rs := [13]) (by kernel_rfl) (by simp) ?_
        refine AllReadyH.cons rfl (fun K hK => ?_) AllReadyH.nil
        go_simp
        refine hK.out _ _ (⟨(World.cell?_alloc_lt _ _ _ (by show x < v1.heap.size; omega)).trans hHeld.1, (World.cell?_alloc_lt _ _ _ (by show x < v1.heap.size; omega)).trans hHeld.2.1, (World.cell?_alloc_lt _ _ _ (by show x < v1.heap.size; omega)).trans hHeld.2.2⟩) (fun hHeld' => ?_)
        clear hK K hHeld
        have hHeld := hHeld'
        clear hHeld'
        try simp only [Act.put, List.setIfInBounds_toArray, List.set_cons_zero, List.set_cons_succ]
        refine' wpAnyH_take (i := 14) (oi := _) (v := _) ?hAu14 (by kernel_rfl) (by kernel_rfl) (by kernel_rfl) ?hQAu14 (Or.inl ⟨?hwAu14, ?hyAu14⟩) hHeld ?restAu14
        case hAu14 => (simp only [List.getElem?_toArray, List.getElem?_cons_succ, List.getElem?_cons_zero]; rfl)
        case hQAu14 => exact fun _ _ _ h => h
        case hwAu14 => rfl
        case hyAu14 => (intro w hSw; (try dsimp only at hSw); go_simp; try with_reducible rfl)
        try simp only [Act.put, List.setIfInBounds_toArray, List.set_cons_zero, List.set_cons_succ]
        refine wpAnyH_done (by kernel_rfl) ?_ _
        go_wp2
        clear hHeld x0 x1 x2
        generalize wr.heap.size = f at *
        generalize (v1.alloc (.cells #[.slice a1 l.length c1, .int .i64 (lim16 o), .int .i64 dr] 37)).drew = v2 at *
        generalize v1.heap.size = z at *
        go_loopw [12] (fun i wr => ∃ k : Nat, k ≤ len2 ∧ k ≤ 60 ∧ i = .int .i64 k ∧ Forked w g r x y l (lim16 o) dr a1 c1 f z k wr) (fun i _ => 60 - (intOf i).toNat)
        case atStart => exact ⟨0, by omega, by omega, rfl, hT⟩
        case round =>
          clear hT
          obtain ⟨m, hml, hm60, rfl, hh⟩ := hrel
          by_cases hlt : m < len2 ∧ m < 60
          · obtain ⟨hml', hm60'⟩ := hlt
            obtain ⟨b, off, rfl, hbl, hcells⟩ := HR2.out.at_ (by omega) (by decide)
            clear HR2
            obtain ⟨hc0, d, hd, wd⟩ := hcells m hml' 0 _ rfl
            obtain ⟨hc1, n, hn, wn⟩ := hcells m hml' 1 _ rfl
            obtain ⟨hc2, t, ht, wt⟩ := hcells m hml' 2 _ rfl
            rw [hd] at hc0
            rw [hn] at hc1
            rw [ht] at hc2
            clear hd hn ht hcells wd wn wt
            obtain ⟨rf, y2, l2, dr2, a2, c2, hT⟩ := hh.open_
            clear hh
            have hK := hT.kp
            have g0 : wr.cell? ⟨b, off + m * 3, none⟩ = some (.int .i64 d) := (hK.cell (p := ⟨b, off + (m * 3 + 0), none⟩) hbl (by simp)).trans hc0
            have g1 : wr.cell? ⟨b, off + m * 3 + 1, none⟩ = some (.int .i64 n) := (hK.cell (p := ⟨b, off + (m * 3 + 1), none⟩) hbl (by simp)).trans hc1
            have g2 : wr.cell? ⟨b, off + m * 3 + 2, none⟩ = some (.string t) := (hK.cell (p := ⟨b, off + (m * 3 + 2), none⟩) hbl (by simp)).trans hc2
            clear hc0 hc1 hc2
            have HT := Lib.hid hT
            have hdk := hT.dk
            have hdd : dr2 < 100000 := by omega
            have hm0 : (0 : Int) ≤ (m : Int) := by omega
            have hm1 : (m : Int) < (len2 : Int) := by omega
            clear hT hK hdk
            go_wp2_with fail
            refine (step_any f rf z y2 l2 (lim16 o) dr2 a2 c2 d n t _ HT.out.t hdd).mono ?_
            intro e v3 hst
            have hpl := HT.out.step hst
            obtain ⟨rfl, hpl⟩ := hpl
            clear hst HT g0 g1 g2
            go_wp2
            go_roundw
            case rel => exact ⟨m + 1, by omega, by omega, by go_num, hpl⟩
            case measure => simp [intOf]; omega
          · have hlt' : len2 ≤ m ∨ 60 ≤ m := by omega
            clear hlt HR2
            obtain ⟨rf, y2, l2, dr2, a2, c2, hT⟩ := hh.open_
            clear hh
            have HT := Lib.hid hT
            have hll2 := hT.t.p.len
            clear hT
            by_cases hc2 : m < len2
            · have hm9 : ¬ m < 60 := by omega
              go_wp2_with fail
              refine (all_any g r l (lim16 o) dr hll _ HT.out.s.q).mono ?_
              rintro e v5 ⟨a3, c3, rfl, hown, hk5⟩
              go_wp2_with fail
              refine (all_any f rf l2 (lim16 o) dr2 hll2 _ (HT.out.t.q.keeps hk5 (by simp) (by simp))).mono ?_
              rintro e v6 ⟨a4, c4, rfl, hown2, hk6⟩
              go_wp2_with fail
              refine (pop_nil _).mono ?_
              rintro e v7 ⟨rfl, rfl⟩
              have hs6 := ((HT.out.s.keeps hk5 (by simp)).keeps hk6 (by simp)).keeps ((Keeps.refl [] v6).drew) (by simp)
              have ht6 := ((HT.out.t.keeps hk5 (by simp)).keeps hk6 (by simp)).keeps ((Keeps.refl [] v6).drew) (by simp)
              have hown6 := ownsRow_keeps (ownsRow_keeps hown hk6 (by simp)) ((Keeps.refl [] v6).drew) (by simp)
              have hown7 := ownsRow_keeps hown2 ((Keeps.refl [] v6).drew) (by simp)
              have p0 : v6.drew.cell? ⟨x, 0, none⟩ = some (.slice a1 l.length c1) := hs6.p.q.cell 0
              have p2 : v6.drew.cell? ⟨x, 2, none⟩ = some (.int .i64 dr) := hs6.p.q.cell 2
              have p3 : v6.drew.cell? ⟨z, 0, none⟩ = some (.slice a2 l2.length c2) := ht6.p.q.cell 0
              have hxv : x < v6.drew.heap.size := hs6.p.q.lt
              have hzv : z < v6.drew.heap.size := ht6.p.q.lt
              have HSM : Hid (∀ V, Keeps [] v6.drew V → Calls Try.prog 16 #[.slice a3 l.length c3, .slice a1 l.length c1] V (Quiet (.bool true) V)) := Lib.hid (fun V hv => same_any _ _ l.length a3 a1 c3 c1 l V hll (Reads.of_own (ownsRow_keeps hown6 hv (by simp))) (hs6.p.keeps hv (by simp) (by simp)).row.reads (own_spot hown6) (lst_spot hs6.p.row))
              have HSN : Hid (∀ V, Keeps [] v6.drew V → Calls Try.prog 16 #[.slice a4 l2.length c4, .slice a2 l2.length c2] V (Quiet (.bool true) V)) := Lib.hid (fun V hv => same_any _ _ l2.length a4 a2 c4 c2 l2 V hll2 (Reads.of_own (ownsRow_keeps hown7 hv (by simp))) (ht6.p.keeps hv (by simp) (by simp)).row.reads (own_spot hown7) (lst_spot ht6.p.row))
              have HDR := Lib.hid (fun V hv => drops_any g r l (lim16 o) dr V (hs6.q.keeps (w' := V) (S := []) hv (by simp) (by simp)))
              have HKK := Lib.hid (((HT.out.kp.trans hk5).trans hk6).drew)
              have hkr : Keeps [] v6.drew v6.drew := Keeps.refl _ _
              clear hs6 ht6 hown hown2 hown6 hown7 hk5 hk6 HT
              go_wp2_with fail
              refine wp_region_held_drew (S := (fun V => V.cell? ⟨x, 0, none⟩ = some (.slice a1 l.length c1) ∧ V.cell? ⟨x, 2, none⟩ = some (.int .i64 dr) ∧ V.cell? ⟨z, 0, none⟩ = some (.slice a2 l2.length c2) ∧ Keeps [] v6.drew V)) (by kernel_rfl) ⟨p0, p2, p3, hkr⟩ (fun hHeld => ?_)
              refine wpAnyH_ready (rs := [0]) (by kernel_rfl) (by simp) ?_
              refine AllReadyH.cons rfl (fun K hK => ?_) AllReadyH.nil
              go_simp
              refine (Fi.live_any _).mono ?_
              rintro e v8 ⟨rfl, hk8⟩
              try go_wp2_with fail
              refine hK.out _ _ (keep4 hHeld hk8 hxv hzv) (fun hHeld' => ?_)
              clear hK K hHeld
              have hHeld := hHeld'
              clear hHeld'
              try simp only [Act.put, List.setIfInBounds_toArray, List.set_cons_zero, List.set_cons_succ]
              refine' wpAnyH_take (i := 1) (oi := _) (v := _) ?hBpu1 (by kernel_rfl) (by kernel_rfl) (by kernel_rfl) ?hQBpu1 (Or.inl ⟨?hwBpu1, ?hyBpu1⟩) hHeld ?restBpu1
              case hBpu1 => (simp only [List.getElem?_toArray, List.getElem?_cons_succ, List.getElem?_cons_zero]; rfl)
              case hQBpu1 => exact fun _ _ _ h => h
              case hwBpu1 => rfl
              case hyBpu1 => (intro w hSw; (try dsimp only at hSw); go_simp; try with_reducible rfl)
              try simp only [Act.put, List.setIfInBounds_toArray, List.set_cons_zero, List.set_cons_succ]
              refine' wpAnyH_take (i := 2) (oi := _) (v := _) ?hBpu2 (by kernel_rfl) (by kernel_rfl) (by kernel_rfl) ?hQBpu2 (Or.inl ⟨?hwBpu2, ?hyBpu2⟩) hHeld ?restBpu2
              case hBpu2 => (simp only [List.getElem?_toArray, List.getElem?_cons_succ, List.getElem?_cons_zero]; rfl)
              case hQBpu2 => exact fun _ _ _ h => h
              case hwBpu2 => rfl
              case hyBpu2 => (intro w hSw; (try dsimp only at hSw); go_simp; try with_reducible rfl)
              try simp only [Act.put, List.setIfInBounds_toArray, List.set_cons_zero, List.set_cons_succ]
              refine' wpAnyH_take (i := 3) (oi := _) (v := _) ?hBpu3 (by kernel_rfl) (by kernel_rfl) (by kernel_rfl) ?hQBpu3 (Or.inl ⟨?hwBpu3, ?hyBpu3⟩) hHeld ?restBpu3
              case hBpu3 => (simp only [List.getElem?_toArray, List.getElem?_cons_succ, List.getElem?_cons_zero]; rfl)
              case hQBpu3 => exact fun _ _ _ h => h
              case hwBpu3 => rfl
              case hyBpu3 => (intro w hSw; (try dsimp only at hSw); go_simp; try with_reducible rfl)
              try simp only [Act.put, List.setIfInBounds_toArray, List.set_cons_zero, List.set_cons_succ]
              refine' wpAnyH_take (i := 4) (oi := _) (v := _) ?hBpu4 (by kernel_rfl) (by kernel_rfl) (by kernel_rfl) ?hQBpu4 (Or.inl ⟨?hwBpu4, ?hyBpu4⟩) hHeld ?restBpu4
              case hBpu4 => (simp only [List.getElem?_toArray, List.getElem?_cons_succ, List.getElem?_cons_zero]; rfl)
              case hQBpu4 => exact fun _ _ _ h => h
              case hwBpu4 => rfl
              case hyBpu4 => (intro w hSw; (try dsimp only at hSw); go_simp; try with_reducible rfl)
              try simp only [Act.put, List.setIfInBounds_toArray, List.set_cons_zero, List.set_cons_succ]
              refine' wpAnyH_take (i := 5) (oi := _) (v := _) ?hBpu5 (by kernel_rfl) (by kernel_rfl) (by kernel_rfl) ?hQBpu5 (Or.inl ⟨?hwBpu5, ?hyBpu5⟩) hHeld ?restBpu5
              case hBpu5 => (simp only [List.getElem?_toArray, List.getElem?_cons_succ, List.getElem?_cons_zero]; rfl)
              case hQBpu5 => exact fun _ _ _ h => h
              case hwBpu5 => rfl
              case hyBpu5 => (intro w hSw; (try dsimp only at hSw); go_simp; try with_reducible rfl)
              try simp only [Act.put, List.setIfInBounds_toArray, List.set_cons_zero, List.set_cons_succ]
              refine' wpAnyH_take (i := 6) (oi := _) (v := _) ?hBpu6 (by kernel_rfl) (by kernel_rfl) (by kernel_rfl) ?hQBpu6 (Or.inl ⟨?hwBpu6, ?hyBpu6⟩) hHeld ?restBpu6
              case hBpu6 => (simp only [List.getElem?_toArray, List.getElem?_cons_succ, List.getElem?_cons_zero]; rfl)
              case hQBpu6 => exact fun _ _ _ h => h
              case hwBpu6 => rfl
              case hyBpu6 => (intro w hSw; (try dsimp only at hSw); go_simp; try with_reducible rfl)
              try simp only [Act.put, List.setIfInBounds_toArray, List.set_cons_zero, List.set_cons_succ]
              refine' wpAnyH_take (i := 7) (oi := _) (v := _) ?hBpu7 (by kernel_rfl) (by kernel_rfl) (by kernel_rfl) ?hQBpu7 (Or.inl ⟨?hwBpu7, ?hyBpu7⟩) hHeld ?restBpu7
              case hBpu7 => (simp only [List.getElem?_toArray, List.getElem?_cons_succ, List.getElem?_cons_zero]; rfl)
              case hQBpu7 => exact fun _ _ _ h => h
              case hwBpu7 => rfl
              case hyBpu7 => (intro w hSw; (try dsimp only at hSw); go_simp; try with_reducible rfl)
              try simp only [Act.put, List.setIfInBounds_toArray, List.set_cons_zero, List.set_cons_succ]
              refine' wpAnyH_take (i := 8) (oi := _) (v := _) ?hBpu8 (by kernel_rfl) (by kernel_rfl) (by kernel_rfl) ?hQBpu8 (Or.inl ⟨?hwBpu8, ?hyBpu8⟩) hHeld ?restBpu8
              case hBpu8 => (simp only [List.getElem?_toArray, List.getElem?_cons_succ, List.getElem?_cons_zero]; rfl)
              case hQBpu8 => exact fun _ _ _ h => h
              case hwBpu8 => rfl
              case hyBpu8 => (intro w hSw; (try dsimp only at hSw); go_simp; try with_reducible rfl)
              try simp only [Act.put, List.setIfInBounds_toArray, List.set_cons_zero, List.set_cons_succ]
              refine' wpAnyH_take (i := 9) (oi := _) (v := _) ?hBpu9 (by kernel_rfl) (by kernel_rfl) (by kernel_rfl) ?hQBpu9 (Or.inl ⟨?hwBpu9, ?hyBpu9⟩) hHeld ?restBpu9
              case hBpu9 => (simp only [List.getElem?_toArray, List.getElem?_cons_succ, List.getElem?_cons_zero]; rfl)
              case hQBpu9 => exact fun _ _ _ h => h
              case hwBpu9 => rfl
              case hyBpu9 => (intro w hSw; (try dsimp only at hSw); go_simp; try with_reducible rfl)
              try simp only [Act.put, List.setIfInBounds_toArray, List.set_cons_zero, List.set_cons_succ]
              refine' wpAnyH_take (i := 10) (oi := _) (v := _) ?hBpu10 (by kernel_rfl) (by kernel_rfl) (by kernel_rfl) ?hQBpu10 (Or.inl ⟨?hwBpu10, ?hyBpu10⟩) hHeld ?restBpu10
              case hBpu10 => (simp only [List.getElem?_toArray, List.getElem?_cons_succ, List.getElem?_cons_zero]; rfl)
              case hQBpu10 => exact fun _ _ _ h => h
              case hwBpu10 => rfl
              case hyBpu10 => (intro w hSw; (try dsimp only at hSw); go_simp; try with_reducible rfl)
              try simp only [Act.put, List.setIfInBounds_toArray, List.set_cons_zero, List.set_cons_succ]
              refine' wpAnyH_take (i := 11) (oi := _) (v := _) ?hBpu11 (by kernel_rfl) (by kernel_rfl) (by kernel_rfl) ?hQBpu11 (Or.inl ⟨?hwBpu11, ?hyBpu11⟩) hHeld ?restBpu11
              case hBpu11 => (simp only [List.getElem?_toArray, List.getElem?_cons_succ, List.getElem?_cons_zero]; rfl)
              case hQBpu11 => exact fun _ _ _ h => h
              case hwBpu11 => rfl
              case hyBpu11 => (intro w hSw; (try dsimp only at hSw); go_simp; try with_reducible rfl)
              try simp only [Act.put, List.setIfInBounds_toArray, List.set_cons_zero, List.set_cons_succ]
              refine' wpAnyH_take (i := 12) (oi := _) (v := _) ?hBpu12 (by kernel_rfl) (by kernel_rfl) (by kernel_rfl) ?hQBpu12 (Or.inl ⟨?hwBpu12, ?hyBpu12⟩) hHeld ?restBpu12
              case hBpu12 => (simp only [List.getElem?_toArray, List.getElem?_cons_succ, List.getElem?_cons_zero]; rfl)
              case hQBpu12 => exact fun _ _ _ h => h
              case hwBpu12 => rfl
              case hyBpu12 => (intro w hSw; (try dsimp only at hSw); go_simp; try with_reducible rfl)
              try simp only [Act.put, List.setIfInBounds_toArray, List.set_cons_zero, List.set_cons_succ]
              refine wpAnyH_ready (rs := [13]) (by kernel_rfl) (by simp) ?_
              refine AllReadyH.cons rfl (fun K hK => ?_) AllReadyH.nil
              go_simp
              refine (HSM.out _ hHeld.2.2.2).mono ?_
              rintro e v8 ⟨rfl, hd8⟩
              try go_wp2_with fail
              refine hK.out _ _ (keep4 hHeld ((Keeps.refl [] _).drawn hd8) hxv hzv) (fun hHeld' => ?_)
              clear hK K hHeld
              have hHeld := hHeld'
              clear hHeld'
              try simp only [Act.put, List.setIfInBounds_toArray, List.set_cons_zero, List.set_cons_succ]
              refine' wpAnyH_take (i := 14) (oi := _) (v := _) ?hBpu14 (by kernel_rfl) (by kernel_rfl) (by kernel_rfl) ?hQBpu14 (Or.inl ⟨?hwBpu14, ?hyBpu14⟩) hHeld ?restBpu14
              case hBpu14 => (simp only [List.getElem?_toArray, List.getElem?_cons_succ, List.getElem?_cons_zero]; rfl)
              case hQBpu14 => exact fun _ _ _ h => h
              case hwBpu14 => rfl
              case hyBpu14 => (intro w hSw; (try dsimp only at hSw); go_simp; try with_reducible rfl)
              try simp only [Act.put, List.setIfInBounds_toArray, List.set_cons_zero, List.set_cons_succ]
              refine' wpAnyH_take (i := 15) (oi := _) (v := _) ?hBpu15 (by kernel_rfl) (by kernel_rfl) (by kernel_rfl) ?hQBpu15 (Or.inl ⟨?hwBpu15, ?hyBpu15⟩) hHeld ?restBpu15
              case hBpu15 => (simp only [List.getElem?_toArray, List.getElem?_cons_succ, List.getElem?_cons_zero]; rfl)
              case hQBpu15 => exact fun _ _ _ h => h
              case hwBpu15 => rfl
              case hyBpu15 => (intro w hSw; (try dsimp only at hSw); go_simp; try with_reducible rfl)
              try simp only [Act.put, List.setIfInBounds_toArray, List.set_cons_zero, List.set_cons_succ]
              refine' wpAnyH_take (i := 16) (oi := _) (v := _) ?hBpu16 (by kernel_rfl) (by kernel_rfl) (by kernel_rfl) ?hQBpu16 (Or.inl ⟨?hwBpu16, ?hyBpu16⟩) hHeld ?restBpu16
              case hBpu16 => (simp only [List.getElem?_toArray, List.getElem?_cons_succ, List.getElem?_cons_zero]; rfl)
              case hQBpu16 => exact fun _ _ _ h => h
              case hwBpu16 => rfl
              case hyBpu16 => (intro w hSw; (try dsimp only at hSw); go_simp; try with_reducible rfl)
              try simp only [Act.put, List.setIfInBounds_toArray, List.set_cons_zero, List.set_cons_succ]
              refine' wpAnyH_take (i := 17) (oi := _) (v := _) ?hBpu17 (by kernel_rfl) (by kernel_rfl) (by kernel_rfl) ?hQBpu17 (Or.inl ⟨?hwBpu17, ?hyBpu17⟩) hHeld ?restBpu17
              case hBpu17 => (simp only [List.getElem?_toArray, List.getElem?_cons_succ, List.getElem?_cons_zero]; rfl)
              case hQBpu17 => exact fun _ _ _ h => h
              case hwBpu17 => rfl
              case hyBpu17 => (intro w hSw; (try dsimp only at hSw); go_simp; try with_reducible rfl)
              try simp only [Act.put, List.setIfInBounds_toArray, List.set_cons_zero, List.set_cons_succ]
              refine' wpAnyH_take (i := 18) (oi := _) (v := _) ?hBpu18 (by kernel_rfl) (by kernel_rfl) (by kernel_rfl) ?hQBpu18 (Or.inl ⟨?hwBpu18, ?hyBpu18⟩) hHeld ?restBpu18
              case hBpu18 => (simp only [List.getElem?_toArray, List.getElem?_cons_succ, List.getElem?_cons_zero]; rfl)
              case hQBpu18 => exact fun _ _ _ h => h
              case hwBpu18 => rfl
              case hyBpu18 => (intro w hSw; (try dsimp only at hSw); go_simp; try with_reducible rfl)
              try simp only [Act.put, List.setIfInBounds_toArray, List.set_cons_zero, List.set_cons_succ]
              refine' wpAnyH_take (i := 19) (oi := _) (v := _) ?hBpu19 (by kernel_rfl) (by kernel_rfl) (by kernel_rfl) ?hQBpu19 (Or.inl ⟨?hwBpu19, ?hyBpu19⟩) hHeld ?restBpu19
              case hBpu19 => (simp only [List.getElem?_toArray, List.getElem?_cons_succ, List.getElem?_cons_zero]; rfl)
              case hQBpu19 => exact fun _ _ _ h => h
              case hwBpu19 => rfl
              case hyBpu19 => (intro w hSw; (try dsimp only at hSw); go_simp; try with_reducible rfl)
              try simp only [Act.put, List.setIfInBounds_toArray, List.set_cons_zero, List.set_cons_succ]
              refine' wpAnyH_take (i := 20) (oi := _) (v := _) ?hBpu20 (by kernel_rfl) (by kernel_rfl) (by kernel_rfl) ?hQBpu20 (Or.inl ⟨?hwBpu20, ?hyBpu20⟩) hHeld ?restBpu20
              case hBpu20 => (simp only [List.getElem?_toArray, List.getElem?_cons_succ, List.getElem?_cons_zero]; rfl)
              case hQBpu20 => exact fun _ _ _ h => h
              case hwBpu20 => rfl
              case hyBpu20 => (intro w hSw; (try dsimp only at hSw); go_simp; try with_reducible rfl)
              try simp only [Act.put, List.setIfInBounds_toArray, List.set_cons_zero, List.set_cons_succ]
              refine wpAnyH_ready (rs := [21]) (by kernel_rfl) (by simp) ?_
              refine AllReadyH.cons rfl (fun K hK => ?_) AllReadyH.nil
              go_simp
              refine (HSN.out _ hHeld.2.2.2).mono ?_
              rintro e v8 ⟨rfl, hd8⟩
              try go_wp2_with fail
              refine hK.out _ _ (keep4 hHeld ((Keeps.refl [] _).drawn hd8) hxv hzv) (fun hHeld' => ?_)
              clear hK K hHeld
              have hHeld := hHeld'
              clear hHeld'
              try simp only [Act.put, List.setIfInBounds_toArray, List.set_cons_zero, List.set_cons_succ]
              refine' wpAnyH_take (i := 22) (oi := _) (v := _) ?hBpu22 (by kernel_rfl) (by kernel_rfl) (by kernel_rfl) ?hQBpu22 (Or.inl ⟨?hwBpu22, ?hyBpu22⟩) hHeld ?restBpu22
              case hBpu22 => (simp only [List.getElem?_toArray, List.getElem?_cons_succ, List.getElem?_cons_zero]; rfl)
              case hQBpu22 => exact fun _ _ _ h => h
              case hwBpu22 => rfl
              case hyBpu22 => (intro w hSw; (try dsimp only at hSw); go_simp; try with_reducible rfl)
              try simp only [Act.put, List.setIfInBounds_toArray, List.set_cons_zero, List.set_cons_succ]
              refine' wpAnyH_take (i := 23) (oi := _) (v := _) ?hBpu23 (by kernel_rfl) (by kernel_rfl) (by kernel_rfl) ?hQBpu23 (Or.inl ⟨?hwBpu23, ?hyBpu23⟩) hHeld ?restBpu23
              case hBpu23 => (simp only [List.getElem?_toArray, List.getElem?_cons_succ, List.getElem?_cons_zero]; rfl)
              case hQBpu23 => exact fun _ _ _ h => h
              case hwBpu23 => rfl
              case hyBpu23 => (intro w hSw; (try dsimp only at hSw); go_simp; try with_reducible rfl)
              try simp only [Act.put, List.setIfInBounds_toArray, List.set_cons_zero, List.set_cons_succ]
              refine' wpAnyH_take (i := 24) (oi := _) (v := _) ?hBpu24 (by kernel_rfl) (by kernel_rfl) (by kernel_rfl) ?hQBpu24 (Or.inl ⟨?hwBpu24, ?hyBpu24⟩) hHeld ?restBpu24
              case hBpu24 => (simp only [List.getElem?_toArray, List.getElem?_cons_succ, List.getElem?_cons_zero]; rfl)
              case hQBpu24 => exact fun _ _ _ h => h
              case hwBpu24 => rfl
              case hyBpu24 => (intro w hSw; (try dsimp only at hSw); go_simp; try with_reducible rfl)
              try simp only [Act.put, List.setIfInBounds_toArray, List.set_cons_zero, List.set_cons_succ]
              refine' wpAnyH_take (i := 26) (oi := _) (v := _) ?hBpu26 (by kernel_rfl) (by kernel_rfl) (by kernel_rfl) ?hQBpu26 (Or.inl ⟨?hwBpu26, ?hyBpu26⟩) hHeld ?restBpu26
              case hBpu26 => (simp only [List.getElem?_toArray, List.getElem?_cons_succ, List.getElem?_cons_zero]; rfl)
              case hQBpu26 => exact fun _ _ _ h => h
              case hwBpu26 => rfl
              case hyBpu26 => (intro w hSw; (try dsimp only at hSw); go_simp; try with_reducible rfl)
              try simp only [Act.put, List.setIfInBounds_toArray, List.set_cons_zero, List.set_cons_succ]
              refine' wpAnyH_take (i := 27) (oi := _) (v := _) ?hBpu27 (by kernel_rfl) (by kernel_rfl) (by kernel_rfl) ?hQBpu27 (Or.inl ⟨?hwBpu27, ?hyBpu27⟩) hHeld ?restBpu27
              case hBpu27 => (simp only [List.getElem?_toArray, List.getElem?_cons_succ, List.getElem?_cons_zero]; rfl)
              case hQBpu27 => exact fun _ _ _ h => h
              case hwBpu27 => rfl
              case hyBpu27 => (intro w hSw; (try dsimp only at hSw); go_simp; try with_reducible rfl)
              try simp only [Act.put, List.setIfInBounds_toArray, List.set_cons_zero, List.set_cons_succ]
              refine' wpAnyH_take (i := 28) (oi := _) (v := _) ?hBpu28 (by kernel_rfl) (by kernel_rfl) (by kernel_rfl) ?hQBpu28 (Or.inl ⟨?hwBpu28, ?hyBpu28⟩) hHeld ?restBpu28
              case hBpu28 => (simp only [List.getElem?_toArray, List.getElem?_cons_succ, List.getElem?_cons_zero]; rfl)
              case hQBpu28 => exact fun _ _ _ h => h
              case hwBpu28 => rfl
              case hyBpu28 => (intro w hSw; (try dsimp only at hSw); go_simp; try with_reducible rfl)
              try simp only [Act.put, List.setIfInBounds_toArray, List.set_cons_zero, List.set_cons_succ]
              refine' wpAnyH_take (i := 29) (oi := _) (v := _) ?hBpu29 (by kernel_rfl) (by kernel_rfl) (by kernel_rfl) ?hQBpu29 (Or.inl ⟨?hwBpu29, ?hyBpu29⟩) hHeld ?restBpu29
              case hBpu29 => (simp only [List.getElem?_toArray, List.getElem?_cons_succ, List.getElem?_cons_zero]; rfl)
              case hQBpu29 => exact fun _ _ _ h => h
              case hwBpu29 => rfl
              case hyBpu29 => (intro w hSw; (try dsimp only at hSw); go_simp; try with_reducible rfl)
              try simp only [Act.put, List.setIfInBounds_toArray, List.set_cons_zero, List.set_cons_succ]
              refine wpAnyH_ready (rs := [25]) (by kernel_rfl) (by simp) ?_
              refine AllReadyH.cons rfl (fun K hK => ?_) AllReadyH.nil
              go_simp
              refine (HDR.out _ hHeld.2.2.2).mono ?_
              rintro e v8 ⟨rfl, rfl⟩
              try go_wp2_with fail
              refine hK.out _ _ (hHeld) (fun hHeld' => ?_)
              clear hK K hHeld
              have hHeld := hHeld'
              clear hHeld'
              try simp only [Act.put, List.setIfInBounds_toArray, List.set_cons_zero, List.set_cons_succ]
              refine' wpAnyH_take (i := 30) (oi := _) (v := _) ?hBpu30 (by kernel_rfl) (by kernel_rfl) (by kernel_rfl) ?hQBpu30 (Or.inl ⟨?hwBpu30, ?hyBpu30⟩) hHeld ?restBpu30
              case hBpu30 => (simp only [List.getElem?_toArray, List.getElem?_cons_succ, List.getElem?_cons_zero]; rfl)
              case hQBpu30 => exact fun _ _ _ h => h
              case hwBpu30 => rfl
              case hyBpu30 => (intro w hSw; (try dsimp only at hSw); go_simp; try with_reducible rfl)
              try simp only [Act.put, List.setIfInBounds_toArray, List.set_cons_zero, List.set_cons_succ]
              refine' wpAnyH_take (i := 31) (oi := _) (v := _) ?hBpu31 (by kernel_rfl) (by kernel_rfl) (by kernel_rfl) ?hQBpu31 (Or.inl ⟨?hwBpu31, ?hyBpu31⟩) hHeld ?restBpu31
              case hBpu31 => (simp only [List.getElem?_toArray, List.getElem?_cons_succ, List.getElem?_cons_zero]; rfl)
              case hQBpu31 => exact fun _ _ _ h => h
              case hwBpu31 => rfl
              case hyBpu31 => (intro w hSw; (try dsimp only at hSw); go_simp; try with_reducible rfl)
              try simp only [Act.put, List.setIfInBounds_toArray, List.set_cons_zero, List.set_cons_succ]
              refine' wpAnyH_take (i := 32) (oi := _) (v := _) ?hBpu32 (by kernel_rfl) (by kernel_rfl) (by kernel_rfl) ?hQBpu32 (Or.inl ⟨?hwBpu32, ?hyBpu32⟩) hHeld ?restBpu32
              case hBpu32 => (simp only [List.getElem?_toArray, List.getElem?_cons_succ, List.getElem?_cons_zero]; rfl)
              case hQBpu32 => exact fun _ _ _ h => h
              case hwBpu32 => rfl
              case hyBpu32 => (intro w hSw; (try dsimp only at hSw); go_simp; try with_reducible rfl)
              try simp only [Act.put, List.setIfInBounds_toArray, List.set_cons_zero, List.set_cons_succ]
              refine' wpAnyH_take (i := 33) (oi := _) (v := _) ?hBpu33 (by kernel_rfl) (by kernel_rfl) (by kernel_rfl) ?hQBpu33 (Or.inl ⟨?hwBpu33, ?hyBpu33⟩) hHeld ?restBpu33
              case hBpu33 => (simp only [List.getElem?_toArray, List.getElem?_cons_succ, List.getElem?_cons_zero]; rfl)
              case hQBpu33 => exact fun _ _ _ h => h
              case hwBpu33 => rfl
              case hyBpu33 => (intro w hSw; (try dsimp only at hSw); go_simp; try with_reducible rfl)
              try simp only [Act.put, List.setIfInBounds_toArray, List.set_cons_zero, List.set_cons_succ]
              refine wpAnyH_ready (rs := [34]) (by kernel_rfl) (by simp) ?_
              refine AllReadyH.cons rfl (fun K hK => ?_) AllReadyH.nil
              go_simp
              refine (push_nil _ _).mono ?_
              rintro e v8 ⟨rfl, rfl⟩
              try go_wp2_with fail
              refine hK.out _ _ (hHeld) (fun hHeld' => ?_)
              clear hK K hHeld
              have hHeld := hHeld'
              clear hHeld'
              try simp only [Act.put, List.setIfInBounds_toArray, List.set_cons_zero, List.set_cons_succ]
              refine' wpAnyH_take (i := 35) (oi := _) (v := _) ?hBpu35 (by kernel_rfl) (by kernel_rfl) (by kernel_rfl) ?hQBpu35 (Or.inl ⟨?hwBpu35, ?hyBpu35⟩) hHeld ?restBpu35
              case hBpu35 => (simp only [List.getElem?_toArray, List.getElem?_cons_succ, List.getElem?_cons_zero]; rfl)
              case hQBpu35 => exact fun _ _ _ h => h
              case hwBpu35 => rfl
              case hyBpu35 => (intro w hSw; (try dsimp only at hSw); go_simp; try with_reducible rfl)
              try simp only [Act.put, List.setIfInBounds_toArray, List.set_cons_zero, List.set_cons_succ]
              refine' wpAnyH_take (i := 36) (oi := _) (v := _) ?hBpu36 (by kernel_rfl) (by kernel_rfl) (by kernel_rfl) ?hQBpu36 (Or.inl ⟨?hwBpu36, ?hyBpu36⟩) hHeld ?restBpu36
              case hBpu36 => (simp only [List.getElem?_toArray, List.getElem?_cons_succ, List.getElem?_cons_zero]; rfl)
              case hQBpu36 => exact fun _ _ _ h => h
              case hwBpu36 => rfl
              case hyBpu36 => (intro w hSw; (try dsimp only at hSw); go_simp; try with_reducible rfl)
              try simp only [Act.put, List.setIfInBounds_toArray, List.set_cons_zero, List.set_cons_succ]
              refine' wpAnyH_take (i := 37) (oi := _) (v := _) ?hBpu37 (by kernel_rfl) (by kernel_rfl) (by kernel_rfl) ?hQBpu37 (Or.inl ⟨?hwBpu37, ?hyBpu37⟩) hHeld ?restBpu37
              case hBpu37 => (simp only [List.getElem?_toArray, List.getElem?_cons_succ, List.getElem?_cons_zero]; rfl)
              case hQBpu37 => exact fun _ _ _ h => h
              case hwBpu37 => rfl
              case hyBpu37 => (intro w hSw; (try dsimp only at hSw); go_simp; try with_reducible rfl)
              try simp only [Act.put, List.setIfInBounds_toArray, List.set_cons_zero, List.set_cons_succ]
              refine' wpAnyH_take (i := 38) (oi := _) (v := _) ?hBpu38 (by kernel_rfl) (by kernel_rfl) (by kernel_rfl) ?hQBpu38 (Or.inl ⟨?hwBpu38, ?hyBpu38⟩) hHeld ?restBpu38
              case hBpu38 => (simp only [List.getElem?_toArray, List.getElem?_cons_succ, List.getElem?_cons_zero]; rfl)
              case hQBpu38 => exact fun _ _ _ h => h
              case hwBpu38 => rfl
              case hyBpu38 => (intro w hSw; (try dsimp only at hSw); go_simp; try with_reducible rfl)
              try simp only [Act.put, List.setIfInBounds_toArray, List.set_cons_zero, List.set_cons_succ]
              refine' wpAnyH_take (i := 39) (oi := _) (v := _) ?hBpu39 (by kernel_rfl) (by kernel_rfl) (by kernel_rfl) ?hQBpu39 (Or.inl ⟨?hwBpu39, ?hyBpu39⟩) hHeld ?restBpu39
              case hBpu39 => (simp only [List.getElem?_toArray, List.getElem?_cons_succ, List.getElem?_cons_zero]; rfl)
              case hQBpu39 => exact fun _ _ _ h => h
              case hwBpu39 => rfl
              case hyBpu39 => (intro w hSw; (try dsimp only at hSw); go_simp; try with_reducible rfl)
              try simp only [Act.put, List.setIfInBounds_toArray, List.set_cons_zero, List.set_cons_succ]
              refine' wpAnyH_take (i := 40) (oi := _) (v := _) ?hBpu40 (by kernel_rfl) (by kernel_rfl) (by kernel_rfl) ?hQBpu40 (Or.inl ⟨?hwBpu40, ?hyBpu40⟩) hHeld ?restBpu40
              case hBpu40 => (simp only [List.getElem?_toArray, List.getElem?_cons_succ, List.getElem?_cons_zero]; rfl)
              case hQBpu40 => exact fun _ _ _ h => h
              case hwBpu40 => rfl
              case hyBpu40 => (intro w hSw; (try dsimp only at hSw); go_simp; try with_reducible rfl)
              try simp only [Act.put, List.setIfInBounds_toArray, List.set_cons_zero, List.set_cons_succ]
              refine' wpAnyH_take (i := 41) (oi := _) (v := _) ?hBpu41 (by kernel_rfl) (by kernel_rfl) (by kernel_rfl) ?hQBpu41 (Or.inl ⟨?hwBpu41, ?hyBpu41⟩) hHeld ?restBpu41
              case hBpu41 => (simp only [List.getElem?_toArray, List.getElem?_cons_succ, List.getElem?_cons_zero]; rfl)
              case hQBpu41 => exact fun _ _ _ h => h
              case hwBpu41 => rfl
              case hyBpu41 => (intro w hSw; (try dsimp only at hSw); go_simp; try with_reducible rfl)
              try simp only [Act.put, List.setIfInBounds_toArray, List.set_cons_zero, List.set_cons_succ]
              refine' wpAnyH_take (i := 42) (oi := _) (v := _) ?hBpu42 (by kernel_rfl) (by kernel_rfl) (by kernel_rfl) ?hQBpu42 (Or.inl ⟨?hwBpu42, ?hyBpu42⟩) hHeld ?restBpu42
              case hBpu42 => (simp only [List.getElem?_toArray, List.getElem?_cons_succ, List.getElem?_cons_zero]; rfl)
              case hQBpu42 => exact fun _ _ _ h => h
              case hwBpu42 => rfl
              case hyBpu42 => (intro w hSw; (try dsimp only at hSw); go_simp; try with_reducible rfl)
              try simp only [Act.put, List.setIfInBounds_toArray, List.set_cons_zero, List.set_cons_succ]
              refine' wpAnyH_take (i := 44) (oi := _) (v := _) ?hBpu44 (by kernel_rfl) (by kernel_rfl) (by kernel_rfl) ?hQBpu44 (Or.inl ⟨?hwBpu44, ?hyBpu44⟩) hHeld ?restBpu44
              case hBpu44 => (simp only [List.getElem?_toArray, List.getElem?_cons_succ, List.getElem?_cons_zero]; rfl)
              case hQBpu44 => exact fun _ _ _ h => h
              case hwBpu44 => rfl
              case hyBpu44 => (intro w hSw; (try dsimp only at hSw); go_simp; try with_reducible rfl)
              try simp only [Act.put, List.setIfInBounds_toArray, List.set_cons_zero, List.set_cons_succ]
              refine' wpAnyH_take (i := 47) (oi := _) (v := _) ?hBpu47 (by kernel_rfl) (by kernel_rfl) (by kernel_rfl) ?hQBpu47 (Or.inl ⟨?hwBpu47, ?hyBpu47⟩) hHeld ?restBpu47
              case hBpu47 => (simp only [List.getElem?_toArray, List.getElem?_cons_succ, List.getElem?_cons_zero]; rfl)
              case hQBpu47 => exact fun _ _ _ h => h
              case hwBpu47 => rfl
              case hyBpu47 => (intro w hSw; (try dsimp only at hSw); go_simp; try with_reducible rfl)
              try simp only [Act.put, List.setIfInBounds_toArray, List.set_cons_zero, List.set_cons_succ]
              refine' wpAnyH_take (i := 50) (oi := _) (v := _) ?hBpu50 (by kernel_rfl) (by kernel_rfl) (by kernel_rfl) ?hQBpu50 (Or.inl ⟨?hwBpu50, ?hyBpu50⟩) hHeld ?restBpu50
              case hBpu50 => (simp only [List.getElem?_toArray, List.getElem?_cons_succ, List.getElem?_cons_zero]; rfl)
              case hQBpu50 => exact fun _ _ _ h => h
              case hwBpu50 => rfl
              case hyBpu50 => (intro w hSw; (try dsimp only at hSw); go_simp; try with_reducible rfl)
              try simp only [Act.put, List.setIfInBounds_toArray, List.set_cons_zero, List.set_cons_succ]
              refine wpAnyH_ready (rs := [43]) (by kernel_rfl) (by simp) ?_
              refine AllReadyH.cons rfl (fun K hK => ?_) AllReadyH.nil
              go_simp
              refine (len_nil _).mono ?_
              rintro e v8 ⟨rfl, rfl⟩
              try go_wp2_with fail
              refine hK.out _ _ (hHeld) (fun hHeld' => ?_)
              clear hK K hHeld
              have hHeld := hHeld'
              clear hHeld'
              try simp only [Act.put, List.setIfInBounds_toArray, List.set_cons_zero, List.set_cons_succ]
              refine wpAnyH_ready (rs := [45]) (by kernel_rfl) (by simp) ?_
              refine AllReadyH.cons rfl (fun K hK => ?_) AllReadyH.nil
              go_simp
              refine (limit_nil _).mono ?_
              rintro e v8 ⟨rfl, rfl⟩
              try go_wp2_with fail
              refine hK.out _ _ (hHeld) (fun hHeld' => ?_)
              clear hK K hHeld
              have hHeld := hHeld'
              clear hHeld'
              try simp only [Act.put, List.setIfInBounds_toArray, List.set_cons_zero, List.set_cons_succ]
              refine' wpAnyH_take (i := 46) (oi := _) (v := _) ?hBpu46 (by kernel_rfl) (by kernel_rfl) (by kernel_rfl) ?hQBpu46 (Or.inl ⟨?hwBpu46, ?hyBpu46⟩) hHeld ?restBpu46
              case hBpu46 => (simp only [List.getElem?_toArray, List.getElem?_cons_succ, List.getElem?_cons_zero]; rfl)
              case hQBpu46 => exact fun _ _ _ h => h
              case hwBpu46 => rfl
              case hyBpu46 => (intro w hSw; (try dsimp only at hSw); go_simp; try with_reducible rfl)
              try simp only [Act.put, List.setIfInBounds_toArray, List.set_cons_zero, List.set_cons_succ]
              refine wpAnyH_ready (rs := [48]) (by kernel_rfl) (by simp) ?_
              refine AllReadyH.cons rfl (fun K hK => ?_) AllReadyH.nil
              go_simp
              refine (drops_nil _).mono ?_
              rintro e v8 ⟨rfl, rfl⟩
              try go_wp2_with fail
              refine hK.out _ _ (hHeld) (fun hHeld' => ?_)
              clear hK K hHeld
              have hHeld := hHeld'
              clear hHeld'
              try simp only [Act.put, List.setIfInBounds_toArray, List.set_cons_zero, List.set_cons_succ]
              refine' wpAnyH_take (i := 49) (oi := _) (v := _) ?hBpu49 (by kernel_rfl) (by kernel_rfl) (by kernel_rfl) ?hQBpu49 (Or.inl ⟨?hwBpu49, ?hyBpu49⟩) hHeld ?restBpu49
              case hBpu49 => (simp only [List.getElem?_toArray, List.getElem?_cons_succ, List.getElem?_cons_zero]; rfl)
              case hQBpu49 => exact fun _ _ _ h => h
              case hwBpu49 => rfl
              case hyBpu49 => (intro w hSw; (try dsimp only at hSw); go_simp; try with_reducible rfl)
              try simp only [Act.put, List.setIfInBounds_toArray, List.set_cons_zero, List.set_cons_succ]
              refine wpAnyH_ready (rs := [51]) (by kernel_rfl) (by simp) ?_
              refine AllReadyH.cons rfl (fun K hK => ?_) AllReadyH.nil
              go_simp
              refine (take_nil 3 (by decide) _).mono ?_
              rintro e v8 ⟨rfl, rfl⟩
              try go_wp2_with fail
              refine hK.out _ _ (hHeld) (fun hHeld' => ?_)
              clear hK K hHeld
              have hHeld := hHeld'
              clear hHeld'
              try simp only [Act.put, List.setIfInBounds_toArray, List.set_cons_zero, List.set_cons_succ]
              refine' wpAnyH_take (i := 52) (oi := _) (v := _) ?hBpu52 (by kernel_rfl) (by kernel_rfl) (by kernel_rfl) ?hQBpu52 (Or.inl ⟨?hwBpu52, ?hyBpu52⟩) hHeld ?restBpu52
              case hBpu52 => (simp only [List.getElem?_toArray, List.getElem?_cons_succ, List.getElem?_cons_zero]; rfl)
              case hQBpu52 => exact fun _ _ _ h => h
              case hwBpu52 => rfl
              case hyBpu52 => (intro w hSw; (try dsimp only at hSw); go_simp; try with_reducible rfl)
              try simp only [Act.put, List.setIfInBounds_toArray, List.set_cons_zero, List.set_cons_succ]
              refine' wpAnyH_take (i := 53) (oi := _) (v := _) ?hBpu53 (by kernel_rfl) (by kernel_rfl) (by kernel_rfl) ?hQBpu53 (Or.inl ⟨?hwBpu53, ?hyBpu53⟩) hHeld ?restBpu53
              case hBpu53 => (simp only [List.getElem?_toArray, List.getElem?_cons_succ, List.getElem?_cons_zero]; rfl)
              case hQBpu53 => exact fun _ _ _ h => h
              case hwBpu53 => rfl
              case hyBpu53 => (intro w hSw; (try dsimp only at hSw); go_simp; try with_reducible rfl)
              try simp only [Act.put, List.setIfInBounds_toArray, List.set_cons_zero, List.set_cons_succ]
              refine' wpAnyH_take (i := 54) (oi := _) (v := _) ?hBpu54 (by kernel_rfl) (by kernel_rfl) (by kernel_rfl) ?hQBpu54 (Or.inl ⟨?hwBpu54, ?hyBpu54⟩) hHeld ?restBpu54
              case hBpu54 => (simp only [List.getElem?_toArray, List.getElem?_cons_succ, List.getElem?_cons_zero]; rfl)
              case hQBpu54 => exact fun _ _ _ h => h
              case hwBpu54 => rfl
              case hyBpu54 => (intro w hSw; (try dsimp only at hSw); go_simp; try with_reducible rfl)
              try simp only [Act.put, List.setIfInBounds_toArray, List.set_cons_zero, List.set_cons_succ]
              refine' wpAnyH_take (i := 55) (oi := _) (v := _) ?hBpu55 (by kernel_rfl) (by kernel_rfl) (by kernel_rfl) ?hQBpu55 (Or.inl ⟨?hwBpu55, ?hyBpu55⟩) hHeld ?restBpu55
              case hBpu55 => (simp only [List.getElem?_toArray, List.getElem?_cons_succ, List.getElem?_cons_zero]; rfl)
              case hQBpu55 => exact fun _ _ _ h => h
              case hwBpu55 => rfl
              case hyBpu55 => (intro w hSw; (try dsimp only at hSw); go_simp; try with_reducible rfl)
              try simp only [Act.put, List.setIfInBounds_toArray, List.set_cons_zero, List.set_cons_succ]
              refine' wpAnyH_take (i := 56) (oi := _) (v := _) ?hBpu56 (by kernel_rfl) (by kernel_rfl) (by kernel_rfl) ?hQBpu56 (Or.inl ⟨?hwBpu56, ?hyBpu56⟩) hHeld ?restBpu56
              case hBpu56 => (simp only [List.getElem?_toArray, List.getElem?_cons_succ, List.getElem?_cons_zero]; rfl)
              case hQBpu56 => exact fun _ _ _ h => h
              case hwBpu56 => rfl
              case hyBpu56 => (intro w hSw; (try dsimp only at hSw); go_simp; try with_reducible rfl)
              try simp only [Act.put, List.setIfInBounds_toArray, List.set_cons_zero, List.set_cons_succ]
              refine' wpAnyH_take (i := 57) (oi := _) (v := _) ?hBpu57 (by kernel_rfl) (by kernel_rfl) (by kernel_rfl) ?hQBpu57 (Or.inl ⟨?hwBpu57, ?hyBpu57⟩) hHeld ?restBpu57
              case hBpu57 => (simp only [List.getElem?_toArray, List.getElem?_cons_succ, List.getElem?_cons_zero]; rfl)
              case hQBpu57 => exact fun _ _ _ h => h
              case hwBpu57 => rfl
              case hyBpu57 => (intro w hSw; (try dsimp only at hSw); go_simp; try with_reducible rfl)
              try simp only [Act.put, List.setIfInBounds_toArray, List.set_cons_zero, List.set_cons_succ]
              refine wpAnyH_ready (rs := [58]) (by kernel_rfl) (by simp) ?_
              refine AllReadyH.cons rfl (fun K hK => ?_) AllReadyH.nil
              go_simp
              refine (fork_nil _).mono ?_
              rintro e v8 ⟨rfl, rfl⟩
              try go_wp2_with fail
              refine hK.out _ _ (hHeld) (fun hHeld' => ?_)
              clear hK K hHeld
              have hHeld := hHeld'
              clear hHeld'
              try simp only [Act.put, List.setIfInBounds_toArray, List.set_cons_zero, List.set_cons_succ]
              refine' wpAnyH_take (i := 59) (oi := _) (v := _) ?hBpu59 (by kernel_rfl) (by kernel_rfl) (by kernel_rfl) ?hQBpu59 (Or.inl ⟨?hwBpu59, ?hyBpu59⟩) hHeld ?restBpu59
              case hBpu59 => (simp only [List.getElem?_toArray, List.getElem?_cons_succ, List.getElem?_cons_zero]; rfl)
              case hQBpu59 => exact fun _ _ _ h => h
              case hwBpu59 => rfl
              case hyBpu59 => (intro w hSw; (try dsimp only at hSw); go_simp; try with_reducible rfl)
              try simp only [Act.put, List.setIfInBounds_toArray, List.set_cons_zero, List.set_cons_succ]
              refine' wpAnyH_take (i := 60) (oi := _) (v := _) ?hBpu60 (by kernel_rfl) (by kernel_rfl) (by kernel_rfl) ?hQBpu60 (Or.inl ⟨?hwBpu60, ?hyBpu60⟩) hHeld ?restBpu60
              case hBpu60 => (simp only [List.getElem?_toArray, List.getElem?_cons_succ, List.getElem?_cons_zero]; rfl)
              case hQBpu60 => exact fun _ _ _ h => h
              case hwBpu60 => rfl
              case hyBpu60 => (intro w hSw; (try dsimp only at hSw); go_simp; try with_reducible rfl)
              try simp only [Act.put, List.setIfInBounds_toArray, List.set_cons_zero, List.set_cons_succ]
              refine' wpAnyH_take (i := 61) (oi := _) (v := _) ?hBpu61 (by kernel_rfl) (by kernel_rfl) (by kernel_rfl) ?hQBpu61 (Or.inl ⟨?hwBpu61, ?hyBpu61⟩) hHeld ?restBpu61
              case hBpu61 => (simp only [List.getElem?_toArray, List.getElem?_cons_succ, List.getElem?_cons_zero]; rfl)
              case hQBpu61 => exact fun _ _ _ h => h
              case hwBpu61 => rfl
              case hyBpu61 => (intro w hSw; (try dsimp only at hSw); go_simp; try with_reducible rfl)
              try simp only [Act.put, List.setIfInBounds_toArray, List.set_cons_zero, List.set_cons_succ]
              refine wpAnyH_done (by kernel_rfl) ?_ _
              clear p0 p2 p3 HSM HSN HDR hkr
              go_wp2
              go_ret
              exact ⟨rfl, (HKK.out.trans hHeld.2.2.2).all⟩
            · go_wp2_with fail
              refine (all_any g r l (lim16 o) dr hll _ HT.out.s.q).mono ?_
              rintro e v5 ⟨a3, c3, rfl, hown, hk5⟩
              go_wp2_with fail
              refine (all_any f rf l2 (lim16 o) dr2 hll2 _ (HT.out.t.q.keeps hk5 (by simp) (by simp))).mono ?_
              rintro e v6 ⟨a4, c4, rfl, hown2, hk6⟩
              go_wp2_with fail
              refine (pop_nil _).mono ?_
              rintro e v7 ⟨rfl, rfl⟩
              have hs6 := ((HT.out.s.keeps hk5 (by simp)).keeps hk6 (by simp)).keeps ((Keeps.refl [] v6).drew) (by simp)
              have ht6 := ((HT.out.t.keeps hk5 (by simp)).keeps hk6 (by simp)).keeps ((Keeps.refl [] v6).drew) (by simp)
              have hown6 := ownsRow_keeps (ownsRow_keeps hown hk6 (by simp)) ((Keeps.refl [] v6).drew) (by simp)
              have hown7 := ownsRow_keeps hown2 ((Keeps.refl [] v6).drew) (by simp)
              have p0 : v6.drew.cell? ⟨x, 0, none⟩ = some (.slice a1 l.length c1) := hs6.p.q.cell 0
              have p2 : v6.drew.cell? ⟨x, 2, none⟩ = some (.int .i64 dr) := hs6.p.q.cell 2
              have p3 : v6.drew.cell? ⟨z, 0, none⟩ = some (.slice a2 l2.length c2) := ht6.p.q.cell 0
              have hxv : x < v6.drew.heap.size := hs6.p.q.lt
              have hzv : z < v6.drew.heap.size := ht6.p.q.lt
              have HSM : Hid (∀ V, Keeps [] v6.drew V → Calls Try.prog 16 #[.slice a3 l.length c3, .slice a1 l.length c1] V (Quiet (.bool true) V)) := Lib.hid (fun V hv => same_any _ _ l.length a3 a1 c3 c1 l V hll (Reads.of_own (ownsRow_keeps hown6 hv (by simp))) (hs6.p.keeps hv (by simp) (by simp)).row.reads (own_spot hown6) (lst_spot hs6.p.row))
              have HSN : Hid (∀ V, Keeps [] v6.drew V → Calls Try.prog 16 #[.slice a4 l2.length c4, .slice a2 l2.length c2] V (Quiet (.bool true) V)) := Lib.hid (fun V hv => same_any _ _ l2.length a4 a2 c4 c2 l2 V hll2 (Reads.of_own (ownsRow_keeps hown7 hv (by simp))) (ht6.p.keeps hv (by simp) (by simp)).row.reads (own_spot hown7) (lst_spot ht6.p.row))
              have HDR := Lib.hid (fun V hv => drops_any g r l (lim16 o) dr V (hs6.q.keeps (w' := V) (S := []) hv (by simp) (by simp)))
              have HKK := Lib.hid (((HT.out.kp.trans hk5).trans hk6).drew)
              have hkr : Keeps [] v6.drew v6.drew := Keeps.refl _ _
              clear hs6 ht6 hown hown2 hown6 hown7 hk5 hk6 HT
              go_wp2_with fail
              refine wp_region_held_drew (S := (fun V => V.cell? ⟨x, 0, none⟩ = some (.slice a1 l.length c1) ∧ V.cell? ⟨x, 2, none⟩ = some (.int .i64 dr) ∧ V.cell? ⟨z, 0, none⟩ = some (.slice a2 l2.length c2) ∧ Keeps [] v6.drew V)) (by kernel_rfl) ⟨p0, p2, p3, hkr⟩ (fun hHeld => ?_)
              refine wpAnyH_ready (rs := [0]) (by kernel_rfl) (by simp) ?_
              refine AllReadyH.cons rfl (fun K hK => ?_) AllReadyH.nil
              go_simp
              refine (Fi.live_any _).mono ?_
              rintro e v8 ⟨rfl, hk8⟩
              try go_wp2_with fail
              refine hK.out _ _ (keep4 hHeld hk8 hxv hzv) (fun hHeld' => ?_)
              clear hK K hHeld
              have hHeld := hHeld'
              clear hHeld'
              try simp only [Act.put, List.setIfInBounds_toArray, List.set_cons_zero, List.set_cons_succ]
              refine' wpAnyH_take (i := 1) (oi := _) (v := _) ?hBqu1 (by kernel_rfl) (by kernel_rfl) (by kernel_rfl) ?hQBqu1 (Or.inl ⟨?hwBqu1, ?hyBqu1⟩) hHeld ?restBqu1
              case hBqu1 => (simp only [List.getElem?_toArray, List.getElem?_cons_succ, List.getElem?_cons_zero]; rfl)
              case hQBqu1 => exact fun _ _ _ h => h
              case hwBqu1 => rfl
              case hyBqu1 => (intro w hSw; (try dsimp only at hSw); go_simp; try with_reducible rfl)
              try simp only [Act.put, List.setIfInBounds_toArray, List.set_cons_zero, List.set_cons_succ]
              refine' wpAnyH_take (i := 2) (oi := _) (v := _) ?hBqu2 (by kernel_rfl) (by kernel_rfl) (by kernel_rfl) ?hQBqu2 (Or.inl ⟨?hwBqu2, ?hyBqu2⟩) hHeld ?restBqu2
              case hBqu2 => (simp only [List.getElem?_toArray, List.getElem?_cons_succ, List.getElem?_cons_zero]; rfl)
              case hQBqu2 => exact fun _ _ _ h => h
              case hwBqu2 => rfl
              case hyBqu2 => (intro w hSw; (try dsimp only at hSw); go_simp; try with_reducible rfl)
              try simp only [Act.put, List.setIfInBounds_toArray, List.set_cons_zero, List.set_cons_succ]
              refine' wpAnyH_take (i := 3) (oi := _) (v := _) ?hBqu3 (by kernel_rfl) (by kernel_rfl) (by kernel_rfl) ?hQBqu3 (Or.inl ⟨?hwBqu3, ?hyBqu3⟩) hHeld ?restBqu3
              case hBqu3 => (simp only [List.getElem?_toArray, List.getElem?_cons_succ, List.getElem?_cons_zero]; rfl)
              case hQBqu3 => exact fun _ _ _ h => h
              case hwBqu3 => rfl
              case hyBqu3 => (intro w hSw; (try dsimp only at hSw); go_simp; try with_reducible rfl)
              try simp only [Act.put, List.setIfInBounds_toArray, List.set_cons_zero, List.set_cons_succ]
              refine' wpAnyH_take (i := 4) (oi := _) (v := _) ?hBqu4 (by kernel_rfl) (by kernel_rfl) (by kernel_rfl) ?hQBqu4 (Or.inl ⟨?hwBqu4, ?hyBqu4⟩) hHeld ?restBqu4
              case hBqu4 => (simp only [List.getElem?_toArray, List.getElem?_cons_succ, List.getElem?_cons_zero]; rfl)
              case hQBqu4 => exact fun _ _ _ h => h
              case hwBqu4 => rfl
              case hyBqu4 => (intro w hSw; (try dsimp only at hSw); go_simp; try with_reducible rfl)
              try simp only [Act.put, List.setIfInBounds_toArray, List.set_cons_zero, List.set_cons_succ]
              refine' wpAnyH_take (i := 5) (oi := _) (v := _) ?hBqu5 (by kernel_rfl) (by kernel_rfl) (by kernel_rfl) ?hQBqu5 (Or.inl ⟨?hwBqu5, ?hyBqu5⟩) hHeld ?restBqu5
              case hBqu5 => (simp only [List.getElem?_toArray, List.getElem?_cons_succ, List.getElem?_cons_zero]; rfl)
              case hQBqu5 => exact fun _ _ _ h => h
              case hwBqu5 => rfl
              case hyBqu5 => (intro w hSw; (try dsimp only at hSw); go_simp; try with_reducible rfl)
              try simp only [Act.put, List.setIfInBounds_toArray, List.set_cons_zero, List.set_cons_succ]
              refine' wpAnyH_take (i := 6) (oi := _) (v := _) ?hBqu6 (by kernel_rfl) (by kernel_rfl) (by kernel_rfl) ?hQBqu6 (Or.inl ⟨?hwBqu6, ?hyBqu6⟩) hHeld ?restBqu6
              case hBqu6 => (simp only [List.getElem?_toArray, List.getElem?_cons_succ, List.getElem?_cons_zero]; rfl)
              case hQBqu6 => exact fun _ _ _ h => h
              case hwBqu6 => rfl
              case hyBqu6 => (intro w hSw; (try dsimp only at hSw); go_simp; try with_reducible rfl)
              try simp only [Act.put, List.setIfInBounds_toArray, List.set_cons_zero, List.set_cons_succ]
              refine' wpAnyH_take (i := 7) (oi := _) (v := _) ?hBqu7 (by kernel_rfl) (by kernel_rfl) (by kernel_rfl) ?hQBqu7 (Or.inl ⟨?hwBqu7, ?hyBqu7⟩) hHeld ?restBqu7
              case hBqu7 => (simp only [List.getElem?_toArray, List.getElem?_cons_succ, List.getElem?_cons_zero]; rfl)
              case hQBqu7 => exact fun _ _ _ h => h
              case hwBqu7 => rfl
              case hyBqu7 => (intro w hSw; (try dsimp only at hSw); go_simp; try with_reducible rfl)
              try simp only [Act.put, List.setIfInBounds_toArray, List.set_cons_zero, List.set_cons_succ]
              refine' wpAnyH_take (i := 8) (oi := _) (v := _) ?hBqu8 (by kernel_rfl) (by kernel_rfl) (by kernel_rfl) ?hQBqu8 (Or.inl ⟨?hwBqu8, ?hyBqu8⟩) hHeld ?restBqu8
              case hBqu8 => (simp only [List.getElem?_toArray, List.getElem?_cons_succ, List.getElem?_cons_zero]; rfl)
              case hQBqu8 => exact fun _ _ _ h => h
              case hwBqu8 => rfl
              case hyBqu8 => (intro w hSw; (try dsimp only at hSw); go_simp; try with_reducible rfl)
              try simp only [Act.put, List.setIfInBounds_toArray, List.set_cons_zero, List.set_cons_succ]
              refine' wpAnyH_take (i := 9) (oi := _) (v := _) ?hBqu9 (by kernel_rfl) (by kernel_rfl) (by kernel_rfl) ?hQBqu9 (Or.inl ⟨?hwBqu9, ?hyBqu9⟩) hHeld ?restBqu9
              case hBqu9 => (simp only [List.getElem?_toArray, List.getElem?_cons_succ, List.getElem?_cons_zero]; rfl)
              case hQBqu9 => exact fun _ _ _ h => h
              case hwBqu9 => rfl
              case hyBqu9 => (intro w hSw; (try dsimp only at hSw); go_simp; try with_reducible rfl)
              try simp only [Act.put, List.setIfInBounds_toArray, List.set_cons_zero, List.set_cons_succ]
              refine' wpAnyH_take (i := 10) (oi := _) (v := _) ?hBqu10 (by kernel_rfl) (by kernel_rfl) (by kernel_rfl) ?hQBqu10 (Or.inl ⟨?hwBqu10, ?hyBqu10⟩) hHeld ?restBqu10
              case hBqu10 => (simp only [List.getElem?_toArray, List.getElem?_cons_succ, List.getElem?_cons_zero]; rfl)
              case hQBqu10 => exact fun _ _ _ h => h
              case hwBqu10 => rfl
              case hyBqu10 => (intro w hSw; (try dsimp only at hSw); go_simp; try with_reducible rfl)
              try simp only [Act.put, List.setIfInBounds_toArray, List.set_cons_zero, List.set_cons_succ]
              refine' wpAnyH_take (i := 11) (oi := _) (v := _) ?hBqu11 (by kernel_rfl) (by kernel_rfl) (by kernel_rfl) ?hQBqu11 (Or.inl ⟨?hwBqu11, ?hyBqu11⟩) hHeld ?restBqu11
              case hBqu11 => (simp only [List.getElem?_toArray, List.getElem?_cons_succ, List.getElem?_cons_zero]; rfl)
              case hQBqu11 => exact fun _ _ _ h => h
              case hwBqu11 => rfl
              case hyBqu11 => (intro w hSw; (try dsimp only at hSw); go_simp; try with_reducible rfl)
              try simp only [Act.put, List.setIfInBounds_toArray, List.set_cons_zero, List.set_cons_succ]
              refine' wpAnyH_take (i := 12) (oi := _) (v := _) ?hBqu12 (by kernel_rfl) (by kernel_rfl) (by kernel_rfl) ?hQBqu12 (Or.inl ⟨?hwBqu12, ?hyBqu12⟩) hHeld ?restBqu12
              case hBqu12 => (simp only [List.getElem?_toArray, List.getElem?_cons_succ, List.getElem?_cons_zero]; rfl)
              case hQBqu12 => exact fun _ _ _ h => h
              case hwBqu12 => rfl
              case hyBqu12 => (intro w hSw; (try dsimp only at hSw); go_simp; try with_reducible rfl)
              try simp only [Act.put, List.setIfInBounds_toArray, List.set_cons_zero, List.set_cons_succ]
              refine wpAnyH_ready (rs := [13]) (by kernel_rfl) (by simp) ?_
              refine AllReadyH.cons rfl (fun K hK => ?_) AllReadyH.nil
              go_simp
              refine (HSM.out _ hHeld.2.2.2).mono ?_
              rintro e v8 ⟨rfl, hd8⟩
              try go_wp2_with fail
              refine hK.out _ _ (keep4 hHeld ((Keeps.refl [] _).drawn hd8) hxv hzv) (fun hHeld' => ?_)
              clear hK K hHeld
              have hHeld := hHeld'
              clear hHeld'
              try simp only [Act.put, List.setIfInBounds_toArray, List.set_cons_zero, List.set_cons_succ]
              refine' wpAnyH_take (i := 14) (oi := _) (v := _) ?hBqu14 (by kernel_rfl) (by kernel_rfl) (by kernel_rfl) ?hQBqu14 (Or.inl ⟨?hwBqu14, ?hyBqu14⟩) hHeld ?restBqu14
              case hBqu14 => (simp only [List.getElem?_toArray, List.getElem?_cons_succ, List.getElem?_cons_zero]; rfl)
              case hQBqu14 => exact fun _ _ _ h => h
              case hwBqu14 => rfl
              case hyBqu14 => (intro w hSw; (try dsimp only at hSw); go_simp; try with_reducible rfl)
              try simp only [Act.put, List.setIfInBounds_toArray, List.set_cons_zero, List.set_cons_succ]
              refine' wpAnyH_take (i := 15) (oi := _) (v := _) ?hBqu15 (by kernel_rfl) (by kernel_rfl) (by kernel_rfl) ?hQBqu15 (Or.inl ⟨?hwBqu15, ?hyBqu15⟩) hHeld ?restBqu15
              case hBqu15 => (simp only [List.getElem?_toArray, List.getElem?_cons_succ, List.getElem?_cons_zero]; rfl)
              case hQBqu15 => exact fun _ _ _ h => h
              case hwBqu15 => rfl
              case hyBqu15 => (intro w hSw; (try dsimp only at hSw); go_simp; try with_reducible rfl)
              try simp only [Act.put, List.setIfInBounds_toArray, List.set_cons_zero, List.set_cons_succ]
              refine' wpAnyH_take (i := 16) (oi := _) (v := _) ?hBqu16 (by kernel_rfl) (by kernel_rfl) (by kernel_rfl) ?hQBqu16 (Or.inl ⟨?hwBqu16, ?hyBqu16⟩) hHeld ?restBqu16
              case hBqu16 => (simp only [List.getElem?_toArray, List.getElem?_cons_succ, List.getElem?_cons_zero]; rfl)
              case hQBqu16 => exact fun _ _ _ h => h
              case hwBqu16 => rfl
              case hyBqu16 => (intro w hSw; (try dsimp only at hSw); go_simp; try with_reducible rfl)
              try simp only [Act.put, List.setIfInBounds_toArray, List.set_cons_zero, List.set_cons_succ]
              refine' wpAnyH_take (i := 17) (oi := _) (v := _) ?hBqu17 (by kernel_rfl) (by kernel_rfl) (by kernel_rfl) ?hQBqu17 (Or.inl ⟨?hwBqu17, ?hyBqu17⟩) hHeld ?restBqu17
              case hBqu17 => (simp only [List.getElem?_toArray, List.getElem?_cons_succ, List.getElem?_cons_zero]; rfl)
              case hQBqu17 => exact fun _ _ _ h => h
              case hwBqu17 => rfl
              case hyBqu17 => (intro w hSw; (try dsimp only at hSw); go_simp; try with_reducible rfl)
              try simp only [Act.put, List.setIfInBounds_toArray, List.set_cons_zero, List.set_cons_succ]
              refine' wpAnyH_take (i := 18) (oi := _) (v := _) ?hBqu18 (by kernel_rfl) (by kernel_rfl) (by kernel_rfl) ?hQBqu18 (Or.inl ⟨?hwBqu18, ?hyBqu18⟩) hHeld ?restBqu18
              case hBqu18 => (simp only [List.getElem?_toArray, List.getElem?_cons_succ, List.getElem?_cons_zero]; rfl)
              case hQBqu18 => exact fun _ _ _ h => h
              case hwBqu18 => rfl
              case hyBqu18 => (intro w hSw; (try dsimp only at hSw); go_simp; try with_reducible rfl)
              try simp only [Act.put, List.setIfInBounds_toArray, List.set_cons_zero, List.set_cons_succ]
              refine' wpAnyH_take (i := 19) (oi := _) (v := _) ?hBqu19 (by kernel_rfl) (by kernel_rfl) (by kernel_rfl) ?hQBqu19 (Or.inl ⟨?hwBqu19, ?hyBqu19⟩) hHeld ?restBqu19
              case hBqu19 => (simp only [List.getElem?_toArray, List.getElem?_cons_succ, List.getElem?_cons_zero]; rfl)
              case hQBqu19 => exact fun _ _ _ h => h
              case hwBqu19 => rfl
              case hyBqu19 => (intro w hSw; (try dsimp only at hSw); go_simp; try with_reducible rfl)
              try simp only [Act.put, List.setIfInBounds_toArray, List.set_cons_zero, List.set_cons_succ]
              refine' wpAnyH_take (i := 20) (oi := _) (v := _) ?hBqu20 (by kernel_rfl) (by kernel_rfl) (by kernel_rfl) ?hQBqu20 (Or.inl ⟨?hwBqu20, ?hyBqu20⟩) hHeld ?restBqu20
              case hBqu20 => (simp only [List.getElem?_toArray, List.getElem?_cons_succ, List.getElem?_cons_zero]; rfl)
              case hQBqu20 => exact fun _ _ _ h => h
              case hwBqu20 => rfl
              case hyBqu20 => (intro w hSw; (try dsimp only at hSw); go_simp; try with_reducible rfl)
              try simp only [Act.put, List.setIfInBounds_toArray, List.set_cons_zero, List.set_cons_succ]
              refine wpAnyH_ready (rs := [21]) (by kernel_rfl) (by simp) ?_
              refine AllReadyH.cons rfl (fun K hK => ?_) AllReadyH.nil
              go_simp
              refine (HSN.out _ hHeld.2.2.2).mono ?_
              rintro e v8 ⟨rfl, hd8⟩
              try go_wp2_with fail
              refine hK.out _ _ (keep4 hHeld ((Keeps.refl [] _).drawn hd8) hxv hzv) (fun hHeld' => ?_)
              clear hK K hHeld
              have hHeld := hHeld'
              clear hHeld'
              try simp only [Act.put, List.setIfInBounds_toArray, List.set_cons_zero, List.set_cons_succ]
              refine' wpAnyH_take (i := 22) (oi := _) (v := _) ?hBqu22 (by kernel_rfl) (by kernel_rfl) (by kernel_rfl) ?hQBqu22 (Or.inl ⟨?hwBqu22, ?hyBqu22⟩) hHeld ?restBqu22
              case hBqu22 => (simp only [List.getElem?_toArray, List.getElem?_cons_succ, List.getElem?_cons_zero]; rfl)
              case hQBqu22 => exact fun _ _ _ h => h
              case hwBqu22 => rfl
              case hyBqu22 => (intro w hSw; (try dsimp only at hSw); go_simp; try with_reducible rfl)
              try simp only [Act.put, List.setIfInBounds_toArray, List.set_cons_zero, List.set_cons_succ]
              refine' wpAnyH_take (i := 23) (oi := _) (v := _) ?hBqu23 (by kernel_rfl) (by kernel_rfl) (by kernel_rfl) ?hQBqu23 (Or.inl ⟨?hwBqu23, ?hyBqu23⟩) hHeld ?restBqu23
              case hBqu23 => (simp only [List.getElem?_toArray, List.getElem?_cons_succ, List.getElem?_cons_zero]; rfl)
              case hQBqu23 => exact fun _ _ _ h => h
              case hwBqu23 => rfl
              case hyBqu23 => (intro w hSw; (try dsimp only at hSw); go_simp; try with_reducible rfl)
              try simp only [Act.put, List.setIfInBounds_toArray, List.set_cons_zero, List.set_cons_succ]
              refine' wpAnyH_take (i := 24) (oi := _) (v := _) ?hBqu24 (by kernel_rfl) (by kernel_rfl) (by kernel_rfl) ?hQBqu24 (Or.inl ⟨?hwBqu24, ?hyBqu24⟩) hHeld ?restBqu24
              case hBqu24 => (simp only [List.getElem?_toArray, List.getElem?_cons_succ, List.getElem?_cons_zero]; rfl)
              case hQBqu24 => exact fun _ _ _ h => h
              case hwBqu24 => rfl
              case hyBqu24 => (intro w hSw; (try dsimp only at hSw); go_simp; try with_reducible rfl)
              try simp only [Act.put, List.setIfInBounds_toArray, List.set_cons_zero, List.set_cons_succ]
              refine' wpAnyH_take (i := 26) (oi := _) (v := _) ?hBqu26 (by kernel_rfl) (by kernel_rfl) (by kernel_rfl) ?hQBqu26 (Or.inl ⟨?hwBqu26, ?hyBqu26⟩) hHeld ?restBqu26
              case hBqu26 => (simp only [List.getElem?_toArray, List.getElem?_cons_succ, List.getElem?_cons_zero]; rfl)
              case hQBqu26 => exact fun _ _ _ h => h
              case hwBqu26 => rfl
              case hyBqu26 => (intro w hSw; (try dsimp only at hSw); go_simp; try with_reducible rfl)
              try simp only [Act.put, List.setIfInBounds_toArray, List.set_cons_zero, List.set_cons_succ]
              refine' wpAnyH_take (i := 27) (oi := _) (v := _) ?hBqu27 (by kernel_rfl) (by kernel_rfl) (by kernel_rfl) ?hQBqu27 (Or.inl ⟨?hwBqu27, ?hyBqu27⟩) hHeld ?restBqu27
              case hBqu27 => (simp only [List.getElem?_toArray, List.getElem?_cons_succ, List.getElem?_cons_zero]; rfl)
              case hQBqu27 => exact fun _ _ _ h => h
              case hwBqu27 => rfl
              case hyBqu27 => (intro w hSw; (try dsimp only at hSw); go_simp; try with_reducible rfl)
              try simp only [Act.put, List.setIfInBounds_toArray, List.set_cons_zero, List.set_cons_succ]
              refine' wpAnyH_take (i := 28) (oi := _) (v := _) ?hBqu28 (by kernel_rfl) (by kernel_rfl) (by kernel_rfl) ?hQBqu28 (Or.inl ⟨?hwBqu28, ?hyBqu28⟩) hHeld ?restBqu28
              case hBqu28 => (simp only [List.getElem?_toArray, List.getElem?_cons_succ, List.getElem?_cons_zero]; rfl)
              case hQBqu28 => exact fun _ _ _ h => h
              case hwBqu28 => rfl
              case hyBqu28 => (intro w hSw; (try dsimp only at hSw); go_simp; try with_reducible rfl)
              try simp only [Act.put, List.setIfInBounds_toArray, List.set_cons_zero, List.set_cons_succ]
              refine' wpAnyH_take (i := 29) (oi := _) (v := _) ?hBqu29 (by kernel_rfl) (by kernel_rfl) (by kernel_rfl) ?hQBqu29 (Or.inl ⟨?hwBqu29, ?hyBqu29⟩) hHeld ?restBqu29
              case hBqu29 => (simp only [List.getElem?_toArray, List.getElem?_cons_succ, List.getElem?_cons_zero]; rfl)
              case hQBqu29 => exact fun _ _ _ h => h
              case hwBqu29 => rfl
              case hyBqu29 => (intro w hSw; (try dsimp only at hSw); go_simp; try with_reducible rfl)
              try simp only [Act.put, List.setIfInBounds_toArray, List.set_cons_zero, List.set_cons_succ]
              refine wpAnyH_ready (rs := [25]) (by kernel_rfl) (by simp) ?_
              refine AllReadyH.cons rfl (fun K hK => ?_) AllReadyH.nil
              go_simp
              refine (HDR.out _ hHeld.2.2.2).mono ?_
              rintro e v8 ⟨rfl, rfl⟩
              try go_wp2_with fail
              refine hK.out _ _ (hHeld) (fun hHeld' => ?_)
              clear hK K hHeld
              have hHeld := hHeld'
              clear hHeld'
              try simp only [Act.put, List.setIfInBounds_toArray, List.set_cons_zero, List.set_cons_succ]
              refine' wpAnyH_take (i := 30) (oi := _) (v := _) ?hBqu30 (by kernel_rfl) (by kernel_rfl) (by kernel_rfl) ?hQBqu30 (Or.inl ⟨?hwBqu30, ?hyBqu30⟩) hHeld ?restBqu30
              case hBqu30 => (simp only [List.getElem?_toArray, List.getElem?_cons_succ, List.getElem?_cons_zero]; rfl)
              case hQBqu30 => exact fun _ _ _ h => h
              case hwBqu30 => rfl
              case hyBqu30 => (intro w hSw; (try dsimp only at hSw); go_simp; try with_reducible rfl)
              try simp only [Act.put, List.setIfInBounds_toArray, List.set_cons_zero, List.set_cons_succ]
              refine' wpAnyH_take (i := 31) (oi := _) (v := _) ?hBqu31 (by kernel_rfl) (by kernel_rfl) (by kernel_rfl) ?hQBqu31 (Or.inl ⟨?hwBqu31, ?hyBqu31⟩) hHeld ?restBqu31
              case hBqu31 => (simp only [List.getElem?_toArray, List.getElem?_cons_succ, List.getElem?_cons_zero]; rfl)
              case hQBqu31 => exact fun _ _ _ h => h
              case hwBqu31 => rfl
              case hyBqu31 => (intro w hSw; (try dsimp only at hSw); go_simp; try with_reducible rfl)
              try simp only [Act.put, List.setIfInBounds_toArray, List.set_cons_zero, List.set_cons_succ]
              refine' wpAnyH_take (i := 32) (oi := _) (v := _) ?hBqu32 (by kernel_rfl) (by kernel_rfl) (by kernel_rfl) ?hQBqu32 (Or.inl ⟨?hwBqu32, ?hyBqu32⟩) hHeld ?restBqu32
              case hBqu32 => (simp only [List.getElem?_toArray, List.getElem?_cons_succ, List.getElem?_cons_zero]; rfl)
              case hQBqu32 => exact fun _ _ _ h => h
              case hwBqu32 => rfl
              case hyBqu32 => (intro w hSw; (try dsimp only at hSw); go_simp; try with_reducible rfl)
              try simp only [Act.put, List.setIfInBounds_toArray, List.set_cons_zero, List.set_cons_succ]
              refine' wpAnyH_take (i := 33) (oi := _) (v := _) ?hBqu33 (by kernel_rfl) (by kernel_rfl) (by kernel_rfl) ?hQBqu33 (Or.inl ⟨?hwBqu33, ?hyBqu33⟩) hHeld ?restBqu33
              case hBqu33 => (simp only [List.getElem?_toArray, List.getElem?_cons_succ, List.getElem?_cons_zero]; rfl)
              case hQBqu33 => exact fun _ _ _ h => h
              case hwBqu33 => rfl
              case hyBqu33 => (intro w hSw; (try dsimp only at hSw); go_simp; try with_reducible rfl)
              try simp only [Act.put, List.setIfInBounds_toArray, List.set_cons_zero, List.set_cons_succ]
              refine wpAnyH_ready (rs := [34]) (by kernel_rfl) (by simp) ?_
              refine AllReadyH.cons rfl (fun K hK => ?_) AllReadyH.nil
              go_simp
              refine (push_nil _ _).mono ?_
              rintro e v8 ⟨rfl, rfl⟩
              try go_wp2_with fail
              refine hK.out _ _ (hHeld) (fun hHeld' => ?_)
              clear hK K hHeld
              have hHeld := hHeld'
              clear hHeld'
              try simp only [Act.put, List.setIfInBounds_toArray, List.set_cons_zero, List.set_cons_succ]
              refine' wpAnyH_take (i := 35) (oi := _) (v := _) ?hBqu35 (by kernel_rfl) (by kernel_rfl) (by kernel_rfl) ?hQBqu35 (Or.inl ⟨?hwBqu35, ?hyBqu35⟩) hHeld ?restBqu35
              case hBqu35 => (simp only [List.getElem?_toArray, List.getElem?_cons_succ, List.getElem?_cons_zero]; rfl)
              case hQBqu35 => exact fun _ _ _ h => h
              case hwBqu35 => rfl
              case hyBqu35 => (intro w hSw; (try dsimp only at hSw); go_simp; try with_reducible rfl)
              try simp only [Act.put, List.setIfInBounds_toArray, List.set_cons_zero, List.set_cons_succ]
              refine' wpAnyH_take (i := 36) (oi := _) (v := _) ?hBqu36 (by kernel_rfl) (by kernel_rfl) (by kernel_rfl) ?hQBqu36 (Or.inl ⟨?hwBqu36, ?hyBqu36⟩) hHeld ?restBqu36
              case hBqu36 => (simp only [List.getElem?_toArray, List.getElem?_cons_succ, List.getElem?_cons_zero]; rfl)
              case hQBqu36 => exact fun _ _ _ h => h
              case hwBqu36 => rfl
              case hyBqu36 => (intro w hSw; (try dsimp only at hSw); go_simp; try with_reducible rfl)
              try simp only [Act.put, List.setIfInBounds_toArray, List.set_cons_zero, List.set_cons_succ]
              refine' wpAnyH_take (i := 37) (oi := _) (v := _) ?hBqu37 (by kernel_rfl) (by kernel_rfl) (by kernel_rfl) ?hQBqu37 (Or.inl ⟨?hwBqu37, ?hyBqu37⟩) hHeld ?restBqu37
              case hBqu37 => (simp only [List.getElem?_toArray, List.getElem?_cons_succ, List.getElem?_cons_zero]; rfl)
              case hQBqu37 => exact fun _ _ _ h => h
              case hwBqu37 => rfl
              case hyBqu37 => (intro w hSw; (try dsimp only at hSw); go_simp; try with_reducible rfl)
              try simp only [Act.put, List.setIfInBounds_toArray, List.set_cons_zero, List.set_cons_succ]
              refine' wpAnyH_take (i := 38) (oi := _) (v := _) ?hBqu38 (by kernel_rfl) (by kernel_rfl) (by kernel_rfl) ?hQBqu38 (Or.inl ⟨?hwBqu38, ?hyBqu38⟩) hHeld ?restBqu38
              case hBqu38 => (simp only [List.getElem?_toArray, List.getElem?_cons_succ, List.getElem?_cons_zero]; rfl)
              case hQBqu38 => exact fun _ _ _ h => h
              case hwBqu38 => rfl
              case hyBqu38 => (intro w hSw; (try dsimp only at hSw); go_simp; try with_reducible rfl)
              try simp only [Act.put, List.setIfInBounds_toArray, List.set_cons_zero, List.set_cons_succ]
              refine' wpAnyH_take (i := 39) (oi := _) (v := _) ?hBqu39 (by kernel_rfl) (by kernel_rfl) (by kernel_rfl) ?hQBqu39 (Or.inl ⟨?hwBqu39, ?hyBqu39⟩) hHeld ?restBqu39
              case hBqu39 => (simp only [List.getElem?_toArray, List.getElem?_cons_succ, List.getElem?_cons_zero]; rfl)
              case hQBqu39 => exact fun _ _ _ h => h
              case hwBqu39 => rfl
              case hyBqu39 => (intro w hSw; (try dsimp only at hSw); go_simp; try with_reducible rfl)
              try simp only [Act.put, List.setIfInBounds_toArray, List.set_cons_zero, List.set_cons_succ]
              refine' wpAnyH_take (i := 40) (oi := _) (v := _) ?hBqu40 (by kernel_rfl) (by kernel_rfl) (by kernel_rfl) ?hQBqu40 (Or.inl ⟨?hwBqu40, ?hyBqu40⟩) hHeld ?restBqu40
              case hBqu40 => (simp only [List.getElem?_toArray, List.getElem?_cons_succ, List.getElem?_cons_zero]; rfl)
              case hQBqu40 => exact fun _ _ _ h => h
              case hwBqu40 => rfl
              case hyBqu40 => (intro w hSw; (try dsimp only at hSw); go_simp; try with_reducible rfl)
              try simp only [Act.put, List.setIfInBounds_toArray, List.set_cons_zero, List.set_cons_succ]
              refine' wpAnyH_take (i := 41) (oi := _) (v := _) ?hBqu41 (by kernel_rfl) (by kernel_rfl) (by kernel_rfl) ?hQBqu41 (Or.inl ⟨?hwBqu41, ?hyBqu41⟩) hHeld ?restBqu41
              case hBqu41 => (simp only [List.getElem?_toArray, List.getElem?_cons_succ, List.getElem?_cons_zero]; rfl)
              case hQBqu41 => exact fun _ _ _ h => h
              case hwBqu41 => rfl
              case hyBqu41 => (intro w hSw; (try dsimp only at hSw); go_simp; try with_reducible rfl)
              try simp only [Act.put, List.setIfInBounds_toArray, List.set_cons_zero, List.set_cons_succ]
              refine' wpAnyH_take (i := 42) (oi := _) (v := _) ?hBqu42 (by kernel_rfl) (by kernel_rfl) (by kernel_rfl) ?hQBqu42 (Or.inl ⟨?hwBqu42, ?hyBqu42⟩) hHeld ?restBqu42
              case hBqu42 => (simp only [List.getElem?_toArray, List.getElem?_cons_succ, List.getElem?_cons_zero]; rfl)
              case hQBqu42 => exact fun _ _ _ h => h
              case hwBqu42 => rfl
              case hyBqu42 => (intro w hSw; (try dsimp only at hSw); go_simp; try with_reducible rfl)
              try simp only [Act.put, List.setIfInBounds_toArray, List.set_cons_zero, List.set_cons_succ]
              refine' wpAnyH_take (i := 44) (oi := _) (v := _) ?hBqu44 (by kernel_rfl) (by kernel_rfl) (by kernel_rfl) ?hQBqu44 (Or.inl ⟨?hwBqu44, ?hyBqu44⟩) hHeld ?restBqu44
              case hBqu44 => (simp only [List.getElem?_toArray, List.getElem?_cons_succ, List.getElem?_cons_zero]; rfl)
              case hQBqu44 => exact fun _ _ _ h => h
              case hwBqu44 => rfl
              case hyBqu44 => (intro w hSw; (try dsimp only at hSw); go_simp; try with_reducible rfl)
              try simp only [Act.put, List.setIfInBounds_toArray, List.set_cons_zero, List.set_cons_succ]
              refine' wpAnyH_take (i := 47) (oi := _) (v := _) ?hBqu47 (by kernel_rfl) (by kernel_rfl) (by kernel_rfl) ?hQBqu47 (Or.inl ⟨?hwBqu47, ?hyBqu47⟩) hHeld ?restBqu47
              case hBqu47 => (simp only [List.getElem?_toArray, List.getElem?_cons_succ, List.getElem?_cons_zero]; rfl)
              case hQBqu47 => exact fun _ _ _ h => h
              case hwBqu47 => rfl
              case hyBqu47 => (intro w hSw; (try dsimp only at hSw); go_simp; try with_reducible rfl)
              try simp only [Act.put, List.setIfInBounds_toArray, List.set_cons_zero, List.set_cons_succ]
              refine' wpAnyH_take (i := 50) (oi := _) (v := _) ?hBqu50 (by kernel_rfl) (by kernel_rfl) (by kernel_rfl) ?hQBqu50 (Or.inl ⟨?hwBqu50, ?hyBqu50⟩) hHeld ?restBqu50
              case hBqu50 => (simp only [List.getElem?_toArray, List.getElem?_cons_succ, List.getElem?_cons_zero]; rfl)
              case hQBqu50 => exact fun _ _ _ h => h
              case hwBqu50 => rfl
              case hyBqu50 => (intro w hSw; (try dsimp only at hSw); go_simp; try with_reducible rfl)
              try simp only [Act.put, List.setIfInBounds_toArray, List.set_cons_zero, List.set_cons_succ]
              refine wpAnyH_ready (rs := [43]) (by kernel_rfl) (by simp) ?_
              refine AllReadyH.cons rfl (fun K hK => ?_) AllReadyH.nil
              go_simp
              refine (len_nil _).mono ?_
              rintro e v8 ⟨rfl, rfl⟩
              try go_wp2_with fail
              refine hK.out _ _ (hHeld) (fun hHeld' => ?_)
              clear hK K hHeld
              have hHeld := hHeld'
              clear hHeld'
              try simp only [Act.put, List.setIfInBounds_toArray, List.set_cons_zero, List.set_cons_succ]
              refine wpAnyH_ready (rs := [45]) (by kernel_rfl) (by simp) ?_
              refine AllReadyH.cons rfl (fun K hK => ?_) AllReadyH.nil
              go_simp
              refine (limit_nil _).mono ?_
              rintro e v8 ⟨rfl, rfl⟩
              try go_wp2_with fail
              refine hK.out _ _ (hHeld) (fun hHeld' => ?_)
              clear hK K hHeld
              have hHeld := hHeld'
              clear hHeld'
              try simp only [Act.put, List.setIfInBounds_toArray, List.set_cons_zero, List.set_cons_succ]
              refine' wpAnyH_take (i := 46) (oi := _) (v := _) ?hBqu46 (by kernel_rfl) (by kernel_rfl) (by kernel_rfl) ?hQBqu46 (Or.inl ⟨?hwBqu46, ?hyBqu46⟩) hHeld ?restBqu46
              case hBqu46 => (simp only [List.getElem?_toArray, List.getElem?_cons_succ, List.getElem?_cons_zero]; rfl)
              case hQBqu46 => exact fun _ _ _ h => h
              case hwBqu46 => rfl
              case hyBqu46 => (intro w hSw; (try dsimp only at hSw); go_simp; try with_reducible rfl)
              try simp only [Act.put, List.setIfInBounds_toArray, List.set_cons_zero, List.set_cons_succ]
              refine wpAnyH_ready (rs := [48]) (by kernel_rfl) (by simp) ?_
              refine AllReadyH.cons rfl (fun K hK => ?_) AllReadyH.nil
              go_simp
              refine (drops_nil _).mono ?_
              rintro e v8 ⟨rfl, rfl⟩
              try go_wp2_with fail
              refine hK.out _ _ (hHeld) (fun hHeld' => ?_)
              clear hK K hHeld
              have hHeld := hHeld'
              clear hHeld'
              try simp only [Act.put, List.setIfInBounds_toArray, List.set_cons_zero, List.set_cons_succ]
              refine' wpAnyH_take (i := 49) (oi := _) (v := _) ?hBqu49 (by kernel_rfl) (by kernel_rfl) (by kernel_rfl) ?hQBqu49 (Or.inl ⟨?hwBqu49, ?hyBqu49⟩) hHeld ?restBqu49
              case hBqu49 => (simp only [List.getElem?_toArray, List.getElem?_cons_succ, List.getElem?_cons_zero]; rfl)
              case hQBqu49 => exact fun _ _ _ h => h
              case hwBqu49 => rfl
              case hyBqu49 => (intro w hSw; (try dsimp only at hSw); go_simp; try with_reducible rfl)
              try simp only [Act.put, List.setIfInBounds_toArray, List.set_cons_zero, List.set_cons_succ]
              refine wpAnyH_ready (rs := [51]) (by kernel_rfl) (by simp) ?_
              refine AllReadyH.cons rfl (fun K hK => ?_) AllReadyH.nil
              go_simp
              refine (take_nil 3 (by decide) _).mono ?_
              rintro e v8 ⟨rfl, rfl⟩
              try go_wp2_with fail
              refine hK.out _ _ (hHeld) (fun hHeld' => ?_)
              clear hK K hHeld
              have hHeld := hHeld'
              clear hHeld'
              try simp only [Act.put, List.setIfInBounds_toArray, List.set_cons_zero, List.set_cons_succ]
              refine' wpAnyH_take (i := 52) (oi := _) (v := _) ?hBqu52 (by kernel_rfl) (by kernel_rfl) (by kernel_rfl) ?hQBqu52 (Or.inl ⟨?hwBqu52, ?hyBqu52⟩) hHeld ?restBqu52
              case hBqu52 => (simp only [List.getElem?_toArray, List.getElem?_cons_succ, List.getElem?_cons_zero]; rfl)
              case hQBqu52 => exact fun _ _ _ h => h
              case hwBqu52 => rfl
              case hyBqu52 => (intro w hSw; (try dsimp only at hSw); go_simp; try with_reducible rfl)
              try simp only [Act.put, List.setIfInBounds_toArray, List.set_cons_zero, List.set_cons_succ]
              refine' wpAnyH_take (i := 53) (oi := _) (v := _) ?hBqu53 (by kernel_rfl) (by kernel_rfl) (by kernel_rfl) ?hQBqu53 (Or.inl ⟨?hwBqu53, ?hyBqu53⟩) hHeld ?restBqu53
              case hBqu53 => (simp only [List.getElem?_toArray, List.getElem?_cons_succ, List.getElem?_cons_zero]; rfl)
              case hQBqu53 => exact fun _ _ _ h => h
              case hwBqu53 => rfl
              case hyBqu53 => (intro w hSw; (try dsimp only at hSw); go_simp; try with_reducible rfl)
              try simp only [Act.put, List.setIfInBounds_toArray, List.set_cons_zero, List.set_cons_succ]
              refine' wpAnyH_take (i := 54) (oi := _) (v := _) ?hBqu54 (by kernel_rfl) (by kernel_rfl) (by kernel_rfl) ?hQBqu54 (Or.inl ⟨?hwBqu54, ?hyBqu54⟩) hHeld ?restBqu54
              case hBqu54 => (simp only [List.getElem?_toArray, List.getElem?_cons_succ, List.getElem?_cons_zero]; rfl)
              case hQBqu54 => exact fun _ _ _ h => h
              case hwBqu54 => rfl
              case hyBqu54 => (intro w hSw; (try dsimp only at hSw); go_simp; try with_reducible rfl)
              try simp only [Act.put, List.setIfInBounds_toArray, List.set_cons_zero, List.set_cons_succ]
              refine' wpAnyH_take (i := 55) (oi := _) (v := _) ?hBqu55 (by kernel_rfl) (by kernel_rfl) (by kernel_rfl) ?hQBqu55 (Or.inl ⟨?hwBqu55, ?hyBqu55⟩) hHeld ?restBqu55
              case hBqu55 => (simp only [List.getElem?_toArray, List.getElem?_cons_succ, List.getElem?_cons_zero]; rfl)
              case hQBqu55 => exact fun _ _ _ h => h
              case hwBqu55 => rfl
              case hyBqu55 => (intro w hSw; (try dsimp only at hSw); go_simp; try with_reducible rfl)
              try simp only [Act.put, List.setIfInBounds_toArray, List.set_cons_zero, List.set_cons_succ]
              refine' wpAnyH_take (i := 56) (oi := _) (v := _) ?hBqu56 (by kernel_rfl) (by kernel_rfl) (by kernel_rfl) ?hQBqu56 (Or.inl ⟨?hwBqu56, ?hyBqu56⟩) hHeld ?restBqu56
              case hBqu56 => (simp only [List.getElem?_toArray, List.getElem?_cons_succ, List.getElem?_cons_zero]; rfl)
              case hQBqu56 => exact fun _ _ _ h => h
              case hwBqu56 => rfl
              case hyBqu56 => (intro w hSw; (try dsimp only at hSw); go_simp; try with_reducible rfl)
              try simp only [Act.put, List.setIfInBounds_toArray, List.set_cons_zero, List.set_cons_succ]
              refine' wpAnyH_take (i := 57) (oi := _) (v := _) ?hBqu57 (by kernel_rfl) (by kernel_rfl) (by kernel_rfl) ?hQBqu57 (Or.inl ⟨?hwBqu57, ?hyBqu57⟩) hHeld ?restBqu57
              case hBqu57 => (simp only [List.getElem?_toArray, List.getElem?_cons_succ, List.getElem?_cons_zero]; rfl)
              case hQBqu57 => exact fun _ _ _ h => h
              case hwBqu57 => rfl
              case hyBqu57 => (intro w hSw; (try dsimp only at hSw); go_simp; try with_reducible rfl)
              try simp only [Act.put, List.setIfInBounds_toArray, List.set_cons_zero, List.set_cons_succ]
              refine wpAnyH_ready (rs := [58]) (by kernel_rfl) (by simp) ?_
              refine AllReadyH.cons rfl (fun K hK => ?_) AllReadyH.nil
              go_simp
              refine (fork_nil _).mono ?_
              rintro e v8 ⟨rfl, rfl⟩
              try go_wp2_with fail
              refine hK.out _ _ (hHeld) (fun hHeld' => ?_)
              clear hK K hHeld
              have hHeld := hHeld'
              clear hHeld'
              try simp only [Act.put, List.setIfInBounds_toArray, List.set_cons_zero, List.set_cons_succ]
              refine' wpAnyH_take (i := 59) (oi := _) (v := _) ?hBqu59 (by kernel_rfl) (by kernel_rfl) (by kernel_rfl) ?hQBqu59 (Or.inl ⟨?hwBqu59, ?hyBqu59⟩) hHeld ?restBqu59
              case hBqu59 => (simp only [List.getElem?_toArray, List.getElem?_cons_succ, List.getElem?_cons_zero]; rfl)
              case hQBqu59 => exact fun _ _ _ h => h
              case hwBqu59 => rfl
              case hyBqu59 => (intro w hSw; (try dsimp only at hSw); go_simp; try with_reducible rfl)
              try simp only [Act.put, List.setIfInBounds_toArray, List.set_cons_zero, List.set_cons_succ]
              refine' wpAnyH_take (i := 60) (oi := _) (v := _) ?hBqu60 (by kernel_rfl) (by kernel_rfl) (by kernel_rfl) ?hQBqu60 (Or.inl ⟨?hwBqu60, ?hyBqu60⟩) hHeld ?restBqu60
              case hBqu60 => (simp only [List.getElem?_toArray, List.getElem?_cons_succ, List.getElem?_cons_zero]; rfl)
              case hQBqu60 => exact fun _ _ _ h => h
              case hwBqu60 => rfl
              case hyBqu60 => (intro w hSw; (try dsimp only at hSw); go_simp; try with_reducible rfl)
              try simp only [Act.put, List.setIfInBounds_toArray, List.set_cons_zero, List.set_cons_succ]
              refine' wpAnyH_take (i := 61) (oi := _) (v := _) ?hBqu61 (by kernel_rfl) (by kernel_rfl) (by kernel_rfl) ?hQBqu61 (Or.inl ⟨?hwBqu61, ?hyBqu61⟩) hHeld ?restBqu61
              case hBqu61 => (simp only [List.getElem?_toArray, List.getElem?_cons_succ, List.getElem?_cons_zero]; rfl)
              case hQBqu61 => exact fun _ _ _ h => h
              case hwBqu61 => rfl
              case hyBqu61 => (intro w hSw; (try dsimp only at hSw); go_simp; try with_reducible rfl)
              try simp only [Act.put, List.setIfInBounds_toArray, List.set_cons_zero, List.set_cons_succ]
              refine wpAnyH_done (by kernel_rfl) ?_ _
              clear p0 p2 p3 HSM HSN HDR hkr
              go_wp2
              go_ret
              exact ⟨rfl, (HKK.out.trans hHeld.2.2.2).all⟩
      · go_wp2_with fail
        refine (fork_any g r l (lim16 o) dr _ HS.out.q).mono ?_
        intro e v1 hf
        have hf' := hf
        obtain ⟨rfl, rf, hqf, hkf, hrf⟩ := hf'
        have hSf := HS.out.keeps hkf (by simp)
        have x0 : v1.drew.cell? ⟨x, 0, none⟩ = some (.slice a1 l.length c1) := hSf.p.q.cell 0
        have x1 : v1.drew.cell? ⟨x, 1, none⟩ = some (.int .i64 (lim16 o)) := hSf.p.q.cell 1
        have x2 : v1.drew.cell? ⟨x, 2, none⟩ = some (.int .i64 dr) := hSf.p.q.cell 2
        have hT := forked_0 HS.out HK.out hf (((Keeps.refl [] v1).alloc (.cells #[.slice a1 l.length c1, .int .i64 (lim16 o), .int .i64 dr] 37)).drew) (Blk.new v1 _ _).drew
        have hwv := (HK.out.trans hkf).size
        have hwz := HK.out.size
        have hwf := hkf.size
        clear hf hqf hkf hrf hSf HS HK
        go_wp2
        refine wp_region_held_drew (S := (fun V => V.cell? ⟨x, 0, none⟩ = some (.slice a1 l.length c1) ∧ V.cell? ⟨x, 1, none⟩ = some (.int .i64 (lim16 o)) ∧ V.cell? ⟨x, 2, none⟩ = some (.int .i64 dr))) (by kernel_rfl) ⟨x0, x1, x2⟩ (fun hHeld => ?_)
        refine' wpAnyH_take (i := 0) (oi := _) (v := _) ?hAv0 (by kernel_rfl) (by kernel_rfl) (by kernel_rfl) ?hQAv0 (Or.inl ⟨?hwAv0, ?hyAv0⟩) hHeld ?restAv0
        case hAv0 => (simp only [List.getElem?_toArray, List.getElem?_cons_zero]; rfl)
        case hQAv0 => exact fun _ _ _ h => h
        case hwAv0 => rfl
        case hyAv0 => (intro w hSw; (try dsimp only at hSw); go_simp; try with_reducible rfl)
        try simp only [Act.put, List.setIfInBounds_toArray, List.set_cons_zero, List.set_cons_succ]
        refine' wpAnyH_take (i := 1) (oi := _) (v := _) ?hAv1 (by kernel_rfl) (by kernel_rfl) (by kernel_rfl) ?hQAv1 (Or.inl ⟨?hwAv1, ?hyAv1⟩) hHeld ?restAv1
        case hAv1 => (simp only [List.getElem?_toArray, List.getElem?_cons_succ, List.getElem?_cons_zero]; rfl)
        case hQAv1 => exact fun _ _ _ h => h
        case hwAv1 => rfl
        case hyAv1 => (intro w hSw; (try dsimp only at hSw); go_simp; try with_reducible rfl)
        try simp only [Act.put, List.setIfInBounds_toArray, List.set_cons_zero, List.set_cons_succ]
        refine' wpAnyH_take (i := 2) (oi := _) (v := _) ?hAv2 (by kernel_rfl) (by kernel_rfl) (by kernel_rfl) ?hQAv2 (Or.inl ⟨?hwAv2, ?hyAv2⟩) hHeld ?restAv2
        case hAv2 => (simp only [List.getElem?_toArray, List.getElem?_cons_succ, List.getElem?_cons_zero]; rfl)
        case hQAv2 => exact fun _ _ _ h => h
        case hwAv2 => rfl
        case hyAv2 => (intro w hSw; (try dsimp only at hSw); go_simp; try with_reducible rfl)
        try simp only [Act.put, List.setIfInBounds_toArray, List.set_cons_zero, List.set_cons_succ]
        refine' wpAnyH_take (i := 3) (oi := _) (v := _) ?hAv3 (by kernel_rfl) (by kernel_rfl) (by kernel_rfl) ?hQAv3 (Or.inl ⟨?hwAv3, ?hyAv3⟩) hHeld ?restAv3
        case hAv3 => (simp only [List.getElem?_toArray, List.getElem?_cons_succ, List.getElem?_cons_zero]; rfl)
        case hQAv3 => exact fun _ _ _ h => h
        case hwAv3 => rfl
        case hyAv3 => (intro w hSw; (try dsimp only at hSw); go_simp; try with_reducible rfl)
        try simp only [Act.put, List.setIfInBounds_toArray, List.set_cons_zero, List.set_cons_succ]
        refine' wpAnyH_take (i := 4) (oi := _) (v := _) ?hAv4 (by kernel_rfl) (by kernel_rfl) (by kernel_rfl) ?hQAv4 (Or.inl ⟨?hwAv4, ?hyAv4⟩) hHeld ?restAv4
        case hAv4 => (simp only [List.getElem?_toArray, List.getElem?_cons_succ, List.getElem?_cons_zero]; rfl)
        case hQAv4 => exact fun _ _ _ h => h
        case hwAv4 => rfl
        case hyAv4 => (intro w hSw; (try dsimp only at hSw); go_simp; try with_reducible rfl)
        try simp only [Act.put, List.setIfInBounds_toArray, List.set_cons_zero, List.set_cons_succ]
        refine' wpAnyH_take (i := 5) (oi := _) (v := _) ?hAv5 (by kernel_rfl) (by kernel_rfl) (by kernel_rfl) ?hQAv5 (Or.inl ⟨?hwAv5, ?hyAv5⟩) hHeld ?restAv5
        case hAv5 => (simp only [List.getElem?_toArray, List.getElem?_cons_succ, List.getElem?_cons_zero]; rfl)
        case hQAv5 => exact fun _ _ _ h => h
        case hwAv5 => rfl
        case hyAv5 => (intro w hSw; (try dsimp only at hSw); go_simp; try with_reducible rfl)
        try simp only [Act.put, List.setIfInBounds_toArray, List.set_cons_zero, List.set_cons_succ]
        refine' wpAnyH_take (i := 6) (oi := _) (v := _) ?hAv6 (by kernel_rfl) (by kernel_rfl) (by kernel_rfl) ?hQAv6 (Or.inl ⟨?hwAv6, ?hyAv6⟩) hHeld ?restAv6
        case hAv6 => (simp only [List.getElem?_toArray, List.getElem?_cons_succ, List.getElem?_cons_zero]; rfl)
        case hQAv6 => exact fun _ _ _ h => h
        case hwAv6 => rfl
        case hyAv6 => (intro w hSw; (try dsimp only at hSw); go_simp; try with_reducible rfl)
        try simp only [Act.put, List.setIfInBounds_toArray, List.set_cons_zero, List.set_cons_succ]
        refine' wpAnyH_take (i := 7) (oi := _) (v := _) ?hAv7 (by kernel_rfl) (by kernel_rfl) (by kernel_rfl) ?hQAv7 (Or.inl ⟨?hwAv7, ?hyAv7⟩) hHeld ?restAv7
        case hAv7 => (simp only [List.getElem?_toArray, List.getElem?_cons_succ, List.getElem?_cons_zero]; rfl)
        case hQAv7 => exact fun _ _ _ h => h
        case hwAv7 => rfl
        case hyAv7 => (intro w hSw; (try dsimp only at hSw); go_simp; try with_reducible rfl)
        try simp only [Act.put, List.setIfInBounds_toArray, List.set_cons_zero, List.set_cons_succ]
        refine' wpAnyH_take (i := 8) (oi := _) (v := _) ?hAv8 (by kernel_rfl) (by kernel_rfl) (by kernel_rfl) ?hQAv8 (Or.inl ⟨?hwAv8, ?hyAv8⟩) hHeld ?restAv8
        case hAv8 => (simp only [List.getElem?_toArray, List.getElem?_cons_succ, List.getElem?_cons_zero]; rfl)
        case hQAv8 => exact fun _ _ _ h => h
        case hwAv8 => rfl
        case hyAv8 => (intro w hSw; (try dsimp only at hSw); go_simp; try with_reducible rfl)
        try simp only [Act.put, List.setIfInBounds_toArray, List.set_cons_zero, List.set_cons_succ]
        refine' wpAnyH_take (i := 9) (oi := _) (v := _) ?hAv9 (by kernel_rfl) (by kernel_rfl) (by kernel_rfl) ?hQAv9 (Or.inl ⟨?hwAv9, ?hyAv9⟩) hHeld ?restAv9
        case hAv9 => (simp only [List.getElem?_toArray, List.getElem?_cons_succ, List.getElem?_cons_zero]; rfl)
        case hQAv9 => exact fun _ _ _ h => h
        case hwAv9 => rfl
        case hyAv9 => (intro w hSw; (try dsimp only at hSw); go_simp; try with_reducible rfl)
        try simp only [Act.put, List.setIfInBounds_toArray, List.set_cons_zero, List.set_cons_succ]
        refine' wpAnyH_take (i := 10) (oi := _) (v := _) ?hAv10 (by kernel_rfl) (by kernel_rfl) (by kernel_rfl) ?hQAv10 (Or.inl ⟨?hwAv10, ?hyAv10⟩) hHeld ?restAv10
        case hAv10 => (simp only [List.getElem?_toArray, List.getElem?_cons_succ, List.getElem?_cons_zero]; rfl)
        case hQAv10 => exact fun _ _ _ h => h
        case hwAv10 => rfl
        case hyAv10 => (intro w hSw; (try dsimp only at hSw); go_simp; try with_reducible rfl)
        try simp only [Act.put, List.setIfInBounds_toArray, List.set_cons_zero, List.set_cons_succ]
        refine' wpAnyH_take (i := 11) (oi := _) (v := _) ?hAv11 (by kernel_rfl) (by kernel_rfl) (by kernel_rfl) ?hQAv11 (Or.inl ⟨?hwAv11, ?hyAv11⟩) hHeld ?restAv11
        case hAv11 => (simp only [List.getElem?_toArray, List.getElem?_cons_succ, List.getElem?_cons_zero]; rfl)
        case hQAv11 => exact fun _ _ _ h => h
        case hwAv11 => rfl
        case hyAv11 => (intro w hSw; (try dsimp only at hSw); go_simp; try with_reducible rfl)
        try simp only [Act.put, List.setIfInBounds_toArray, List.set_cons_zero, List.set_cons_succ]
        refine' wpAnyH_take (i := 12) (oi := _) (v := _) ?hAv12 (by kernel_rfl) (by kernel_rfl) (by kernel_rfl) ?hQAv12 (Or.inl ⟨?hwAv12, ?hyAv12⟩) hHeld ?restAv12
        case hAv12 => (simp only [List.getElem?_toArray, List.getElem?_cons_succ, List.getElem?_cons_zero]; rfl)
        case hQAv12 => exact fun _ _ _ h => h
        case hwAv12 => rfl
        case hyAv12 => (intro w hSw; (try dsimp only at hSw); go_simp; try with_reducible rfl)
        try simp only [Act.put, List.setIfInBounds_toArray, List.set_cons_zero, List.set_cons_succ]
        refine wpAnyH_ready (rs := [13]) (by kernel_rfl) (by simp) ?_
        refine AllReadyH.cons rfl (fun K hK => ?_) AllReadyH.nil
        go_simp
        refine hK.out _ _ (⟨(World.cell?_alloc_lt _ _ _ (by show x < v1.heap.size; omega)).trans hHeld.1, (World.cell?_alloc_lt _ _ _ (by show x < v1.heap.size; omega)).trans hHeld.2.1, (World.cell?_alloc_lt _ _ _ (by show x < v1.heap.size; omega)).trans hHeld.2.2⟩) (fun hHeld' => ?_)
        clear hK K hHeld
        have hHeld := hHeld'
        clear hHeld'
        try simp only [Act.put, List.setIfInBounds_toArray, List.set_cons_zero, List.set_cons_succ]
        refine' wpAnyH_take (i := 14) (oi := _) (v := _) ?hAv14 (by kernel_rfl) (by kernel_rfl) (by kernel_rfl) ?hQAv14 (Or.inl ⟨?hwAv14, ?hyAv14⟩) hHeld ?restAv14
        case hAv14 => (simp only [List.getElem?_toArray, List.getElem?_cons_succ, List.getElem?_cons_zero]; rfl)
        case hQAv14 => exact fun _ _ _ h => h
        case hwAv14 => rfl
        case hyAv14 => (intro w hSw; (try dsimp only at hSw); go_simp; try with_reducible rfl)
        try simp only [Act.put, List.setIfInBounds_toArray, List.set_cons_zero, List.set_cons_succ]
        refine wpAnyH_done (by kernel_rfl) ?_ _
        go_wp2
        clear hHeld x0 x1 x2
        generalize wr.heap.size = f at *
        generalize (v1.alloc (.cells #[.slice a1 l.length c1, .int .i64 (lim16 o), .int .i64 dr] 37)).drew = v2 at *
        generalize v1.heap.size = z at *
        go_loopw [12] (fun i wr => ∃ k : Nat, k ≤ len2 ∧ k ≤ 60 ∧ i = .int .i64 k ∧ Forked w g r x y l (lim16 o) dr a1 c1 f z k wr) (fun i _ => 60 - (intOf i).toNat)
        case atStart => exact ⟨0, by omega, by omega, rfl, hT⟩
        case round =>
          clear hT
          obtain ⟨m, hml, hm60, rfl, hh⟩ := hrel
          by_cases hlt : m < len2 ∧ m < 60
          · obtain ⟨hml', hm60'⟩ := hlt
            obtain ⟨b, off, rfl, hbl, hcells⟩ := HR2.out.at_ (by omega) (by decide)
            clear HR2
            obtain ⟨hc0, d, hd, wd⟩ := hcells m hml' 0 _ rfl
            obtain ⟨hc1, n, hn, wn⟩ := hcells m hml' 1 _ rfl
            obtain ⟨hc2, t, ht, wt⟩ := hcells m hml' 2 _ rfl
            rw [hd] at hc0
            rw [hn] at hc1
            rw [ht] at hc2
            clear hd hn ht hcells wd wn wt
            obtain ⟨rf, y2, l2, dr2, a2, c2, hT⟩ := hh.open_
            clear hh
            have hK := hT.kp
            have g0 : wr.cell? ⟨b, off + m * 3, none⟩ = some (.int .i64 d) := (hK.cell (p := ⟨b, off + (m * 3 + 0), none⟩) hbl (by simp)).trans hc0
            have g1 : wr.cell? ⟨b, off + m * 3 + 1, none⟩ = some (.int .i64 n) := (hK.cell (p := ⟨b, off + (m * 3 + 1), none⟩) hbl (by simp)).trans hc1
            have g2 : wr.cell? ⟨b, off + m * 3 + 2, none⟩ = some (.string t) := (hK.cell (p := ⟨b, off + (m * 3 + 2), none⟩) hbl (by simp)).trans hc2
            clear hc0 hc1 hc2
            have HT := Lib.hid hT
            have hdk := hT.dk
            have hdd : dr2 < 100000 := by omega
            have hm0 : (0 : Int) ≤ (m : Int) := by omega
            have hm1 : (m : Int) < (len2 : Int) := by omega
            clear hT hK hdk
            go_wp2_with fail
            refine (step_any f rf z y2 l2 (lim16 o) dr2 a2 c2 d n t _ HT.out.t hdd).mono ?_
            intro e v3 hst
            have hpl := HT.out.step hst
            obtain ⟨rfl, hpl⟩ := hpl
            clear hst HT g0 g1 g2
            go_wp2
            go_roundw
            case rel => exact ⟨m + 1, by omega, by omega, by go_num, hpl⟩
            case measure => simp [intOf]; omega
          · have hlt' : len2 ≤ m ∨ 60 ≤ m := by omega
            clear hlt HR2
            obtain ⟨rf, y2, l2, dr2, a2, c2, hT⟩ := hh.open_
            clear hh
            have HT := Lib.hid hT
            have hll2 := hT.t.p.len
            clear hT
            by_cases hc2 : m < len2
            · have hm9 : ¬ m < 60 := by omega
              go_wp2_with fail
              refine (all_any g r l (lim16 o) dr hll _ HT.out.s.q).mono ?_
              rintro e v5 ⟨a3, c3, rfl, hown, hk5⟩
              go_wp2_with fail
              refine (all_any f rf l2 (lim16 o) dr2 hll2 _ (HT.out.t.q.keeps hk5 (by simp) (by simp))).mono ?_
              rintro e v6 ⟨a4, c4, rfl, hown2, hk6⟩
              go_wp2_with fail
              refine (pop_nil _).mono ?_
              rintro e v7 ⟨rfl, rfl⟩
              have hs6 := ((HT.out.s.keeps hk5 (by simp)).keeps hk6 (by simp)).keeps ((Keeps.refl [] v6).drew) (by simp)
              have ht6 := ((HT.out.t.keeps hk5 (by simp)).keeps hk6 (by simp)).keeps ((Keeps.refl [] v6).drew) (by simp)
              have hown6 := ownsRow_keeps (ownsRow_keeps hown hk6 (by simp)) ((Keeps.refl [] v6).drew) (by simp)
              have hown7 := ownsRow_keeps hown2 ((Keeps.refl [] v6).drew) (by simp)
              have p0 : v6.drew.cell? ⟨x, 0, none⟩ = some (.slice a1 l.length c1) := hs6.p.q.cell 0
              have p2 : v6.drew.cell? ⟨x, 2, none⟩ = some (.int .i64 dr) := hs6.p.q.cell 2
              have p3 : v6.drew.cell? ⟨z, 0, none⟩ = some (.slice a2 l2.length c2) := ht6.p.q.cell 0
              have hxv : x < v6.drew.heap.size := hs6.p.q.lt
              have hzv : z < v6.drew.heap.size := ht6.p.q.lt
              have HSM : Hid (∀ V, Keeps [] v6.drew V → Calls Try.prog 16 #[.slice a3 l.length c3, .slice a1 l.length c1] V (Quiet (.bool true) V)) := Lib.hid (fun V hv => same_any _ _ l.length a3 a1 c3 c1 l V hll (Reads.of_own (ownsRow_keeps hown6 hv (by simp))) (hs6.p.keeps hv (by simp) (by simp)).row.reads (own_spot hown6) (lst_spot hs6.p.row))
              have HSN : Hid (∀ V, Keeps [] v6.drew V → Calls Try.prog 16 #[.slice a4 l2.length c4, .slice a2 l2.length c2] V (Quiet (.bool true) V)) := Lib.hid (fun V hv => same_any _ _ l2.length a4 a2 c4 c2 l2 V hll2 (Reads.of_own (ownsRow_keeps hown7 hv (by simp))) (ht6.p.keeps hv (by simp) (by simp)).row.reads (own_spot hown7) (lst_spot ht6.p.row))
              have HDR := Lib.hid (fun V hv => drops_any g r l (lim16 o) dr V (hs6.q.keeps (w' := V) (S := []) hv (by simp) (by simp)))
              have HKK := Lib.hid (((HT.out.kp.trans hk5).trans hk6).drew)
              have hkr : Keeps [] v6.drew v6.drew := Keeps.refl _ _
              clear hs6 ht6 hown hown2 hown6 hown7 hk5 hk6 HT
              go_wp2_with fail
              refine wp_region_held_drew (S := (fun V => V.cell? ⟨x, 0, none⟩ = some (.slice a1 l.length c1) ∧ V.cell? ⟨x, 2, none⟩ = some (.int .i64 dr) ∧ V.cell? ⟨z, 0, none⟩ = some (.slice a2 l2.length c2) ∧ Keeps [] v6.drew V)) (by kernel_rfl) ⟨p0, p2, p3, hkr⟩ (fun hHeld => ?_)
              refine wpAnyH_ready (rs := [0]) (by kernel_rfl) (by simp) ?_
              refine AllReadyH.cons rfl (fun K hK => ?_) AllReadyH.nil
              go_simp
              refine (Fi.live_any _).mono ?_
              rintro e v8 ⟨rfl, hk8⟩
              try go_wp2_with fail
              refine hK.out _ _ (keep4 hHeld hk8 hxv hzv) (fun hHeld' => ?_)
              clear hK K hHeld
              have hHeld := hHeld'
              clear hHeld'
              try simp only [Act.put, List.setIfInBounds_toArray, List.set_cons_zero, List.set_cons_succ]
              refine' wpAnyH_take (i := 1) (oi := _) (v := _) ?hBpv1 (by kernel_rfl) (by kernel_rfl) (by kernel_rfl) ?hQBpv1 (Or.inl ⟨?hwBpv1, ?hyBpv1⟩) hHeld ?restBpv1
              case hBpv1 => (simp only [List.getElem?_toArray, List.getElem?_cons_succ, List.getElem?_cons_zero]; rfl)
              case hQBpv1 => exact fun _ _ _ h => h
              case hwBpv1 => rfl
              case hyBpv1 => (intro w hSw; (try dsimp only at hSw); go_simp; try with_reducible rfl)
              try simp only [Act.put, List.setIfInBounds_toArray, List.set_cons_zero, List.set_cons_succ]
              refine' wpAnyH_take (i := 2) (oi := _) (v := _) ?hBpv2 (by kernel_rfl) (by kernel_rfl) (by kernel_rfl) ?hQBpv2 (Or.inl ⟨?hwBpv2, ?hyBpv2⟩) hHeld ?restBpv2
              case hBpv2 => (simp only [List.getElem?_toArray, List.getElem?_cons_succ, List.getElem?_cons_zero]; rfl)
              case hQBpv2 => exact fun _ _ _ h => h
              case hwBpv2 => rfl
              case hyBpv2 => (intro w hSw; (try dsimp only at hSw); go_simp; try with_reducible rfl)
              try simp only [Act.put, List.setIfInBounds_toArray, List.set_cons_zero, List.set_cons_succ]
              refine' wpAnyH_take (i := 3) (oi := _) (v := _) ?hBpv3 (by kernel_rfl) (by kernel_rfl) (by kernel_rfl) ?hQBpv3 (Or.inl ⟨?hwBpv3, ?hyBpv3⟩) hHeld ?restBpv3
              case hBpv3 => (simp only [List.getElem?_toArray, List.getElem?_cons_succ, List.getElem?_cons_zero]; rfl)
              case hQBpv3 => exact fun _ _ _ h => h
              case hwBpv3 => rfl
              case hyBpv3 => (intro w hSw; (try dsimp only at hSw); go_simp; try with_reducible rfl)
              try simp only [Act.put, List.setIfInBounds_toArray, List.set_cons_zero, List.set_cons_succ]
              refine' wpAnyH_take (i := 4) (oi := _) (v := _) ?hBpv4 (by kernel_rfl) (by kernel_rfl) (by kernel_rfl) ?hQBpv4 (Or.inl ⟨?hwBpv4, ?hyBpv4⟩) hHeld ?restBpv4
              case hBpv4 => (simp only [List.getElem?_toArray, List.getElem?_cons_succ, List.getElem?_cons_zero]; rfl)
              case hQBpv4 => exact fun _ _ _ h => h
              case hwBpv4 => rfl
              case hyBpv4 => (intro w hSw; (try dsimp only at hSw); go_simp; try with_reducible rfl)
              try simp only [Act.put, List.setIfInBounds_toArray, List.set_cons_zero, List.set_cons_succ]
              refine' wpAnyH_take (i := 5) (oi := _) (v := _) ?hBpv5 (by kernel_rfl) (by kernel_rfl) (by kernel_rfl) ?hQBpv5 (Or.inl ⟨?hwBpv5, ?hyBpv5⟩) hHeld ?restBpv5
              case hBpv5 => (simp only [List.getElem?_toArray, List.getElem?_cons_succ, List.getElem?_cons_zero]; rfl)
              case hQBpv5 => exact fun _ _ _ h => h
              case hwBpv5 => rfl
              case hyBpv5 => (intro w hSw; (try dsimp only at hSw); go_simp; try with_reducible rfl)
              try simp only [Act.put, List.setIfInBounds_toArray, List.set_cons_zero, List.set_cons_succ]
              refine' wpAnyH_take (i := 6) (oi := _) (v := _) ?hBpv6 (by kernel_rfl) (by kernel_rfl) (by kernel_rfl) ?hQBpv6 (Or.inl ⟨?hwBpv6, ?hyBpv6⟩) hHeld ?restBpv6
              case hBpv6 => (simp only [List.getElem?_toArray, List.getElem?_cons_succ, List.getElem?_cons_zero]; rfl)
              case hQBpv6 => exact fun _ _ _ h => h
              case hwBpv6 => rfl
              case hyBpv6 => (intro w hSw; (try dsimp only at hSw); go_simp; try with_reducible rfl)
              try simp only [Act.put, List.setIfInBounds_toArray, List.set_cons_zero, List.set_cons_succ]
              refine' wpAnyH_take (i := 7) (oi := _) (v := _) ?hBpv7 (by kernel_rfl) (by kernel_rfl) (by kernel_rfl) ?hQBpv7 (Or.inl ⟨?hwBpv7, ?hyBpv7⟩) hHeld ?restBpv7
              case hBpv7 => (simp only [List.getElem?_toArray, List.getElem?_cons_succ, List.getElem?_cons_zero]; rfl)
              case hQBpv7 => exact fun _ _ _ h => h
              case hwBpv7 => rfl
              case hyBpv7 => (intro w hSw; (try dsimp only at hSw); go_simp; try with_reducible rfl)
              try simp only [Act.put, List.setIfInBounds_toArray, List.set_cons_zero, List.set_cons_succ]
              refine' wpAnyH_take (i := 8) (oi := _) (v := _) ?hBpv8 (by kernel_rfl) (by kernel_rfl) (by kernel_rfl) ?hQBpv8 (Or.inl ⟨?hwBpv8, ?hyBpv8⟩) hHeld ?restBpv8
              case hBpv8 => (simp only [List.getElem?_toArray, List.getElem?_cons_succ, List.getElem?_cons_zero]; rfl)
              case hQBpv8 => exact fun _ _ _ h => h
              case hwBpv8 => rfl
              case hyBpv8 => (intro w hSw; (try dsimp only at hSw); go_simp; try with_reducible rfl)
              try simp only [Act.put, List.setIfInBounds_toArray, List.set_cons_zero, List.set_cons_succ]
              refine' wpAnyH_take (i := 9) (oi := _) (v := _) ?hBpv9 (by kernel_rfl) (by kernel_rfl) (by kernel_rfl) ?hQBpv9 (Or.inl ⟨?hwBpv9, ?hyBpv9⟩) hHeld ?restBpv9
              case hBpv9 => (simp only [List.getElem?_toArray, List.getElem?_cons_succ, List.getElem?_cons_zero]; rfl)
              case hQBpv9 => exact fun _ _ _ h => h
              case hwBpv9 => rfl
              case hyBpv9 => (intro w hSw; (try dsimp only at hSw); go_simp; try with_reducible rfl)
              try simp only [Act.put, List.setIfInBounds_toArray, List.set_cons_zero, List.set_cons_succ]
              refine' wpAnyH_take (i := 10) (oi := _) (v := _) ?hBpv10 (by kernel_rfl) (by kernel_rfl) (by kernel_rfl) ?hQBpv10 (Or.inl ⟨?hwBpv10, ?hyBpv10⟩) hHeld ?restBpv10
              case hBpv10 => (simp only [List.getElem?_toArray, List.getElem?_cons_succ, List.getElem?_cons_zero]; rfl)
              case hQBpv10 => exact fun _ _ _ h => h
              case hwBpv10 => rfl
              case hyBpv10 => (intro w hSw; (try dsimp only at hSw); go_simp; try with_reducible rfl)
              try simp only [Act.put, List.setIfInBounds_toArray, List.set_cons_zero, List.set_cons_succ]
              refine' wpAnyH_take (i := 11) (oi := _) (v := _) ?hBpv11 (by kernel_rfl) (by kernel_rfl) (by kernel_rfl) ?hQBpv11 (Or.inl ⟨?hwBpv11, ?hyBpv11⟩) hHeld ?restBpv11
              case hBpv11 => (simp only [List.getElem?_toArray, List.getElem?_cons_succ, List.getElem?_cons_zero]; rfl)
              case hQBpv11 => exact fun _ _ _ h => h
              case hwBpv11 => rfl
              case hyBpv11 => (intro w hSw; (try dsimp only at hSw); go_simp; try with_reducible rfl)
              try simp only [Act.put, List.setIfInBounds_toArray, List.set_cons_zero, List.set_cons_succ]
              refine' wpAnyH_take (i := 12) (oi := _) (v := _) ?hBpv12 (by kernel_rfl) (by kernel_rfl) (by kernel_rfl) ?hQBpv12 (Or.inl ⟨?hwBpv12, ?hyBpv12⟩) hHeld ?restBpv12
              case hBpv12 => (simp only [List.getElem?_toArray, List.getElem?_cons_succ, List.getElem?_cons_zero]; rfl)
              case hQBpv12 => exact fun _ _ _ h => h
              case hwBpv12 => rfl
              case hyBpv12 => (intro w hSw; (try dsimp only at hSw); go_simp; try with_reducible rfl)
              try simp only [Act.put, List.setIfInBounds_toArray, List.set_cons_zero, List.set_cons_succ]
              refine wpAnyH_ready (rs := [13]) (by kernel_rfl) (by simp) ?_
              refine AllReadyH.cons rfl (fun K hK => ?_) AllReadyH.nil
              go_simp
              refine (HSM.out _ hHeld.2.2.2).mono ?_
              rintro e v8 ⟨rfl, hd8⟩
              try go_wp2_with fail
              refine hK.out _ _ (keep4 hHeld ((Keeps.refl [] _).drawn hd8) hxv hzv) (fun hHeld' => ?_)
              clear hK K hHeld
              have hHeld := hHeld'
              clear hHeld'
              try simp only [Act.put, List.setIfInBounds_toArray, List.set_cons_zero, List.set_cons_succ]
              refine' wpAnyH_take (i := 14) (oi := _) (v := _) ?hBpv14 (by kernel_rfl) (by kernel_rfl) (by kernel_rfl) ?hQBpv14 (Or.inl ⟨?hwBpv14, ?hyBpv14⟩) hHeld ?restBpv14
              case hBpv14 => (simp only [List.getElem?_toArray, List.getElem?_cons_succ, List.getElem?_cons_zero]; rfl)
              case hQBpv14 => exact fun _ _ _ h => h
              case hwBpv14 => rfl
              case hyBpv14 => (intro w hSw; (try dsimp only at hSw); go_simp; try with_reducible rfl)
              try simp only [Act.put, List.setIfInBounds_toArray, List.set_cons_zero, List.set_cons_succ]
              refine' wpAnyH_take (i := 15) (oi := _) (v := _) ?hBpv15 (by kernel_rfl) (by kernel_rfl) (by kernel_rfl) ?hQBpv15 (Or.inl ⟨?hwBpv15, ?hyBpv15⟩) hHeld ?restBpv15
              case hBpv15 => (simp only [List.getElem?_toArray, List.getElem?_cons_succ, List.getElem?_cons_zero]; rfl)
              case hQBpv15 => exact fun _ _ _ h => h
              case hwBpv15 => rfl
              case hyBpv15 => (intro w hSw; (try dsimp only at hSw); go_simp; try with_reducible rfl)
              try simp only [Act.put, List.setIfInBounds_toArray, List.set_cons_zero, List.set_cons_succ]
              refine' wpAnyH_take (i := 16) (oi := _) (v := _) ?hBpv16 (by kernel_rfl) (by kernel_rfl) (by kernel_rfl) ?hQBpv16 (Or.inl ⟨?hwBpv16, ?hyBpv16⟩) hHeld ?restBpv16
              case hBpv16 => (simp only [List.getElem?_toArray, List.getElem?_cons_succ, List.getElem?_cons_zero]; rfl)
              case hQBpv16 => exact fun _ _ _ h => h
              case hwBpv16 => rfl
              case hyBpv16 => (intro w hSw; (try dsimp only at hSw); go_simp; try with_reducible rfl)
              try simp only [Act.put, List.setIfInBounds_toArray, List.set_cons_zero, List.set_cons_succ]
              refine' wpAnyH_take (i := 17) (oi := _) (v := _) ?hBpv17 (by kernel_rfl) (by kernel_rfl) (by kernel_rfl) ?hQBpv17 (Or.inl ⟨?hwBpv17, ?hyBpv17⟩) hHeld ?restBpv17
              case hBpv17 => (simp only [List.getElem?_toArray, List.getElem?_cons_succ, List.getElem?_cons_zero]; rfl)
              case hQBpv17 => exact fun _ _ _ h => h
              case hwBpv17 => rfl
              case hyBpv17 => (intro w hSw; (try dsimp only at hSw); go_simp; try with_reducible rfl)
              try simp only [Act.put, List.setIfInBounds_toArray, List.set_cons_zero, List.set_cons_succ]
              refine' wpAnyH_take (i := 18) (oi := _) (v := _) ?hBpv18 (by kernel_rfl) (by kernel_rfl) (by kernel_rfl) ?hQBpv18 (Or.inl ⟨?hwBpv18, ?hyBpv18⟩) hHeld ?restBpv18
              case hBpv18 => (simp only [List.getElem?_toArray, List.getElem?_cons_succ, List.getElem?_cons_zero]; rfl)
              case hQBpv18 => exact fun _ _ _ h => h
              case hwBpv18 => rfl
              case hyBpv18 => (intro w hSw; (try dsimp only at hSw); go_simp; try with_reducible rfl)
              try simp only [Act.put, List.setIfInBounds_toArray, List.set_cons_zero, List.set_cons_succ]
              refine' wpAnyH_take (i := 19) (oi := _) (v := _) ?hBpv19 (by kernel_rfl) (by kernel_rfl) (by kernel_rfl) ?hQBpv19 (Or.inl ⟨?hwBpv19, ?hyBpv19⟩) hHeld ?restBpv19
              case hBpv19 => (simp only [List.getElem?_toArray, List.getElem?_cons_succ, List.getElem?_cons_zero]; rfl)
              case hQBpv19 => exact fun _ _ _ h => h
              case hwBpv19 => rfl
              case hyBpv19 => (intro w hSw; (try dsimp only at hSw); go_simp; try with_reducible rfl)
              try simp only [Act.put, List.setIfInBounds_toArray, List.set_cons_zero, List.set_cons_succ]
              refine' wpAnyH_take (i := 20) (oi := _) (v := _) ?hBpv20 (by kernel_rfl) (by kernel_rfl) (by kernel_rfl) ?hQBpv20 (Or.inl ⟨?hwBpv20, ?hyBpv20⟩) hHeld ?restBpv20
              case hBpv20 => (simp only [List.getElem?_toArray, List.getElem?_cons_succ, List.getElem?_cons_zero]; rfl)
              case hQBpv20 => exact fun _ _ _ h => h
              case hwBpv20 => rfl
              case hyBpv20 => (intro w hSw; (try dsimp only at hSw); go_simp; try with_reducible rfl)
              try simp only [Act.put, List.setIfInBounds_toArray, List.set_cons_zero, List.set_cons_succ]
              refine wpAnyH_ready (rs := [21]) (by kernel_rfl) (by simp) ?_
              refine AllReadyH.cons rfl (fun K hK => ?_) AllReadyH.nil
              go_simp
              refine (HSN.out _ hHeld.2.2.2).mono ?_
              rintro e v8 ⟨rfl, hd8⟩
              try go_wp2_with fail
              refine hK.out _ _ (keep4 hHeld ((Keeps.refl [] _).drawn hd8) hxv hzv) (fun hHeld' => ?_)
              clear hK K hHeld
              have hHeld := hHeld'
              clear hHeld'
              try simp only [Act.put, List.setIfInBounds_toArray, List.set_cons_zero, List.set_cons_succ]
              refine' wpAnyH_take (i := 22) (oi := _) (v := _) ?hBpv22 (by kernel_rfl) (by kernel_rfl) (by kernel_rfl) ?hQBpv22 (Or.inl ⟨?hwBpv22, ?hyBpv22⟩) hHeld ?restBpv22
              case hBpv22 => (simp only [List.getElem?_toArray, List.getElem?_cons_succ, List.getElem?_cons_zero]; rfl)
              case hQBpv22 => exact fun _ _ _ h => h
              case hwBpv22 => rfl
              case hyBpv22 => (intro w hSw; (try dsimp only at hSw); go_simp; try with_reducible rfl)
              try simp only [Act.put, List.setIfInBounds_toArray, List.set_cons_zero, List.set_cons_succ]
              refine' wpAnyH_take (i := 23) (oi := _) (v := _) ?hBpv23 (by kernel_rfl) (by kernel_rfl) (by kernel_rfl) ?hQBpv23 (Or.inl ⟨?hwBpv23, ?hyBpv23⟩) hHeld ?restBpv23
              case hBpv23 => (simp only [List.getElem?_toArray, List.getElem?_cons_succ, List.getElem?_cons_zero]; rfl)
              case hQBpv23 => exact fun _ _ _ h => h
              case hwBpv23 => rfl
              case hyBpv23 => (intro w hSw; (try dsimp only at hSw); go_simp; try with_reducible rfl)
              try simp only [Act.put, List.setIfInBounds_toArray, List.set_cons_zero, List.set_cons_succ]
              refine' wpAnyH_take (i := 24) (oi := _) (v := _) ?hBpv24 (by kernel_rfl) (by kernel_rfl) (by kernel_rfl) ?hQBpv24 (Or.inl ⟨?hwBpv24, ?hyBpv24⟩) hHeld ?restBpv24
              case hBpv24 => (simp only [List.getElem?_toArray, List.getElem?_cons_succ, List.getElem?_cons_zero]; rfl)
              case hQBpv24 => exact fun _ _ _ h => h
              case hwBpv24 => rfl
              case hyBpv24 => (intro w hSw; (try dsimp only at hSw); go_simp; try with_reducible rfl)
              try simp only [Act.put, List.setIfInBounds_toArray, List.set_cons_zero, List.set_cons_succ]
              refine' wpAnyH_take (i := 26) (oi := _) (v := _) ?hBpv26 (by kernel_rfl) (by kernel_rfl) (by kernel_rfl) ?hQBpv26 (Or.inl ⟨?hwBpv26, ?hyBpv26⟩) hHeld ?restBpv26
              case hBpv26 => (simp only [List.getElem?_toArray, List.getElem?_cons_succ, List.getElem?_cons_zero]; rfl)
              case hQBpv26 => exact fun _ _ _ h => h
              case hwBpv26 => rfl
              case hyBpv26 => (intro w hSw; (try dsimp only at hSw); go_simp; try with_reducible rfl)
              try simp only [Act.put, List.setIfInBounds_toArray, List.set_cons_zero, List.set_cons_succ]
              refine' wpAnyH_take (i := 27) (oi := _) (v := _) ?hBpv27 (by kernel_rfl) (by kernel_rfl) (by kernel_rfl) ?hQBpv27 (Or.inl ⟨?hwBpv27, ?hyBpv27⟩) hHeld ?restBpv27
              case hBpv27 => (simp only [List.getElem?_toArray, List.getElem?_cons_succ, List.getElem?_cons_zero]; rfl)
              case hQBpv27 => exact fun _ _ _ h => h
              case hwBpv27 => rfl
              case hyBpv27 => (intro w hSw; (try dsimp only at hSw); go_simp; try with_reducible rfl)
              try simp only [Act.put, List.setIfInBounds_toArray, List.set_cons_zero, List.set_cons_succ]
              refine' wpAnyH_take (i := 28) (oi := _) (v := _) ?hBpv28 (by kernel_rfl) (by kernel_rfl) (by kernel_rfl) ?hQBpv28 (Or.inl ⟨?hwBpv28, ?hyBpv28⟩) hHeld ?restBpv28
              case hBpv28 => (simp only [List.getElem?_toArray, List.getElem?_cons_succ, List.getElem?_cons_zero]; rfl)
              case hQBpv28 => exact fun _ _ _ h => h
              case hwBpv28 => rfl
              case hyBpv28 => (intro w hSw; (try dsimp only at hSw); go_simp; try with_reducible rfl)
              try simp only [Act.put, List.setIfInBounds_toArray, List.set_cons_zero, List.set_cons_succ]
              refine' wpAnyH_take (i := 29) (oi := _) (v := _) ?hBpv29 (by kernel_rfl) (by kernel_rfl) (by kernel_rfl) ?hQBpv29 (Or.inl ⟨?hwBpv29, ?hyBpv29⟩) hHeld ?restBpv29
              case hBpv29 => (simp only [List.getElem?_toArray, List.getElem?_cons_succ, List.getElem?_cons_zero]; rfl)
              case hQBpv29 => exact fun _ _ _ h => h
              case hwBpv29 => rfl
              case hyBpv29 => (intro w hSw; (try dsimp only at hSw); go_simp; try with_reducible rfl)
              try simp only [Act.put, List.setIfInBounds_toArray, List.set_cons_zero, List.set_cons_succ]
              refine wpAnyH_ready (rs := [25]) (by kernel_rfl) (by simp) ?_
              refine AllReadyH.cons rfl (fun K hK => ?_) AllReadyH.nil
              go_simp
              refine (HDR.out _ hHeld.2.2.2).mono ?_
              rintro e v8 ⟨rfl, rfl⟩
              try go_wp2_with fail
              refine hK.out _ _ (hHeld) (fun hHeld' => ?_)
              clear hK K hHeld
              have hHeld := hHeld'
              clear hHeld'
              try simp only [Act.put, List.setIfInBounds_toArray, List.set_cons_zero, List.set_cons_succ]
              refine' wpAnyH_take (i := 30) (oi := _) (v := _) ?hBpv30 (by kernel_rfl) (by kernel_rfl) (by kernel_rfl) ?hQBpv30 (Or.inl ⟨?hwBpv30, ?hyBpv30⟩) hHeld ?restBpv30
              case hBpv30 => (simp only [List.getElem?_toArray, List.getElem?_cons_succ, List.getElem?_cons_zero]; rfl)
              case hQBpv30 => exact fun _ _ _ h => h
              case hwBpv30 => rfl
              case hyBpv30 => (intro w hSw; (try dsimp only at hSw); go_simp; try with_reducible rfl)
              try simp only [Act.put, List.setIfInBounds_toArray, List.set_cons_zero, List.set_cons_succ]
              refine' wpAnyH_take (i := 31) (oi := _) (v := _) ?hBpv31 (by kernel_rfl) (by kernel_rfl) (by kernel_rfl) ?hQBpv31 (Or.inl ⟨?hwBpv31, ?hyBpv31⟩) hHeld ?restBpv31
              case hBpv31 => (simp only [List.getElem?_toArray, List.getElem?_cons_succ, List.getElem?_cons_zero]; rfl)
              case hQBpv31 => exact fun _ _ _ h => h
              case hwBpv31 => rfl
              case hyBpv31 => (intro w hSw; (try dsimp only at hSw); go_simp; try with_reducible rfl)
              try simp only [Act.put, List.setIfInBounds_toArray, List.set_cons_zero, List.set_cons_succ]
              refine' wpAnyH_take (i := 32) (oi := _) (v := _) ?hBpv32 (by kernel_rfl) (by kernel_rfl) (by kernel_rfl) ?hQBpv32 (Or.inl ⟨?hwBpv32, ?hyBpv32⟩) hHeld ?restBpv32
              case hBpv32 => (simp only [List.getElem?_toArray, List.getElem?_cons_succ, List.getElem?_cons_zero]; rfl)
              case hQBpv32 => exact fun _ _ _ h => h
              case hwBpv32 => rfl
              case hyBpv32 => (intro w hSw; (try dsimp only at hSw); go_simp; try with_reducible rfl)
              try simp only [Act.put, List.setIfInBounds_toArray, List.set_cons_zero, List.set_cons_succ]
              refine' wpAnyH_take (i := 33) (oi := _) (v := _) ?hBpv33 (by kernel_rfl) (by kernel_rfl) (by kernel_rfl) ?hQBpv33 (Or.inl ⟨?hwBpv33, ?hyBpv33⟩) hHeld ?restBpv33
              case hBpv33 => (simp only [List.getElem?_toArray, List.getElem?_cons_succ, List.getElem?_cons_zero]; rfl)
              case hQBpv33 => exact fun _ _ _ h => h
              case hwBpv33 => rfl
              case hyBpv33 => (intro w hSw; (try dsimp only at hSw); go_simp; try with_reducible rfl)
              try simp only [Act.put, List.setIfInBounds_toArray, List.set_cons_zero, List.set_cons_succ]
              refine wpAnyH_ready (rs := [34]) (by kernel_rfl) (by simp) ?_
              refine AllReadyH.cons rfl (fun K hK => ?_) AllReadyH.nil
              go_simp
              refine (push_nil _ _).mono ?_
              rintro e v8 ⟨rfl, rfl⟩
              try go_wp2_with fail
              refine hK.out _ _ (hHeld) (fun hHeld' => ?_)
              clear hK K hHeld
              have hHeld := hHeld'
              clear hHeld'
              try simp only [Act.put, List.setIfInBounds_toArray, List.set_cons_zero, List.set_cons_succ]
              refine' wpAnyH_take (i := 35) (oi := _) (v := _) ?hBpv35 (by kernel_rfl) (by kernel_rfl) (by kernel_rfl) ?hQBpv35 (Or.inl ⟨?hwBpv35, ?hyBpv35⟩) hHeld ?restBpv35
              case hBpv35 => (simp only [List.getElem?_toArray, List.getElem?_cons_succ, List.getElem?_cons_zero]; rfl)
              case hQBpv35 => exact fun _ _ _ h => h
              case hwBpv35 => rfl
              case hyBpv35 => (intro w hSw; (try dsimp only at hSw); go_simp; try with_reducible rfl)
              try simp only [Act.put, List.setIfInBounds_toArray, List.set_cons_zero, List.set_cons_succ]
              refine' wpAnyH_take (i := 36) (oi := _) (v := _) ?hBpv36 (by kernel_rfl) (by kernel_rfl) (by kernel_rfl) ?hQBpv36 (Or.inl ⟨?hwBpv36, ?hyBpv36⟩) hHeld ?restBpv36
              case hBpv36 => (simp only [List.getElem?_toArray, List.getElem?_cons_succ, List.getElem?_cons_zero]; rfl)
              case hQBpv36 => exact fun _ _ _ h => h
              case hwBpv36 => rfl
              case hyBpv36 => (intro w hSw; (try dsimp only at hSw); go_simp; try with_reducible rfl)
              try simp only [Act.put, List.setIfInBounds_toArray, List.set_cons_zero, List.set_cons_succ]
              refine' wpAnyH_take (i := 37) (oi := _) (v := _) ?hBpv37 (by kernel_rfl) (by kernel_rfl) (by kernel_rfl) ?hQBpv37 (Or.inl ⟨?hwBpv37, ?hyBpv37⟩) hHeld ?restBpv37
              case hBpv37 => (simp only [List.getElem?_toArray, List.getElem?_cons_succ, List.getElem?_cons_zero]; rfl)
              case hQBpv37 => exact fun _ _ _ h => h
              case hwBpv37 => rfl
              case hyBpv37 => (intro w hSw; (try dsimp only at hSw); go_simp; try with_reducible rfl)
              try simp only [Act.put, List.setIfInBounds_toArray, List.set_cons_zero, List.set_cons_succ]
              refine' wpAnyH_take (i := 38) (oi := _) (v := _) ?hBpv38 (by kernel_rfl) (by kernel_rfl) (by kernel_rfl) ?hQBpv38 (Or.inl ⟨?hwBpv38, ?hyBpv38⟩) hHeld ?restBpv38
              case hBpv38 => (simp only [List.getElem?_toArray, List.getElem?_cons_succ, List.getElem?_cons_zero]; rfl)
              case hQBpv38 => exact fun _ _ _ h => h
              case hwBpv38 => rfl
              case hyBpv38 => (intro w hSw; (try dsimp only at hSw); go_simp; try with_reducible rfl)
              try simp only [Act.put, List.setIfInBounds_toArray, List.set_cons_zero, List.set_cons_succ]
              refine' wpAnyH_take (i := 39) (oi := _) (v := _) ?hBpv39 (by kernel_rfl) (by kernel_rfl) (by kernel_rfl) ?hQBpv39 (Or.inl ⟨?hwBpv39, ?hyBpv39⟩) hHeld ?restBpv39
              case hBpv39 => (simp only [List.getElem?_toArray, List.getElem?_cons_succ, List.getElem?_cons_zero]; rfl)
              case hQBpv39 => exact fun _ _ _ h => h
              case hwBpv39 => rfl
              case hyBpv39 => (intro w hSw; (try dsimp only at hSw); go_simp; try with_reducible rfl)
              try simp only [Act.put, List.setIfInBounds_toArray, List.set_cons_zero, List.set_cons_succ]
              refine' wpAnyH_take (i := 40) (oi := _) (v := _) ?hBpv40 (by kernel_rfl) (by kernel_rfl) (by kernel_rfl) ?hQBpv40 (Or.inl ⟨?hwBpv40, ?hyBpv40⟩) hHeld ?restBpv40
              case hBpv40 => (simp only [List.getElem?_toArray, List.getElem?_cons_succ, List.getElem?_cons_zero]; rfl)
              case hQBpv40 => exact fun _ _ _ h => h
              case hwBpv40 => rfl
              case hyBpv40 => (intro w hSw; (try dsimp only at hSw); go_simp; try with_reducible rfl)
              try simp only [Act.put, List.setIfInBounds_toArray, List.set_cons_zero, List.set_cons_succ]
              refine' wpAnyH_take (i := 41) (oi := _) (v := _) ?hBpv41 (by kernel_rfl) (by kernel_rfl) (by kernel_rfl) ?hQBpv41 (Or.inl ⟨?hwBpv41, ?hyBpv41⟩) hHeld ?restBpv41
              case hBpv41 => (simp only [List.getElem?_toArray, List.getElem?_cons_succ, List.getElem?_cons_zero]; rfl)
              case hQBpv41 => exact fun _ _ _ h => h
              case hwBpv41 => rfl
              case hyBpv41 => (intro w hSw; (try dsimp only at hSw); go_simp; try with_reducible rfl)
              try simp only [Act.put, List.setIfInBounds_toArray, List.set_cons_zero, List.set_cons_succ]
              refine' wpAnyH_take (i := 42) (oi := _) (v := _) ?hBpv42 (by kernel_rfl) (by kernel_rfl) (by kernel_rfl) ?hQBpv42 (Or.inl ⟨?hwBpv42, ?hyBpv42⟩) hHeld ?restBpv42
              case hBpv42 => (simp only [List.getElem?_toArray, List.getElem?_cons_succ, List.getElem?_cons_zero]; rfl)
              case hQBpv42 => exact fun _ _ _ h => h
              case hwBpv42 => rfl
              case hyBpv42 => (intro w hSw; (try dsimp only at hSw); go_simp; try with_reducible rfl)
              try simp only [Act.put, List.setIfInBounds_toArray, List.set_cons_zero, List.set_cons_succ]
              refine' wpAnyH_take (i := 44) (oi := _) (v := _) ?hBpv44 (by kernel_rfl) (by kernel_rfl) (by kernel_rfl) ?hQBpv44 (Or.inl ⟨?hwBpv44, ?hyBpv44⟩) hHeld ?restBpv44
              case hBpv44 => (simp only [List.getElem?_toArray, List.getElem?_cons_succ, List.getElem?_cons_zero]; rfl)
              case hQBpv44 => exact fun _ _ _ h => h
              case hwBpv44 => rfl
              case hyBpv44 => (intro w hSw; (try dsimp only at hSw); go_simp; try with_reducible rfl)
              try simp only [Act.put, List.setIfInBounds_toArray, List.set_cons_zero, List.set_cons_succ]
              refine' wpAnyH_take (i := 47) (oi := _) (v := _) ?hBpv47 (by kernel_rfl) (by kernel_rfl) (by kernel_rfl) ?hQBpv47 (Or.inl ⟨?hwBpv47, ?hyBpv47⟩) hHeld ?restBpv47
              case hBpv47 => (simp only [List.getElem?_toArray, List.getElem?_cons_succ, List.getElem?_cons_zero]; rfl)
              case hQBpv47 => exact fun _ _ _ h => h
              case hwBpv47 => rfl
              case hyBpv47 => (intro w hSw; (try dsimp only at hSw); go_simp; try with_reducible rfl)
              try simp only [Act.put, List.setIfInBounds_toArray, List.set_cons_zero, List.set_cons_succ]
              refine' wpAnyH_take (i := 50) (oi := _) (v := _) ?hBpv50 (by kernel_rfl) (by kernel_rfl) (by kernel_rfl) ?hQBpv50 (Or.inl ⟨?hwBpv50, ?hyBpv50⟩) hHeld ?restBpv50
              case hBpv50 => (simp only [List.getElem?_toArray, List.getElem?_cons_succ, List.getElem?_cons_zero]; rfl)
              case hQBpv50 => exact fun _ _ _ h => h
              case hwBpv50 => rfl
              case hyBpv50 => (intro w hSw; (try dsimp only at hSw); go_simp; try with_reducible rfl)
              try simp only [Act.put, List.setIfInBounds_toArray, List.set_cons_zero, List.set_cons_succ]
              refine wpAnyH_ready (rs := [43]) (by kernel_rfl) (by simp) ?_
              refine AllReadyH.cons rfl (fun K hK => ?_) AllReadyH.nil
              go_simp
              refine (len_nil _).mono ?_
              rintro e v8 ⟨rfl, rfl⟩
              try go_wp2_with fail
              refine hK.out _ _ (hHeld) (fun hHeld' => ?_)
              clear hK K hHeld
              have hHeld := hHeld'
              clear hHeld'
              try simp only [Act.put, List.setIfInBounds_toArray, List.set_cons_zero, List.set_cons_succ]
              refine wpAnyH_ready (rs := [45]) (by kernel_rfl) (by simp) ?_
              refine AllReadyH.cons rfl (fun K hK => ?_) AllReadyH.nil
              go_simp
              refine (limit_nil _).mono ?_
              rintro e v8 ⟨rfl, rfl⟩
              try go_wp2_with fail
              refine hK.out _ _ (hHeld) (fun hHeld' => ?_)
              clear hK K hHeld
              have hHeld := hHeld'
              clear hHeld'
              try simp only [Act.put, List.setIfInBounds_toArray, List.set_cons_zero, List.set_cons_succ]
              refine' wpAnyH_take (i := 46) (oi := _) (v := _) ?hBpv46 (by kernel_rfl) (by kernel_rfl) (by kernel_rfl) ?hQBpv46 (Or.inl ⟨?hwBpv46, ?hyBpv46⟩) hHeld ?restBpv46
              case hBpv46 => (simp only [List.getElem?_toArray, List.getElem?_cons_succ, List.getElem?_cons_zero]; rfl)
              case hQBpv46 => exact fun _ _ _ h => h
              case hwBpv46 => rfl
              case hyBpv46 => (intro w hSw; (try dsimp only at hSw); go_simp; try with_reducible rfl)
              try simp only [Act.put, List.setIfInBounds_toArray, List.set_cons_zero, List.set_cons_succ]
              refine wpAnyH_ready (rs := [48]) (by kernel_rfl) (by simp) ?_
              refine AllReadyH.cons rfl (fun K hK => ?_) AllReadyH.nil
              go_simp
              refine (drops_nil _).mono ?_
              rintro e v8 ⟨rfl, rfl⟩
              try go_wp2_with fail
              refine hK.out _ _ (hHeld) (fun hHeld' => ?_)
              clear hK K hHeld
              have hHeld := hHeld'
              clear hHeld'
              try simp only [Act.put, List.setIfInBounds_toArray, List.set_cons_zero, List.set_cons_succ]
              refine' wpAnyH_take (i := 49) (oi := _) (v := _) ?hBpv49 (by kernel_rfl) (by kernel_rfl) (by kernel_rfl) ?hQBpv49 (Or.inl ⟨?hwBpv49, ?hyBpv49⟩) hHeld ?restBpv49
              case hBpv49 => (simp only [List.getElem?_toArray, List.getElem?_cons_succ, List.getElem?_cons_zero]; rfl)
              case hQBpv49 => exact fun _ _ _ h => h
              case hwBpv49 => rfl
              case hyBpv49 => (intro w hSw; (try dsimp only at hSw); go_simp; try with_reducible rfl)
              try simp only [Act.put, List.setIfInBounds_toArray, List.set_cons_zero, List.set_cons_succ]
              refine wpAnyH_ready (rs := [51]) (by kernel_rfl) (by simp) ?_
              refine AllReadyH.cons rfl (fun K hK => ?_) AllReadyH.nil
              go_simp
              refine (take_nil 3 (by decide) _).mono ?_
              rintro e v8 ⟨rfl, rfl⟩
              try go_wp2_with fail
              refine hK.out _ _ (hHeld) (fun hHeld' => ?_)
              clear hK K hHeld
              have hHeld := hHeld'
              clear hHeld'
              try simp only [Act.put, List.setIfInBounds_toArray, List.set_cons_zero, List.set_cons_succ]
              refine' wpAnyH_take (i := 52) (oi := _) (v := _) ?hBpv52 (by kernel_rfl) (by kernel_rfl) (by kernel_rfl) ?hQBpv52 (Or.inl ⟨?hwBpv52, ?hyBpv52⟩) hHeld ?restBpv52
              case hBpv52 => (simp only [List.getElem?_toArray, List.getElem?_cons_succ, List.getElem?_cons_zero]; rfl)
              case hQBpv52 => exact fun _ _ _ h => h
              case hwBpv52 => rfl
              case hyBpv52 => (intro w hSw; (try dsimp only at hSw); go_simp; try with_reducible rfl)
              try simp only [Act.put, List.setIfInBounds_toArray, List.set_cons_zero, List.set_cons_succ]
              refine' wpAnyH_take (i := 53) (oi := _) (v := _) ?hBpv53 (by kernel_rfl) (by kernel_rfl) (by kernel_rfl) ?hQBpv53 (Or.inl ⟨?hwBpv53, ?hyBpv53⟩) hHeld ?restBpv53
              case hBpv53 => (simp only [List.getElem?_toArray, List.getElem?_cons_succ, List.getElem?_cons_zero]; rfl)
              case hQBpv53 => exact fun _ _ _ h => h
              case hwBpv53 => rfl
              case hyBpv53 => (intro w hSw; (try dsimp only at hSw); go_simp; try with_reducible rfl)
              try simp only [Act.put, List.setIfInBounds_toArray, List.set_cons_zero, List.set_cons_succ]
              refine' wpAnyH_take (i := 54) (oi := _) (v := _) ?hBpv54 (by kernel_rfl) (by kernel_rfl) (by kernel_rfl) ?hQBpv54 (Or.inl ⟨?hwBpv54, ?hyBpv54⟩) hHeld ?restBpv54
              case hBpv54 => (simp only [List.getElem?_toArray, List.getElem?_cons_succ, List.getElem?_cons_zero]; rfl)
              case hQBpv54 => exact fun _ _ _ h => h
              case hwBpv54 => rfl
              case hyBpv54 => (intro w hSw; (try dsimp only at hSw); go_simp; try with_reducible rfl)
              try simp only [Act.put, List.setIfInBounds_toArray, List.set_cons_zero, List.set_cons_succ]
              refine' wpAnyH_take (i := 55) (oi := _) (v := _) ?hBpv55 (by kernel_rfl) (by kernel_rfl) (by kernel_rfl) ?hQBpv55 (Or.inl ⟨?hwBpv55, ?hyBpv55⟩) hHeld ?restBpv55
              case hBpv55 => (simp only [List.getElem?_toArray, List.getElem?_cons_succ, List.getElem?_cons_zero]; rfl)
              case hQBpv55 => exact fun _ _ _ h => h
              case hwBpv55 => rfl
              case hyBpv55 => (intro w hSw; (try dsimp only at hSw); go_simp; try with_reducible rfl)
              try simp only [Act.put, List.setIfInBounds_toArray, List.set_cons_zero, List.set_cons_succ]
              refine' wpAnyH_take (i := 56) (oi := _) (v := _) ?hBpv56 (by kernel_rfl) (by kernel_rfl) (by kernel_rfl) ?hQBpv56 (Or.inl ⟨?hwBpv56, ?hyBpv56⟩) hHeld ?restBpv56
              case hBpv56 => (simp only [List.getElem?_toArray, List.getElem?_cons_succ, List.getElem?_cons_zero]; rfl)
              case hQBpv56 => exact fun _ _ _ h => h
              case hwBpv56 => rfl
              case hyBpv56 => (intro w hSw; (try dsimp only at hSw); go_simp; try with_reducible rfl)
              try simp only [Act.put, List.setIfInBounds_toArray, List.set_cons_zero, List.set_cons_succ]
              refine' wpAnyH_take (i := 57) (oi := _) (v := _) ?hBpv57 (by kernel_rfl) (by kernel_rfl) (by kernel_rfl) ?hQBpv57 (Or.inl ⟨?hwBpv57, ?hyBpv57⟩) hHeld ?restBpv57
              case hBpv57 => (simp only [List.getElem?_toArray, List.getElem?_cons_succ, List.getElem?_cons_zero]; rfl)
              case hQBpv57 => exact fun _ _ _ h => h
              case hwBpv57 => rfl
              case hyBpv57 => (intro w hSw; (try dsimp only at hSw); go_simp; try with_reducible rfl)
              try simp only [Act.put, List.setIfInBounds_toArray, List.set_cons_zero, List.set_cons_succ]
              refine wpAnyH_ready (rs := [58]) (by kernel_rfl) (by simp) ?_
              refine AllReadyH.cons rfl (fun K hK => ?_) AllReadyH.nil
              go_simp
              refine (fork_nil _).mono ?_
              rintro e v8 ⟨rfl, rfl⟩
              try go_wp2_with fail
              refine hK.out _ _ (hHeld) (fun hHeld' => ?_)
              clear hK K hHeld
              have hHeld := hHeld'
              clear hHeld'
              try simp only [Act.put, List.setIfInBounds_toArray, List.set_cons_zero, List.set_cons_succ]
              refine' wpAnyH_take (i := 59) (oi := _) (v := _) ?hBpv59 (by kernel_rfl) (by kernel_rfl) (by kernel_rfl) ?hQBpv59 (Or.inl ⟨?hwBpv59, ?hyBpv59⟩) hHeld ?restBpv59
              case hBpv59 => (simp only [List.getElem?_toArray, List.getElem?_cons_succ, List.getElem?_cons_zero]; rfl)
              case hQBpv59 => exact fun _ _ _ h => h
              case hwBpv59 => rfl
              case hyBpv59 => (intro w hSw; (try dsimp only at hSw); go_simp; try with_reducible rfl)
              try simp only [Act.put, List.setIfInBounds_toArray, List.set_cons_zero, List.set_cons_succ]
              refine' wpAnyH_take (i := 60) (oi := _) (v := _) ?hBpv60 (by kernel_rfl) (by kernel_rfl) (by kernel_rfl) ?hQBpv60 (Or.inl ⟨?hwBpv60, ?hyBpv60⟩) hHeld ?restBpv60
              case hBpv60 => (simp only [List.getElem?_toArray, List.getElem?_cons_succ, List.getElem?_cons_zero]; rfl)
              case hQBpv60 => exact fun _ _ _ h => h
              case hwBpv60 => rfl
              case hyBpv60 => (intro w hSw; (try dsimp only at hSw); go_simp; try with_reducible rfl)
              try simp only [Act.put, List.setIfInBounds_toArray, List.set_cons_zero, List.set_cons_succ]
              refine' wpAnyH_take (i := 61) (oi := _) (v := _) ?hBpv61 (by kernel_rfl) (by kernel_rfl) (by kernel_rfl) ?hQBpv61 (Or.inl ⟨?hwBpv61, ?hyBpv61⟩) hHeld ?restBpv61
              case hBpv61 => (simp only [List.getElem?_toArray, List.getElem?_cons_succ, List.getElem?_cons_zero]; rfl)
              case hQBpv61 => exact fun _ _ _ h => h
              case hwBpv61 => rfl
              case hyBpv61 => (intro w hSw; (try dsimp only at hSw); go_simp; try with_reducible rfl)
              try simp only [Act.put, List.setIfInBounds_toArray, List.set_cons_zero, List.set_cons_succ]
              refine wpAnyH_done (by kernel_rfl) ?_ _
              clear p0 p2 p3 HSM HSN HDR hkr
              go_wp2
              go_ret
              exact ⟨rfl, (HKK.out.trans hHeld.2.2.2).all⟩
            · go_wp2_with fail
              refine (all_any g r l (lim16 o) dr hll _ HT.out.s.q).mono ?_
              rintro e v5 ⟨a3, c3, rfl, hown, hk5⟩
              go_wp2_with fail
              refine (all_any f rf l2 (lim16 o) dr2 hll2 _ (HT.out.t.q.keeps hk5 (by simp) (by simp))).mono ?_
              rintro e v6 ⟨a4, c4, rfl, hown2, hk6⟩
              go_wp2_with fail
              refine (pop_nil _).mono ?_
              rintro e v7 ⟨rfl, rfl⟩
              have hs6 := ((HT.out.s.keeps hk5 (by simp)).keeps hk6 (by simp)).keeps ((Keeps.refl [] v6).drew) (by simp)
              have ht6 := ((HT.out.t.keeps hk5 (by simp)).keeps hk6 (by simp)).keeps ((Keeps.refl [] v6).drew) (by simp)
              have hown6 := ownsRow_keeps (ownsRow_keeps hown hk6 (by simp)) ((Keeps.refl [] v6).drew) (by simp)
              have hown7 := ownsRow_keeps hown2 ((Keeps.refl [] v6).drew) (by simp)
              have p0 : v6.drew.cell? ⟨x, 0, none⟩ = some (.slice a1 l.length c1) := hs6.p.q.cell 0
              have p2 : v6.drew.cell? ⟨x, 2, none⟩ = some (.int .i64 dr) := hs6.p.q.cell 2
              have p3 : v6.drew.cell? ⟨z, 0, none⟩ = some (.slice a2 l2.length c2) := ht6.p.q.cell 0
              have hxv : x < v6.drew.heap.size := hs6.p.q.lt
              have hzv : z < v6.drew.heap.size := ht6.p.q.lt
              have HSM : Hid (∀ V, Keeps [] v6.drew V → Calls Try.prog 16 #[.slice a3 l.length c3, .slice a1 l.length c1] V (Quiet (.bool true) V)) := Lib.hid (fun V hv => same_any _ _ l.length a3 a1 c3 c1 l V hll (Reads.of_own (ownsRow_keeps hown6 hv (by simp))) (hs6.p.keeps hv (by simp) (by simp)).row.reads (own_spot hown6) (lst_spot hs6.p.row))
              have HSN : Hid (∀ V, Keeps [] v6.drew V → Calls Try.prog 16 #[.slice a4 l2.length c4, .slice a2 l2.length c2] V (Quiet (.bool true) V)) := Lib.hid (fun V hv => same_any _ _ l2.length a4 a2 c4 c2 l2 V hll2 (Reads.of_own (ownsRow_keeps hown7 hv (by simp))) (ht6.p.keeps hv (by simp) (by simp)).row.reads (own_spot hown7) (lst_spot ht6.p.row))
              have HDR := Lib.hid (fun V hv => drops_any g r l (lim16 o) dr V (hs6.q.keeps (w' := V) (S := []) hv (by simp) (by simp)))
              have HKK := Lib.hid (((HT.out.kp.trans hk5).trans hk6).drew)
              have hkr : Keeps [] v6.drew v6.drew := Keeps.refl _ _
              clear hs6 ht6 hown hown2 hown6 hown7 hk5 hk6 HT
              go_wp2_with fail
              refine wp_region_held_drew (S := (fun V => V.cell? ⟨x, 0, none⟩ = some (.slice a1 l.length c1) ∧ V.cell? ⟨x, 2, none⟩ = some (.int .i64 dr) ∧ V.cell? ⟨z, 0, none⟩ = some (.slice a2 l2.length c2) ∧ Keeps [] v6.drew V)) (by kernel_rfl) ⟨p0, p2, p3, hkr⟩ (fun hHeld => ?_)
              refine wpAnyH_ready (rs := [0]) (by kernel_rfl) (by simp) ?_
              refine AllReadyH.cons rfl (fun K hK => ?_) AllReadyH.nil
              go_simp
              refine (Fi.live_any _).mono ?_
              rintro e v8 ⟨rfl, hk8⟩
              try go_wp2_with fail
              refine hK.out _ _ (keep4 hHeld hk8 hxv hzv) (fun hHeld' => ?_)
              clear hK K hHeld
              have hHeld := hHeld'
              clear hHeld'
              try simp only [Act.put, List.setIfInBounds_toArray, List.set_cons_zero, List.set_cons_succ]
              refine' wpAnyH_take (i := 1) (oi := _) (v := _) ?hBqv1 (by kernel_rfl) (by kernel_rfl) (by kernel_rfl) ?hQBqv1 (Or.inl ⟨?hwBqv1, ?hyBqv1⟩) hHeld ?restBqv1
              case hBqv1 => (simp only [List.getElem?_toArray, List.getElem?_cons_succ, List.getElem?_cons_zero]; rfl)
              case hQBqv1 => exact fun _ _ _ h => h
              case hwBqv1 => rfl
              case hyBqv1 => (intro w hSw; (try dsimp only at hSw); go_simp; try with_reducible rfl)
              try simp only [Act.put, List.setIfInBounds_toArray, List.set_cons_zero, List.set_cons_succ]
              refine' wpAnyH_take (i := 2) (oi := _) (v := _) ?hBqv2 (by kernel_rfl) (by kernel_rfl) (by kernel_rfl) ?hQBqv2 (Or.inl ⟨?hwBqv2, ?hyBqv2⟩) hHeld ?restBqv2
              case hBqv2 => (simp only [List.getElem?_toArray, List.getElem?_cons_succ, List.getElem?_cons_zero]; rfl)
              case hQBqv2 => exact fun _ _ _ h => h
              case hwBqv2 => rfl
              case hyBqv2 => (intro w hSw; (try dsimp only at hSw); go_simp; try with_reducible rfl)
              try simp only [Act.put, List.setIfInBounds_toArray, List.set_cons_zero, List.set_cons_succ]
              refine' wpAnyH_take (i := 3) (oi := _) (v := _) ?hBqv3 (by kernel_rfl) (by kernel_rfl) (by kernel_rfl) ?hQBqv3 (Or.inl ⟨?hwBqv3, ?hyBqv3⟩) hHeld ?restBqv3
              case hBqv3 => (simp only [List.getElem?_toArray, List.getElem?_cons_succ, List.getElem?_cons_zero]; rfl)
              case hQBqv3 => exact fun _ _ _ h => h
              case hwBqv3 => rfl
              case hyBqv3 => (intro w hSw; (try dsimp only at hSw); go_simp; try with_reducible rfl)
              try simp only [Act.put, List.setIfInBounds_toArray, List.set_cons_zero, List.set_cons_succ]
              refine' wpAnyH_take (i := 4) (oi := _) (v := _) ?hBqv4 (by kernel_rfl) (by kernel_rfl) (by kernel_rfl) ?hQBqv4 (Or.inl ⟨?hwBqv4, ?hyBqv4⟩) hHeld ?restBqv4
              case hBqv4 => (simp only [List.getElem?_toArray, List.getElem?_cons_succ, List.getElem?_cons_zero]; rfl)
              case hQBqv4 => exact fun _ _ _ h => h
              case hwBqv4 => rfl
              case hyBqv4 => (intro w hSw; (try dsimp only at hSw); go_simp; try with_reducible rfl)
              try simp only [Act.put, List.setIfInBounds_toArray, List.set_cons_zero, List.set_cons_succ]
              refine' wpAnyH_take (i := 5) (oi := _) (v := _) ?hBqv5 (by kernel_rfl) (by kernel_rfl) (by kernel_rfl) ?hQBqv5 (Or.inl ⟨?hwBqv5, ?hyBqv5⟩) hHeld ?restBqv5
              case hBqv5 => (simp only [List.getElem?_toArray, List.getElem?_cons_succ, List.getElem?_cons_zero]; rfl)
              case hQBqv5 => exact fun _ _ _ h => h
              case hwBqv5 => rfl
              case hyBqv5 => (intro w hSw; (try dsimp only at hSw); go_simp; try with_reducible rfl)
              try simp only [Act.put, List.setIfInBounds_toArray, List.set_cons_zero, List.set_cons_succ]
              refine' wpAnyH_take (i := 6) (oi := _) (v := _) ?hBqv6 (by kernel_rfl) (by kernel_rfl) (by kernel_rfl) ?hQBqv6 (Or.inl ⟨?hwBqv6, ?hyBqv6⟩) hHeld ?restBqv6
              case hBqv6 => (simp only [List.getElem?_toArray, List.getElem?_cons_succ, List.getElem?_cons_zero]; rfl)
              case hQBqv6 => exact fun _ _ _ h => h
              case hwBqv6 => rfl
              case hyBqv6 => (intro w hSw; (try dsimp only at hSw); go_simp; try with_reducible rfl)
              try simp only [Act.put, List.setIfInBounds_toArray, List.set_cons_zero, List.set_cons_succ]
              refine' wpAnyH_take (i := 7) (oi := _) (v := _) ?hBqv7 (by kernel_rfl) (by kernel_rfl) (by kernel_rfl) ?hQBqv7 (Or.inl ⟨?hwBqv7, ?hyBqv7⟩) hHeld ?restBqv7
              case hBqv7 => (simp only [List.getElem?_toArray, List.getElem?_cons_succ, List.getElem?_cons_zero]; rfl)
              case hQBqv7 => exact fun _ _ _ h => h
              case hwBqv7 => rfl
              case hyBqv7 => (intro w hSw; (try dsimp only at hSw); go_simp; try with_reducible rfl)
              try simp only [Act.put, List.setIfInBounds_toArray, List.set_cons_zero, List.set_cons_succ]
              refine' wpAnyH_take (i := 8) (oi := _) (v := _) ?hBqv8 (by kernel_rfl) (by kernel_rfl) (by kernel_rfl) ?hQBqv8 (Or.inl ⟨?hwBqv8, ?hyBqv8⟩) hHeld ?restBqv8
              case hBqv8 => (simp only [List.getElem?_toArray, List.getElem?_cons_succ, List.getElem?_cons_zero]; rfl)
              case hQBqv8 => exact fun _ _ _ h => h
              case hwBqv8 => rfl
              case hyBqv8 => (intro w hSw; (try dsimp only at hSw); go_simp; try with_reducible rfl)
              try simp only [Act.put, List.setIfInBounds_toArray, List.set_cons_zero, List.set_cons_succ]
              refine' wpAnyH_take (i := 9) (oi := _) (v := _) ?hBqv9 (by kernel_rfl) (by kernel_rfl) (by kernel_rfl) ?hQBqv9 (Or.inl ⟨?hwBqv9, ?hyBqv9⟩) hHeld ?restBqv9
              case hBqv9 => (simp only [List.getElem?_toArray, List.getElem?_cons_succ, List.getElem?_cons_zero]; rfl)
              case hQBqv9 => exact fun _ _ _ h => h
              case hwBqv9 => rfl
              case hyBqv9 => (intro w hSw; (try dsimp only at hSw); go_simp; try with_reducible rfl)
              try simp only [Act.put, List.setIfInBounds_toArray, List.set_cons_zero, List.set_cons_succ]
              refine' wpAnyH_take (i := 10) (oi := _) (v := _) ?hBqv10 (by kernel_rfl) (by kernel_rfl) (by kernel_rfl) ?hQBqv10 (Or.inl ⟨?hwBqv10, ?hyBqv10⟩) hHeld ?restBqv10
              case hBqv10 => (simp only [List.getElem?_toArray, List.getElem?_cons_succ, List.getElem?_cons_zero]; rfl)
              case hQBqv10 => exact fun _ _ _ h => h
              case hwBqv10 => rfl
              case hyBqv10 => (intro w hSw; (try dsimp only at hSw); go_simp; try with_reducible rfl)
              try simp only [Act.put, List.setIfInBounds_toArray, List.set_cons_zero, List.set_cons_succ]
              refine' wpAnyH_take (i := 11) (oi := _) (v := _) ?hBqv11 (by kernel_rfl) (by kernel_rfl) (by kernel_rfl) ?hQBqv11 (Or.inl ⟨?hwBqv11, ?hyBqv11⟩) hHeld ?restBqv11
              case hBqv11 => (simp only [List.getElem?_toArray, List.getElem?_cons_succ, List.getElem?_cons_zero]; rfl)
              case hQBqv11 => exact fun _ _ _ h => h
              case hwBqv11 => rfl
              case hyBqv11 => (intro w hSw; (try dsimp only at hSw); go_simp; try with_reducible rfl)
              try simp only [Act.put, List.setIfInBounds_toArray, List.set_cons_zero, List.set_cons_succ]
              refine' wpAnyH_take (i := 12) (oi := _) (v := _) ?hBqv12 (by kernel_rfl) (by kernel_rfl) (by kernel_rfl) ?hQBqv12 (Or.inl ⟨?hwBqv12, ?hyBqv12⟩) hHeld ?restBqv12
              case hBqv12 => (simp only [List.getElem?_toArray, List.getElem?_cons_succ, List.getElem?_cons_zero]; rfl)
              case hQBqv12 => exact fun _ _ _ h => h
              case hwBqv12 => rfl
              case hyBqv12 => (intro w hSw; (try dsimp only at hSw); go_simp; try with_reducible rfl)
              try simp only [Act.put, List.setIfInBounds_toArray, List.set_cons_zero, List.set_cons_succ]
              refine wpAnyH_ready (rs := [13]) (by kernel_rfl) (by simp) ?_
              refine AllReadyH.cons rfl (fun K hK => ?_) AllReadyH.nil
              go_simp
              refine (HSM.out _ hHeld.2.2.2).mono ?_
              rintro e v8 ⟨rfl, hd8⟩
              try go_wp2_with fail
              refine hK.out _ _ (keep4 hHeld ((Keeps.refl [] _).drawn hd8) hxv hzv) (fun hHeld' => ?_)
              clear hK K hHeld
              have hHeld := hHeld'
              clear hHeld'
              try simp only [Act.put, List.setIfInBounds_toArray, List.set_cons_zero, List.set_cons_succ]
              refine' wpAnyH_take (i := 14) (oi := _) (v := _) ?hBqv14 (by kernel_rfl) (by kernel_rfl) (by kernel_rfl) ?hQBqv14 (Or.inl ⟨?hwBqv14, ?hyBqv14⟩) hHeld ?restBqv14
              case hBqv14 => (simp only [List.getElem?_toArray, List.getElem?_cons_succ, List.getElem?_cons_zero]; rfl)
              case hQBqv14 => exact fun _ _ _ h => h
              case hwBqv14 => rfl
              case hyBqv14 => (intro w hSw; (try dsimp only at hSw); go_simp; try with_reducible rfl)
              try simp only [Act.put, List.setIfInBounds_toArray, List.set_cons_zero, List.set_cons_succ]
              refine' wpAnyH_take (i := 15) (oi := _) (v := _) ?hBqv15 (by kernel_rfl) (by kernel_rfl) (by kernel_rfl) ?hQBqv15 (Or.inl ⟨?hwBqv15, ?hyBqv15⟩) hHeld ?restBqv15
              case hBqv15 => (simp only [List.getElem?_toArray, List.getElem?_cons_succ, List.getElem?_cons_zero]; rfl)
              case hQBqv15 => exact fun _ _ _ h => h
              case hwBqv15 => rfl
              case hyBqv15 => (intro w hSw; (try dsimp only at hSw); go_simp; try with_reducible rfl)
              try simp only [Act.put, List.setIfInBounds_toArray, List.set_cons_zero, List.set_cons_succ]
              refine' wpAnyH_take (i := 16) (oi := _) (v := _) ?hBqv16 (by kernel_rfl) (by kernel_rfl) (by kernel_rfl) ?hQBqv16 (Or.inl ⟨?hwBqv16, ?hyBqv16⟩) hHeld ?restBqv16
              case hBqv16 => (simp only [List.getElem?_toArray, List.getElem?_cons_succ, List.getElem?_cons_zero]; rfl)
              case hQBqv16 => exact fun _ _ _ h => h
              case hwBqv16 => rfl
              case hyBqv16 => (intro w hSw; (try dsimp only at hSw); go_simp; try with_reducible rfl)
              try simp only [Act.put, List.setIfInBounds_toArray, List.set_cons_zero, List.set_cons_succ]
              refine' wpAnyH_take (i := 17) (oi := _) (v := _) ?hBqv17 (by kernel_rfl) (by kernel_rfl) (by kernel_rfl) ?hQBqv17 (Or.inl ⟨?hwBqv17, ?hyBqv17⟩) hHeld ?restBqv17
              case hBqv17 => (simp only [List.getElem?_toArray, List.getElem?_cons_succ, List.getElem?_cons_zero]; rfl)
              case hQBqv17 => exact fun _ _ _ h => h
              case hwBqv17 => rfl
              case hyBqv17 => (intro w hSw; (try dsimp only at hSw); go_simp; try with_reducible rfl)
              try simp only [Act.put, List.setIfInBounds_toArray, List.set_cons_zero, List.set_cons_succ]
              refine' wpAnyH_take (i := 18) (oi := _) (v := _) ?hBqv18 (by kernel_rfl) (by kernel_rfl) (by kernel_rfl) ?hQBqv18 (Or.inl ⟨?hwBqv18, ?hyBqv18⟩) hHeld ?restBqv18
              case hBqv18 => (simp only [List.getElem?_toArray, List.getElem?_cons_succ, List.getElem?_cons_zero]; rfl)
              case hQBqv18 => exact fun _ _ _ h => h
              case hwBqv18 => rfl
              case hyBqv18 => (intro w hSw; (try dsimp only at hSw); go_simp; try with_reducible rfl)
              try simp only [Act.put, List.setIfInBounds_toArray, List.set_cons_zero, List.set_cons_succ]
              refine' wpAnyH_take (i := 19) (oi := _) (v := _) ?hBqv19 (by kernel_rfl) (by kernel_rfl) (by kernel_rfl) ?hQBqv19 (Or.inl ⟨?hwBqv19, ?hyBqv19⟩) hHeld ?restBqv19
              case hBqv19 => (simp only [List.getElem?_toArray, List.getElem?_cons_succ, List.getElem?_cons_zero]; rfl)
              case hQBqv19 => exact fun _ _ _ h => h
              case hwBqv19 => rfl
              case hyBqv19 => (intro w hSw; (try dsimp only at hSw); go_simp; try with_reducible rfl)
              try simp only [Act.put, List.setIfInBounds_toArray, List.set_cons_zero, List.set_cons_succ]
              refine' wpAnyH_take (i := 20) (oi := _) (v := _) ?hBqv20 (by kernel_rfl) (by kernel_rfl) (by kernel_rfl) ?hQBqv20 (Or.inl ⟨?hwBqv20, ?hyBqv20⟩) hHeld ?restBqv20
              case hBqv20 => (simp only [List.getElem?_toArray, List.getElem?_cons_succ, List.getElem?_cons_zero]; rfl)
              case hQBqv20 => exact fun _ _ _ h => h
              case hwBqv20 => rfl
              case hyBqv20 => (intro w hSw; (try dsimp only at hSw); go_simp; try with_reducible rfl)
              try simp only [Act.put, List.setIfInBounds_toArray, List.set_cons_zero, List.set_cons_succ]
              refine wpAnyH_ready (rs := [21]) (by kernel_rfl) (by simp) ?_
              refine AllReadyH.cons rfl (fun K hK => ?_) AllReadyH.nil
              go_simp
              refine (HSN.out _ hHeld.2.2.2).mono ?_
              rintro e v8 ⟨rfl, hd8⟩
              try go_wp2_with fail
              refine hK.out _ _ (keep4 hHeld ((Keeps.refl [] _).drawn hd8) hxv hzv) (fun hHeld' => ?_)
              clear hK K hHeld
              have hHeld := hHeld'
              clear hHeld'
              try simp only [Act.put, List.setIfInBounds_toArray, List.set_cons_zero, List.set_cons_succ]
              refine' wpAnyH_take (i := 22) (oi := _) (v := _) ?hBqv22 (by kernel_rfl) (by kernel_rfl) (by kernel_rfl) ?hQBqv22 (Or.inl ⟨?hwBqv22, ?hyBqv22⟩) hHeld ?restBqv22
              case hBqv22 => (simp only [List.getElem?_toArray, List.getElem?_cons_succ, List.getElem?_cons_zero]; rfl)
              case hQBqv22 => exact fun _ _ _ h => h
              case hwBqv22 => rfl
              case hyBqv22 => (intro w hSw; (try dsimp only at hSw); go_simp; try with_reducible rfl)
              try simp only [Act.put, List.setIfInBounds_toArray, List.set_cons_zero, List.set_cons_succ]
              refine' wpAnyH_take (i := 23) (oi := _) (v := _) ?hBqv23 (by kernel_rfl) (by kernel_rfl) (by kernel_rfl) ?hQBqv23 (Or.inl ⟨?hwBqv23, ?hyBqv23⟩) hHeld ?restBqv23
              case hBqv23 => (simp only [List.getElem?_toArray, List.getElem?_cons_succ, List.getElem?_cons_zero]; rfl)
              case hQBqv23 => exact fun _ _ _ h => h
              case hwBqv23 => rfl
              case hyBqv23 => (intro w hSw; (try dsimp only at hSw); go_simp; try with_reducible rfl)
              try simp only [Act.put, List.setIfInBounds_toArray, List.set_cons_zero, List.set_cons_succ]
              refine' wpAnyH_take (i := 24) (oi := _) (v := _) ?hBqv24 (by kernel_rfl) (by kernel_rfl) (by kernel_rfl) ?hQBqv24 (Or.inl ⟨?hwBqv24, ?hyBqv24⟩) hHeld ?restBqv24
              case hBqv24 => (simp only [List.getElem?_toArray, List.getElem?_cons_succ, List.getElem?_cons_zero]; rfl)
              case hQBqv24 => exact fun _ _ _ h => h
              case hwBqv24 => rfl
              case hyBqv24 => (intro w hSw; (try dsimp only at hSw); go_simp; try with_reducible rfl)
              try simp only [Act.put, List.setIfInBounds_toArray, List.set_cons_zero, List.set_cons_succ]
              refine' wpAnyH_take (i := 26) (oi := _) (v := _) ?hBqv26 (by kernel_rfl) (by kernel_rfl) (by kernel_rfl) ?hQBqv26 (Or.inl ⟨?hwBqv26, ?hyBqv26⟩) hHeld ?restBqv26
              case hBqv26 => (simp only [List.getElem?_toArray, List.getElem?_cons_succ, List.getElem?_cons_zero]; rfl)
              case hQBqv26 => exact fun _ _ _ h => h
              case hwBqv26 => rfl
              case hyBqv26 => (intro w hSw; (try dsimp only at hSw); go_simp; try with_reducible rfl)
              try simp only [Act.put, List.setIfInBounds_toArray, List.set_cons_zero, List.set_cons_succ]
              refine' wpAnyH_take (i := 27) (oi := _) (v := _) ?hBqv27 (by kernel_rfl) (by kernel_rfl) (by kernel_rfl) ?hQBqv27 (Or.inl ⟨?hwBqv27, ?hyBqv27⟩) hHeld ?restBqv27
              case hBqv27 => (simp only [List.getElem?_toArray, List.getElem?_cons_succ, List.getElem?_cons_zero]; rfl)
              case hQBqv27 => exact fun _ _ _ h => h
              case hwBqv27 => rfl
              case hyBqv27 => (intro w hSw; (try dsimp only at hSw); go_simp; try with_reducible rfl)
              try simp only [Act.put, List.setIfInBounds_toArray, List.set_cons_zero, List.set_cons_succ]
              refine' wpAnyH_take (i := 28) (oi := _) (v := _) ?hBqv28 (by kernel_rfl) (by kernel_rfl) (by kernel_rfl) ?hQBqv28 (Or.inl ⟨?hwBqv28, ?hyBqv28⟩) hHeld ?restBqv28
              case hBqv28 => (simp only [List.getElem?_toArray, List.getElem?_cons_succ, List.getElem?_cons_zero]; rfl)
              case hQBqv28 => exact fun _ _ _ h => h
              case hwBqv28 => rfl
              case hyBqv28 => (intro w hSw; (try dsimp only at hSw); go_simp; try with_reducible rfl)
              try simp only [Act.put, List.setIfInBounds_toArray, List.set_cons_zero, List.set_cons_succ]
              refine' wpAnyH_take (i := 29) (oi := _) (v := _) ?hBqv29 (by kernel_rfl) (by kernel_rfl) (by kernel_rfl) ?hQBqv29 (Or.inl ⟨?hwBqv29, ?hyBqv29⟩) hHeld ?restBqv29
              case hBqv29 => (simp only [List.getElem?_toArray, List.getElem?_cons_succ, List.getElem?_cons_zero]; rfl)
              case hQBqv29 => exact fun _ _ _ h => h
              case hwBqv29 => rfl
              case hyBqv29 => (intro w hSw; (try dsimp only at hSw); go_simp; try with_reducible rfl)
              try simp only [Act.put, List.setIfInBounds_toArray, List.set_cons_zero, List.set_cons_succ]
              refine wpAnyH_ready (rs := [25]) (by kernel_rfl) (by simp) ?_
              refine AllReadyH.cons rfl (fun K hK => ?_) AllReadyH.nil
              go_simp
              refine (HDR.out _ hHeld.2.2.2).mono ?_
              rintro e v8 ⟨rfl, rfl⟩
              try go_wp2_with fail
              refine hK.out _ _ (hHeld) (fun hHeld' => ?_)
              clear hK K hHeld
              have hHeld := hHeld'
              clear hHeld'
              try simp only [Act.put, List.setIfInBounds_toArray, List.set_cons_zero, List.set_cons_succ]
              refine' wpAnyH_take (i := 30) (oi := _) (v := _) ?hBqv30 (by kernel_rfl) (by kernel_rfl) (by kernel_rfl) ?hQBqv30 (Or.inl ⟨?hwBqv30, ?hyBqv30⟩) hHeld ?restBqv30
              case hBqv30 => (simp only [List.getElem?_toArray, List.getElem?_cons_succ, List.getElem?_cons_zero]; rfl)
              case hQBqv30 => exact fun _ _ _ h => h
              case hwBqv30 => rfl
              case hyBqv30 => (intro w hSw; (try dsimp only at hSw); go_simp; try with_reducible rfl)
              try simp only [Act.put, List.setIfInBounds_toArray, List.set_cons_zero, List.set_cons_succ]
              refine' wpAnyH_take (i := 31) (oi := _) (v := _) ?hBqv31 (by kernel_rfl) (by kernel_rfl) (by kernel_rfl) ?hQBqv31 (Or.inl ⟨?hwBqv31, ?hyBqv31⟩) hHeld ?restBqv31
              case hBqv31 => (simp only [List.getElem?_toArray, List.getElem?_cons_succ, List.getElem?_cons_zero]; rfl)
              case hQBqv31 => exact fun _ _ _ h => h
              case hwBqv31 => rfl
              case hyBqv31 => (intro w hSw; (try dsimp only at hSw); go_simp; try with_reducible rfl)
              try simp only [Act.put, List.setIfInBounds_toArray, List.set_cons_zero, List.set_cons_succ]
              refine' wpAnyH_take (i := 32) (oi := _) (v := _) ?hBqv32 (by kernel_rfl) (by kernel_rfl) (by kernel_rfl) ?hQBqv32 (Or.inl ⟨?hwBqv32, ?hyBqv32⟩) hHeld ?restBqv32
              case hBqv32 => (simp only [List.getElem?_toArray, List.getElem?_cons_succ, List.getElem?_cons_zero]; rfl)
              case hQBqv32 => exact fun _ _ _ h => h
              case hwBqv32 => rfl
              case hyBqv32 => (intro w hSw; (try dsimp only at hSw); go_simp; try with_reducible rfl)
              try simp only [Act.put, List.setIfInBounds_toArray, List.set_cons_zero, List.set_cons_succ]
              refine' wpAnyH_take (i := 33) (oi := _) (v := _) ?hBqv33 (by kernel_rfl) (by kernel_rfl) (by kernel_rfl) ?hQBqv33 (Or.inl ⟨?hwBqv33, ?hyBqv33⟩) hHeld ?restBqv33
              case hBqv33 => (simp only [List.getElem?_toArray, List.getElem?_cons_succ, List.getElem?_cons_zero]; rfl)
              case hQBqv33 => exact fun _ _ _ h => h
              case hwBqv33 => rfl
              case hyBqv33 => (intro w hSw; (try dsimp only at hSw); go_simp; try with_reducible rfl)
              try simp only [Act.put, List.setIfInBounds_toArray, List.set_cons_zero, List.set_cons_succ]
              refine wpAnyH_ready (rs := [34]) (by kernel_rfl) (by simp) ?_
              refine AllReadyH.cons rfl (fun K hK => ?_) AllReadyH.nil
              go_simp
              refine (push_nil _ _).mono ?_
              rintro e v8 ⟨rfl, rfl⟩
              try go_wp2_with fail
              refine hK.out _ _ (hHeld) (fun hHeld' => ?_)
              clear hK K hHeld
              have hHeld := hHeld'
              clear hHeld'
              try simp only [Act.put, List.setIfInBounds_toArray, List.set_cons_zero, List.set_cons_succ]
              refine' wpAnyH_take (i := 35) (oi := _) (v := _) ?hBqv35 (by kernel_rfl) (by kernel_rfl) (by kernel_rfl) ?hQBqv35 (Or.inl ⟨?hwBqv35, ?hyBqv35⟩) hHeld ?restBqv35
              case hBqv35 => (simp only [List.getElem?_toArray, List.getElem?_cons_succ, List.getElem?_cons_zero]; rfl)
              case hQBqv35 => exact fun _ _ _ h => h
              case hwBqv35 => rfl
              case hyBqv35 => (intro w hSw; (try dsimp only at hSw); go_simp; try with_reducible rfl)
              try simp only [Act.put, List.setIfInBounds_toArray, List.set_cons_zero, List.set_cons_succ]
              refine' wpAnyH_take (i := 36) (oi := _) (v := _) ?hBqv36 (by kernel_rfl) (by kernel_rfl) (by kernel_rfl) ?hQBqv36 (Or.inl ⟨?hwBqv36, ?hyBqv36⟩) hHeld ?restBqv36
              case hBqv36 => (simp only [List.getElem?_toArray, List.getElem?_cons_succ, List.getElem?_cons_zero]; rfl)
              case hQBqv36 => exact fun _ _ _ h => h
              case hwBqv36 => rfl
              case hyBqv36 => (intro w hSw; (try dsimp only at hSw); go_simp; try with_reducible rfl)
              try simp only [Act.put, List.setIfInBounds_toArray, List.set_cons_zero, List.set_cons_succ]
              refine' wpAnyH_take (i := 37) (oi := _) (v := _) ?hBqv37 (by kernel_rfl) (by kernel_rfl) (by kernel_rfl) ?hQBqv37 (Or.inl ⟨?hwBqv37, ?hyBqv37⟩) hHeld ?restBqv37
              case hBqv37 => (simp only [List.getElem?_toArray, List.getElem?_cons_succ, List.getElem?_cons_zero]; rfl)
              case hQBqv37 => exact fun _ _ _ h => h
              case hwBqv37 => rfl
              case hyBqv37 => (intro w hSw; (try dsimp only at hSw); go_simp; try with_reducible rfl)
              try simp only [Act.put, List.setIfInBounds_toArray, List.set_cons_zero, List.set_cons_succ]
              refine' wpAnyH_take (i := 38) (oi := _) (v := _) ?hBqv38 (by kernel_rfl) (by kernel_rfl) (by kernel_rfl) ?hQBqv38 (Or.inl ⟨?hwBqv38, ?hyBqv38⟩) hHeld ?restBqv38
              case hBqv38 => (simp only [List.getElem?_toArray, List.getElem?_cons_succ, List.getElem?_cons_zero]; rfl)
              case hQBqv38 => exact fun _ _ _ h => h
              case hwBqv38 => rfl
              case hyBqv38 => (intro w hSw; (try dsimp only at hSw); go_simp; try with_reducible rfl)
              try simp only [Act.put, List.setIfInBounds_toArray, List.set_cons_zero, List.set_cons_succ]
              refine' wpAnyH_take (i := 39) (oi := _) (v := _) ?hBqv39 (by kernel_rfl) (by kernel_rfl) (by kernel_rfl) ?hQBqv39 (Or.inl ⟨?hwBqv39, ?hyBqv39⟩) hHeld ?restBqv39
              case hBqv39 => (simp only [List.getElem?_toArray, List.getElem?_cons_succ, List.getElem?_cons_zero]; rfl)
              case hQBqv39 => exact fun _ _ _ h => h
              case hwBqv39 => rfl
              case hyBqv39 => (intro w hSw; (try dsimp only at hSw); go_simp; try with_reducible rfl)
              try simp only [Act.put, List.setIfInBounds_toArray, List.set_cons_zero, List.set_cons_succ]
              refine' wpAnyH_take (i := 40) (oi := _) (v := _) ?hBqv40 (by kernel_rfl) (by kernel_rfl) (by kernel_rfl) ?hQBqv40 (Or.inl ⟨?hwBqv40, ?hyBqv40⟩) hHeld ?restBqv40
              case hBqv40 => (simp only [List.getElem?_toArray, List.getElem?_cons_succ, List.getElem?_cons_zero]; rfl)
              case hQBqv40 => exact fun _ _ _ h => h
              case hwBqv40 => rfl
              case hyBqv40 => (intro w hSw; (try dsimp only at hSw); go_simp; try with_reducible rfl)
              try simp only [Act.put, List.setIfInBounds_toArray, List.set_cons_zero, List.set_cons_succ]
              refine' wpAnyH_take (i := 41) (oi := _) (v := _) ?hBqv41 (by kernel_rfl) (by kernel_rfl) (by kernel_rfl) ?hQBqv41 (Or.inl ⟨?hwBqv41, ?hyBqv41⟩) hHeld ?restBqv41
              case hBqv41 => (simp only [List.getElem?_toArray, List.getElem?_cons_succ, List.getElem?_cons_zero]; rfl)
              case hQBqv41 => exact fun _ _ _ h => h
              case hwBqv41 => rfl
              case hyBqv41 => (intro w hSw; (try dsimp only at hSw); go_simp; try with_reducible rfl)
              try simp only [Act.put, List.setIfInBounds_toArray, List.set_cons_zero, List.set_cons_succ]
              refine' wpAnyH_take (i := 42) (oi := _) (v := _) ?hBqv42 (by kernel_rfl) (by kernel_rfl) (by kernel_rfl) ?hQBqv42 (Or.inl ⟨?hwBqv42, ?hyBqv42⟩) hHeld ?restBqv42
              case hBqv42 => (simp only [List.getElem?_toArray, List.getElem?_cons_succ, List.getElem?_cons_zero]; rfl)
              case hQBqv42 => exact fun _ _ _ h => h
              case hwBqv42 => rfl
              case hyBqv42 => (intro w hSw; (try dsimp only at hSw); go_simp; try with_reducible rfl)
              try simp only [Act.put, List.setIfInBounds_toArray, List.set_cons_zero, List.set_cons_succ]
              refine' wpAnyH_take (i := 44) (oi := _) (v := _) ?hBqv44 (by kernel_rfl) (by kernel_rfl) (by kernel_rfl) ?hQBqv44 (Or.inl ⟨?hwBqv44, ?hyBqv44⟩) hHeld ?restBqv44
              case hBqv44 => (simp only [List.getElem?_toArray, List.getElem?_cons_succ, List.getElem?_cons_zero]; rfl)
              case hQBqv44 => exact fun _ _ _ h => h
              case hwBqv44 => rfl
              case hyBqv44 => (intro w hSw; (try dsimp only at hSw); go_simp; try with_reducible rfl)
              try simp only [Act.put, List.setIfInBounds_toArray, List.set_cons_zero, List.set_cons_succ]
              refine' wpAnyH_take (i := 47) (oi := _) (v := _) ?hBqv47 (by kernel_rfl) (by kernel_rfl) (by kernel_rfl) ?hQBqv47 (Or.inl ⟨?hwBqv47, ?hyBqv47⟩) hHeld ?restBqv47
              case hBqv47 => (simp only [List.getElem?_toArray, List.getElem?_cons_succ, List.getElem?_cons_zero]; rfl)
              case hQBqv47 => exact fun _ _ _ h => h
              case hwBqv47 => rfl
              case hyBqv47 => (intro w hSw; (try dsimp only at hSw); go_simp; try with_reducible rfl)
              try simp only [Act.put, List.setIfInBounds_toArray, List.set_cons_zero, List.set_cons_succ]
              refine' wpAnyH_take (i := 50) (oi := _) (v := _) ?hBqv50 (by kernel_rfl) (by kernel_rfl) (by kernel_rfl) ?hQBqv50 (Or.inl ⟨?hwBqv50, ?hyBqv50⟩) hHeld ?restBqv50
              case hBqv50 => (simp only [List.getElem?_toArray, List.getElem?_cons_succ, List.getElem?_cons_zero]; rfl)
              case hQBqv50 => exact fun _ _ _ h => h
              case hwBqv50 => rfl
              case hyBqv50 => (intro w hSw; (try dsimp only at hSw); go_simp; try with_reducible rfl)
              try simp only [Act.put, List.setIfInBounds_toArray, List.set_cons_zero, List.set_cons_succ]
              refine wpAnyH_ready (rs := [43]) (by kernel_rfl) (by simp) ?_
              refine AllReadyH.cons rfl (fun K hK => ?_) AllReadyH.nil
              go_simp
              refine (len_nil _).mono ?_
              rintro e v8 ⟨rfl, rfl⟩
              try go_wp2_with fail
              refine hK.out _ _ (hHeld) (fun hHeld' => ?_)
              clear hK K hHeld
              have hHeld := hHeld'
              clear hHeld'
              try simp only [Act.put, List.setIfInBounds_toArray, List.set_cons_zero, List.set_cons_succ]
              refine wpAnyH_ready (rs := [45]) (by kernel_rfl) (by simp) ?_
              refine AllReadyH.cons rfl (fun K hK => ?_) AllReadyH.nil
              go_simp
              refine (limit_nil _).mono ?_
              rintro e v8 ⟨rfl, rfl⟩
              try go_wp2_with fail
              refine hK.out _ _ (hHeld) (fun hHeld' => ?_)
              clear hK K hHeld
              have hHeld := hHeld'
              clear hHeld'
              try simp only [Act.put, List.setIfInBounds_toArray, List.set_cons_zero, List.set_cons_succ]
              refine' wpAnyH_take (i := 46) (oi := _) (v := _) ?hBqv46 (by kernel_rfl) (by kernel_rfl) (by kernel_rfl) ?hQBqv46 (Or.inl ⟨?hwBqv46, ?hyBqv46⟩) hHeld ?restBqv46
              case hBqv46 => (simp only [List.getElem?_toArray, List.getElem?_cons_succ, List.getElem?_cons_zero]; rfl)
              case hQBqv46 => exact fun _ _ _ h => h
              case hwBqv46 => rfl
              case hyBqv46 => (intro w hSw; (try dsimp only at hSw); go_simp; try with_reducible rfl)
              try simp only [Act.put, List.setIfInBounds_toArray, List.set_cons_zero, List.set_cons_succ]
              refine wpAnyH_ready (rs := [48]) (by kernel_rfl) (by simp) ?_
              refine AllReadyH.cons rfl (fun K hK => ?_) AllReadyH.nil
              go_simp
              refine (drops_nil _).mono ?_
              rintro e v8 ⟨rfl, rfl⟩
              try go_wp2_with fail
              refine hK.out _ _ (hHeld) (fun hHeld' => ?_)
              clear hK K hHeld
              have hHeld := hHeld'
              clear hHeld'
              try simp only [Act.put, List.setIfInBounds_toArray, List.set_cons_zero, List.set_cons_succ]
              refine' wpAnyH_take (i := 49) (oi := _) (v := _) ?hBqv49 (by kernel_rfl) (by kernel_rfl) (by kernel_rfl) ?hQBqv49 (Or.inl ⟨?hwBqv49, ?hyBqv49⟩) hHeld ?restBqv49
              case hBqv49 => (simp only [List.getElem?_toArray, List.getElem?_cons_succ, List.getElem?_cons_zero]; rfl)
              case hQBqv49 => exact fun _ _ _ h => h
              case hwBqv49 => rfl
              case hyBqv49 => (intro w hSw; (try dsimp only at hSw); go_simp; try with_reducible rfl)
              try simp only [Act.put, List.setIfInBounds_toArray, List.set_cons_zero, List.set_cons_succ]
              refine wpAnyH_ready (rs := [51]) (by kernel_rfl) (by simp) ?_
              refine AllReadyH.cons rfl (fun K hK => ?_) AllReadyH.nil
              go_simp
              refine (take_nil 3 (by decide) _).mono ?_
              rintro e v8 ⟨rfl, rfl⟩
              try go_wp2_with fail
              refine hK.out _ _ (hHeld) (fun hHeld' => ?_)
              clear hK K hHeld
              have hHeld := hHeld'
              clear hHeld'
              try simp only [Act.put, List.setIfInBounds_toArray, List.set_cons_zero, List.set_cons_succ]
              refine' wpAnyH_take (i := 52) (oi := _) (v := _) ?hBqv52 (by kernel_rfl) (by kernel_rfl) (by kernel_rfl) ?hQBqv52 (Or.inl ⟨?hwBqv52, ?hyBqv52⟩) hHeld ?restBqv52
              case hBqv52 => (simp only [List.getElem?_toArray, List.getElem?_cons_succ, List.getElem?_cons_zero]; rfl)
              case hQBqv52 => exact fun _ _ _ h => h
              case hwBqv52 => rfl
              case hyBqv52 => (intro w hSw; (try dsimp only at hSw); go_simp; try with_reducible rfl)
              try simp only [Act.put, List.setIfInBounds_toArray, List.set_cons_zero, List.set_cons_succ]
              refine' wpAnyH_take (i := 53) (oi := _) (v := _) ?hBqv53 (by kernel_rfl) (by kernel_rfl) (by kernel_rfl) ?hQBqv53 (Or.inl ⟨?hwBqv53, ?hyBqv53⟩) hHeld ?restBqv53
              case hBqv53 => (simp only [List.getElem?_toArray, List.getElem?_cons_succ, List.getElem?_cons_zero]; rfl)
              case hQBqv53 => exact fun _ _ _ h => h
              case hwBqv53 => rfl
              case hyBqv53 => (intro w hSw; (try dsimp only at hSw); go_simp; try with_reducible rfl)
              try simp only [Act.put, List.setIfInBounds_toArray, List.set_cons_zero, List.set_cons_succ]
              refine' wpAnyH_take (i := 54) (oi := _) (v := _) ?hBqv54 (by kernel_rfl) (by kernel_rfl) (by kernel_rfl) ?hQBqv54 (Or.inl ⟨?hwBqv54, ?hyBqv54⟩) hHeld ?restBqv54
              case hBqv54 => (simp only [List.getElem?_toArray, List.getElem?_cons_succ, List.getElem?_cons_zero]; rfl)
              case hQBqv54 => exact fun _ _ _ h => h
              case hwBqv54 => rfl
              case hyBqv54 => (intro w hSw; (try dsimp only at hSw); go_simp; try with_reducible rfl)
              try simp only [Act.put, List.setIfInBounds_toArray, List.set_cons_zero, List.set_cons_succ]
              refine' wpAnyH_take (i := 55) (oi := _) (v := _) ?hBqv55 (by kernel_rfl) (by kernel_rfl) (by kernel_rfl) ?hQBqv55 (Or.inl ⟨?hwBqv55, ?hyBqv55⟩) hHeld ?restBqv55
              case hBqv55 => (simp only [List.getElem?_toArray, List.getElem?_cons_succ, List.getElem?_cons_zero]; rfl)
              case hQBqv55 => exact fun _ _ _ h => h
              case hwBqv55 => rfl
              case hyBqv55 => (intro w hSw; (try dsimp only at hSw); go_simp; try with_reducible rfl)
              try simp only [Act.put, List.setIfInBounds_toArray, List.set_cons_zero, List.set_cons_succ]
              refine' wpAnyH_take (i := 56) (oi := _) (v := _) ?hBqv56 (by kernel_rfl) (by kernel_rfl) (by kernel_rfl) ?hQBqv56 (Or.inl ⟨?hwBqv56, ?hyBqv56⟩) hHeld ?restBqv56
              case hBqv56 => (simp only [List.getElem?_toArray, List.getElem?_cons_succ, List.getElem?_cons_zero]; rfl)
              case hQBqv56 => exact fun _ _ _ h => h
              case hwBqv56 => rfl
              case hyBqv56 => (intro w hSw; (try dsimp only at hSw); go_simp; try with_reducible rfl)
              try simp only [Act.put, List.setIfInBounds_toArray, List.set_cons_zero, List.set_cons_succ]
              refine' wpAnyH_take (i := 57) (oi := _) (v := _) ?hBqv57 (by kernel_rfl) (by kernel_rfl) (by kernel_rfl) ?hQBqv57 (Or.inl ⟨?hwBqv57, ?hyBqv57⟩) hHeld ?restBqv57
              case hBqv57 => (simp only [List.getElem?_toArray, List.getElem?_cons_succ, List.getElem?_cons_zero]; rfl)
              case hQBqv57 => exact fun _ _ _ h => h
              case hwBqv57 => rfl
              case hyBqv57 => (intro w hSw; (try dsimp only at hSw); go_simp; try with_reducible rfl)
              try simp only [Act.put, List.setIfInBounds_toArray, List.set_cons_zero, List.set_cons_succ]
              refine wpAnyH_ready (rs := [58]) (by kernel_rfl) (by simp) ?_
              refine AllReadyH.cons rfl (fun K hK => ?_) AllReadyH.nil
              go_simp
              refine (fork_nil _).mono ?_
              rintro e v8 ⟨rfl, rfl⟩
              try go_wp2_with fail
              refine hK.out _ _ (hHeld) (fun hHeld' => ?_)
              clear hK K hHeld
              have hHeld := hHeld'
              clear hHeld'
              try simp only [Act.put, List.setIfInBounds_toArray, List.set_cons_zero, List.set_cons_succ]
              refine' wpAnyH_take (i := 59) (oi := _) (v := _) ?hBqv59 (by kernel_rfl) (by kernel_rfl) (by kernel_rfl) ?hQBqv59 (Or.inl ⟨?hwBqv59, ?hyBqv59⟩) hHeld ?restBqv59
              case hBqv59 => (simp only [List.getElem?_toArray, List.getElem?_cons_succ, List.getElem?_cons_zero]; rfl)
              case hQBqv59 => exact fun _ _ _ h => h
              case hwBqv59 => rfl
              case hyBqv59 => (intro w hSw; (try dsimp only at hSw); go_simp; try with_reducible rfl)
              try simp only [Act.put, List.setIfInBounds_toArray, List.set_cons_zero, List.set_cons_succ]
              refine' wpAnyH_take (i := 60) (oi := _) (v := _) ?hBqv60 (by kernel_rfl) (by kernel_rfl) (by kernel_rfl) ?hQBqv60 (Or.inl ⟨?hwBqv60, ?hyBqv60⟩) hHeld ?restBqv60
              case hBqv60 => (simp only [List.getElem?_toArray, List.getElem?_cons_succ, List.getElem?_cons_zero]; rfl)
              case hQBqv60 => exact fun _ _ _ h => h
              case hwBqv60 => rfl
              case hyBqv60 => (intro w hSw; (try dsimp only at hSw); go_simp; try with_reducible rfl)
              try simp only [Act.put, List.setIfInBounds_toArray, List.set_cons_zero, List.set_cons_succ]
              refine' wpAnyH_take (i := 61) (oi := _) (v := _) ?hBqv61 (by kernel_rfl) (by kernel_rfl) (by kernel_rfl) ?hQBqv61 (Or.inl ⟨?hwBqv61, ?hyBqv61⟩) hHeld ?restBqv61
              case hBqv61 => (simp only [List.getElem?_toArray, List.getElem?_cons_succ, List.getElem?_cons_zero]; rfl)
              case hQBqv61 => exact fun _ _ _ h => h
              case hwBqv61 => rfl
              case hyBqv61 => (intro w hSw; (try dsimp only at hSw); go_simp; try with_reducible rfl)
              try simp only [Act.put, List.setIfInBounds_toArray, List.set_cons_zero, List.set_cons_succ]
              refine wpAnyH_done (by kernel_rfl) ?_ _
              clear p0 p2 p3 HSM HSN HDR hkr
              go_wp2
              go_ret
              exact ⟨rfl, (HKK.out.trans hHeld.2.2.2).all⟩
end FiR
end Go.Proofs.Ytiemnnoeljphoaa
