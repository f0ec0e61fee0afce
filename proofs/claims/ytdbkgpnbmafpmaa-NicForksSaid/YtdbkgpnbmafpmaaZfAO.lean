/- A device: Fork. A nil device; both states behind a fork. -/
import Derived.Test.YtdbkgpnbmafpmaaZfAM
import Derived.Test.YtdbkgpnbmafpmaaZfAN
namespace Go.Proofs.Ytdbkgpnbmafpmaa
open Go.RowKit Go.Maps Go.Deep
namespace Nc
open Sm Fr
/-- A copy of the log, as a row of its own. -/
def IsLogO (lg : List Sn) (w : World) (e : Ending) (w' : World) : Prop :=
  ∃ a' c', e = .returned (.slice a' lg.length c') ∧ Keeps [] w w' ∧ w'.ownsRow w.heap.size 50 3 (.slice a' lg.length c') lg.length (sflat lg)
section
variable {d m y c : Nat} {od : Int} {a : Option Addr} {lg : List Sn} {L : List Pt}
set_option maxRecDepth 100000 in
set_option maxHeartbeats 1000000 in
theorem clone_own {w : World} (h : Lg w d y a c lg) (hm : lg.length ≤ 1000) : Calls Try.prog 35 #[.slice a lg.length c] w (IsLogO lg w) := by
  rcases h with ⟨rfl, rfl, rfl, _⟩ | ⟨rfl, h⟩
  · have hne := lnil_eq
    go_enter Try.func35, Try.ntmps35
    go_wp2
    go_ret
    exact ⟨none, 0, rfl, Keeps.refl _ _, rfl, .inl ⟨rfl, rfl⟩⟩
  · obtain ⟨i0, hi0, hz0, hz1, hz2⟩ := info_parts sn_info
    have HI := Lib.hid (And.intro hi0 (And.intro hz0 (And.intro hz1 hz2)))
    clear hi0 hz0 hz1 hz2
    have HR := Lib.hid (Reads.of_own h)
    clear h
    have hown0 := FiF.own_emptyF w w.heap.size (Nat.le_refl _) 50 3
    have hrd0 := HR.out.alloc (Nat.le_refl _) (.cells #[] 50)
    have hk0 : Keeps [] w (w.alloc (.cells #[] 50)) := (Keeps.refl _ _).alloc _
    have hne := lnil_ne
    go_enter Try.func35, Try.ntmps35
    go_wp2_with (at_builtin; refine wpList_append_any _ rfl (.tmp 5) (.tmp 6) _ rfl w.heap.size 50 i0 _ 3 32 Try.underlying47 HI.out.1 HI.out.2.1 HI.out.2.2.1 HI.out.2.2.2 rfl (by decide) (.slice (some ⟨w.heap.size, 0, none⟩) 0 0) 0 _ rfl hown0 _ _ lg.length c _ rfl hrd0 (sflat_all _) (by simp only [maxLen]; omega) (by omega) (by simp) ?_; intro v2 w2 hown2 hg2 hat2; obtain ⟨p2, c2, hv2⟩ := FiF.own_formF hown2; subst hv2; rw [Nat.zero_add, List.nil_append] at hown2; have hk2 := hk0.grown hg2 (fun b hb => .inr (by have := (hown0.lt b hb).1; exact this)))
    go_ret
    exact ⟨p2, c2, rfl, hk2, hown2⟩
theorem log_own (w : World) (h : Dev w d m od y a c lg L) (hm : lg.length ≤ 1000) : Calls Try.prog 18 #[.pointer (some ⟨d, 0, none⟩)] w (IsLogO lg w) := by
  obtain ⟨_, _, c2, _⟩ := h.cells
  have HC := Lib.hid (clone_own h.lg hm)
  clear h
  go_enter Try.func18, Try.ntmps18
  go_wp2_with fail
  refine HC.out.mono ?_
  rintro e w' ⟨a', c', rfl, hk, hr⟩
  have HR := Lib.hid (And.intro hk hr)
  clear hk hr
  go_wp2
  go_ret
  exact ⟨a', c', rfl, HR.out.1, HR.out.2⟩
end
/-- The same port, in blocks of its own. -/
structure Like (x z : Pt) : Prop where
  ow : z.ow = x.ow
  ma : z.ma = x.ma
  li : z.li = x.li
  ws : z.ws = x.ws
  dr : z.dr = x.dr
/-- A fork under way: the ports of the owners below k are forked. -/
structure Fk (w wr : World) (d2 m2 y2 : Nat) (a2 : Option Addr) (c2 : Nat) (od : Int) (lg : List Sn) (L : List Pt) (k : Int) (φ : Pt → Pt) : Prop where
  b : Blk wr d2 68 #[.map (some m2), .int .i64 od, .slice a2 lg.length c2]
  lg : Lg wr d2 y2 a2 c2 lg
  mp : ∃ n, MapP wr m2 n (fun j => if j < k then fnd (L.map φ) j else none) ∧ n + (L.filter (fun x => decide (k ≤ x.ow))).length ≤ L.length
  dm : d2 ≠ m2
  ym : y2 ≠ m2
  f1 : w.heap.size ≤ d2
  f2 : w.heap.size ≤ m2
  f3 : w.heap.size ≤ y2
  lk : ∀ x, Like x (φ x)
  pt : ∀ x ∈ L, x.ow < k → PtOk wr (φ x) ∧ ∀ b ∈ bks (φ x), w.heap.size ≤ b ∧ b ≠ d2 ∧ b ≠ m2 ∧ b ≠ y2
  ap : ∀ x ∈ L, ∀ z ∈ L, x.ow < k → z.ow < k → x.ow ≠ z.ow → ∀ b ∈ bks (φ x), b ∉ bks (φ z)
  kp : Keeps [] w wr
section
variable {w wr w' V V2 V3 V5 : World} {d m y c d2 m2 y2 c2 n : Nat} {od k : Int} {a a2 : Option Addr} {lg : List Sn} {L : List Pt} {φ : Pt → Pt} {x : Pt}
theorem fnd_map (hl : ∀ x, Like x (φ x)) (L : List Pt) (j : Int) : fnd (L.map φ) j = (L.find? (fun x => x.ow == j)).map (fun x => (φ x).p) := by
  unfold fnd
  rw [List.find?_map]
  have : ((fun x : Pt => x.ow == j) ∘ φ) = (fun x : Pt => x.ow == j) := by
    funext z
    show ((φ z).ow == j) = (z.ow == j)
    rw [(hl z).ow]
  rw [this]
  cases L.find? (fun x => x.ow == j) <;> rfl
theorem Fk.lt (h : Fk w wr d2 m2 y2 a2 c2 od lg L k φ) : d2 < wr.heap.size ∧ m2 < wr.heap.size ∧ y2 < wr.heap.size := by
  obtain ⟨n, h1, _⟩ := h.mp
  exact ⟨h.b.lt, h1.lt, h.lg.lt h.b.lt⟩
theorem Fk.kk (h : Fk w wr d2 m2 y2 a2 c2 od lg L k φ) (hk : Keeps [] wr w') : Fk w w' d2 m2 y2 a2 c2 od lg L k φ := by
  obtain ⟨n, h1, h2⟩ := h.mp
  exact ⟨h.b.keeps hk (by simp), h.lg.keeps hk (by simp), ⟨n, h1.keeps hk (by simp), h2⟩, h.dm, h.ym, h.f1, h.f2, h.f3, h.lk, fun x hx hk9 => ⟨(h.pt x hx hk9).1.keeps hk (by simp), (h.pt x hx hk9).2⟩, h.ap, h.kp.trans hk⟩
theorem cnt_same (hno : ∀ x ∈ L, x.ow ≠ k) : L.filter (fun x => decide (k + 1 ≤ x.ow)) = L.filter (fun x => decide (k ≤ x.ow)) := by
  refine List.filter_congr fun x hx => ?_
  have := hno x hx
  rw [decide_eq_decide]
  omega
theorem cnt_lt (hx : x ∈ L) (ho : x.ow = k) : (L.filter (fun x => decide (k + 1 ≤ x.ow))).length + 1 ≤ (L.filter (fun x => decide (k ≤ x.ow))).length := by
  have mono : ∀ l : List Pt, (l.filter (fun x => decide (k + 1 ≤ x.ow))).length ≤ (l.filter (fun x => decide (k ≤ x.ow))).length := by
    intro l
    induction l with
    | nil => simp
    | cons z t ih =>
      simp only [List.filter_cons]
      by_cases h1 : k + 1 ≤ z.ow
      · rw [if_pos (by simpa using h1), if_pos (by simp; omega)]
        simpa using ih
      · rw [if_neg (by simpa using h1)]
        split
        · simp only [List.length_cons]; omega
        · exact ih
  induction L with
  | nil => cases hx
  | cons z t ih =>
    simp only [List.filter_cons]
    rcases List.mem_cons.1 hx with rfl | hx
    · have := mono t
      rw [if_neg (by simp; omega), if_pos (by simp; omega)]
      simp only [List.length_cons]; omega
    · have := ih hx
      by_cases h1 : k + 1 ≤ z.ow
      · rw [if_pos (by simpa using h1), if_pos (by simp; omega)]
        simp only [List.length_cons]; omega
      · rw [if_neg (by simpa using h1)]
        split
        · simp only [List.length_cons]; omega
        · exact this
/-- No port of that owner. -/
theorem Fk.none_ (h : Fk w wr d2 m2 y2 a2 c2 od lg L k φ) (hf : fnd L k = none) : Fk w wr d2 m2 y2 a2 c2 od lg L (k + 1) φ := by
  have hno := fnd_none hf
  obtain ⟨n, h1, h2⟩ := h.mp
  refine ⟨h.b, h.lg, ⟨n, ?_, by rw [cnt_same hno]; exact h2⟩, h.dm, h.ym, h.f1, h.f2, h.f3, h.lk, fun x hx hk => h.pt x hx (by have := hno x hx; omega), fun x hx z hz h3 h4 => h.ap x hx z hz (by have := hno x hx; omega) (by have := hno z hz; omega), h.kp⟩
  have : (fun j => if j < k then fnd (L.map φ) j else none) = (fun j => if j < k + 1 then fnd (L.map φ) j else none) := by
    funext j
    by_cases e : j = k
    · subst e
      rw [if_neg (by omega), if_pos (by omega), fnd_map h.lk, List.find?_eq_none.2 (fun z hz => by simpa using hno z hz)]
      rfl
    · by_cases e2 : j < k
      · rw [if_pos e2, if_pos (by omega)]
      · rw [if_neg e2, if_neg (by omega)]
  rw [← this]
  exact h1
/-- A port is forked. -/
theorem Fk.add (h : Fk w wr d2 m2 y2 a2 c2 od lg L k φ) (hD : Dev wr d m od y a c lg L) (hx : x ∈ L) (ho : x.ow = k) {g r p : Nat} (hk : Keeps [] wr V3) (hq : FiF.Qu V3 g r x.ws x.li x.dr) (hb : Blk V3 p 74 #[.int .i64 x.ow, .int .i64 x.ma, .int .i64 x.li, .pointer (some ⟨g, 0, none⟩)])
    (hg0 : wr.heap.size ≤ g) (hr0 : wr.heap.size ≤ r) (hp0 : wr.heap.size ≤ p) (hpg : p ≠ g) (hpr : p ≠ r) (hn : n + (L.filter (fun x => decide (k ≤ x.ow))).length ≤ L.length)
    (hmp : MapP V5 m2 (n + 1) (fun j => if j = k then some p else if j < k then fnd (L.map φ) j else none)) (hgr : V3.grownBy V5 (some m2)) :
    ∃ φ', Fk w V5 d2 m2 y2 a2 c2 od lg L (k + 1) φ' := by
  have hlt := h.lt
  have hz := h.kp.size
  have hk3 : Keeps [m2] V3 V5 := (Keeps.refl [m2] V3).grown hgr (fun b e => by cases e; simp)
  have hH := h.kk hk
  have hokx := hD.pt x hx
  have hap := hD.ap
  refine ⟨fun z => if z.ow = k then ⟨z.ow, z.ma, z.li, p, g, r, z.ws, z.dr⟩ else φ z, ⟨hH.b.keeps hk3 (by simp; exact h.dm), hH.lg.keeps hk3 (by simp; exact h.ym), ⟨n + 1, ?_, by have := cnt_lt hx ho; omega⟩, h.dm, h.ym, h.f1, h.f2, h.f3, fun z => ?_, fun z hz hzk => ?_, fun z hz v hv hzk hvk hne => ?_, (h.kp.trans hk).next hk3 (by simp; exact h.f2)⟩⟩
  · have hl : ∀ z : Pt, Like z (if z.ow = k then ⟨z.ow, z.ma, z.li, p, g, r, z.ws, z.dr⟩ else φ z) := fun z => by
      split
      · exact ⟨rfl, rfl, rfl, rfl, rfl⟩
      · exact h.lk z
    have : (fun j => if j = k then some p else if j < k then fnd (L.map φ) j else none) = (fun j => if j < k + 1 then fnd (L.map (fun z => if z.ow = k then ⟨z.ow, z.ma, z.li, p, g, r, z.ws, z.dr⟩ else φ z)) j else none) := by
      funext j
      rw [fnd_map hl, fnd_map h.lk]
      by_cases e : j = k
      · subst e
        rw [if_pos rfl, if_pos (by omega)]
        rcases he : L.find? (fun z => z.ow == j) with _ | z
        · have := List.find?_eq_none.1 he x hx
          simp [ho] at this
        · have h9 : z.ow = j := by simpa using List.find?_some he
          rw [he]
          simp only [Option.map_some]
          rw [if_pos h9]
      · rw [if_neg e]
        by_cases e2 : j < k
        · rw [if_pos e2, if_pos (by omega)]
          rcases he : L.find? (fun z => z.ow == j) with _ | z
          · rw [he]; rfl
          · have h9 : z.ow = j := by simpa using List.find?_some he
            rw [he]
            simp only [Option.map_some]
            rw [if_neg (by omega)]
        · rw [if_neg e2, if_neg (by omega)]
    rw [← this]
    exact hmp
  · split
    · exact ⟨rfl, rfl, rfl, rfl, rfl⟩
    · exact h.lk z
  · by_cases e : z.ow = k
    · obtain rfl := pw_ow hap z hz x hx (e.trans ho.symm)
      rw [if_pos e]
      refine ⟨⟨hb.keeps hk3 (by simp; omega), hq.keeps hk3 (by simp; omega) (by simp; omega), hokx.o1, hokx.o2, hokx.m1, hokx.m2, hokx.l1, hokx.l2, hpg, hpr⟩, fun b hb => ?_⟩
      simp only [bks, List.mem_cons, List.not_mem_nil, or_false] at hb
      rcases hb with rfl | rfl | rfl <;> refine ⟨?_, ?_, ?_, ?_⟩ <;> omega
    · rw [if_neg e]
      obtain ⟨h1, h2⟩ := hH.pt z hz (by omega)
      exact ⟨h1.keeps hk3 (fun b hb => by have := h2 b hb; simp; exact this.2.2.1), h2⟩
  · by_cases e : z.ow = k
    · by_cases e2 : v.ow = k
      · exact absurd (e.trans e2.symm) hne
      · rw [if_pos e, if_neg e2]
        intro b hb hb2
        have hv9 := (h.pt v hv (by omega)).1
        have hvl : b < wr.heap.size := by
          simp only [bks, List.mem_cons, List.not_mem_nil, or_false] at hb2
          rcases hb2 with rfl | rfl | rfl
          · exact hv9.b.lt
          · exact hv9.q.lt.1
          · exact hv9.q.lt.2
        simp only [bks, List.mem_cons, List.not_mem_nil, or_false] at hb
        omega
    · by_cases e2 : v.ow = k
      · rw [if_neg e, if_pos e2]
        intro b hb hb2
        have hv9 := (h.pt z hz (by omega)).1
        have hvl : b < wr.heap.size := by
          simp only [bks, List.mem_cons, List.not_mem_nil, or_false] at hb
          rcases hb with rfl | rfl | rfl
          · exact hv9.b.lt
          · exact hv9.q.lt.1
          · exact hv9.q.lt.2
        simp only [bks, List.mem_cons, List.not_mem_nil, or_false] at hb2
        omega
      · rw [if_neg e, if_neg e2]
        exact h.ap z hz v hv (by omega) (by omega) hne
/-- What a fork is. -/
def IsFrk (od : Int) (lg : List Sn) (L : List Pt) (w : World) (e : Ending) (w' : World) : Prop :=
  ∃ d2 m2 y2 a2 c2 φ, e = .returned (.pointer (some ⟨d2, 0, none⟩)) ∧ Dev w' d2 m2 od y2 a2 c2 lg (L.map φ) ∧ (∀ x, Like x (φ x)) ∧ Keeps [] w w' ∧ ∀ b ∈ foot d2 m2 y2 (L.map φ), w.heap.size ≤ b
theorem Fk.done (h : Fk w wr d2 m2 y2 a2 c2 od lg L 9 φ) (hD : Dev wr d m od y a c lg L) : IsFrk od lg L w (.returned (.pointer (some ⟨d2, 0, none⟩))) wr := by
  obtain ⟨n, h1, h2⟩ := h.mp
  have h9 : ∀ x ∈ L, x.ow < 9 := fun x hx => by have := (hD.pt x hx).o2; omega
  refine ⟨d2, m2, y2, a2, c2, φ, rfl, ⟨h.b, ?_, h.lg, fun z hz => ?_, ?_, fun z hz b hb => ?_, h.dm, h.ym, by rw [List.length_map]; exact hD.ln⟩, h.lk, h.kp, fun b hb => ?_⟩
  · have : (fun j => if j < 9 then fnd (L.map φ) j else none) = fnd (L.map φ) := by
      funext j
      by_cases e : j < 9
      · rw [if_pos e]
      · rw [if_neg e, fnd_map h.lk, List.find?_eq_none.2 (fun z hz => by have := h9 z hz; simp; omega)]
        rfl
    rw [this] at h1
    exact h1.mono (by rw [List.length_map]; omega)
  · obtain ⟨x, hx, rfl⟩ := List.mem_map.1 hz
    exact (h.pt x hx (h9 x hx)).1
  · rw [List.pairwise_map]
    refine hD.ap.imp_of_mem fun {u v} hu hv huv => ?_
    exact ⟨by rw [(h.lk u).ow, (h.lk v).ow]; exact huv.ow, by rw [(h.lk u).ma, (h.lk v).ma]; exact huv.ma, h.ap u hu v hv (h9 u hu) (h9 v hv) huv.ow⟩
  · obtain ⟨x, hx, rfl⟩ := List.mem_map.1 hz
    exact ((h.pt x hx (h9 x hx)).2 b hb).2
  · rcases mem_foot.1 hb with rfl | rfl | rfl | ⟨z, hz, hb⟩
    · exact h.f1
    · exact h.f2
    · exact h.f3
    · obtain ⟨x, hx, rfl⟩ := List.mem_map.1 hz
      exact ((h.pt x hx (h9 x hx)).2 b hb).1
/-- The start of a fork: an empty map, the log's copy. -/
theorem fk_0 {a' : Option Addr} {c' B : Nat} (hk : Keeps [] w V) (hm : MapP V m2 0 (fun _ => none)) (ho : V.ownsRow B 50 3 (.slice a' lg.length c') lg.length (sflat lg)) (hB : w.heap.size ≤ B) (h2 : w.heap.size ≤ m2) (hD : Dev wr d m od y a c lg L) (hne : ∀ b, (Value.slice a' lg.length c').ownBlock = some b → b ≠ m2) :
    ∃ y2, Fk w (V.alloc (.cells #[.map (some m2), .int .i64 od, .slice a' lg.length c'] 68)) V.heap.size m2 y2 a' c' od lg L 1 id := by
  have hml := hm.lt
  have hz := hk.size
  have hkv : Keeps [] V (V.alloc (.cells #[.map (some m2), .int .i64 od, .slice a' lg.length c'] 68)) := (Keeps.refl _ _).alloc _
  have hno : (fun _ : Int => (none : Option Nat)) = (fun j => if j < 1 then fnd (L.map id) j else none) := by
    funext j
    by_cases e : j < 1
    · rw [if_pos e]
      unfold fnd
      rw [List.map_id, List.find?_eq_none.2 (fun z hz => by have := (hD.pt z hz).o1; simp; omega)]
      rfl
    · rw [if_neg e]
  have hmk := hm.keeps hkv (by simp)
  rw [hno] at hmk
  have hpt : ∀ x ∈ L, ¬ x.ow < 1 := fun x hx => by have := (hD.pt x hx).o1; omega
  have rest : ∀ y2, w.heap.size ≤ y2 → y2 ≠ m2 → Lg (V.alloc (.cells #[.map (some m2), .int .i64 od, .slice a' lg.length c'] 68)) V.heap.size y2 a' c' lg → Fk w (V.alloc (.cells #[.map (some m2), .int .i64 od, .slice a' lg.length c'] 68)) V.heap.size m2 y2 a' c' od lg L 1 id := fun y2 hy hym hl =>
    ⟨Blk.new _ _ _, hl, ⟨0, hmk, by rw [Nat.zero_add]; exact List.length_filter_le _ _⟩, by omega, hym, hz, h2, hy, fun x => ⟨rfl, rfl, rfl, rfl, rfl⟩, fun x hx h9 => absurd h9 (hpt x hx), fun x hx _ _ h9 => absurd h9 (hpt x hx), hk.trans hkv⟩
  rcases ho.2 with ⟨hv, h9⟩ | ⟨g, cap, cur, hv, hb, _⟩
  · injection hv with e1 e2 e3
    exact ⟨V.heap.size, rest _ hz (by omega) (.inl ⟨e1, e3, List.eq_nil_of_length_eq_zero (by omega), rfl⟩)⟩
  · have hv' := hv
    injection hv with e1
    have hg := ho.lt g (by rw [hv']; rfl)
    subst e1
    exact ⟨g, rest _ (by omega) (hne g rfl) (.inr ⟨rfl, own_low (ownsRow_keeps ho hkv (by simp)) (Nat.zero_le _)⟩)⟩
end
theorem wp_mk {o : Oper} {a : Act} {w : World} {K : Act → World → Prop} {Q : Exit → Act → World → Prop} {t : TypeId} (ho : o.op = .makeMap t none)
    (h : ∀ w' m2, m2 = w.heap.size → MapP w' m2 0 (fun _ => none) → Keeps [] w w' → K (a.put o.dst (.map (some m2))) w') : o.wp Try.prog a w K Q := by
  unfold Oper.wp execOp
  simp only [ho, Option.map_none, run_makeMap, Sem.run_bind, Result.andThen_ok]
  exact h _ _ rfl (MapP.made w) ((Keeps.refl _ _).alloc _)
theorem fork_nil (w : World) : Calls Try.prog 22 #[.pointer none] w fun e w' => e = .returned (.pointer none) ∧ w = w' := by
  go_enter Try.func22, Try.ntmps22
  go_wp2
  go_ret
  exact ⟨rfl, rfl⟩
set_option maxRecDepth 100000 in
set_option maxHeartbeats 2000000 in
theorem fork_dev {d m y c : Nat} {od : Int} {a : Option Addr} {lg : List Sn} {L : List Pt} (w : World) (h : Dev w d m od y a c lg L) (hm : lg.length ≤ 1000) :
    Calls Try.prog 22 #[.pointer (some ⟨d, 0, none⟩)] w (IsFrk od lg L w) := by
  have k0 : Keeps [] w w.drew := (Keeps.refl _ _).drew
  obtain ⟨_, c1, _, _⟩ := (h.kp k0).cells
  have H := Lib.hid (h.kp k0)
  have H0 := Lib.hid h
  clear h k0
  go_enter Try.func22, Try.ntmps22
  go_upto_region 3 with fail
  go_cut [3] from 8 to 16 (fun s wx => ∃ (d2 m2 y2 : Nat) (a2 : Option Addr) (c2 : Nat), s = .pointer (some ⟨d2, 0, none⟩) ∧ Fk w wx d2 m2 y2 a2 c2 od lg L 1 id)
  case first =>
    refine wp_region_held_drew (S := (fun V => V.cell? ⟨d, 1, none⟩ = some (.int .i64 od))) (by kernel_rfl) c1 (fun hHeld => ?_)
    have hkV : Keeps [] w w.drew := (Keeps.refl _ _).drew
    have hwU := hkV.size
    have hD := H.out
    have hdl := hD.b.lt
    clear c1
    generalize w.drew = U at *
    refine' wpAnyH_take (i := 1) (oi := _) (v := _) ?hA1 (by kernel_rfl) (by kernel_rfl) (by kernel_rfl) ?hQA1 (Or.inl ⟨?hwA1, ?hyA1⟩) hHeld ?restA1
    case hA1 => (simp only [List.getElem?_toArray, List.getElem?_cons_succ, List.getElem?_cons_zero]; rfl)
    case hQA1 => exact fun _ _ _ h => h
    case hwA1 => rfl
    case hyA1 => (intro w hSw; (try dsimp only at hSw); go_simp; try with_reducible rfl)
    try simp only [Act.put, List.setIfInBounds_toArray, List.set_cons_zero, List.set_cons_succ]
    refine' wpAnyH_take (i := 2) (oi := _) (v := _) ?hA2 (by kernel_rfl) (by kernel_rfl) (by kernel_rfl) ?hQA2 (Or.inl ⟨?hwA2, ?hyA2⟩) hHeld ?restA2
    case hA2 => (simp only [List.getElem?_toArray, List.getElem?_cons_succ, List.getElem?_cons_zero]; rfl)
    case hQA2 => exact fun _ _ _ h => h
    case hwA2 => rfl
    case hyA2 => (intro w hSw; (try dsimp only at hSw); go_simp; try with_reducible rfl)
    try simp only [Act.put, List.setIfInBounds_toArray, List.set_cons_zero, List.set_cons_succ]
    refine' wpAnyH_take (i := 3) (oi := _) (v := _) ?hA3 (by kernel_rfl) (by kernel_rfl) (by kernel_rfl) ?hQA3 (Or.inl ⟨?hwA3, ?hyA3⟩) hHeld ?restA3
    case hA3 => (simp only [List.getElem?_toArray, List.getElem?_cons_succ, List.getElem?_cons_zero]; rfl)
    case hQA3 => exact fun _ _ _ h => h
    case hwA3 => rfl
    case hyA3 => (intro w hSw; (try dsimp only at hSw); go_simp; try with_reducible rfl)
    try simp only [Act.put, List.setIfInBounds_toArray, List.set_cons_zero, List.set_cons_succ]
    refine' wpAnyH_take (i := 4) (oi := _) (v := _) ?hA4 (by kernel_rfl) (by kernel_rfl) (by kernel_rfl) ?hQA4 (Or.inl ⟨?hwA4, ?hyA4⟩) hHeld ?restA4
    case hA4 => (simp only [List.getElem?_toArray, List.getElem?_cons_succ, List.getElem?_cons_zero]; rfl)
    case hQA4 => exact fun _ _ _ h => h
    case hwA4 => rfl
    case hyA4 => (intro w hSw; (try dsimp only at hSw); go_simp; try with_reducible rfl)
    try simp only [Act.put, List.setIfInBounds_toArray, List.set_cons_zero, List.set_cons_succ]
    refine' wpAnyH_take (i := 5) (oi := _) (v := _) ?hA5 (by kernel_rfl) (by kernel_rfl) (by kernel_rfl) ?hQA5 (Or.inl ⟨?hwA5, ?hyA5⟩) hHeld ?restA5
    case hA5 => (simp only [List.getElem?_toArray, List.getElem?_cons_succ, List.getElem?_cons_zero]; rfl)
    case hQA5 => exact fun _ _ _ h => h
    case hwA5 => rfl
    case hyA5 => (intro w hSw; (try dsimp only at hSw); go_simp; try with_reducible rfl)
    try simp only [Act.put, List.setIfInBounds_toArray, List.set_cons_zero, List.set_cons_succ]
    refine wpAnyH_ready (rs := [0, 6]) (by kernel_rfl) (by simp) ?_
    refine' (AllReadyH.cons (o := _) ?hoM10 (fun K hK' => ?stM10) (AllReadyH.cons (o := _) ?hoM16 (fun K hK' => ?stM16) AllReadyH.nil))
    case hoM10 => (simp only [List.getElem?_toArray, List.getElem?_cons_zero]; rfl)
    case hoM16 => (simp only [List.getElem?_toArray, List.getElem?_cons_succ, List.getElem?_cons_zero]; rfl)
    case stM10 =>
      rw [if_pos (by rfl)]
      refine wp_mk rfl ?_
      intro V1 m2 hm2 hM k1
      have hmg : U.heap.size ≤ m2 := by omega
      clear hm2
      have hD := hD.kp k1
      have hsk1 := k1.size
      have hkV := hkV.trans k1
      have hml := hM.lt
      refine hK'.out _ _ ((k1.cell (p := ⟨d, 1, none⟩) hdl (by simp)).trans hHeld) (fun hHeld' => ?_)
      clear hK' K hHeld
      have hHeld := hHeld'
      clear hHeld'
      try simp only [Act.put]
      try simp only [Act.put, List.setIfInBounds_toArray, List.set_cons_zero, List.set_cons_succ]
      have hdl := Nat.lt_of_lt_of_le hdl k1.size
      refine wpAnyH_ready (rs := [6]) (by kernel_rfl) (by simp) ?_
      refine' (AllReadyH.cons (o := _) ?hoM26 (fun K hK' => ?stM26) AllReadyH.nil)
      case hoM26 => (simp only [List.getElem?_toArray, List.getElem?_cons_succ, List.getElem?_cons_zero]; rfl)
      case stM26 =>
        go_simp
        have hBk := hkV.size
        refine (log_own _ hD hm).mono ?_
        rintro e V2 ⟨a2, c2, rfl, k2, hO⟩
        try go_wp2_with fail
        have hD := hD.kp k2
        have hsk2 := k2.size
        have hkV := hkV.trans k2
        have hM := hM.keeps k2 (by simp)
        refine hK'.out _ _ ((k2.cell (p := ⟨d, 1, none⟩) hdl (by simp)).trans hHeld) (fun hHeld' => ?_)
        clear hK' K hHeld
        have hHeld := hHeld'
        clear hHeld'
        try simp only [Act.put]
        try simp only [Act.put, List.setIfInBounds_toArray, List.set_cons_zero, List.set_cons_succ]
        have hdl := Nat.lt_of_lt_of_le hdl k2.size
        refine' wpAnyH_take (i := 7) (oi := _) (v := _) ?hEu17 (by kernel_rfl) (by kernel_rfl) (by kernel_rfl) ?hQEu17 (Or.inl ⟨?hwEu17, ?hyEu17⟩) hHeld ?restEu17
        case hEu17 => (simp only [List.getElem?_toArray, List.getElem?_cons_succ, List.getElem?_cons_zero]; rfl)
        case hQEu17 => exact fun _ _ _ h => h
        case hwEu17 => rfl
        case hyEu17 => (intro w hSw; (try dsimp only at hSw); go_simp; try with_reducible rfl)
        try simp only [Act.put, List.setIfInBounds_toArray, List.set_cons_zero, List.set_cons_succ]
        refine wpAnyH_ready (rs := [8]) (by kernel_rfl) (by simp) ?_
        refine' (AllReadyH.cons (o := _) ?hoBXu1 (fun K hK' => ?stBXu1) AllReadyH.nil)
        case hoBXu1 => (simp only [List.getElem?_toArray, List.getElem?_cons_succ, List.getElem?_cons_zero]; rfl)
        case stBXu1 =>
          go_simp
          refine hK'.out _ _ (((Keeps.refl [] V2).alloc _).cell (p := ⟨d, 1, none⟩) hdl (by simp) |>.trans hHeld) (fun hHeld' => ?_)
          clear hK' K hHeld
          have hHeld := hHeld'
          clear hHeld'
          try simp only [Act.put]
          try simp only [Act.put, List.setIfInBounds_toArray, List.set_cons_zero, List.set_cons_succ]
          refine' wpAnyH_take (i := 9) (oi := _) (v := _) ?hGu19 (by kernel_rfl) (by kernel_rfl) (by kernel_rfl) ?hQGu19 (Or.inl ⟨?hwGu19, ?hyGu19⟩) hHeld ?restGu19
          case hGu19 => (simp only [List.getElem?_toArray, List.getElem?_cons_succ, List.getElem?_cons_zero]; rfl)
          case hQGu19 => exact fun _ _ _ h => h
          case hwGu19 => rfl
          case hyGu19 => (intro w hSw; (try dsimp only at hSw); go_simp; try with_reducible rfl)
          try simp only [Act.put, List.setIfInBounds_toArray, List.set_cons_zero, List.set_cons_succ]
          refine wpAnyH_done (by kernel_rfl) ?_ _
          clear hHeld
          have hz9 := hkV.size
          obtain ⟨y2, hfk⟩ := fk_0 (od := od) hkV hM hO (by omega) (by omega) hD (by intro b hb; have := hO.lt b hb; (try have := hbl b hb); omega)
          have HFK := Lib.hid hfk
          clear hfk hO hM hkV hD
          go_wp2_with fail
          go_meet
          case rel => exact ⟨_, _, y2, _, _, rfl, HFK.out⟩
    case stM16 =>
      go_simp
      have hBk := hkV.size
      refine (log_own _ hD hm).mono ?_
      rintro e V1 ⟨a2, c2, rfl, k1, hO⟩
      try go_wp2_with fail
      have hD := hD.kp k1
      have hsk1 := k1.size
      have hkV := hkV.trans k1
      have hbl : ∀ b, (Value.slice a2 lg.length c2).ownBlock = some b → b < V1.heap.size := fun b hb => (hO.lt b hb).2
      refine hK'.out _ _ ((k1.cell (p := ⟨d, 1, none⟩) hdl (by simp)).trans hHeld) (fun hHeld' => ?_)
      clear hK' K hHeld
      have hHeld := hHeld'
      clear hHeld'
      try simp only [Act.put]
      try simp only [Act.put, List.setIfInBounds_toArray, List.set_cons_zero, List.set_cons_succ]
      have hdl := Nat.lt_of_lt_of_le hdl k1.size
      refine wpAnyH_ready (rs := [0]) (by kernel_rfl) (by simp) ?_
      refine' (AllReadyH.cons (o := _) ?hoM30 (fun K hK' => ?stM30) AllReadyH.nil)
      case hoM30 => (simp only [List.getElem?_toArray, List.getElem?_cons_zero]; rfl)
      case stM30 =>
        rw [if_pos (by rfl)]
        refine wp_mk rfl ?_
        intro V2 m2 hm2 hM k2
        have hmg : V1.heap.size ≤ m2 := by omega
        clear hm2
        have hD := hD.kp k2
        have hsk2 := k2.size
        have hkV := hkV.trans k2
        have hO := ownsRow_keeps hO k2 (by simp)
        refine hK'.out _ _ ((k2.cell (p := ⟨d, 1, none⟩) hdl (by simp)).trans hHeld) (fun hHeld' => ?_)
        clear hK' K hHeld
        have hHeld := hHeld'
        clear hHeld'
        try simp only [Act.put]
        try simp only [Act.put, List.setIfInBounds_toArray, List.set_cons_zero, List.set_cons_succ]
        have hdl := Nat.lt_of_lt_of_le hdl k2.size
        refine' wpAnyH_take (i := 7) (oi := _) (v := _) ?hEu27 (by kernel_rfl) (by kernel_rfl) (by kernel_rfl) ?hQEu27 (Or.inl ⟨?hwEu27, ?hyEu27⟩) hHeld ?restEu27
        case hEu27 => (simp only [List.getElem?_toArray, List.getElem?_cons_succ, List.getElem?_cons_zero]; rfl)
        case hQEu27 => exact fun _ _ _ h => h
        case hwEu27 => rfl
        case hyEu27 => (intro w hSw; (try dsimp only at hSw); go_simp; try with_reducible rfl)
        try simp only [Act.put, List.setIfInBounds_toArray, List.set_cons_zero, List.set_cons_succ]
        refine wpAnyH_ready (rs := [8]) (by kernel_rfl) (by simp) ?_
        refine' (AllReadyH.cons (o := _) ?hoBXu2 (fun K hK' => ?stBXu2) AllReadyH.nil)
        case hoBXu2 => (simp only [List.getElem?_toArray, List.getElem?_cons_succ, List.getElem?_cons_zero]; rfl)
        case stBXu2 =>
          go_simp
          refine hK'.out _ _ (((Keeps.refl [] V2).alloc _).cell (p := ⟨d, 1, none⟩) hdl (by simp) |>.trans hHeld) (fun hHeld' => ?_)
          clear hK' K hHeld
          have hHeld := hHeld'
          clear hHeld'
          try simp only [Act.put]
          try simp only [Act.put, List.setIfInBounds_toArray, List.set_cons_zero, List.set_cons_succ]
          refine' wpAnyH_take (i := 9) (oi := _) (v := _) ?hGu29 (by kernel_rfl) (by kernel_rfl) (by kernel_rfl) ?hQGu29 (Or.inl ⟨?hwGu29, ?hyGu29⟩) hHeld ?restGu29
          case hGu29 => (simp only [List.getElem?_toArray, List.getElem?_cons_succ, List.getElem?_cons_zero]; rfl)
          case hQGu29 => exact fun _ _ _ h => h
          case hwGu29 => rfl
          case hyGu29 => (intro w hSw; (try dsimp only at hSw); go_simp; try with_reducible rfl)
          try simp only [Act.put, List.setIfInBounds_toArray, List.set_cons_zero, List.set_cons_succ]
          refine wpAnyH_done (by kernel_rfl) ?_ _
          clear hHeld
          have hz9 := hkV.size
          obtain ⟨y2, hfk⟩ := fk_0 (od := od) hkV hM hO (by omega) (by omega) hD (by intro b hb; have := hO.lt b hb; (try have := hbl b hb); omega)
          have HFK := Lib.hid hfk
          clear hfk hO hM hkV hD
          go_wp2_with fail
          go_meet
          case rel => exact ⟨_, _, y2, _, _, rfl, HFK.out⟩
  case rest =>
    obtain ⟨d2, m2, y2, a2, c2, rfl, hF⟩ := hcut
    have HF := Lib.hid hF
    clear hF H c1
    go_wp2
    go_loopw [4] (fun i wr => ∃ (k : Nat) (φ : Pt → Pt), 1 ≤ k ∧ k ≤ 9 ∧ i = .int .i64 k ∧ Fk w wr d2 m2 y2 a2 c2 od lg L (k : Int) φ) (fun i _ => 9 - (intOf i).toNat)
    case atStart => exact ⟨1, id, by omega, by omega, rfl, HF.out⟩
    case round =>
      obtain ⟨k, φ, hk1, hk9, rfl, hFr⟩ := hrel
      have hDr := H0.out.kp hFr.kp
      obtain ⟨c0, _, _, _⟩ := hDr.cells
      clear HF
      have HF := Lib.hid hFr
      by_cases hk8 : k ≤ 8
      · have hwf : (Lit.int .i64 (k : Int)).wf = true := WalkArith.wf_i64 (by omega)
        have hlk := hDr.mp.look (k : Int) hwf
        rcases hf : fnd L (k : Int) with _ | p
        · rw [hf] at hlk
          simp only [pv] at hlk
          have HN := Lib.hid (hFr.none_ hf)
          clear hf hFr hDr
          go_wp2
          go_roundw
          case rel => exact ⟨k + 1, φ, by omega, by omega, by go_num, HN.out⟩
          case measure => simp [intOf]; omega
        obtain ⟨x, hx, hxo, rfl, _⟩ := fnd_some hf
        rw [hf] at hlk
        simp only [pv] at hlk
        have HX := Lib.hid (And.intro hx hxo)
        clear hf hx hxo hFr hDr
        go_wp2
        obtain ⟨U, hU⟩ : ∃ U, wr.drew = U := ⟨_, rfl⟩
        have hkU : Keeps [] wr U := by rw [← hU]; exact (Keeps.refl _ _).drew
        have hFU := HF.out.kk hkU
        have hDU := H0.out.kp hFU.kp
        have hpx := hDU.pt x HX.out.1
        have hqx := hpx.q
        have hpl := hpx.b.lt
        obtain ⟨p0, p1, p2, p3⟩ := hpx.cells
        have hd2 := hFU.lt.1
        have hm2l := hFU.lt.2.1
        have hS : (fun V => V.cell? ⟨d2, 0, none⟩ = some (.map (some m2)) ∧ V.cell? ⟨x.p, 0, none⟩ = some (.int .i64 x.ow) ∧ V.cell? ⟨x.p, 1, none⟩ = some (.int .i64 x.ma) ∧ V.cell? ⟨x.p, 2, none⟩ = some (.int .i64 x.li) ∧ V.cell? ⟨x.p, 3, none⟩ = some (.pointer (some ⟨x.g, 0, none⟩))) U := ⟨hFU.b.cell 0, p0, p1, p2, p3⟩
        have hpm : x.p ≠ m2 := by have := (H0.out.pt x HX.out.1).b.lt; have := hFU.f2; omega
        clear p0 p1 p2 p3 c0 hlk hpx
        refine wp_region_held_drew (S := (fun V => V.cell? ⟨d2, 0, none⟩ = some (.map (some m2)) ∧ V.cell? ⟨x.p, 0, none⟩ = some (.int .i64 x.ow) ∧ V.cell? ⟨x.p, 1, none⟩ = some (.int .i64 x.ma) ∧ V.cell? ⟨x.p, 2, none⟩ = some (.int .i64 x.li) ∧ V.cell? ⟨x.p, 3, none⟩ = some (.pointer (some ⟨x.g, 0, none⟩)))) (by kernel_rfl) (by rw [hU]; exact hS) (fun hHeld => ?_)
        rw [hU] at hHeld ⊢
        refine' wpAnyH_take (i := 0) (oi := _) (v := _) ?hZ0 (by kernel_rfl) (by kernel_rfl) (by kernel_rfl) ?hQZ0 (Or.inl ⟨?hwZ0, ?hyZ0⟩) hHeld ?restZ0
        case hZ0 => (simp only [List.getElem?_toArray, List.getElem?_cons_zero]; rfl)
        case hQZ0 => exact fun _ _ _ h => h
        case hwZ0 => rfl
        case hyZ0 => (intro w hSw; (try dsimp only at hSw); go_simp; try with_reducible rfl)
        try simp only [Act.put, List.setIfInBounds_toArray, List.set_cons_zero, List.set_cons_succ]
        refine' wpAnyH_take (i := 1) (oi := _) (v := _) ?hZ1 (by kernel_rfl) (by kernel_rfl) (by kernel_rfl) ?hQZ1 (Or.inl ⟨?hwZ1, ?hyZ1⟩) hHeld ?restZ1
        case hZ1 => (simp only [List.getElem?_toArray, List.getElem?_cons_succ, List.getElem?_cons_zero]; rfl)
        case hQZ1 => exact fun _ _ _ h => h
        case hwZ1 => rfl
        case hyZ1 => (intro w hSw; (try dsimp only at hSw); go_simp; try with_reducible rfl)
        try simp only [Act.put, List.setIfInBounds_toArray, List.set_cons_zero, List.set_cons_succ]
        refine' wpAnyH_take (i := 2) (oi := _) (v := _) ?hZ2 (by kernel_rfl) (by kernel_rfl) (by kernel_rfl) ?hQZ2 (Or.inl ⟨?hwZ2, ?hyZ2⟩) hHeld ?restZ2
        case hZ2 => (simp only [List.getElem?_toArray, List.getElem?_cons_succ, List.getElem?_cons_zero]; rfl)
        case hQZ2 => exact fun _ _ _ h => h
        case hwZ2 => rfl
        case hyZ2 => (intro w hSw; (try dsimp only at hSw); go_simp; try with_reducible rfl)
        try simp only [Act.put, List.setIfInBounds_toArray, List.set_cons_zero, List.set_cons_succ]
        refine' wpAnyH_take (i := 3) (oi := _) (v := _) ?hZ3 (by kernel_rfl) (by kernel_rfl) (by kernel_rfl) ?hQZ3 (Or.inl ⟨?hwZ3, ?hyZ3⟩) hHeld ?restZ3
        case hZ3 => (simp only [List.getElem?_toArray, List.getElem?_cons_succ, List.getElem?_cons_zero]; rfl)
        case hQZ3 => exact fun _ _ _ h => h
        case hwZ3 => rfl
        case hyZ3 => (intro w hSw; (try dsimp only at hSw); go_simp; try with_reducible rfl)
        try simp only [Act.put, List.setIfInBounds_toArray, List.set_cons_zero, List.set_cons_succ]
        refine' wpAnyH_take (i := 4) (oi := _) (v := _) ?hZ4 (by kernel_rfl) (by kernel_rfl) (by kernel_rfl) ?hQZ4 (Or.inl ⟨?hwZ4, ?hyZ4⟩) hHeld ?restZ4
        case hZ4 => (simp only [List.getElem?_toArray, List.getElem?_cons_succ, List.getElem?_cons_zero]; rfl)
        case hQZ4 => exact fun _ _ _ h => h
        case hwZ4 => rfl
        case hyZ4 => (intro w hSw; (try dsimp only at hSw); go_simp; try with_reducible rfl)
        try simp only [Act.put, List.setIfInBounds_toArray, List.set_cons_zero, List.set_cons_succ]
        refine' wpAnyH_take (i := 5) (oi := _) (v := _) ?hZ5 (by kernel_rfl) (by kernel_rfl) (by kernel_rfl) ?hQZ5 (Or.inl ⟨?hwZ5, ?hyZ5⟩) hHeld ?restZ5
        case hZ5 => (simp only [List.getElem?_toArray, List.getElem?_cons_succ, List.getElem?_cons_zero]; rfl)
        case hQZ5 => exact fun _ _ _ h => h
        case hwZ5 => rfl
        case hyZ5 => (intro w hSw; (try dsimp only at hSw); go_simp; try with_reducible rfl)
        try simp only [Act.put, List.setIfInBounds_toArray, List.set_cons_zero, List.set_cons_succ]
        refine' wpAnyH_take (i := 6) (oi := _) (v := _) ?hZ6 (by kernel_rfl) (by kernel_rfl) (by kernel_rfl) ?hQZ6 (Or.inl ⟨?hwZ6, ?hyZ6⟩) hHeld ?restZ6
        case hZ6 => (simp only [List.getElem?_toArray, List.getElem?_cons_succ, List.getElem?_cons_zero]; rfl)
        case hQZ6 => exact fun _ _ _ h => h
        case hwZ6 => rfl
        case hyZ6 => (intro w hSw; (try dsimp only at hSw); go_simp; try with_reducible rfl)
        try simp only [Act.put, List.setIfInBounds_toArray, List.set_cons_zero, List.set_cons_succ]
        refine' wpAnyH_take (i := 7) (oi := _) (v := _) ?hZ7 (by kernel_rfl) (by kernel_rfl) (by kernel_rfl) ?hQZ7 (Or.inl ⟨?hwZ7, ?hyZ7⟩) hHeld ?restZ7
        case hZ7 => (simp only [List.getElem?_toArray, List.getElem?_cons_succ, List.getElem?_cons_zero]; rfl)
        case hQZ7 => exact fun _ _ _ h => h
        case hwZ7 => rfl
        case hyZ7 => (intro w hSw; (try dsimp only at hSw); go_simp; try with_reducible rfl)
        try simp only [Act.put, List.setIfInBounds_toArray, List.set_cons_zero, List.set_cons_succ]
        refine' wpAnyH_take (i := 8) (oi := _) (v := _) ?hZ8 (by kernel_rfl) (by kernel_rfl) (by kernel_rfl) ?hQZ8 (Or.inl ⟨?hwZ8, ?hyZ8⟩) hHeld ?restZ8
        case hZ8 => (simp only [List.getElem?_toArray, List.getElem?_cons_succ, List.getElem?_cons_zero]; rfl)
        case hQZ8 => exact fun _ _ _ h => h
        case hwZ8 => rfl
        case hyZ8 => (intro w hSw; (try dsimp only at hSw); go_simp; try with_reducible rfl)
        try simp only [Act.put, List.setIfInBounds_toArray, List.set_cons_zero, List.set_cons_succ]
        refine' wpAnyH_take (i := 9) (oi := _) (v := _) ?hZ9 (by kernel_rfl) (by kernel_rfl) (by kernel_rfl) ?hQZ9 (Or.inl ⟨?hwZ9, ?hyZ9⟩) hHeld ?restZ9
        case hZ9 => (simp only [List.getElem?_toArray, List.getElem?_cons_succ, List.getElem?_cons_zero]; rfl)
        case hQZ9 => exact fun _ _ _ h => h
        case hwZ9 => rfl
        case hyZ9 => (intro w hSw; (try dsimp only at hSw); go_simp; try with_reducible rfl)
        try simp only [Act.put, List.setIfInBounds_toArray, List.set_cons_zero, List.set_cons_succ]
        refine' wpAnyH_take (i := 10) (oi := _) (v := _) ?hZ10 (by kernel_rfl) (by kernel_rfl) (by kernel_rfl) ?hQZ10 (Or.inl ⟨?hwZ10, ?hyZ10⟩) hHeld ?restZ10
        case hZ10 => (simp only [List.getElem?_toArray, List.getElem?_cons_succ, List.getElem?_cons_zero]; rfl)
        case hQZ10 => exact fun _ _ _ h => h
        case hwZ10 => rfl
        case hyZ10 => (intro w hSw; (try dsimp only at hSw); go_simp; try with_reducible rfl)
        try simp only [Act.put, List.setIfInBounds_toArray, List.set_cons_zero, List.set_cons_succ]
        refine' wpAnyH_take (i := 11) (oi := _) (v := _) ?hZ11 (by kernel_rfl) (by kernel_rfl) (by kernel_rfl) ?hQZ11 (Or.inl ⟨?hwZ11, ?hyZ11⟩) hHeld ?restZ11
        case hZ11 => (simp only [List.getElem?_toArray, List.getElem?_cons_succ, List.getElem?_cons_zero]; rfl)
        case hQZ11 => exact fun _ _ _ h => h
        case hwZ11 => rfl
        case hyZ11 => (intro w hSw; (try dsimp only at hSw); go_simp; try with_reducible rfl)
        try simp only [Act.put, List.setIfInBounds_toArray, List.set_cons_zero, List.set_cons_succ]
        refine' wpAnyH_take (i := 12) (oi := _) (v := _) ?hZ12 (by kernel_rfl) (by kernel_rfl) (by kernel_rfl) ?hQZ12 (Or.inl ⟨?hwZ12, ?hyZ12⟩) hHeld ?restZ12
        case hZ12 => (simp only [List.getElem?_toArray, List.getElem?_cons_succ, List.getElem?_cons_zero]; rfl)
        case hQZ12 => exact fun _ _ _ h => h
        case hwZ12 => rfl
        case hyZ12 => (intro w hSw; (try dsimp only at hSw); go_simp; try with_reducible rfl)
        try simp only [Act.put, List.setIfInBounds_toArray, List.set_cons_zero, List.set_cons_succ]
        refine wpAnyH_ready (rs := [13]) (by kernel_rfl) (by simp) ?_
        refine AllReadyH.cons rfl (fun K hK => ?_) AllReadyH.nil
        go_simp
        refine (FiF.fork_any x.g x.r x.ws x.li x.dr _ hqx).mono ?_
        rintro e V2 ⟨rfl, r2, hq2, hk2, hr2⟩
        try go_wp2_with fail
        refine hK.out _ _ (⟨(hk2.cell (p := ⟨d2, 0, none⟩) hd2 (by simp)).trans hHeld.1, (hk2.cell (p := ⟨x.p, 0, none⟩) hpl (by simp)).trans hHeld.2.1, (hk2.cell (p := ⟨x.p, 1, none⟩) hpl (by simp)).trans hHeld.2.2.1, (hk2.cell (p := ⟨x.p, 2, none⟩) hpl (by simp)).trans hHeld.2.2.2.1, (hk2.cell (p := ⟨x.p, 3, none⟩) hpl (by simp)).trans hHeld.2.2.2.2⟩) (fun hHeld' => ?_)
        clear hK K hHeld
        have hHeld := hHeld'
        clear hHeld'
        try simp only [Act.put, List.setIfInBounds_toArray, List.set_cons_zero, List.set_cons_succ]
        refine' wpAnyH_take (i := 14) (oi := _) (v := _) ?hZ14 (by kernel_rfl) (by kernel_rfl) (by kernel_rfl) ?hQZ14 (Or.inl ⟨?hwZ14, ?hyZ14⟩) hHeld ?restZ14
        case hZ14 => (simp only [List.getElem?_toArray, List.getElem?_cons_succ, List.getElem?_cons_zero]; rfl)
        case hQZ14 => exact fun _ _ _ h => h
        case hwZ14 => rfl
        case hyZ14 => (intro w hSw; (try dsimp only at hSw); go_simp; try with_reducible rfl)
        try simp only [Act.put, List.setIfInBounds_toArray, List.set_cons_zero, List.set_cons_succ]
        refine wpAnyH_ready (rs := [15]) (by kernel_rfl) (by simp) ?_
        refine AllReadyH.cons rfl (fun K hK => ?_) AllReadyH.nil
        go_simp
        refine hK.out _ _ (⟨(((Keeps.refl [] V2).alloc _).cell (p := ⟨d2, 0, none⟩) (Nat.lt_of_lt_of_le hd2 hk2.size) (by simp)).trans hHeld.1, (((Keeps.refl [] V2).alloc _).cell (p := ⟨x.p, 0, none⟩) (Nat.lt_of_lt_of_le hpl hk2.size) (by simp)).trans hHeld.2.1, (((Keeps.refl [] V2).alloc _).cell (p := ⟨x.p, 1, none⟩) (Nat.lt_of_lt_of_le hpl hk2.size) (by simp)).trans hHeld.2.2.1, (((Keeps.refl [] V2).alloc _).cell (p := ⟨x.p, 2, none⟩) (Nat.lt_of_lt_of_le hpl hk2.size) (by simp)).trans hHeld.2.2.2.1, (((Keeps.refl [] V2).alloc _).cell (p := ⟨x.p, 3, none⟩) (Nat.lt_of_lt_of_le hpl hk2.size) (by simp)).trans hHeld.2.2.2.2⟩) (fun hHeld' => ?_)
        clear hK K hHeld
        have hHeld := hHeld'
        clear hHeld'
        try simp only [Act.put, List.setIfInBounds_toArray, List.set_cons_zero, List.set_cons_succ]
        have hk3 : Keeps [] V2 (V2.alloc (.cells #[.int .i64 x.ow, .int .i64 x.ma, .int .i64 x.li, .pointer (some ⟨U.heap.size, 0, none⟩)] 74)) := (Keeps.refl _ _).alloc _
        have hF3 := (hFU.kk hk2).kk hk3
        obtain ⟨n9, hmp9, hcn9⟩ := hF3.mp
        have hcl9 : n9 ≤ 8 := by have := hDU.ln; omega
        obtain ⟨V5, hrun5, hmp5, hg5⟩ := hmp9.store (k : Int) hwf V2.heap.size (by simp only [maxLen]; omega)
        have hkm : Keeps [m2] (V2.alloc (.cells #[.int .i64 x.ow, .int .i64 x.ma, .int .i64 x.li, .pointer (some ⟨U.heap.size, 0, none⟩)] 74)) V5 := (Keeps.refl [m2] _).grown hg5 (fun b e => by cases e; simp)
        refine wpAnyH_ready (rs := [16]) (by kernel_rfl) (by simp) ?_
        refine' AllReadyH.cons (o := _) ?hoZ16 (fun K hK => ?stZ16) AllReadyH.nil
        case hoZ16 => (simp only [List.getElem?_toArray, List.getElem?_cons_succ, List.getElem?_cons_zero]; rfl)
        rw [if_pos (by rfl)]
        refine wp_mapSet _ _ _ _ rfl hrun5 ?_
        refine hK.out _ _ (⟨(hkm.cell (p := ⟨d2, 0, none⟩) (Nat.lt_of_lt_of_le hd2 (Nat.le_trans hk2.size hk3.size)) (by simp; exact hFU.dm)).trans hHeld.1, (hkm.cell (p := ⟨x.p, 0, none⟩) (Nat.lt_of_lt_of_le hpl (Nat.le_trans hk2.size hk3.size)) (by simp; omega)).trans hHeld.2.1, (hkm.cell (p := ⟨x.p, 1, none⟩) (Nat.lt_of_lt_of_le hpl (Nat.le_trans hk2.size hk3.size)) (by simp; omega)).trans hHeld.2.2.1, (hkm.cell (p := ⟨x.p, 2, none⟩) (Nat.lt_of_lt_of_le hpl (Nat.le_trans hk2.size hk3.size)) (by simp; omega)).trans hHeld.2.2.2.1, (hkm.cell (p := ⟨x.p, 3, none⟩) (Nat.lt_of_lt_of_le hpl (Nat.le_trans hk2.size hk3.size)) (by simp; omega)).trans hHeld.2.2.2.2⟩) (fun hHeld' => ?_)
        clear hK K hHeld
        have hHeld := hHeld'
        clear hHeld'
        try simp only [Act.put, List.setIfInBounds_toArray, List.set_cons_zero, List.set_cons_succ]
        refine wpAnyH_done (by kernel_rfl) ?_ _
        clear hHeld hS
        have hzu := hkU.size
        have hz2 := hk2.size
        have hql := hq2.lt
        have hadd := HF.out.add (H0.out.kp HF.out.kp) HX.out.1 HX.out.2 ((hkU.trans hk2).trans hk3) (hq2.kp hk3) (Blk.new V2 _ _) (by omega) (by omega) (by omega) (by omega) (by omega) hcn9 hmp5 hg5
        have HA := Lib.hid hadd
        clear hadd hF3 hFU hDU hqx hq2 hmp9 hcn9 hmp5 hg5 hrun5 hkm hk3 hk2 hkU
        go_wp2
        go_roundw
        case rel =>
          obtain ⟨φ', h9⟩ := HA.out
          exact ⟨k + 1, φ', by omega, by omega, by go_num, h9⟩
        case measure => simp [intOf]; omega
      · obtain rfl : k = 9 := by omega
        clear hFr hDr
        go_wp2
        go_ret
        exact HF.out.done (H0.out.kp HF.out.kp)
end Nc
end Go.Proofs.Ytdbkgpnbmafpmaa
namespace Go.Proofs.Ytdbkgpnbmafpmaa
open Go.RowKit Go.Maps Go.Deep
namespace Nc
open Sm Fr
theorem take_nil (k : Int) (w : World) : Calls Try.prog 16 #[.pointer none, .int .i64 k] w fun e w' => e = .returned (.tuple #[.agg #[.int .i64 0, .int .i64 0, .string ⟨#[]⟩], .int .i64 1]) ∧ Keeps [] w w' := by
  go_enter Try.func16, Try.ntmps16
  go_wp2_with fail
  refine (find_nil k _).mono ?_
  rintro e w' ⟨rfl, rfl⟩
  go_wp2
  refine bodyPost_ret (v := .tuple #[.agg #[.int .i64 0, .int .i64 0, .string ⟨#[]⟩], .int .i64 1]) (by simp [results, Try.results16, go_sem]) rfl ?_
  exact ⟨rfl, (Keeps.refl _ _).alloc _⟩
theorem come_nil (s : ByteArray) (w : World) : Calls Try.prog 12 #[.pointer none, .string s] w fun e w' => e = .returned (.tuple #[.int .i64 0, .bool false]) ∧ Keeps [] w w' := by
  go_enter Try.func12, Try.ntmps12
  go_wp2
  go_ret2
  exact ⟨rfl, Keeps.refl _ _⟩
theorem waits_nil (k : Int) (w : World) : Calls Try.prog 14 #[.pointer none, .int .i64 k] w fun e w' => e = .returned (.int .i64 0) ∧ w = w' := by
  go_enter Try.func14, Try.ntmps14
  go_wp2_with fail
  refine (find_nil k _).mono ?_
  rintro e w' ⟨rfl, rfl⟩
  go_wp2
  go_ret
  exact ⟨rfl, rfl⟩
theorem drops_nil (k : Int) (w : World) : Calls Try.prog 15 #[.pointer none, .int .i64 k] w fun e w' => e = .returned (.int .i64 0) ∧ w = w' := by
  go_enter Try.func15, Try.ntmps15
  go_wp2_with fail
  refine (find_nil k _).mono ?_
  rintro e w' ⟨rfl, rfl⟩
  go_wp2
  go_ret
  exact ⟨rfl, rfl⟩
theorem odd_nil (w : World) : Calls Try.prog 21 #[.pointer none] w fun e w' => e = .returned (.int .i64 0) ∧ w = w' := by
  go_enter Try.func21, Try.ntmps21
  go_wp2
  go_ret
  exact ⟨rfl, rfl⟩
theorem log_nil (w : World) : Calls Try.prog 18 #[.pointer none] w fun e w' => e = .returned (.slice none 0 0) ∧ w = w' := by
  go_enter Try.func18, Try.ntmps18
  go_wp2
  go_ret
  exact ⟨rfl, rfl⟩
theorem send_nil (ti k to_ : Int) (da : ByteArray) (w : World) : Calls Try.prog 17 #[.pointer none, .int .i64 ti, .int .i64 k, .int .i64 to_, .string da] w fun e w' => e = .returned (.int .i64 1) ∧ w = w' := by
  go_enter Try.func17, Try.ntmps17
  go_wp2_with fail
  refine (find_nil k _).mono ?_
  rintro e w' ⟨rfl, rfl⟩
  go_wp2
  go_ret
  exact ⟨rfl, rfl⟩
section
variable {w w1 w2 w' : World} {d m y c n j d2 m2 y2 c2 : Nat} {od : Int} {a la a2 la2 : Option Addr} {lg : List Sn} {L : List Pt} {lb lb2 G G' S : List Nat} {Ps : List RP} {xs : List Pr} {φ : Pt → Pt}
/-- What becomes of others' blocks. -/
theorem Stp.other (h : Stp w d m y od a c lg L la n lb Ps G xs j) (hk : Keeps S w w') (hS : ∀ b ∈ S, b ∈ G ∧ b ∉ foot d m y L ∧ b ∉ lb) (hG : ∀ b ∈ G', b ∈ G ∨ w.heap.size ≤ b) (hl : ∀ b ∈ G', b < w'.heap.size) : Stp w' d m y od a c lg L la n lb Ps G' xs j := by
  have h1 := h.keeps hk (fun b hb => .inr (hS b hb))
  have hd : Doc w (lb ++ foot d m y L ++ G') L Ps ∧ True := ⟨h.dc.more (by
    intro b hb
    simp only [List.mem_append] at hb ⊢
    rcases hb with hb | hb
    · exact .inl (.inl hb)
    · rcases hG b hb with h9 | h9
      · exact .inl (.inr h9)
      · exact .inr h9), trivial⟩
  refine ⟨h1.dv, h1.rw, h1.dj, ⟨h.dc.ln, fun i x p hx hp => ?_⟩, h1.n8, hl, h1.sd, h1.lg⟩
  obtain ⟨e1, e2, e3, e4, e5, e6, e7⟩ := hd.1.eq i x p hx hp
  obtain ⟨_, _, _, _, _, _, f7⟩ := h.dc.eq i x p hx hp
  refine ⟨e1, e2, e3, e4, e5, e6, e7.1, fun h0 => ?_⟩
  obtain ⟨b, eb, hb, hn, hr⟩ := e7.2 h0
  obtain ⟨b', eb', hb', hn', _⟩ := f7.2 h0
  rw [eb] at eb'
  injection eb' with eb'
  injection eb' with eb'
  subst eb'
  have hbS : b ∉ S := fun hm => hn' (List.mem_append.2 (.inr (hS b hm).1))
  exact ⟨b, eb, Nat.lt_of_lt_of_le hb hk.size, hn, fun u v hu => (hk.cell (p := ⟨b, 0 + u, none⟩) hb hbS).trans (hr u v hu)⟩
/-- The fork's state. -/
theorem stp_fork (h : Stp w d m y od a c lg L la n lb Ps [] xs j) (hl : ∀ x, Like x (φ x)) (hk1 : Keeps [] w w1) (hD : Dev w1 d2 m2 od y2 a2 c2 lg (L.map φ)) (hf : ∀ b ∈ foot d2 m2 y2 (L.map φ), w.heap.size ≤ b) (hk2 : Keeps [] w1 w2) (hr : RowP w2 la2 n lb2 Ps) (hb : ∀ b ∈ lb2, w1.heap.size ≤ b) :
    Stp w2 d2 m2 y2 od a2 c2 lg (L.map φ) la2 n lb2 Ps [] xs j ∧ Stp w2 d m y od a c lg L la n lb Ps (lb2 ++ foot d2 m2 y2 (L.map φ)) xs j := by
  have hk := hk1.trans hk2
  have hlt := hD.lt
  have hz := hk1.size
  refine ⟨⟨hD.kp hk2, hr, fun b hbb hff => ?_, ⟨by rw [List.length_map]; exact h.dc.ln, fun i x p hx hp => ?_⟩, h.n8, by simp, ⟨?_, h.sd.o0, h.sd.o1, fun x hx => ?_⟩, h.lg⟩, h.other hk (by simp) (fun b hb9 => ?_) (fun b hb9 => ?_)⟩
  · have := hb b hbb
    have := hlt b hff
    omega
  · rw [List.getElem?_map, Option.map_eq_some_iff] at hx
    obtain ⟨z, hz9, rfl⟩ := hx
    obtain ⟨e1, e2, e3, e4, e5, e6, e7⟩ := h.dc.eq i z p hz9 hp
    have hq := hl z
    refine ⟨e1.trans hq.ow.symm, e2.trans hq.ma.symm, e3.trans hq.li.symm, e4.trans hq.dr.symm, by rw [hq.ws]; exact e5, e6, ?_⟩
    rw [hq.ws]
    refine (e7.more (G := lb2 ++ foot d2 m2 y2 (L.map φ) ++ []) (fun b hb9 => .inr ?_)).keeps hk (by simp)
    simp only [List.append_nil, List.mem_append] at hb9
    rcases hb9 with hb9 | hb9
    · have := hb b hb9; omega
    · exact hf b hb9
  · rw [List.map_map, ← h.sd.ky]
    refine List.map_congr_left fun x _ => ?_
    show key (φ x) = key x
    unfold key
    rw [(hl x).ow, (hl x).ma, (hl x).li]
  · obtain ⟨z, hz9, rfl⟩ := List.mem_map.1 hx
    rw [(hl z).dr]
    exact h.sd.dr z hz9
  · right
    rcases List.mem_append.1 hb9 with hb9 | hb9
    · have := hb b hb9; omega
    · exact hf b hb9
  · rcases List.mem_append.1 hb9 with hb9 | hb9
    · exact hr.lt b hb9
    · have := hlt b hb9
      have := hk2.size
      omega
theorem rflat_one (l : List RP) : ∀ u ∈ rflat l, u.oneCell' = true := by
  intro u hu
  simp only [rflat, List.mem_flatMap] at hu
  obtain ⟨x, _, hx⟩ := hu
  exact rpc_one x u hx
theorem rp_reads (h : RowP w la n lb Ps) : Reads w w.heap.size 5 la n (rflat Ps) := by
  refine ⟨by rw [rflat_len, h.rr.1], fun h0 => ?_⟩
  obtain ⟨b, rfl, hb, hc⟩ := h.rr.2 h0
  refine ⟨_, rfl, hb, fun u v hu => ?_⟩
  have hj : u < n * 5 := by
    have := (List.getElem?_eq_some_iff.1 hu).1
    rwa [rflat_len, h.rr.1] at this
  have hi : u / 5 < Ps.length := by rw [h.rr.1]; omega
  have hm : u % 5 < 5 := Nat.mod_lt _ (by decide)
  have hd : u / 5 * 5 + u % 5 = u := by omega
  have hp : Ps[u / 5]? = some (Ps[u / 5]'hi) := List.getElem?_eq_getElem hi
  have h1 := rflat_get Ps (u / 5) _ hp (u % 5) hm
  rw [hd, hu] at h1
  have h2 := hc (u / 5) _ hp (u % 5) v h1.symm
  rw [hd] at h2
  have e2 : (⟨b, 0, none⟩ : Addr).add u = ⟨b, u, none⟩ := by unfold Addr.add; by_cases h0 : u = 0 <;> simp [h0]
  rw [e2]
  exact h2
end
end Nc
end Go.Proofs.Ytdbkgpnbmafpmaa
