/- A device: what a port's turn makes of it; Waits, Drops, Odd, Take, Log. -/
import Derived.Test.YtdbkgpnbmafpmaaNicB
import Derived.Test.YtdbkgpnbmafpmaaQrFF
import Derived.Test.YtdbkgpnbmafpmaaRes
namespace Go.Proofs.Ytdbkgpnbmafpmaa
open Go.RowKit Go.Maps
attribute [local go_sem] FiF.cs
namespace Nc
open Sm
/-- The list with one port turned. -/
def upd (L : List Pt) (x' : Pt) : List Pt := L.map (fun z => if z.ow = x'.ow then x' else z)
/-- A port that is the same but for what waits and was dropped. -/
structure Same (x x' : Pt) : Prop where
  ow : x'.ow = x.ow
  ma : x'.ma = x.ma
  li : x'.li = x.li
  p : x'.p = x.p
  g : x'.g = x.g
section
variable {w w' : World} {d m y c : Nat} {od : Int} {a : Option Addr} {lg : List Sn} {L : List Pt} {S : List Nat} {x x' : Pt}
theorem upd_len : (upd L x').length = L.length := by simp [upd]
theorem upd_mem {z : Pt} (h : z ∈ upd L x') : (z = x' ∧ ∃ z0 ∈ L, z0.ow = x'.ow) ∨ (z ∈ L ∧ z.ow ≠ x'.ow) := by
  simp only [upd, List.mem_map] at h
  obtain ⟨z0, h0, e⟩ := h
  by_cases ho : z0.ow = x'.ow
  · rw [if_pos ho] at e; exact .inl ⟨e.symm, z0, h0, ho⟩
  · rw [if_neg ho] at e; subst e; exact .inr ⟨h0, ho⟩
theorem upd_find (hs : Same x x') (hx : x ∈ L) (hp : L.Pairwise Apart) (f : Pt → Bool) (hf : f x' = f x) : (upd L x').find? f = (L.find? f).map (fun z => if z.ow = x'.ow then x' else z) := by
  unfold upd
  rw [List.find?_map]
  have : (L.find? (f ∘ fun z => if z.ow = x'.ow then x' else z)) = L.find? f := by
    have hall : ∀ z ∈ L, (f ∘ fun z => if z.ow = x'.ow then x' else z) z = f z := by
      intro z hz
      show f (if z.ow = x'.ow then x' else z) = f z
      by_cases ho : z.ow = x'.ow
      · rw [if_pos ho, hf, pw_ow hp z hz x hx (ho.trans hs.ow)]
      · rw [if_neg ho]
    clear hp hx
    induction L with
    | nil => rfl
    | cons z t ih =>
      rw [List.find?_cons, List.find?_cons, hall z (by simp), ih (fun u hu => hall u (by simp [hu]))]
  rw [this]
theorem upd_fnd (hs : Same x x') (hx : x ∈ L) (hp : L.Pairwise Apart) : fnd (upd L x') = fnd L := by
  funext k
  unfold fnd
  rw [upd_find hs hx hp _ (by rw [hs.ow])]
  rcases he : L.find? (fun z => z.ow == k) with _ | z
  · rw [he]; rfl
  · rw [he]
    simp only [Option.map_some]
    by_cases ho : z.ow = x'.ow
    · rw [if_pos ho, hs.p, pw_ow hp z (List.mem_of_find?_eq_some he) x hx (ho.trans hs.ow)]
    · rw [if_neg ho]
theorem upd_own (hs : Same x x') (hx : x ∈ L) (hp : L.Pairwise Apart) : own (upd L x') = own L := by
  funext k
  unfold own
  rw [upd_find hs hx hp _ (by rw [hs.ma])]
  rcases he : L.find? (fun z => z.ma == k) with _ | z
  · rw [he]; rfl
  · rw [he]
    simp only [Option.map_some, Option.getD_some]
    by_cases ho : z.ow = x'.ow
    · rw [if_pos ho]; exact ho.symm
    · rw [if_neg ho]
/-- What a call makes of a device. -/
def To (d m : Nat) (F : List Nat) (od : Int) (lg : List Sn) (L : List Pt) (w w' : World) : Prop :=
  ∃ y a c, Dev w' d m od y a c lg L ∧ Keeps F w w' ∧ ∀ b ∈ foot d m y L, b ∈ F ∨ w.heap.size ≤ b
theorem To.refl (h : Dev w d m od y a c lg L) (hk : Keeps [] w w') : To d m (foot d m y L) od lg L w w' := ⟨y, a, c, h.kp hk, hk.more (by simp), fun b hb => .inl hb⟩
theorem To.then {w1 : World} {F : List Nat} (h : To d m F od lg L w w1) (hk : Keeps [] w1 w') : To d m F od lg L w w' := by
  obtain ⟨y, a, c, h1, h2, h3⟩ := h
  exact ⟨y, a, c, h1.kp hk, h2.next hk (by simp), h3⟩
theorem To.from {w1 : World} {F : List Nat} (h : To d m F od lg L w1 w') (hk : Keeps [] w w1) : To d m F od lg L w w' := by
  obtain ⟨y, a, c, h1, h2, h3⟩ := h
  have := hk.size
  exact ⟨y, a, c, h1, (hk.more (by simp)).trans h2, fun b hb => by rcases h3 b hb with h | h; exact .inl h; exact .inr (by omega)⟩
theorem bk_sub (hx : x ∈ L) : ∀ b ∈ bks x, b ∈ foot d m y L := fun b hb => mem_foot.2 (.inr (.inr (.inr ⟨x, hx, hb⟩)))
/-- One port has turned. -/
theorem Dev.turn (h : Dev w d m od y a c lg L) (hx : x ∈ L) (hs : Same x x') (hk : Keeps [x.g, x.r] w w') (hr : x'.r = x.r ∨ w.heap.size ≤ x'.r) (hq : FiF.Qu w' x'.g x'.r x'.ws x'.li x'.dr) : To d m (foot d m y L) od lg (upd L x') w w' := by
  have hfx := h.fr x hx
  have hpx := h.pt x hx
  have hlt := h.lt
  have hg := hfx x.g (by simp [bks])
  have hrr := hfx x.r (by simp [bks])
  have hpl := hpx.b.lt
  have hok : PtOk w' x' := by
    refine ⟨?_, hq, hs.ow ▸ hpx.o1, hs.ow ▸ hpx.o2, hs.ma ▸ hpx.m1, hs.ma ▸ hpx.m2, hs.li ▸ hpx.l1, hs.li ▸ hpx.l2, ?_, ?_⟩
    · rw [hs.p, hs.ow, hs.ma, hs.li, hs.g]
      exact hpx.b.keeps hk (by simp; exact ⟨hpx.pg, hpx.pr⟩)
    · rw [hs.p, hs.g]; exact hpx.pg
    · rw [hs.p]
      rcases hr with e | e
      · rw [e]; exact hpx.pr
      · omega
  have hbx : ∀ b ∈ bks x', b ∈ bks x ∨ w.heap.size ≤ b := by
    intro b hb
    simp only [bks, List.mem_cons, List.not_mem_nil, or_false] at hb ⊢
    rcases hb with rfl | rfl | rfl
    · exact .inl (.inl hs.p)
    · exact .inl (.inr (.inl hs.g))
    · rcases hr with e | e
      · exact .inl (.inr (.inr e))
      · exact .inr e
  have hother : ∀ z ∈ L, z.ow ≠ x'.ow → ∀ b ∈ bks z, b ∉ bks x := by
    intro z hz hne b hb hbx
    obtain ⟨i, hi, rfl⟩ := List.getElem_of_mem hz
    obtain ⟨j, hj, rfl⟩ := List.getElem_of_mem hx
    have hp := h.ap
    rw [List.pairwise_iff_getElem] at hp
    rcases Nat.lt_trichotomy i j with h1 | h1 | h1
    · exact (hp i j hi hj h1).bk b hb hbx
    · subst h1; exact hne hs.ow.symm
    · exact (hp j i hj hi h1).bk b hbx hb
  have hothw : ∀ z ∈ L, z.ow ≠ x'.ow → ∀ b ∈ bks z, b ∉ bks x' := by
    intro z hz hne b hb hbx'
    rcases hbx b hbx' with h1 | h1
    · exact hother z hz hne b hb h1
    · have := hlt b (bk_sub hz b hb); omega
  refine ⟨y, a, c, ⟨h.b.keeps hk (by simp; exact ⟨Ne.symm hg.1, Ne.symm hrr.1⟩), ?_, h.lg.keeps hk (by simp; exact ⟨Ne.symm hg.2.2, Ne.symm hrr.2.2⟩), ?_, ?_, ?_, h.dm, h.ym, by rw [upd_len]; exact h.ln⟩, ?_, ?_⟩
  · rw [upd_len, upd_fnd hs hx h.ap]
    exact h.mp.keeps hk (by simp; exact ⟨Ne.symm hg.2.1, Ne.symm hrr.2.1⟩)
  · intro z hz
    rcases upd_mem hz with ⟨rfl, _⟩ | ⟨hz0, hne⟩
    · exact hok
    · refine (h.pt z hz0).keeps hk (fun b hb => ?_)
      have := hother z hz0 hne b hb
      simp only [bks, List.mem_cons, List.not_mem_nil, or_false, not_or] at this ⊢
      exact this.2
  · unfold upd
    rw [List.pairwise_map]
    refine h.ap.imp_of_mem ?_
    intro u v hu hv huv
    by_cases h1 : u.ow = x'.ow
    · rw [if_pos h1]
      by_cases h2 : v.ow = x'.ow
      · exact absurd (h1.trans h2.symm) huv.ow
      · rw [if_neg h2]
        have hux := pw_ow h.ap u hu x hx (h1.trans hs.ow)
        subst hux
        exact ⟨fun e => h2 e.symm, by rw [hs.ma]; exact huv.ma, fun b hb hbv => hothw v hv h2 b hbv hb⟩
    · rw [if_neg h1]
      by_cases h2 : v.ow = x'.ow
      · rw [if_pos h2]
        have hvx := pw_ow h.ap v hv x hx (h2.trans hs.ow)
        subst hvx
        exact ⟨h1, by rw [hs.ma]; exact huv.ma, fun b hb => hothw u hu h1 b hb⟩
      · rw [if_neg h2]; exact huv
  · intro z hz b hb
    rcases upd_mem hz with ⟨rfl, _⟩ | ⟨hz0, _⟩
    · rcases hbx b hb with h1 | h1
      · exact hfx b h1
      · have h2 := hlt d (by simp [foot])
        have h3 := hlt m (by simp [foot])
        have h4 := hlt y (by simp [foot])
        refine ⟨?_, ?_, ?_⟩ <;> omega
    · exact h.fr z hz0 b hb
  · refine hk.more ?_
    intro b hb
    exact bk_sub hx b (by simp only [bks, List.mem_cons, List.not_mem_nil, or_false] at hb ⊢; exact .inr hb)
  · intro b hb
    rcases mem_foot.1 hb with rfl | rfl | rfl | ⟨z, hz, hbz⟩
    · exact .inl (by simp [foot])
    · exact .inl (by simp [foot])
    · exact .inl (by simp [foot])
    · rcases upd_mem hz with ⟨rfl, _⟩ | ⟨hz0, _⟩
      · rcases hbx b hbz with h1 | h1
        · exact .inl (bk_sub hx b h1)
        · exact .inr h1
      · exact .inl (bk_sub hz0 b hbz)
end
/-- The port of an owner. -/
def pt? (L : List Pt) (k : Int) : Option Pt := L.find? (fun x => x.ow == k)
theorem fnd_pt (L : List Pt) (k : Int) : fnd L k = (pt? L k).map (·.p) := rfl
section
variable {d m y c : Nat} {od : Int} {a : Option Addr} {lg : List Sn} {L : List Pt}
theorem pt_mem {x : Pt} {k : Int} (h : pt? L k = some x) : x ∈ L ∧ x.ow = k := ⟨List.mem_of_find?_eq_some h, by have := List.find?_some h; simpa using this⟩
theorem waits_any (k : Int) (w : World) (h : Dev w d m od y a c lg L) (hk : (Lit.int .i64 k).wf = true) :
    Calls Try.prog 14 #[.pointer (some ⟨d, 0, none⟩), .int .i64 k] w fun e w' => e = .returned (.int .i64 (match pt? L k with | none => 0 | some x => (x.ws.length : Int))) ∧ w = w' := by
  have HF := Lib.hid (find_any k w h hk)
  rw [fnd_pt] at HF
  rcases hp : pt? L k with _ | x
  · rw [hp] at HF
    clear h
    go_enter Try.func14, Try.ntmps14
    go_wp2_with fail
    refine HF.out.mono ?_
    rintro e w' ⟨rfl, rfl⟩
    simp only [Option.map_none, pv]
    go_wp2
    go_ret
    exact ⟨rfl, rfl⟩
  · rw [hp] at HF
    obtain ⟨hx, _⟩ := pt_mem hp
    obtain ⟨_, _, _, p3⟩ := (h.pt x hx).cells
    have HL := Lib.hid (FiF.len_any x.g x.r x.ws x.li x.dr w (h.pt x hx).q)
    clear h
    go_enter Try.func14, Try.ntmps14
    go_wp2_with fail
    refine HF.out.mono ?_
    rintro e w' ⟨rfl, rfl⟩
    simp only [Option.map_some, pv]
    go_wp2_with fail
    refine HL.out.mono ?_
    rintro e w' ⟨rfl, rfl⟩
    go_wp2
    go_ret
    exact ⟨rfl, rfl⟩
theorem drops_dev (k : Int) (w : World) (h : Dev w d m od y a c lg L) (hk : (Lit.int .i64 k).wf = true) :
    Calls Try.prog 15 #[.pointer (some ⟨d, 0, none⟩), .int .i64 k] w fun e w' => e = .returned (.int .i64 (match pt? L k with | none => 0 | some x => x.dr)) ∧ w = w' := by
  have HF := Lib.hid (find_any k w h hk)
  rw [fnd_pt] at HF
  rcases hp : pt? L k with _ | x
  · rw [hp] at HF
    clear h
    go_enter Try.func15, Try.ntmps15
    go_wp2_with fail
    refine HF.out.mono ?_
    rintro e w' ⟨rfl, rfl⟩
    simp only [Option.map_none, pv]
    go_wp2
    go_ret
    exact ⟨rfl, rfl⟩
  · rw [hp] at HF
    obtain ⟨hx, _⟩ := pt_mem hp
    obtain ⟨_, _, _, p3⟩ := (h.pt x hx).cells
    have HL := Lib.hid (FiF.drops_any x.g x.r x.ws x.li x.dr w (h.pt x hx).q)
    clear h
    go_enter Try.func15, Try.ntmps15
    go_wp2_with fail
    refine HF.out.mono ?_
    rintro e w' ⟨rfl, rfl⟩
    simp only [Option.map_some, pv]
    go_wp2_with fail
    refine HL.out.mono ?_
    rintro e w' ⟨rfl, rfl⟩
    go_wp2
    go_ret
    exact ⟨rfl, rfl⟩
theorem odd_any (w : World) (h : Dev w d m od y a c lg L) : Calls Try.prog 21 #[.pointer (some ⟨d, 0, none⟩)] w fun e w' => e = .returned (.int .i64 od) ∧ w = w' := by
  obtain ⟨_, c1, _, _⟩ := h.cells
  clear h
  go_enter Try.func21, Try.ntmps21
  go_wp2
  go_ret
  exact ⟨rfl, rfl⟩
end
end Nc
end Go.Proofs.Ytdbkgpnbmafpmaa
