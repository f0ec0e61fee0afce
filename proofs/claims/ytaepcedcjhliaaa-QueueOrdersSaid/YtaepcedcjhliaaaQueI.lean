/- The law QueueOrders: its walk. -/
import Derived.Test.YtaepcedcjhliaaaQueH
namespace Go.Proofs.Ytaepcedcjhliaaa
open Go.RowKit
namespace Qp
open Sm FiT
theorem bool_all : (Try.prog.info? 4).map (fun i => (i.zero, i.size, i.bytes)) = some (some (.bool false), 1, 1) := by kernel_rfl
theorem bls_one (l : List Bool) : ∀ u ∈ bls l, u.oneCell' = true := by
  intro u hu
  simp only [bls, List.mem_map] at hu
  obtain ⟨x, _, rfl⟩ := hu
  rfl
theorem reads_b (w : World) (b : Bool) : Reads (w.alloc (.cells #[.bool b] 4)) (w.heap.size + 1) 1 (some ⟨w.heap.size, 0, none⟩) 1 (bls [b]) := by
  refine ⟨rfl, fun _ => ⟨_, rfl, by simp, fun j u hu => ?_⟩⟩
  have hj : j = 0 := by
    rcases Nat.eq_zero_or_pos j with h | h
    · exact h
    · simp [bls] at hu; rw [List.getElem?_eq_none (by simp; omega)] at hu; cases hu
  subst hj
  simp [bls] at hu
  have : (⟨w.heap.size, 0, none⟩ : Addr).add 0 = ⟨w.heap.size, 0, none⟩ := by unfold Addr.add; simp
  rw [this, ← hu]
  simp
section
variable {w wr w1 w2 w3 : World} {q k posted fin : Nat} {lim : Int} {P : List Bool} {pa pp : Option Addr} {pc g r y c cc : Nat} {a : Option Addr} {l : List It} {dl : List Cl} {x : It}
theorem OrdS.push (h : OrdS w wr q lim k P pa pc g r y a c l dl posted fin) (ht : To q g r y (l ++ [x]) dl lim wr w1) (hk : Keeps [] w1 w2) (hown : w3.ownsRow w.heap.size 4 1 (.slice pp (P.length + 1) cc) (P.length + 1) (bls P ++ bls [x.bad])) (hg : w2.grownBy w3 (Value.slice pa P.length pc).ownBlock)
    (hat : (Value.slice pp (P.length + 1) cc).ownBlock = (Value.slice pa P.length pc).ownBlock ∨ (Value.slice pp (P.length + 1) cc).ownBlock = some w2.heap.size) (hx : x.k = (P.length : Int)) : Ord w q lim (k + 1) w3 (.slice pp (P.length + 1) cc) posted fin := by
  obtain ⟨r', y', a', c', h1, h2, h3, h4⟩ := ht
  obtain ⟨b1, b2, b3, b4⟩ := h.bs
  have hz := h.kp.size
  have hz2 := h2.size
  have hz3 := hk.size
  have hl1 := h1.lt
  have hsep : ∀ b, (Value.slice pa P.length pc).ownBlock = some b → b ≠ q ∧ b ≠ g ∧ b ≠ r' ∧ b ≠ y' ∧ w.heap.size ≤ b := fun b hb => by
    have h5 := h.sep b hb
    have h6 := h.row.lt b hb
    omega
  have hkg : Keeps [] w w2 := (h.kp.next h2 (by simp; omega)).trans hk
  have hq3 : Qe w3 q g r' y' a' c' (l ++ [x]) dl lim := by
    rcases hb : (Value.slice pa P.length pc).ownBlock with _ | b
    · rw [hb] at hg
      exact (h1.kp hk).kp ((Keeps.refl [] w2).grown hg (by simp))
    · rw [hb] at hg
      have h5 := hsep b hb
      exact (h1.kp hk).keeps ((Keeps.refl [b] w2).grown hg (fun j hj => by cases hj; simp)) (by simp; omega)
  have e : Value.slice pp (P.length + 1) cc = .slice pp (P ++ [x.bad]).length cc := by rw [List.length_append]; rfl
  rw [e]
  refine ord_mk ⟨hq3, hkg.grown hg (fun j hj => .inr (hsep j hj).2.2.2.2), by omega, ?_, ?_, h.acc.put x hx, by have := h.pk; simp; omega, by have := h.fk; omega⟩
  · rw [← e, List.length_append, show bls (P ++ [x.bad]) = bls P ++ bls [x.bad] from by simp [bls]]
    exact hown
  · rw [← e]
    intro b hb
    rcases hat with hat | hat
    · have := hsep b (by rw [← hat]; exact hb)
      omega
    · rw [hat] at hb
      injection hb with hb
      omega
end
theorem deed_cells {wr : World} {b o : Nat} {d ds dn : Int} {x : It} (h : wr.rangeAt b o ([.int .i64 d] ++ cs x ++ [.int .i64 ds, .int .i64 dn])) :
    wr.cell? ⟨b, o, none⟩ = some (.int .i64 d) ∧ wr.cell? ⟨b, o + 1, none⟩ = some (.int .i64 x.k) ∧ wr.cell? ⟨b, o + 2, none⟩ = some (.int .u8 x.wh) ∧ wr.cell? ⟨b, o + 3, none⟩ = some (.int .u8 x.st) ∧ wr.cell? ⟨b, o + 4, none⟩ = some (.int .i64 x.ad) ∧ wr.cell? ⟨b, o + 5, none⟩ = some (.int .i64 x.ln) ∧ wr.cell? ⟨b, o + 6, none⟩ = some (.int .i64 x.ar) ∧ wr.cell? ⟨b, o + 7, none⟩ = some (.bool x.bad) ∧ wr.cell? ⟨b, o + 8, none⟩ = some (.int .i64 ds) ∧ wr.cell? ⟨b, o + 9, none⟩ = some (.int .i64 dn) :=
  ⟨h 0 _ rfl, h 1 _ rfl, h 2 _ rfl, h 3 _ rfl, h 4 _ rfl, h 5 _ rfl, h 6 _ rfl, h 7 _ rfl, h 8 _ rfl, h 9 _ rfl⟩
theorem OrdS.post {w wr w' : World} {q k posted fin : Nat} {lim : Int} {P : List Bool} {pa : Option Addr} {pc g r y c r' : Nat} {a : Option Addr} {l : List It} {dl : List Cl} (h : OrdS w wr q lim k P pa pc g r y a c l dl posted fin) (hq : Qe w' q g r' q none 0 (setL l) [] lim) (hk : Keeps [q, g, r, y] wr w') (hr : r' = r ∨ wr.heap.size ≤ r') : Ord w q lim (k + 1) w' (.slice pa P.length pc) (posted + (setD l dl).length) fin := by
  obtain ⟨b1, b2, b3, b4⟩ := h.bs
  have hz := h.kp.size
  refine ord_mk ⟨hq, h.kp.next hk (by simp; omega), by omega, ownsRow_keeps h.row hk (fun b hb => by have := h.sep b hb; simp; omega), ?_, h.acc.settle.post, by have := h.pk; omega, by have := h.fk; omega⟩
  intro b hb
  have h5 := h.sep b hb
  have h6 := (h.row.lt b hb).2
  omega
theorem Ord.kp {w wr w' : World} {q k posted fin : Nat} {lim : Int} {v : Value} (h : Ord w q lim k wr v posted fin) (hk : Keeps [] wr w') : Ord w q lim k w' v posted fin := by
  obtain ⟨P, pa, pc, g, r, y, a, c, l, dl, rfl, hs⟩ := h.open_
  exact ord_mk (hs.kp_ hk)
theorem posted_at {w : World} {q yy B : Nat} {P : List Bool} {pa am : Option Addr} {pc cm : Nat} {l : List It} {D : List Cl} {posted fin : Nat} (h : Acc P l D posted fin) (hl : Lst w q yy am cm D) (hr : w.ownsRow B 4 1 (.slice pa P.length pc) P.length (bls P)) (j : Nat) (x : Cl) (hj : D[j]? = some x) :
    ∃ pb, pa = some ⟨pb, 0, none⟩ ∧ am = some ⟨yy, 0, none⟩ ∧ ∀ m, m = posted + j → w.cell? ⟨yy, j * 9, none⟩ = some (.int .i64 (m : Int)) ∧ w.cell? ⟨yy, j * 9 + 7, none⟩ = some (.int .i64 x.st) ∧ w.cell? ⟨pb, m, none⟩ = some (.bool x.it.bad) ∧ m < P.length ∧ (x.st == 2) = x.it.bad := by
  obtain ⟨h1, h2, h3, h4⟩ := h.at_ j x hj
  obtain ⟨e1, _, hc⟩ := hl.cells (by have := (List.getElem?_eq_some_iff.1 hj).1; omega)
  obtain ⟨pb, cap, hv, _, _⟩ := hr.form (by omega)
  injection hv with e2
  subst e2
  refine ⟨pb, rfl, e1, fun m hm => ?_⟩
  subst hm
  refine ⟨?_, hc j x hj 7 _ rfl, ?_, h1, ?_⟩
  · rw [← h2]; exact hc j x hj 0 _ rfl
  · rw [hr.cellAt (posted + j) (by omega), bls, List.getElem?_map, h3]; rfl
  · rw [← h4]; rfl
set_option maxRecDepth 100000 in
set_option maxHeartbeats 4000000 in
theorem orders_law (o : Int) (a : Option Addr) (len cap : Nat) (R : Nat → Nat → Value) (w : World) (_wo : (Lit.int .i64 o).wf = true) (hR : Recs w a len cap deedK R) :
    Calls Try.prog 3 #[.int .i64 o, .slice a len cap] w fun e w' => e = .returned (.bool true) ∧ Below w.heap.size w w' := by
  obtain ⟨i0, hi0, hz0, hz1, hz2⟩ := info_parts bool_all
  have HI := Lib.hid (And.intro hi0 (And.intro hz0 (And.intro hz1 hz2)))
  clear hi0 hz0 hz1 hz2
  obtain ⟨hlen, hcap⟩ := hR.len
  have HR := Lib.hid hR
  clear hR
  go_enter Try.func3, Try.ntmps3
  go_wp2_with fail
  refine (new_q o _).mono ?_
  rintro e w1 ⟨q, g, rfl, hq, hk1, hq0, hg0⟩
  have h0 : Ord w q (qlim o) 0 w1 (.slice none 0 0) 0 0 := ord_mk (P := []) ⟨hq, hk1, by omega, ⟨rfl, .inl ⟨rfl, rfl⟩⟩, (by intro b hb; cases hb), acc_0, by simp, by simp⟩
  generalize hL : qlim o = L at *
  have hLb : L ≤ 16 := by rw [← hL]; exact (qlim_bd o).2
  clear hq hk1 hL hg0
  go_wp2
  go_loopw [6, 7, 8, 9] (fun v p f i wr => ∃ k pn fn : Nat, k ≤ len ∧ k ≤ 80 ∧ i = .int .i64 k ∧ p = .int .i64 pn ∧ f = .int .i64 fn ∧ Ord w q L k wr v pn fn) (fun _ _ _ i _ => 80 - (intOf i).toNat)
  case atStart => exact ⟨0, 0, 0, by omega, by omega, rfl, rfl, rfl, h0⟩
  case round =>
    clear h0
    obtain ⟨k, pn, fn, hkl, hk80, rfl, rfl, rfl, hh⟩ := hrel
    obtain ⟨P, pa, pc, g, r, y, a1, c1, l, dl, rfl, hS⟩ := hh.open_
    clear hh
    have hpk := hS.pk
    have hfk := hS.fk
    have htot := hS.acc.tot
    by_cases hlt : k < len ∧ k < 80
    · obtain ⟨hkl', hk80'⟩ := hlt
      obtain ⟨b, off, rfl, hbl, hrange⟩ := deed_at HR.out hS.kp k hkl'
      clear HR
      have hk0 : (0 : Int) ≤ (k : Int) := by omega
      have hk1 : (k : Int) < (len : Int) := by omega
      have hdk : decide ((k : Int) < 80) = true := decide_eq_true (by omega)
      generalize numAt R k 0 = d at *
      generalize numAt R k 8 = ds at *
      generalize numAt R k 9 = dn at *
      generalize itAt R k = x at *
      have HS := Lib.hid hS
      clear hS
      obtain ⟨g0, g1, g2, g3, g4, g5, g6, g7, g8, g9⟩ := deed_cells hrange
      clear hrange
      by_cases h0 : d = 0
      · subst h0
        go_wp2_with fail
        have hkA : Keeps [] wr (wr.alloc (.cells #[.int .i64 0, .int .i64 (P.length : Int), .int .u8 x.wh, .int .u8 x.st, .int .i64 x.ad, .int .i64 x.ln, .int .i64 x.ar, .bool x.bad, .int .i64 ds, .int .i64 dn] 32)) := (Keeps.refl _ _).alloc _
        have hSA := HS.out.kp_ hkA
        have hBA := Blk.new wr 32 #[.int .i64 0, .int .i64 (P.length : Int), .int .u8 x.wh, .int .u8 x.st, .int .i64 x.ad, .int .i64 x.ln, .int .i64 x.ar, .bool x.bad, .int .i64 ds, .int .i64 dn]
        have hlt0 := HS.out.qe.lt
        have hz0 := HS.out.kp.size
        clear g0 g1 g2 g3 g4 g5 g6 g7 g8 g9 hkA
        by_cases hf : (l.length : Int) + (dl.length : Int) < L
        · refine (put_ok ⟨(P.length : Int), x.wh, x.st, x.ad, x.ln, x.ar, x.bad⟩ _ hSA.qe hf).mono ?_
          rintro e v1 ⟨rfl, hto⟩
          obtain ⟨r', y', a', c', _, h2, _, _⟩ := id hto
          have hb7 : v1.cell? ⟨wr.heap.size, 7, none⟩ = some (.bool x.bad) := (hBA.keeps h2 (by simp; omega)).cell 7
          have hrow1 := ownsRow_keeps hSA.row h2 (fun b hb => by have := HS.out.sep b hb; simp; omega)
          have hz1 := h2.size
          simp at hz1
          have HTO := Lib.hid hto
          have HSA := Lib.hid hSA
          clear hto hSA h2 hBA
          go_wp2_with (at_builtin; refine wpList_append_any _ rfl (.tmp 80) (.tmp 84) _ rfl w.heap.size 4 i0 _ 1 1 Try.underlying25 HI.out.1 HI.out.2.1 HI.out.2.2.1 HI.out.2.2.2 rfl (by decide) (.slice pa P.length pc) P.length _ rfl (ownsRow_keeps hrow1 ((Keeps.refl [] v1).alloc (.cells #[.bool x.bad] 4)) (by simp)) _ _ 1 1 (bls [x.bad]) rfl (reads_b v1 x.bad) (bls_one _) (by simp only [maxLen]; omega) (by omega) (by simp; omega) ?_; intro vv w3 hown hgg hat; obtain ⟨pp, cc, rfl⟩ := own_form hown)
          go_roundw
          case rel => exact ⟨k + 1, pn, fn, by omega, by omega, by go_num, rfl, rfl, HSA.out.push HTO.out ((Keeps.refl [] v1).alloc (.cells #[.bool x.bad] 4)) hown hgg hat rfl⟩
          case measure => simp [intOf]; omega
        · refine (put_full ⟨(P.length : Int), x.wh, x.st, x.ad, x.ln, x.ar, x.bad⟩ _ hSA.qe (by omega)).mono ?_
          rintro e v1 ⟨rfl, hto⟩
          have hO := hSA.to hto hSA.acc (by omega)
          clear hto hSA hBA
          go_wp2
          go_roundw
          case rel => exact ⟨k + 1, pn, fn, by omega, by omega, by go_num, rfl, rfl, hO⟩
          case measure => simp [intOf]; omega
      · have hd0 : (d == 0) = false := by simpa using h0
        have hkA : Keeps [] wr (wr.alloc (.cells #[.int .i64 d, .int .i64 x.k, .int .u8 x.wh, .int .u8 x.st, .int .i64 x.ad, .int .i64 x.ln, .int .i64 x.ar, .bool x.bad, .int .i64 ds, .int .i64 dn] 32)) := (Keeps.refl _ _).alloc _
        have hSA := HS.out.kp_ hkA
        clear hkA
        by_cases h1 : d = 1
        · subst h1
          go_wp2_with fail
          refine (settle_q _ hSA.qe).mono ?_
          rintro e v1 ⟨rfl, hto⟩
          have hO := hSA.to hto hSA.acc.settle (by omega)
          clear hto hSA g0 g1 g2 g3 g4 g5 g6 g7 g8 g9
          go_wp2
          go_roundw
          case rel => exact ⟨k + 1, pn, fn, by omega, by omega, by go_num, rfl, rfl, hO⟩
          case measure => simp [intOf]; omega
        · have hd1 : (d == 1) = false := by simpa using h1
          by_cases h2 : d = 2
          · subst h2
            go_wp2_with fail
            refine (head_q _ hSA.qe).mono ?_
            rintro e v1 ⟨rfl, hto⟩
            have hO := hSA.to hto hSA.acc.settle (by omega)
            clear hto hSA g0 g1 g2 g3 g4 g5 g6 g7 g8 g9
            go_wp2
            go_roundw
            case rel => exact ⟨k + 1, pn, fn, by omega, by omega, by go_num, rfl, rfl, hO⟩
            case measure => simp [intOf]; omega
          · have hd2 : (d == 2) = false := by simpa using h2
            by_cases h3 : d = 3
            · subst h3
              go_wp2_with fail
              refine (finish_q 1 (k : Int) _ hSA.qe).mono ?_
              rintro e v1 hfin
              rcases hfin with ⟨h9, rfl, hto⟩ | ⟨xh, t, h9, rfl, hto⟩
              · have hac := hSA.acc.settle
                rw [h9] at hac
                have hO := hSA.to hto hac (by omega)
                clear hto hSA g0 g1 g2 g3 g4 g5 g6 g7 g8 g9
                go_wp2
                go_roundw
                case rel => exact ⟨k + 1, pn, fn, by omega, by omega, by go_num, rfl, rfl, hO⟩
                case measure => simp [intOf]; omega
              · have hac := hSA.acc.settle
                rw [h9] at hac
                have hO := hSA.to hto (hac.finish (setL_good l xh t h9) (k : Int)) (by omega)
                clear hto hSA g0 g1 g2 g3 g4 g5 g6 g7 g8 g9
                go_wp2
                go_roundw
                case rel => exact ⟨k + 1, pn, fn + 1, by omega, by omega, by go_num, rfl, by go_num, hO⟩
                case measure => simp [intOf]; omega
            · have hd3 : (d == 3) = false := by simpa using h3
              go_wp2_with fail
              refine (post_q _ hSA.qe).mono ?_
              rintro e v1 ⟨am, cm, yy, rfl, hlst, _, _, r', hq', hk', hr', _, _⟩
              have hac := hSA.acc.settle
              have hO := hSA.post hq' hk' hr'
              have hrow1 := ownsRow_keeps hSA.row hk' (fun b hb => by have := HS.out.sep b hb; simp; omega)
              have HC := Lib.hid (fun j xj hj => posted_at hac hlst hrow1 j xj hj)
              have hDl : (setD l dl).length ≤ 80 := by have := hac.tot; omega
              clear hac hlst hrow1 hq' hk' hSA g0 g1 g2 g3 g4 g5 g6 g7 g8 g9
              generalize hD : setD l dl = D at *
              clear hD
              go_wp2
              go_loopw [7, 12] (fun p c wx => ∃ j m : Nat, j ≤ D.length ∧ m = pn + j ∧ p = .int .i64 (m : Int) ∧ c = .int .i64 j ∧ Drawn v1 wx) (fun _ c _ => D.length - (intOf c).toNat)
              case atStart => exact ⟨0, pn, by omega, rfl, rfl, rfl, Drawn.refl _⟩
              case round =>
                obtain ⟨j, m, hjD, hm, rfl, rfl, hdr⟩ := hrel
                by_cases hj : j < D.length
                · obtain ⟨xj, hxj⟩ : ∃ xj, D[j]? = some xj := ⟨_, List.getElem?_eq_getElem hj⟩
                  obtain ⟨pb, rfl, rfl, hmm⟩ := HC.out j xj hxj
                  obtain ⟨m0, m7, mp, mlt, meq⟩ := hmm m hm
                  have n0 := (hdr.cell _).trans m0
                  have n7 := (hdr.cell _).trans m7
                  have np := (hdr.cell _).trans mp
                  have HDR := Lib.hid hdr
                  have hj0 : (0 : Int) ≤ (j : Int) := by omega
                  have hj1 : (j : Int) < (D.length : Int) := by omega
                  have hm0 : (0 : Int) ≤ (m : Int) := by omega
                  have hm1 : (m : Int) < (P.length : Int) := by omega
                  have hdec : decide ((P.length : Int) ≤ (m : Int)) = false := by simp; omega
                  have HM := Lib.hid hm
                  clear m0 m7 mp hdr hmm hm
                  go_wp2_with fail
                  go_quiet (fail)
                  go_wp2
                  go_roundw
                  case rel => exact ⟨j + 1, m + 1, by omega, by have := HM.out; omega, by go_num, by go_num, HDR.out.draws _⟩
                  case measure => simp [intOf]; omega
                · have hje : D.length = j := by omega
                  have hO2 := hO.kp ((Keeps.refl [] v1).drawn hdr)
                  rw [hje, ← hm] at hO2
                  have hjn : ¬ ((j : Int) < (D.length : Int)) := by omega
                  clear hO hdr HC hm
                  go_wp2
                  go_roundw
                  case rel => exact ⟨k + 1, m, fn, by omega, by omega, by go_num, rfl, rfl, hO2⟩
                  case measure => simp [intOf]; omega
    · have hlt' : len ≤ k ∨ 80 ≤ k := by omega
      clear hlt HR
      obtain ⟨hrow, hacc⟩ := And.intro hS.row hS.acc
      have HS := Lib.hid hS
      have HROW := Lib.hid hrow
      have hgood := hacc.good
      clear hS hrow hacc
      by_cases hc1 : k < len
      case' pos => have hk80' : ¬ k < 80 := by omega
      all_goals
        go_wp2_with fail
        go_loopw [13, 14] (fun gd i wx => ∃ j : Nat, j ≤ pn ∧ i = .int .i64 j ∧ gd = .int .i64 (goods (P.take j) : Int) ∧ wx = wr) (fun _ i _ => pn - (intOf i).toNat)
        case atStart => exact ⟨0, by omega, rfl, by simp [goods], rfl⟩
        case round =>
          obtain ⟨j, hj, rfl, rfl, rfl⟩ := hrel
          have hjk : (goods (P.take j) : Int) ≤ 80 ∧ P.length ≤ 80 := by
            have : goods (P.take j) ≤ (P.take j).length := List.length_filter_le _ _
            rw [List.length_take] at this
            omega
          by_cases hjp : j < pn
          · have hjP : j < P.length := by omega
            obtain ⟨pb, cap9, hv, _, _⟩ := HROW.out.form (by omega)
            injection hv with e1
            subst e1
            have hcb : wr.cell? ⟨pb, j, none⟩ = some (.bool P[j]) := by
              rw [HROW.out.cellAt j (by omega), bls, List.getElem?_map, List.getElem?_eq_getElem hjP]; rfl
            have hgs : goods (P.take (j + 1)) = goods (P.take j) + (if P[j] then 0 else 1) := by
              rw [List.take_succ_eq_append_getElem hjP, goods_app, goods_one]
            have hj0 : (0 : Int) ≤ (j : Int) := by omega
            have hj1 : (j : Int) < (P.length : Int) := by omega
            have hj2 : (j : Int) < (pn : Int) := by omega
            generalize P[j] = bb at *
            cases bb
            · simp only [Bool.false_eq_true, if_false] at hgs
              have HG := Lib.hid hgs
              clear hgs
              generalize goods (P.take j) = gj at *
              go_wp2
              go_roundw
              case rel => exact ⟨j + 1, by omega, by go_num, by rw [HG.out]; go_num, trivial⟩
              case measure => simp [intOf]; omega
            · simp only [if_true, Nat.add_zero] at hgs
              have HG := Lib.hid hgs
              clear hgs
              generalize goods (P.take j) = gj at *
              go_wp2
              go_roundw
              case rel => exact ⟨j + 1, by omega, by go_num, by rw [HG.out], trivial⟩
              case measure => simp [intOf]; omega
          · obtain rfl : j = pn := by omega
            have hq := HS.out.qe
            have htt := HS.out.acc.tot
            have hkp := HS.out.kp
            have HQ := Lib.hid hq
            have HK := Lib.hid hkp
            clear hq hkp HS HROW
            generalize goods (P.take j) = gj at *
            have hgf : (gj : Int) ≤ (fn : Int) := by omega
            go_wp2_with fail
            refine (live_any _).mono ?_
            rintro e v1 ⟨rfl, hk1⟩
            have HL := Lib.hid (fun m => len_q (v1.drewN m) ((HQ.out.kp hk1).kp ((Keeps.refl [] v1).drewN m)))
            have HKK := Lib.hid (HK.out.trans hk1)
            clear hk1 HQ HK
            have hsum : (j : Int) + ((l.length : Int) + (dl.length : Int)) = (P.length : Int) := by omega
            generalize l.length = ln at *
            generalize dl.length = dn2 at *
            go_wp2_with fail
            refine (HL.out 0).mono ?_
            rintro e v2 ⟨rfl, hd2⟩
            go_wp2
            go_ret
            exact ⟨rfl, (HKK.out.drawn hd2).all⟩
end Qp
end Go.Proofs.Ytaepcedcjhliaaa
