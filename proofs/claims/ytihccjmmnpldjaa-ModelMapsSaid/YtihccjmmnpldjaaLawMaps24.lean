/-
  ModelMaps: the walk.
-/
import Derived.Test.YtihccjmmnpldjaaLawMapsA24
import Derived.Deep.CutRange
set_option linter.unusedSimpArgs false
set_option linter.unusedVariables false
set_option maxRecDepth 100000
namespace Go.Proofs.Ytihccjmmnpldjaa
open Go.RowKit

set_option maxHeartbeats 60000000 in
theorem walk_ModelMaps (sp : Option Addr) (n cap : Nat) (ps : Ps) (sq : Option Addr) (m cq : Nat) (qs : Ps) (X Y : An) (a : Option Addr) (la ca : Nat) (za : Ps) (b : Option Addr) (lb cb : Nat) (zb : Ps) (w : World) (hin : RowIn w sp n cap ps) (him : RowIn w sq m cq qs) (hia : RowIn w a la ca za) (hib : RowIn w b lb cb zb) :
    Calls Try.prog 4 #[.agg #[.slice sp n cap], .agg #[.slice sq m cq], .agg (twoA X Y a la ca b lb cb)] w fun e w' => e = .returned (.bool true) ∧ Below w.heap.size w w' := by
  have H0 := ((Hs.nil w).new2 #[.slice sp n cap] #[.slice sq m cq] 24 24).new (twoA X Y a la ca b lb cb) 44
  simp only [World.size_alloc] at H0
  obtain ⟨W0, hW0⟩ : ∃ W0, W0 = ((w.alloc (.cells #[.slice sp n cap] 24)).alloc (.cells #[.slice sq m cq] 24)).alloc (.cells (twoA X Y a la ca b lb cb) 44) := ⟨_, rfl⟩
  rw [← hW0] at H0
  obtain ⟨xs, hxs⟩ : ∃ xs, xs = ps.take 40 := ⟨_, rfl⟩
  obtain ⟨ys, hys⟩ : ∃ ys, ys = qs.take 40 := ⟨_, rfl⟩
  obtain ⟨m1, hm1⟩ : ∃ m1, m1 = min n 40 := ⟨_, rfl⟩
  obtain ⟨m2, hm2⟩ : ∃ m2, m2 = min m 40 := ⟨_, rfl⟩
  have H0'h := Lib.hid H0
  have hW0'h := Lib.hid hW0
  have hin'h := Lib.hid hin
  have him'h := Lib.hid him
  have hia'h := Lib.hid hia
  have hib'h := Lib.hid hib
  have hxs'h := Lib.hid hxs
  have hys'h := Lib.hid hys
  have hm1'h := Lib.hid hm1
  have hm2'h := Lib.hid hm2
  clear H0 hW0 hin him hia hib hxs hys hm1 hm2
  go_enter Try.func4, Try.ntmps4
  go_upto_region 1 with fail
  change Code.wp _ _ _ _ (((w.alloc (.cells #[.slice sp n cap] 24)).alloc (.cells #[.slice sq m cq] 24)).alloc (.cells (twoA X Y a la ca b lb cb) 44))
  rw [← hW0'h.out]
  go_upto_region 3 with (go_at_call 7; refine (wakes_any _).mono ?_; rintro e w1 ⟨rfl, hb1⟩)
  have H1 := H0'h.out.next hb1
  have OX : ∀ W, Below w1.heap.size w1 W → Calls Try.prog 8 #[.agg #[.slice sp n cap]] W (RowLikeF sp m1 xs W) := fun W hb => by
    rw [hm1'h.out, hxs'h.out]; exact own_fresh sp n cap ps W (hin'h.out.sl.below (H1.next hb).old) hin'h.out.nil hin'h.out.le
  have OY : ∀ W, Below w1.heap.size w1 W → Calls Try.prog 8 #[.agg #[.slice sq m cq]] W (RowLikeF sq m2 ys W) := fun W hb => by
    rw [hm2'h.out, hys'h.out]; exact own_fresh sq m cq qs W (him'h.out.sl.below (H1.next hb).old) him'h.out.nil him'h.out.le
  have hkeep : ∀ W' : World, Below w1.heap.size w1 W' → ((W'.cell? ⟨w.heap.size, 0, none⟩ = some (.slice sp n cap) ∧ W'.cell? ⟨w.heap.size + 1, 0, none⟩ = some (.slice sq m cq)) ∧ Below w1.heap.size w1 W') := fun W' hb => ⟨⟨blk_cell (i := 0) (H1.next hb).rows.2.2.1 rfl, blk_cell (i := 0) (H1.next hb).rows.2.1 rfl⟩, hb⟩
  have k0 := hkeep _ (Below.refl _ _)
  have H1'h := Lib.hid H1
  have OX'h := Lib.hid OX
  have OY'h := Lib.hid OY
  have hkeep'h := Lib.hid hkeep
  have hb1'h := Lib.hid hb1
  clear H1 OX OY hkeep hb1
  obtain ⟨⟨k1, k2⟩, k3⟩ := k0
  go_cut [7, 8] from 19 to 116 (fun t u wr => Cut3 w1 m1 m2 xs ys t u wr)
  case first =>
    go_region_held3 (fun W' => (W'.cell? ⟨w.heap.size, 0, none⟩ = some (.slice sp n cap) ∧ W'.cell? ⟨w.heap.size + 1, 0, none⟩ = some (.slice sq m cq)) ∧ Below w1.heap.size w1 W') (exact hkeep'h.out _ (by repeat (first | assumption | refine below_alloc' ?_ _ | refine Below.drew ?_ | refine below_set' ?_ (by first | (simp only; omega) | (simp; omega)) _))) (first | (go_at_call 8; (with_reducible refine (OX'h.out _ ?_).mono ?_); (repeat (first | assumption | refine below_alloc' ?_ _ | refine Below.drew ?_ | refine below_set' ?_ (by first | (simp only; omega) | (simp; omega)) _)); rintro e wA ⟨sa, ka, rfl, hba, hSa, hfa, hna⟩; have hBa := below_next (show Below w1.heap.size w1 _ by repeat (first | assumption | refine below_alloc' ?_ _ | refine Below.drew ?_ | refine below_set' ?_ (by first | (simp only; omega) | (simp; omega)) _)) hba; have hza := hba.size; (try simp only [World.size_alloc, World.size_drew] at hza); obtain ⟨hca, hfra⟩ := bcell hba; (try have hl1 : w1.heap.size < wA.heap.size := (by omega)); (try have hl2 : w1.heap.size + 1 < wA.heap.size := (by omega)); have hba'h := Lib.hid hba; have hSa'h := Lib.hid hSa; have hfa'h := Lib.hid hfa; have hna'h := Lib.hid hna; clear hba hSa hfa hna) | (go_at_call 8; (with_reducible refine (OY'h.out _ ?_).mono ?_); (repeat (first | assumption | refine below_alloc' ?_ _ | refine Below.drew ?_ | refine below_set' ?_ (by first | (simp only; omega) | (simp; omega)) _)); rintro e wB ⟨sb, kb, rfl, hbb, hSb, hfb, _⟩; have hBb := below_next (show Below w1.heap.size w1 _ by repeat (first | assumption | refine below_alloc' ?_ _ | refine Below.drew ?_ | refine below_set' ?_ (by first | (simp only; omega) | (simp; omega)) _)) hbb; have hzb := hbb.size; (try simp only [World.size_alloc, World.size_drew] at hzb); obtain ⟨hcb, hfrb⟩ := bcell hbb; (try have hl3 : w1.heap.size < wB.heap.size := (by omega)); (try have hl4 : w1.heap.size + 1 < wB.heap.size := (by omega)); (try have hl5 : wA.heap.size < wB.heap.size := (by omega)); (try have hl6 : wA.heap.size + 1 < wB.heap.size := (by omega)); have hbb'h := Lib.hid hbb; have hSb'h := Lib.hid hSb; have hfb'h := Lib.hid hfb; clear hbb hSb hfb))
    all_goals
      go_wp2
      go_meet
      refine ⟨_, _, sa, ka, sb, kb, rfl, rfl, ?_⟩
      refine TwoBox.mk ?_ ?_ ?_ ?_ hna'h.out ?_
      · (repeat (first | exact World.alloc_heap_new _ _ | exact heap_alloc2_new _ _ _ | exact heap_alloc2_old _ _ _ | exact alloc_set_new _ _ _ _ | (refine blk_set (cs := #[.slice none 0 0]) (i := 0) _ ?_) | (refine (Below.heap_alloc _ _ _ (by first | omega | (simp only; omega) | (simp only [World.size_alloc, World.size_drew]; omega) | (simp <;> omega))).trans ?_) | (refine (Below.heap_setCell _ _ _ _ (by first | omega | (simp only; omega) | (simp only [World.size_alloc, World.size_drew]; omega) | (simp <;> omega))).trans ?_) | (refine heap_below hbb'h.out ?_ (by first | omega | (simp only; omega) | (simp only [World.size_alloc, World.size_drew]; omega) | (simp <;> omega))) | (refine heap_below hba'h.out ?_ (by first | omega | (simp only; omega) | (simp only [World.size_alloc, World.size_drew]; omega) | (simp <;> omega)))))
      · (repeat (first | exact World.alloc_heap_new _ _ | exact heap_alloc2_new _ _ _ | exact heap_alloc2_old _ _ _ | exact alloc_set_new _ _ _ _ | (refine blk_set (cs := #[.slice none 0 0]) (i := 0) _ ?_) | (refine (Below.heap_alloc _ _ _ (by first | omega | (simp only; omega) | (simp only [World.size_alloc, World.size_drew]; omega) | (simp <;> omega))).trans ?_) | (refine (Below.heap_setCell _ _ _ _ (by first | omega | (simp only; omega) | (simp only [World.size_alloc, World.size_drew]; omega) | (simp <;> omega))).trans ?_) | (refine heap_below hbb'h.out ?_ (by first | omega | (simp only; omega) | (simp only [World.size_alloc, World.size_drew]; omega) | (simp <;> omega))) | (refine heap_below hba'h.out ?_ (by first | omega | (simp only; omega) | (simp only [World.size_alloc, World.size_drew]; omega) | (simp <;> omega)))))
      · refine SlK.keep hSa'h.out (fun q o hq he ho => ?_)
        have hf := hfa'h.out q he
        (try simp only [World.size_alloc, World.size_drew] at hf)
        (repeat (first | exact ho | (refine (Below.heap_alloc _ _ _ (by first | omega | (simp only; omega) | (simp only [World.size_alloc, World.size_drew]; omega) | (simp <;> omega))).trans ?_) | (refine (Below.heap_setCell _ _ _ _ (by first | omega | (simp only; omega) | (simp only [World.size_alloc, World.size_drew]; omega) | (simp <;> omega))).trans ?_) | (refine heap_below hbb'h.out ?_ (by first | omega | (simp only; omega) | (simp only [World.size_alloc, World.size_drew]; omega) | (simp <;> omega)))))
      · refine SlK.keep hSb'h.out (fun q o hq he ho => ?_)
        have hf := hfb'h.out q he
        (try simp only [World.size_alloc, World.size_drew] at hf)
        (repeat (first | exact ho | (refine (Below.heap_alloc _ _ _ (by first | omega | (simp only; omega) | (simp only [World.size_alloc, World.size_drew]; omega) | (simp <;> omega))).trans ?_) | (refine (Below.heap_setCell _ _ _ _ (by first | omega | (simp only; omega) | (simp only [World.size_alloc, World.size_drew]; omega) | (simp <;> omega))).trans ?_) | (refine heap_below hbb'h.out ?_ (by first | omega | (simp only; omega) | (simp only [World.size_alloc, World.size_drew]; omega) | (simp <;> omega)))))
      · (repeat (first | assumption | refine below_alloc' ?_ _ | refine Below.drew ?_ | refine below_set' ?_ (by first | (simp only; omega) | (simp; omega)) _))
  case rest =>
    obtain ⟨b1, b2, sa, ka, sb, kb, rfl, rfl, hTB⟩ := hcut
    have H3 := H1'h.out.next hTB.old
    clear k1 k2 k3
    have hml1 := prs_len hTB.sl1
    have hml2 := prs_len hTB.sl2
    have hx40 : xs.length ≤ 40 := by rw [hxs'h.out, List.length_take]; omega
    have hy40 : ys.length ≤ 40 := by rw [hys'h.out, List.length_take]; omega
    have hma : m1 ≤ 40 := by omega
    have hmb : m2 ≤ 40 := by omega
    have q0 : wc.cell? ⟨b1, 0, none⟩ = some (.slice sa m1 ka) := blk_cell (i := 0) hTB.one rfl
    have R4 := ref_rise sa m1 ka xs wc hTB.sl1
    have C5 : ∀ W, Below wc.heap.size wc W → Calls Try.prog 9 #[.agg #[.slice sa m1 ka]] W fun e w' => e = .returned (errUp (upB xs)) ∧ Below W.heap.size W w' := fun W hb => mcheck_any sa m1 ka xs W (hTB.sl1.below hb)
    obtain ⟨u, hu⟩ : ∃ u, u = upB xs := ⟨_, rfl⟩
    rw [← hu] at R4 C5
    unfold errUp at C5
    have hone : ∀ W, Below wc.heap.size wc W → W.cell? ⟨b1, 0, none⟩ = some (.slice sa m1 ka) := fun W hb => blk_cell (i := 0) (heap_below hb hTB.one (lt_of_heap hTB.one)) rfl
    have H3'h := Lib.hid H3
    have hTB'h := Lib.hid hTB
    have hml1'h := Lib.hid hml1
    have hml2'h := Lib.hid hml2
    have hx40'h := Lib.hid hx40
    have hy40'h := Lib.hid hy40
    have R4'h := Lib.hid R4
    have C5'h := Lib.hid C5
    have hu'h := Lib.hid hu
    have hone'h := Lib.hid hone
    clear H3 hTB hml1 hml2 hx40 hy40 R4 C5 hu hone
    go_upto_region 6 with (first | (go_at_call 13; refine R4'h.out.mono ?_; rintro e w4 ⟨rfl, hb4⟩; have q4 := hone'h.out _ hb4; have hb4'h := Lib.hid hb4; clear hb4) | (go_at_call 9; refine (C5'h.out _ hb4'h.out).mono ?_; rintro e w5 ⟨rfl, hb5⟩; have hb5'h := Lib.hid hb5; clear hb5))
    clear q0 q4
    have hb35 := below_next hb4'h.out hb5'h.out
    have H5 := H3'h.out.next hb35
    have h1 := heap_below hb35 hTB'h.out.one (lt_of_heap hTB'h.out.one)
    have h2 := heap_below hb35 hTB'h.out.two (lt_of_heap hTB'h.out.two)
    have s1 := hTB'h.out.sl1.below hb35
    have s2 := hTB'h.out.sl2.below hb35
    obtain ⟨er, her⟩ : ∃ er : Int, er = (if u then 0 else 340) := ⟨_, rfl⟩
    have t1 : ((er == 0) != u) = false := by rw [her]; cases u <;> rfl
    have t2 : ((er != 0) && (er != 340)) = false := by rw [her]; cases u <;> rfl
    obtain ⟨r, hr⟩ : ∃ r, r = decide (xs = ys) := ⟨_, rfl⟩
    have t3 : (r != r) = false := by simp
    have SM : ∀ W, Below w5.heap.size w5 W → Calls Try.prog 14 #[.agg #[.slice sa m1 ka], .agg #[.slice sb m2 kb]] W fun e w' => e = .returned (.bool r) ∧ Below W.heap.size W w' := fun W hb => by rw [hr]; exact msame_any _ _ _ _ _ _ _ _ W (s1.below hb) (s2.below hb)
    have SR : ∀ W, Below w5.heap.size w5 W → Calls Try.prog 15 #[.agg #[.slice sa m1 ka], .agg #[.slice sb m2 kb]] W fun e w' => e = .returned (.bool r) ∧ Below W.heap.size W w' := fun W hb => by rw [hr]; exact rsame_any _ _ _ _ _ _ _ _ W (s1.below hb) (s2.below hb)
    have OX5 : ∀ W, Below w5.heap.size w5 W → Calls Try.prog 8 #[.agg #[.slice sp n cap]] W (RowLikeF sp m1 xs W) := fun W hb => OX'h.out W (below_next (hTB'h.out.old) (below_next hb35 hb))
    have SO : ∀ W (so : Option Addr) (ko : Nat), Below w5.heap.size w5 W → SlK W 2 so m1 (prs xs) → Calls Try.prog 14 #[.agg #[.slice sa m1 ka], .agg #[.slice so m1 ko]] W fun e w' => e = .returned (.bool true) ∧ Below W.heap.size W w' := fun W so ko hb hS => same_self _ _ _ _ _ _ _ W (s1.below hb) hS
    have hkeep : ∀ W' : World, Below w5.heap.size w5 W' → ((W'.cell? ⟨b1, 0, none⟩ = some (.slice sa m1 ka) ∧ W'.cell? ⟨b2, 0, none⟩ = some (.slice sb m2 kb) ∧ W'.cell? ⟨w.heap.size, 0, none⟩ = some (.slice sp n cap)) ∧ Below w5.heap.size w5 W') := fun W' hb => ⟨⟨blk_cell (i := 0) (heap_below hb h1 (lt_of_heap h1)) rfl, blk_cell (i := 0) (heap_below hb h2 (lt_of_heap h2)) rfl, blk_cell (i := 0) (H5.next hb).rows.2.2.1 rfl⟩, hb⟩
    have k0 := hkeep _ (Below.refl _ _)
    rw [← her]
    have H5'h := Lib.hid H5
    have h1'h := Lib.hid h1
    have h2'h := Lib.hid h2
    have s1'h := Lib.hid s1
    have s2'h := Lib.hid s2
    have her'h := Lib.hid her
    have hr'h := Lib.hid hr
    have SM'h := Lib.hid SM
    have SR'h := Lib.hid SR
    have OX5'h := Lib.hid OX5
    have SO'h := Lib.hid SO
    have hkeep'h := Lib.hid hkeep
    have hb35'h := Lib.hid hb35
    clear H5 h1 h2 s1 s2 her hr SM SR OX5 SO hkeep hb35
    obtain ⟨⟨k1, k2, k3⟩, k4⟩ := k0
    go_cut [56] from 29 to 116 (fun t wr => t = .bool false ∧ Below w5.heap.size w5 wr)
    case first =>
      have key : ∀ (er0 : Int) (u0 : Bool), er = er0 → u = u0 → (er0 = if u0 then 0 else 340) → True := fun _ _ _ _ _ => trivial
      clear key
      cases u with
      | true =>
        obtain rfl : er = 0 := her'h.out
        first | (go_region_held (fun W' => (W'.cell? ⟨b1, 0, none⟩ = some (.slice sa m1 ka) ∧ W'.cell? ⟨b2, 0, none⟩ = some (.slice sb m2 kb) ∧ W'.cell? ⟨w.heap.size, 0, none⟩ = some (.slice sp n cap)) ∧ Below w5.heap.size w5 W') (exact hkeep'h.out _ (by (repeat (first | assumption | exact Below.refl _ _ | refine Below.drew ?_)))) (first | (go_at_call 14; (with_reducible refine (SM'h.out _ ?_).mono ?_); (repeat (first | assumption | exact Below.refl _ _ | refine Below.drew ?_)); rintro e z1 ⟨rfl, hb⟩; have hz1 := below_next (show Below w5.heap.size w5 _ by repeat (first | assumption | exact Below.refl _ _ | refine Below.drew ?_)) hb; clear hb) | (go_at_call 15; (with_reducible refine (SR'h.out _ ?_).mono ?_); (repeat (first | assumption | exact Below.refl _ _ | refine Below.drew ?_)); rintro e z2 ⟨rfl, hb⟩; have hz2 := below_next (show Below w5.heap.size w5 _ by repeat (first | assumption | exact Below.refl _ _ | refine Below.drew ?_)) hb; clear hb) | (go_at_call 8; (with_reducible refine (OX5'h.out _ ?_).mono ?_); (repeat (first | assumption | exact Below.refl _ _ | refine Below.drew ?_)); rintro e z3 ⟨so, ko, rfl, hb, hSo, _, _⟩; have hz3 := below_next (show Below w5.heap.size w5 _ by repeat (first | assumption | exact Below.refl _ _ | refine Below.drew ?_)) hb; clear hb; have hSo'h := Lib.hid hSo; clear hSo) | (go_at_call 14; (with_reducible refine (SO'h.out _ so ko ?_ hSo'h.out).mono ?_); (repeat (first | assumption | exact Below.refl _ _ | refine Below.drew ?_)); rintro e z4 ⟨rfl, hb⟩; have hz4 := below_next (show Below w5.heap.size w5 _ by repeat (first | assumption | exact Below.refl _ _ | refine Below.drew ?_)) hb; clear hb))) | fail
        all_goals
          go_wp2
          go_meet
          exact ⟨rfl, hz4⟩
      | false =>
        obtain rfl : er = 340 := her'h.out
        first | (go_region_held3 (fun W' => (W'.cell? ⟨b1, 0, none⟩ = some (.slice sa m1 ka) ∧ W'.cell? ⟨b2, 0, none⟩ = some (.slice sb m2 kb) ∧ W'.cell? ⟨w.heap.size, 0, none⟩ = some (.slice sp n cap)) ∧ Below w5.heap.size w5 W') (exact hkeep'h.out _ (by (repeat (first | assumption | exact Below.refl _ _ | refine Below.drew ?_)))) (first | (go_at_call 14; (with_reducible refine (SM'h.out _ ?_).mono ?_); (repeat (first | assumption | exact Below.refl _ _ | refine Below.drew ?_)); rintro e z1 ⟨rfl, hb⟩; have hz1 := below_next (show Below w5.heap.size w5 _ by repeat (first | assumption | exact Below.refl _ _ | refine Below.drew ?_)) hb; clear hb) | (go_at_call 15; (with_reducible refine (SR'h.out _ ?_).mono ?_); (repeat (first | assumption | exact Below.refl _ _ | refine Below.drew ?_)); rintro e z2 ⟨rfl, hb⟩; have hz2 := below_next (show Below w5.heap.size w5 _ by repeat (first | assumption | exact Below.refl _ _ | refine Below.drew ?_)) hb; clear hb) | (go_at_call 8; (with_reducible refine (OX5'h.out _ ?_).mono ?_); (repeat (first | assumption | exact Below.refl _ _ | refine Below.drew ?_)); rintro e z3 ⟨so, ko, rfl, hb, hSo, _, _⟩; have hz3 := below_next (show Below w5.heap.size w5 _ by repeat (first | assumption | exact Below.refl _ _ | refine Below.drew ?_)) hb; clear hb; have hSo'h := Lib.hid hSo; clear hSo) | (go_at_call 14; (with_reducible refine (SO'h.out _ so ko ?_ hSo'h.out).mono ?_); (repeat (first | assumption | exact Below.refl _ _ | refine Below.drew ?_)); rintro e z4 ⟨rfl, hb⟩; have hz4 := below_next (show Below w5.heap.size w5 _ by repeat (first | assumption | exact Below.refl _ _ | refine Below.drew ?_)) hb; clear hb))) | fail
        all_goals
          go_wp2
          go_meet
          exact ⟨rfl, hz4⟩
    case rest =>
      obtain ⟨rfl, hb6⟩ := hcut
      clear k1 k2 k3 k4 t1 t2 t3
      have H8 := H5'h.out.next hb6
      have g1 := heap_below hb6 h1'h.out (lt_of_heap h1'h.out)
      have g2 := heap_below hb6 h2'h.out (lt_of_heap h2'h.out)
      have v1 := s1'h.out.below hb6
      have v2 := s2'h.out.below hb6
      have CL : ∀ W, Below wc.heap.size wc W → Calls Try.prog 16 #[.slice sa m1 ka] W fun e w' => ∃ sp' cap', e = .returned (.slice sp' m1 cap') ∧ Below W.heap.size W w' ∧ w'.ownsRow W.heap.size 39 2 (.slice sp' m1 cap') m1 (prs xs) := fun W hb => cloneP_any sa m1 ka (prs xs) W (by omega) (prs_one _) hTB'h.out.nil (v1.below hb)
      have hkeep : ∀ W' : World, Below wc.heap.size wc W' → ((W'.cell? ⟨b1, 0, none⟩ = some (.slice sa m1 ka) ∧ W'.cell? ⟨b2, 0, none⟩ = some (.slice sb m2 kb)) ∧ Below wc.heap.size wc W') := fun W' hb => ⟨⟨blk_cell (i := 0) (heap_below hb g1 (lt_of_heap g1)) rfl, blk_cell (i := 0) (heap_below hb g2 (lt_of_heap g2)) rfl⟩, hb⟩
      have k0 := hkeep _ (Below.refl _ _)
      obtain ⟨i0, hi, hz0, hz1, hz2⟩ := info_parts info_pair
      have H8'h := Lib.hid H8
      have g1'h := Lib.hid g1
      have g2'h := Lib.hid g2
      have v1'h := Lib.hid v1
      have v2'h := Lib.hid v2
      have CL'h := Lib.hid CL
      have hkeep'h := Lib.hid hkeep
      have hb6'h := Lib.hid hb6
      have hi'h := Lib.hid hi
      have hz0'h := Lib.hid hz0
      have hz1'h := Lib.hid hz1
      have hz2'h := Lib.hid hz2
      clear H8 g1 g2 v1 v2 CL hkeep hb6 hi hz0 hz1 hz2
      obtain ⟨⟨k1, k2⟩, k3⟩ := k0
      go_upto_region 8 with fail
      go_cut [62, 63, 64] from 57 to 116 (fun t l i wr => ∃ sp9 cap9, t = .slice sp9 (m1 + m2) cap9 ∧ l = .int .i64 ((m1 + m2 : Nat) : Int) ∧ i = .int .i64 0 ∧ SlK wr 2 sp9 (m1 + m2) (prs (xs ++ ys)) ∧ Below wc.heap.size wc wr)
      case first =>
        first | (go_region_held3 (fun W' => (W'.cell? ⟨b1, 0, none⟩ = some (.slice sa m1 ka) ∧ W'.cell? ⟨b2, 0, none⟩ = some (.slice sb m2 kb)) ∧ Below wc.heap.size wc W') (first | exact hkeep'h.out _ (by repeat (first | assumption | exact Below.refl _ _ | refine Below.drew ?_)) | exact hkeep'h.out _ hB9 | fail) (first | (go_at_call 16; (with_reducible refine (CL'h.out _ ?_).mono ?_); (repeat (first | assumption | exact Below.refl _ _ | refine Below.drew ?_)); rintro e z5 ⟨sc, kc, rfl, hb, hrw⟩; have hz5 := below_next (show Below wc.heap.size wc _ by repeat (first | assumption | exact Below.refl _ _ | refine Below.drew ?_)) hb; have hrw'h := Lib.hid hrw; clear hb hrw) | ((show (if Region.wanted { dst := _, op := Op.call { callee := Callee.builtin Builtin.append, args := _, argTypes := _ }, type := _, pos := _, after := _, guard := _ } _ = true then _ else _)); (refine step_append_slk _ (by rfl) _ _ _ (by rfl) _ 39 i0 (.agg #[.int .u64 0, .int .u64 0]) 2 16 Try.underlying22 hi'h.out hz0'h.out hz1'h.out hz2'h.out (by rfl) (by decide) _ m1 _ (by rfl) hrw'h.out sb m2 _ (prs ys) (by rfl) (v2'h.out.below hz5) (prs_one _) (by unfold maxLen; omega) (by omega) (by simpa using hz5.size) ?_; intro v9 w9 hown9 hgrow9 hat9; obtain ⟨sp9, cap9, rfl⟩ := row_slice' hown9; have hB9 : Below wc.heap.size wc w9 := Below.grown hz5 hgrow9 hz5.size (fun j hj => by have := (hrw'h.out.lt _ hj).1; simpa using this); have hown9'h := Lib.hid hown9; clear hown9 hgrow9 hat9)) | go_simp)) | fail
        all_goals
          go_wp2
          go_meet
          refine ⟨sp9, cap9, rfl, rfl, rfl, ?_, hB9⟩
          have h9 := SlK.of_row hown9'h.out (by unfold maxLen; omega)
          rw [prs_append]; exact h9
      case rest =>
        obtain ⟨sp9, cap9, rfl, rfl, rfl, hS9, hb9⟩ := hcut
        clear k1 k2 k3
        have H9 := H8'h.out.next hb9
        have g9 := heap_below hb9 g1'h.out (lt_of_heap g1'h.out)
        have v9 := v1'h.out.below hb9
        have hxy : (xs ++ ys).length = m1 + m2 := by rw [List.length_append]; have := hml1'h.out; have := hml2'h.out; omega
        have hmm : m1 + m2 ≤ 80 := by omega
        obtain ⟨mm, hmm2⟩ : ∃ mm, mm = m1 + m2 := ⟨_, rfl⟩
        rw [← hmm2] at hS9 hxy hmm ⊢
        obtain ⟨al, hal⟩ : ∃ al, al = xs ++ ys := ⟨_, rfl⟩
        rw [← hal] at hS9 hxy
        have H9'h := Lib.hid H9
        have g9'h := Lib.hid g9
        have v9'h := Lib.hid v9
        have hxy'h := Lib.hid hxy
        have hb9'h := Lib.hid hb9
        have hS9'h := Lib.hid hS9
        have hal'h := Lib.hid hal
        have hmm2'h := Lib.hid hmm2
        clear H9 g9 v9 hxy hb9 hS9 hal hmm2
        go_wp2
        go_loopg [64] mm (fun q i wr => ∃ k : Nat, k + q = mm ∧ i = .int .i64 k ∧ Below wc.heap.size wc wr)
        case atStart => exact ⟨0, by omega, rfl, Below.refl _ _⟩
        case round =>
          obtain ⟨k, hk, rfl, hbr⟩ := hrel
          have hkn : k ≤ mm := by omega
          by_cases hlt : k < mm
          · have hSx := hS9'h.out.below hbr
            obtain ⟨mb, moff, rfl⟩ := prs_some hS9'h.out (by omega)
            obtain ⟨p0, p1⟩ := prs_cells hSx (k := k) (by have := hxy'h.out; omega)
            have j1 : (k : Int) < (mm : Int) := by omega
            have j2 : (0 : Int) ≤ (k : Int) := by omega
            have gr := heap_below hbr g9'h.out (lt_of_heap g9'h.out)
            have vr := v9'h.out.below hbr
            generalize (nthP al k).1 = pk at *
            generalize (nthP al k).2 = pv at *
            have HR := (Hs.nil wr).new #[.int .u64 (pk : Int), .int .u64 (pv : Int)] 39
            have hSx'h := Lib.hid hSx
            have hk'h := Lib.hid hk
            have hbr'h := Lib.hid hbr
            have gr'h := Lib.hid gr
            have vr'h := Lib.hid vr
            have HR'h := Lib.hid HR
            clear hSx hk hbr gr vr HR
            go_upto_region 11 with fail
            clear p0 p1 j1 j2
            have HR := HR'h.out
            clear HR'h
            generalize wr.alloc (.cells #[.int .u64 (pk : Int), .int .u64 (pv : Int)] 39) = WR at HR ⊢
            have hbo := HR.old
            have p0 : WR.cell? ⟨wr.heap.size, 0, none⟩ = some (.int .u64 (pk : Int)) := blk_cell (i := 0) HR.rows.1 rfl
            have hgo := heap_below hbo gr'h.out (lt_of_heap gr'h.out)
            have y0 : WR.cell? ⟨b1, 0, none⟩ = some (.slice sa m1 ka) := blk_cell (i := 0) hgo rfl
            have vo := vr'h.out.below hbo
            cases hu2 : u with
            | true =>
              have hux : upB xs = true := by rw [← hu'h.out]; exact hu2
              have G := mGet_yes sa m1 ka xs pk WR vo hux (by omega)
              have RG : ∀ W, Below WR.heap.size WR W → Calls Try.prog 17 #[.agg #[.slice sa m1 ka], .int .u64 pk] W fun e w' => e = .returned (.tuple #[.int .u64 (((getS xs pk).getD 0 : Nat) : Int), .bool (hasP xs pk)]) ∧ Below W.heap.size W w' := fun W hb => by
                have := rget_any sa m1 ka xs pk W (vo.below hb)
                rw [findP_up hux] at this
                exact this
              obtain ⟨gv, hgv⟩ : ∃ gv : Int, gv = (((getS xs pk).getD 0 : Nat) : Int) := ⟨_, rfl⟩
              obtain ⟨gb, hgb⟩ : ∃ gb, gb = hasP xs pk := ⟨_, rfl⟩
              rw [← hgv, ← hgb] at G RG
              have t1 : (gv != gv) = false := by simp
              have t2 : (gb != gb) = false := by simp
              have kp : ∀ W, Below WR.heap.size WR W → W.cell? ⟨b1, 0, none⟩ = some (.slice sa m1 ka) ∧ W.cell? ⟨wr.heap.size, 0, none⟩ = some (.int .u64 (pk : Int)) := fun W hb => ⟨(hb.cell (lt_of_cell y0)).trans y0, (hb.cell (lt_of_cell p0)).trans p0⟩
              clear hgv hgb hux
              subst hu2
              have HR'h := Lib.hid HR
              have hbo'h := Lib.hid hbo
              have hgo'h := Lib.hid hgo
              have vo'h := Lib.hid vo
              have G'h := Lib.hid G
              have RG'h := Lib.hid RG
              have kp'h := Lib.hid kp
              clear HR hbo hgo vo G RG kp
              go_wp2_with (first | (go_at_call 12; refine G'h.out.mono ?_; rintro e WG ⟨rfl, hbg⟩; obtain ⟨y1, p1⟩ := kp'h.out _ hbg; have hbg'h := Lib.hid hbg; clear hbg) | (go_at_call 17; refine (RG'h.out _ hbg'h.out).mono ?_; rintro e WG2 ⟨rfl, hbg2⟩; have hbg2'h := Lib.hid hbg2; clear hbg2))
              go_roundg (gk - 1)
              case measure => have := hk'h.out; omega
              case rel => exact ⟨k + 1, by have := hk'h.out; omega, by go_num, below_next (below_next (below_next hbr'h.out hbo'h.out) hbg'h.out) hbg2'h.out⟩
            | false =>
              have hux : upB xs = false := by rw [← hu'h.out]; exact hu2
              have G := mGet_no sa m1 ka xs pk WR vo hux
              subst hu2
              have HR'h := Lib.hid HR
              have hbo'h := Lib.hid hbo
              have hgo'h := Lib.hid hgo
              have vo'h := Lib.hid vo
              have G'h := Lib.hid G
              have hux'h := Lib.hid hux
              clear HR hbo hgo vo G hux
              go_wp2_with (go_at_call 12; refine G'h.out.mono ?_; rintro e WG ⟨rfl, hbg⟩; have hbg'h := Lib.hid hbg; clear hbg)
              go_roundg (gk - 1)
              case measure => have := hk'h.out; omega
              case rel => exact ⟨k + 1, by have := hk'h.out; omega, by go_num, below_next (below_next hbr'h.out hbo'h.out) hbg'h.out⟩
          · have hkk : k = mm := by omega
            have j1 : ¬ (k : Int) < (mm : Int) := by omega
            have HZ := H9'h.out.next hbr
            have gz := heap_below hbr g9'h.out (lt_of_heap g9'h.out)
            have vz := v9'h.out.below hbr
            clear hk
            have hkk'h := Lib.hid hkk
            have HZ'h := Lib.hid HZ
            have gz'h := Lib.hid gz
            have vz'h := Lib.hid vz
            have hbr'h := Lib.hid hbr
            clear hkk HZ gz vz hbr
            have OA : ∀ W, Calls Try.prog 18 #[.agg #[.int .i64 X.err, .int .u64 (X.val : Int), .bool X.done, .slice a la ca]] W fun e w' => e = .returned (.agg #[.int .i64 X.err, .int .u64 (X.val : Int), .bool X.done, .slice a (min la 40) ca]) ∧ Below W.heap.size W w' := fun W => ownA_any X a la ca W hia'h.out.le (by have := hia'h.out.sl.2.1; unfold maxLen at this; omega)
            have OB : ∀ W, Calls Try.prog 18 #[.agg #[.int .i64 Y.err, .int .u64 (Y.val : Int), .bool Y.done, .slice b lb cb]] W fun e w' => e = .returned (.agg #[.int .i64 Y.err, .int .u64 (Y.val : Int), .bool Y.done, .slice b (min lb 40) cb]) ∧ Below W.heap.size W w' := fun W => ownA_any Y b lb cb W hib'h.out.le (by have := hib'h.out.sl.2.1; unfold maxLen at this; omega)
            obtain ⟨la', hla'⟩ : ∃ la', la' = min la 40 := ⟨_, rfl⟩
            obtain ⟨lb', hlb'⟩ : ∃ lb', lb' = min lb 40 := ⟨_, rfl⟩
            rw [← hla'] at OA
            rw [← hlb'] at OB
            have hkeep : ∀ W' : World, Below wr.heap.size wr W' → ((W'.cell? ⟨w.heap.size + 1 + 1, 0, none⟩ = some (.int .i64 X.err) ∧ W'.cell? ⟨w.heap.size + 1 + 1, 1, none⟩ = some (.int .u64 (X.val : Int)) ∧ W'.cell? ⟨w.heap.size + 1 + 1, 2, none⟩ = some (.bool X.done) ∧ W'.cell? ⟨w.heap.size + 1 + 1, 3, none⟩ = some (.slice a la ca) ∧ W'.cell? ⟨w.heap.size + 1 + 1, 4, none⟩ = some (.int .i64 Y.err) ∧ W'.cell? ⟨w.heap.size + 1 + 1, 5, none⟩ = some (.int .u64 (Y.val : Int)) ∧ W'.cell? ⟨w.heap.size + 1 + 1, 6, none⟩ = some (.bool Y.done) ∧ W'.cell? ⟨w.heap.size + 1 + 1, 7, none⟩ = some (.slice b lb cb)) ∧ Below wr.heap.size wr W') := fun W' hb => ⟨⟨blk_cell (i := 0) (HZ'h.out.next hb).rows.1 rfl, blk_cell (i := 1) (HZ'h.out.next hb).rows.1 rfl, blk_cell (i := 2) (HZ'h.out.next hb).rows.1 rfl, blk_cell (i := 3) (HZ'h.out.next hb).rows.1 rfl, blk_cell (i := 4) (HZ'h.out.next hb).rows.1 rfl, blk_cell (i := 5) (HZ'h.out.next hb).rows.1 rfl, blk_cell (i := 6) (HZ'h.out.next hb).rows.1 rfl, blk_cell (i := 7) (HZ'h.out.next hb).rows.1 rfl⟩, hb⟩
            have k0 := hkeep _ (Below.refl _ _)
            have OA'h := Lib.hid OA
            have OB'h := Lib.hid OB
            have hla''h := Lib.hid hla'
            have hlb''h := Lib.hid hlb'
            have hkeep'h := Lib.hid hkeep
            clear OA OB hla' hlb' hkeep
            obtain ⟨⟨k1, k2, k3, k4, k5, k6, k7, k8⟩, k9⟩ := k0
            go_upto_region 18 with fail
            go_cut [17, 18] from 92 to 116 (fun t u wz => Cut18 wr X Y a la' ca b lb' cb t u wz)
            case first =>
              first | (go_region_held3 (fun W' => (W'.cell? ⟨w.heap.size + 1 + 1, 0, none⟩ = some (.int .i64 X.err) ∧ W'.cell? ⟨w.heap.size + 1 + 1, 1, none⟩ = some (.int .u64 (X.val : Int)) ∧ W'.cell? ⟨w.heap.size + 1 + 1, 2, none⟩ = some (.bool X.done) ∧ W'.cell? ⟨w.heap.size + 1 + 1, 3, none⟩ = some (.slice a la ca) ∧ W'.cell? ⟨w.heap.size + 1 + 1, 4, none⟩ = some (.int .i64 Y.err) ∧ W'.cell? ⟨w.heap.size + 1 + 1, 5, none⟩ = some (.int .u64 (Y.val : Int)) ∧ W'.cell? ⟨w.heap.size + 1 + 1, 6, none⟩ = some (.bool Y.done) ∧ W'.cell? ⟨w.heap.size + 1 + 1, 7, none⟩ = some (.slice b lb cb)) ∧ Below wr.heap.size wr W') (exact hkeep'h.out _ (by repeat (first | with_reducible assumption | with_reducible refine below_alloc' ?_ _ | with_reducible refine Below.drew ?_ | with_reducible refine below_set' ?_ (by first | (simp only; omega) | (simp; omega)) _))) (first | (go_at_call 18; (with_reducible refine (OA'h.out _).mono ?_); rintro e wA ⟨rfl, hba⟩; have hBa := below_next (show Below wr.heap.size wr _ by repeat (first | with_reducible assumption | with_reducible refine below_alloc' ?_ _ | with_reducible refine Below.drew ?_ | with_reducible refine below_set' ?_ (by first | (simp only; omega) | (simp; omega)) _)) hba; have hza := hba.size; (try simp only [World.size_alloc, World.size_drew] at hza); obtain ⟨hca, hfa⟩ := bcell hba; (try have hl1 : wr.heap.size < wA.heap.size := (by omega)); (try have hl2 : wr.heap.size + 1 < wA.heap.size := (by omega)); have hba'h := Lib.hid hba; clear hba) | (go_at_call 18; (with_reducible refine (OB'h.out _).mono ?_); rintro e wB ⟨rfl, hbb⟩; have hBb := below_next (show Below wr.heap.size wr _ by repeat (first | with_reducible assumption | with_reducible refine below_alloc' ?_ _ | with_reducible refine Below.drew ?_ | with_reducible refine below_set' ?_ (by first | (simp only; omega) | (simp; omega)) _)) hbb; have hzb := hbb.size; (try simp only [World.size_alloc, World.size_drew] at hzb); obtain ⟨hcb, hfb⟩ := bcell hbb; (try have hl3 : wr.heap.size < wB.heap.size := (by omega)); (try have hl4 : wr.heap.size + 1 < wB.heap.size := (by omega)); (try have hl5 : wA.heap.size < wB.heap.size := (by omega)); (try have hl6 : wA.heap.size + 1 < wB.heap.size := (by omega)); have hbb'h := Lib.hid hbb; clear hbb))) | fail
              all_goals
                go_wp2
                go_meet
                refine ⟨_, _, rfl, rfl, ?_⟩
                refine TwoAns.mk ?_ ?_ ?_
                · (show _ = some (Obj.cells #[.int .i64 X.err, .int .u64 (X.val : Int), .bool X.done, .slice a la' ca] 35 (0, 0))); (repeat (first | with_reducible exact World.alloc_heap_new _ _ | with_reducible exact heap_alloc2_new _ _ _ | with_reducible exact heap_alloc2_old _ _ _ | with_reducible exact alloc_set_new _ _ _ _ | with_reducible exact alloc_set4_new _ _ _ _ _ _ _ _ _ _ | (with_reducible refine blk_set4 (c0 := .int .i64 0) (c1 := .int .u64 0) (c2 := .bool false) (c3 := .slice none 0 0) _ _ _ _ ?_) | (with_reducible refine (drew_heap' _ _).trans ?_) | (with_reducible refine (Below.heap_alloc _ _ _ (by first | omega | (simp only; omega) | (simp only [World.size_alloc, World.size_drew]; omega) | (simp <;> omega))).trans ?_) | (with_reducible refine (Below.heap_setCell _ _ _ _ (by first | omega | (simp only; omega) | (simp only [World.size_alloc, World.size_drew]; omega) | (simp <;> omega))).trans ?_) | (refine heap_below hbb'h.out ?_ (by first | omega | (simp only; omega) | (simp only [World.size_alloc, World.size_drew]; omega) | (simp <;> omega))) | (refine heap_below hba'h.out ?_ (by first | omega | (simp only; omega) | (simp only [World.size_alloc, World.size_drew]; omega) | (simp <;> omega)))))
                · (show _ = some (Obj.cells #[.int .i64 Y.err, .int .u64 (Y.val : Int), .bool Y.done, .slice b lb' cb] 35 (0, 0))); (repeat (first | with_reducible exact World.alloc_heap_new _ _ | with_reducible exact heap_alloc2_new _ _ _ | with_reducible exact heap_alloc2_old _ _ _ | with_reducible exact alloc_set_new _ _ _ _ | with_reducible exact alloc_set4_new _ _ _ _ _ _ _ _ _ _ | (with_reducible refine blk_set4 (c0 := .int .i64 0) (c1 := .int .u64 0) (c2 := .bool false) (c3 := .slice none 0 0) _ _ _ _ ?_) | (with_reducible refine (drew_heap' _ _).trans ?_) | (with_reducible refine (Below.heap_alloc _ _ _ (by first | omega | (simp only; omega) | (simp only [World.size_alloc, World.size_drew]; omega) | (simp <;> omega))).trans ?_) | (with_reducible refine (Below.heap_setCell _ _ _ _ (by first | omega | (simp only; omega) | (simp only [World.size_alloc, World.size_drew]; omega) | (simp <;> omega))).trans ?_) | (refine heap_below hbb'h.out ?_ (by first | omega | (simp only; omega) | (simp only [World.size_alloc, World.size_drew]; omega) | (simp <;> omega))) | (refine heap_below hba'h.out ?_ (by first | omega | (simp only; omega) | (simp only [World.size_alloc, World.size_drew]; omega) | (simp <;> omega)))))
                · (repeat (first | with_reducible assumption | with_reducible refine below_alloc' ?_ _ | with_reducible refine Below.drew ?_ | with_reducible refine below_set' ?_ (by first | (simp only; omega) | (simp; omega)) _))
            case rest =>
              obtain ⟨x1, x2, rfl, rfl, hTA⟩ := hcut
              clear k1 k2 k3 k4 k5 k6 k7 k8 k9
              have HY := HZ'h.out.next hTA.old
              have gy := heap_below hTA.old gz'h.out (lt_of_heap gz'h.out)
              have vy := vz'h.out.below hTA.old
              have sX : SlK w 2 a la' (prs (za.take la')) := by have h := hia'h.out.sl.take la' (by rw [hla''h.out]; omega); rwa [prs_take] at h
              have sY : SlK w 2 b lb' (prs (zb.take lb')) := by have h := hib'h.out.sl.take lb' (by rw [hlb''h.out]; omega); rwa [prs_take] at h
              obtain ⟨r2, hr2⟩ : ∃ r2, r2 = alikeB X Y (za.take la') (zb.take lb') := ⟨_, rfl⟩
              have AL : ∀ W, Below wc.heap.size wc W → Calls Try.prog 19 #[.agg #[.int .i64 X.err, .int .u64 (X.val : Int), .bool X.done, .slice a la' ca], .agg #[.int .i64 Y.err, .int .u64 (Y.val : Int), .bool Y.done, .slice b lb' cb]] W fun e w' => e = .returned (.bool r2) ∧ Below W.heap.size W w' := fun W hb => by rw [hr2]; exact malike_any X Y a b la' lb' ca cb _ _ W (sX.below (HY.next hb).old) (sY.below (HY.next hb).old)
              have RL : ∀ W, Below wc.heap.size wc W → Calls Try.prog 20 #[.agg #[.int .i64 X.err, .int .u64 (X.val : Int), .bool X.done, .slice a la' ca], .agg #[.int .i64 Y.err, .int .u64 (Y.val : Int), .bool Y.done, .slice b lb' cb]] W fun e w' => e = .returned (.bool r2) ∧ Below W.heap.size W w' := fun W hb => by rw [hr2]; exact ralike_any X Y a b la' lb' ca cb _ _ W (sX.below (HY.next hb).old) (sY.below (HY.next hb).old)
              have AA : ∀ W, Below wc.heap.size wc W → Calls Try.prog 19 #[.agg #[.int .i64 X.err, .int .u64 (X.val : Int), .bool X.done, .slice a la' ca], .agg #[.int .i64 X.err, .int .u64 (X.val : Int), .bool X.done, .slice a la' ca]] W fun e w' => e = .returned (.bool true) ∧ Below W.heap.size W w' := fun W hb => by
                have := malike_any X X a a la' la' ca ca _ _ W (sX.below (HY.next hb).old) (sX.below (HY.next hb).old)
                rwa [show alikeB X X (za.take la') (za.take la') = true by unfold alikeB; simp] at this
              have OZ : ∀ W, Below wc.heap.size wc W → Calls Try.prog 8 #[.agg #[.slice sp n cap]] W (RowLikeF sp m1 xs W) := fun W hb => by
                rw [hm1'h.out, hxs'h.out]; exact own_fresh sp n cap ps W (hin'h.out.sl.below (HY.next hb).old) hin'h.out.nil hin'h.out.le
              have RS : ∀ W (so : Option Addr) (ko : Nat), Below wc.heap.size wc W → SlK W 2 so m1 (prs xs) → Calls Try.prog 15 #[.agg #[.slice sa m1 ka], .agg #[.slice so m1 ko]] W fun e w' => e = .returned (.bool true) ∧ Below W.heap.size W w' := fun W so ko hb hS => by
                have := rsame_any sa so m1 m1 ka ko xs xs W (vy.below hb) hS
                rwa [show decide (xs = xs) = true by simp] at this
              have hkeep : ∀ W' : World, Below wc.heap.size wc W' → ((W'.cell? ⟨x1, 0, none⟩ = some (.int .i64 X.err) ∧ W'.cell? ⟨x1, 1, none⟩ = some (.int .u64 (X.val : Int)) ∧ W'.cell? ⟨x1, 2, none⟩ = some (.bool X.done) ∧ W'.cell? ⟨x1, 3, none⟩ = some (.slice a la' ca) ∧ W'.cell? ⟨x2, 0, none⟩ = some (.int .i64 Y.err) ∧ W'.cell? ⟨x2, 1, none⟩ = some (.int .u64 (Y.val : Int)) ∧ W'.cell? ⟨x2, 2, none⟩ = some (.bool Y.done) ∧ W'.cell? ⟨x2, 3, none⟩ = some (.slice b lb' cb) ∧ W'.cell? ⟨b1, 0, none⟩ = some (.slice sa m1 ka) ∧ W'.cell? ⟨w.heap.size, 0, none⟩ = some (.slice sp n cap)) ∧ Below wc.heap.size wc W') := fun W' hb => ⟨⟨blk_cell (i := 0) (heap_below hb hTA.one (lt_of_heap hTA.one)) rfl, blk_cell (i := 1) (heap_below hb hTA.one (lt_of_heap hTA.one)) rfl, blk_cell (i := 2) (heap_below hb hTA.one (lt_of_heap hTA.one)) rfl, blk_cell (i := 3) (heap_below hb hTA.one (lt_of_heap hTA.one)) rfl, blk_cell (i := 0) (heap_below hb hTA.two (lt_of_heap hTA.two)) rfl, blk_cell (i := 1) (heap_below hb hTA.two (lt_of_heap hTA.two)) rfl, blk_cell (i := 2) (heap_below hb hTA.two (lt_of_heap hTA.two)) rfl, blk_cell (i := 3) (heap_below hb hTA.two (lt_of_heap hTA.two)) rfl, blk_cell (i := 0) (heap_below hb gy (lt_of_heap gy)) rfl, blk_cell (i := 0) (HY.next hb).rows.2.2.1 rfl⟩, hb⟩
              have k0 := hkeep _ (Below.refl _ _)
              have t1 : (r2 == r2) = true := by simp
              have HY'h := Lib.hid HY
              have gy'h := Lib.hid gy
              have vy'h := Lib.hid vy
              have sX'h := Lib.hid sX
              have sY'h := Lib.hid sY
              have hr2'h := Lib.hid hr2
              have AL'h := Lib.hid AL
              have RL'h := Lib.hid RL
              have AA'h := Lib.hid AA
              have OZ'h := Lib.hid OZ
              have RS'h := Lib.hid RS
              have hkeep'h := Lib.hid hkeep
              have hTA'h := Lib.hid hTA
              clear HY gy vy sX sY hr2 AL RL AA OZ RS hkeep hTA
              obtain ⟨⟨k1, k2, k3, k4, k5, k6, k7, k8, k9, k10⟩, k11⟩ := k0
              go_wp2
              first | (go_region_held3 (fun W' => (W'.cell? ⟨x1, 0, none⟩ = some (.int .i64 X.err) ∧ W'.cell? ⟨x1, 1, none⟩ = some (.int .u64 (X.val : Int)) ∧ W'.cell? ⟨x1, 2, none⟩ = some (.bool X.done) ∧ W'.cell? ⟨x1, 3, none⟩ = some (.slice a la' ca) ∧ W'.cell? ⟨x2, 0, none⟩ = some (.int .i64 Y.err) ∧ W'.cell? ⟨x2, 1, none⟩ = some (.int .u64 (Y.val : Int)) ∧ W'.cell? ⟨x2, 2, none⟩ = some (.bool Y.done) ∧ W'.cell? ⟨x2, 3, none⟩ = some (.slice b lb' cb) ∧ W'.cell? ⟨b1, 0, none⟩ = some (.slice sa m1 ka) ∧ W'.cell? ⟨w.heap.size, 0, none⟩ = some (.slice sp n cap)) ∧ Below wc.heap.size wc W') (exact hkeep'h.out _ (by repeat (first | with_reducible assumption | exact Below.refl _ _ | with_reducible refine Below.drew ?_))) (first | (go_at_call 19; (with_reducible refine (AL'h.out _ ?_).mono ?_); (repeat (first | with_reducible assumption | exact Below.refl _ _ | with_reducible refine Below.drew ?_)); rintro e z1 ⟨rfl, hb⟩; have hzz := below_next (show Below wc.heap.size wc _ by repeat (first | with_reducible assumption | exact Below.refl _ _ | with_reducible refine Below.drew ?_)) hb; clear hb) | (go_at_call 20; (with_reducible refine (RL'h.out _ ?_).mono ?_); (repeat (first | with_reducible assumption | exact Below.refl _ _ | with_reducible refine Below.drew ?_)); rintro e z2 ⟨rfl, hb⟩; have hzz := below_next (show Below wc.heap.size wc _ by repeat (first | with_reducible assumption | exact Below.refl _ _ | with_reducible refine Below.drew ?_)) hb; clear hb) | (go_at_call 19; (with_reducible refine (AA'h.out _ ?_).mono ?_); (repeat (first | with_reducible assumption | exact Below.refl _ _ | with_reducible refine Below.drew ?_)); rintro e z3 ⟨rfl, hb⟩; have hzz := below_next (show Below wc.heap.size wc _ by repeat (first | with_reducible assumption | exact Below.refl _ _ | with_reducible refine Below.drew ?_)) hb; clear hb) | (go_at_call 8; (with_reducible refine (OZ'h.out _ ?_).mono ?_); (repeat (first | with_reducible assumption | exact Below.refl _ _ | with_reducible refine Below.drew ?_)); rintro e z4 ⟨so, ko, rfl, hb, hSo, _, _⟩; have hzz := below_next (show Below wc.heap.size wc _ by repeat (first | with_reducible assumption | exact Below.refl _ _ | with_reducible refine Below.drew ?_)) hb; have hSo'h := Lib.hid hSo; clear hSo; clear hb) | (go_at_call 15; (with_reducible refine (RS'h.out _ so ko ?_ hSo'h.out).mono ?_); (repeat (first | with_reducible assumption | exact Below.refl _ _ | with_reducible refine Below.drew ?_)); rintro e z5 ⟨rfl, hb⟩; have hzz := below_next (show Below wc.heap.size wc _ by repeat (first | with_reducible assumption | exact Below.refl _ _ | with_reducible refine Below.drew ?_)) hb; clear hb))) | fail
              all_goals
                go_wp2
                go_ret
                exact ⟨rfl, HY'h.out.old.trans (hzz.mono HY'h.out.old.size)⟩
end Go.Proofs.Ytihccjmmnpldjaa
