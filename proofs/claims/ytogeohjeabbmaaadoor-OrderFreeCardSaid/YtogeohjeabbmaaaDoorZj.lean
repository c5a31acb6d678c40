/-
  Several texts of mine in one: DocL DocM.
-/
import Derived.Test.YtogeohjeabbmaaaDoorZh
import Derived.Deep.LoopGhost
/-
  The document's answer for layer 27: is a call ahead, an answer zero; may a call be?
-/
set_option linter.unusedSimpArgs false
set_option linter.unusedVariables false
set_option maxRecDepth 100000
namespace Go.Proofs.YtogeohjeabbmaaaDoor
open Go.RowKit

theorem dahead_any (x y : Mm) (w : World) : Calls Tryd.prog 19 #[.agg (mmA x), .agg (mmA y)] w fun e w' => e = .returned (.bool (aheadM x.md y.md)) ∧ Below w.heap.size w w' := by
  have hB : Below w.heap.size w ((w.alloc (.cells (mmA x) 39)).alloc (.cells (mmA y) 39)) := ((Below.refl _ _).alloc (Nat.le_refl _) _).alloc (by simp) _
  obtain ⟨r, hr⟩ : ∃ r, r = aheadM x.md y.md := ⟨_, rfl⟩
  rw [← hr]
  unfold aheadM at hr
  obtain ⟨⟨goerx, ⟨opx, kyx, cax, cbx⟩, ⟨errx, valx, donex⟩, prsx, beganx, atx, overx, toldx⟩, ppx, pnx, pcx, tpx, tnx, tcx⟩ := x
  obtain ⟨⟨goery, ⟨opy, kyy, cay, cby⟩, ⟨erry, valy, doney⟩, prsy, begany, aty, overy, toldy⟩, ppy, pny, pcy, tpy, tny, tcy⟩ := y
  simp only [mmA] at *
  rcases int_zero_or overx with ⟨h0, h1, h2⟩ | ⟨h0, h1, h2⟩
  · obtain rfl : r = false := by rw [hr]; simp [h0]
    subst h0
    clear hr h1 h2
    have hB'h := Lib.hid hB
    clear hB
    go_enter Tryd.func19, Tryd.ntmps19
    go_wp2
    go_ret
    exact ⟨rfl, hB'h.out⟩
  · by_cases hl : overx < begany
    · obtain rfl : r = true := by rw [hr]; simp [h0, hl]
      clear hr
      have hB'h := Lib.hid hB
      clear hB
      go_enter Tryd.func19, Tryd.ntmps19
      go_wp2
      go_ret
      exact ⟨rfl, hB'h.out⟩
    · obtain rfl : r = false := by rw [hr]; simp [hl]
      clear hr
      have hB'h := Lib.hid hB
      clear hB
      go_enter Tryd.func19, Tryd.ntmps19
      go_wp2
      go_ret
      exact ⟨rfl, hB'h.out⟩
theorem dnone_any (x : Mm) (w : World) (hx : x.pn = x.md.prs.length) : Calls Tryd.prog 66 #[.agg (anL x)] w fun e w' => e = .returned (.bool (emptyM x.md)) ∧ Below w.heap.size w w' := by
  have hB : Below w.heap.size w (w.alloc (.cells (anL x) 34)) := (Below.refl _ _).alloc (Nat.le_refl _) _
  obtain ⟨r, hr⟩ : ∃ r, r = emptyM x.md := ⟨_, rfl⟩
  rw [← hr]
  unfold emptyM at hr
  rw [← hx] at hr
  clear hx
  obtain ⟨⟨goerx, ⟨opx, kyx, cax, cbx⟩, ⟨errx, valx, donex⟩, prsx, beganx, atx, overx, toldx⟩, ppx, pnx, pcx, tpx, tnx, tcx⟩ := x
  simp only [anL] at *
  rcases int_zero_or errx with ⟨h0, h1, h2⟩ | ⟨h0, h1, h2⟩
  · subst h0
    clear h1 h2
    rcases zero_or valx with rfl | ⟨h1, h2, h3⟩
    · cases donex with
      | true =>
        obtain rfl : r = false := by rw [hr]; simp
        clear hr
        have hB'h := Lib.hid hB
        clear hB
        go_enter Tryd.func66, Tryd.ntmps66
        go_wp2
        go_ret
        exact ⟨rfl, hB'h.out⟩
      | false =>
        rcases zero_or pnx with rfl | ⟨h1, h2, h3⟩
        · obtain rfl : r = true := by rw [hr]; simp
          clear hr
          have hB'h := Lib.hid hB
          clear hB
          go_enter Tryd.func66, Tryd.ntmps66
          go_wp2
          go_ret
          exact ⟨rfl, hB'h.out⟩
        · obtain rfl : r = false := by rw [hr]; simp [h3]
          clear hr h3
          have hB'h := Lib.hid hB
          clear hB
          go_enter Tryd.func66, Tryd.ntmps66
          go_wp2
          go_ret
          exact ⟨rfl, hB'h.out⟩
    · obtain rfl : r = false := by rw [hr]; simp [h3]
      clear hr h3
      have hB'h := Lib.hid hB
      clear hB
      go_enter Tryd.func66, Tryd.ntmps66
      go_wp2
      go_ret
      exact ⟨rfl, hB'h.out⟩
  · obtain rfl : r = false := by rw [hr]; simp [h0]
    clear hr
    have hB'h := Lib.hid hB
    clear hB
    go_enter Tryd.func66, Tryd.ntmps66
    go_wp2
    go_ret
    exact ⟨rfl, hB'h.out⟩
/-- May a call be, as the document asks. -/
theorem right_parts (m : Md) : rightM m = (decide (0 ≤ m.goer) && decide (m.goer < 8) && rightC m.call && decide (1 ≤ m.began) && decide (m.began ≤ 1073741824) && (decide (m.over ≤ 1073741824) && decide (lastM m ≥ m.began) && (decide (m.at' = 0) || (decide (m.at' ≥ m.began) && (decide (m.over = 0) || decide (m.at' ≤ m.over))))) && withinM m && toldM m && (decide (m.over ≠ 0) || emptyM m)) := rfl
set_option maxHeartbeats 4000000 in
theorem done_any (x : Mm) (w : World) (hx : MmIn w x) : Calls Tryd.prog 40 #[.agg (mmA x)] w fun e w' => e = .returned (.bool (rightM x.md)) ∧ Below w.heap.size w w' := by
  have hB1 : Below w.heap.size w (w.alloc (.cells (mmA x) 39)) := (Below.refl _ _).alloc (Nat.le_refl _) _
  have hb1 := World.alloc_heap_new w (.cells (mmA x) 39)
  have hpn := hx.pn
  have htn := hx.tn
  have hmax := hx.told.2.1
  unfold maxLen at hmax
  have hT := hx.told
  obtain ⟨R, hR⟩ : ∃ R, R = rightM x.md := ⟨_, rfl⟩
  rw [← hR]
  rw [right_parts] at hR
  obtain ⟨W1, hW1⟩ : ∃ W1, W1 = w.alloc (.cells (mmA x) 39) := ⟨_, rfl⟩
  rw [← hW1] at hB1 hb1
  have DC := dcall_any x.md.call W1
  have DN := fun W => dnone_any x W hpn
  obtain ⟨rc, hrc⟩ : ∃ rc, rc = rightC x.md.call := ⟨_, rfl⟩
  obtain ⟨em, hem⟩ : ∃ em, em = emptyM x.md := ⟨_, rfl⟩
  rw [← hrc] at DC hR
  rw [← hem] at DN hR
  have hempty : em = true → x.pn = 0 := fun h => by
    rw [hem] at h
    unfold emptyM at h
    simp only [Bool.and_eq_true, decide_eq_true_eq] at h
    omega
  unfold withinM lastM toldM at hR
  rw [← hpn, ← htn] at hR
  clear hrc hem hx
  obtain ⟨⟨goerx, ⟨opx, kyx, cax, cbx⟩, ⟨errx, valx, donex⟩, prsx, beganx, atx, overx, toldx⟩, ppx, pnx, pcx, tpx, tnx, tcx⟩ := x
  simp only [mmA, anL] at *
  obtain ⟨e0, e1, e2, e3, e4, e5, e6, e7, e8, e9, ea, eb, ec⟩ := cells13 hb1
  have hR'h := Lib.hid hR
  have hB1'h := Lib.hid hB1
  have hb1'h := Lib.hid hb1
  have hpn'h := Lib.hid hpn
  have htn'h := Lib.hid htn
  have hmax'h := Lib.hid hmax
  have hT'h := Lib.hid hT
  have DC'h := Lib.hid DC
  have DN'h := Lib.hid DN
  have hempty'h := Lib.hid hempty
  clear hR hB1 hb1 hpn htn hmax hT DC DN hempty
  go_enter Tryd.func40, Tryd.ntmps40
  go_upto_region 1 with fail
  rw [← hW1]
  clear hW1
  by_cases c1 : goerx < 0
  · obtain rfl : R = false := by rw [hR'h.out]; have : ¬ 0 ≤ goerx := (by omega); simp [this]
    clear e1 e2 e3 e4 e5 e6 e7 e8 e9 ea eb ec
    go_wp2
    go_ret
    exact ⟨rfl, hB1'h.out⟩
  · by_cases c2 : goerx > 7
    · obtain rfl : R = false := by rw [hR'h.out]; have : ¬ goerx < 8 := (by omega); simp [this]
      clear e1 e2 e3 e4 e5 e6 e7 e8 e9 ea eb ec
      go_wp2
      go_ret
      exact ⟨rfl, hB1'h.out⟩
    · go_wp2_with fail
      refine DC'h.out.mono ?_
      rintro e W2 ⟨rfl, hb2⟩
      have hB2 := below_next hB1'h.out hb2
      have hk2 := heap_below hb2 hb1'h.out (lt_of_heap hb1'h.out)
      have hT2 := hT'h.out.below hB2
      clear hb2 e0 e1 e2 e3 e4 e5 e6 e7 e8 e9 ea eb ec DC'h
      obtain ⟨e0, e1, e2, e3, e4, e5, e6, e7, e8, e9, ea, eb, ec⟩ := cells13 hk2
      have g1 : decide (0 ≤ goerx) = true := decide_eq_true (by omega)
      have g2 : decide (goerx < 8) = true := decide_eq_true (by omega)
      have hR2 := hR'h.out
      rw [g1, g2] at hR2
      clear g1 g2 c1 c2 hR'h hB1'h hb1'h hT'h
      have hB2'h := Lib.hid hB2
      have hk2'h := Lib.hid hk2
      have hT2'h := Lib.hid hT2
      have hR2'h := Lib.hid hR2
      clear hB2 hk2 hT2 hR2
      cases rc with
      | false =>
        obtain rfl : R = false := by rw [hR2'h.out]; simp
        clear e0 e1 e2 e3 e4 e5 e6 e7 e8 e9 ea eb ec
        go_wp2
        go_ret
        exact ⟨rfl, hB2'h.out⟩
      | true =>
        by_cases c3 : beganx < 1
        · obtain rfl : R = false := by rw [hR2'h.out]; have : ¬ 1 ≤ beganx := (by omega); simp [this]
          go_wp2
          go_ret
          exact ⟨rfl, hB2'h.out⟩
        · by_cases c4 : beganx > 1073741824
          · obtain rfl : R = false := by rw [hR2'h.out]; have : ¬ beganx ≤ 1073741824 := (by omega); simp [this]
            go_wp2
            go_ret
            exact ⟨rfl, hB2'h.out⟩
          · by_cases c5 : overx > 1073741824
            · obtain rfl : R = false := by rw [hR2'h.out]; have : ¬ overx ≤ 1073741824 := (by omega); simp [this]
              go_wp2
              go_ret
              exact ⟨rfl, hB2'h.out⟩
            · have g3 : decide (1 ≤ beganx) = true := decide_eq_true (by omega)
              have g4 : decide (beganx ≤ 1073741824) = true := decide_eq_true (by omega)
              have g5 : decide (overx ≤ 1073741824) = true := decide_eq_true (by omega)
              have hR3 := hR2'h.out
              rw [g3, g4, g5] at hR3
              simp only [Bool.true_and] at hR3
              clear g3 g4 g5 hR2'h
              have hR3'h := Lib.hid hR3
              clear hR3
              rcases int_zero_or overx with ⟨h0, h1, h2⟩ | ⟨h0, h1, h2⟩
              · go_wp2_with fail
                refine (DN'h.out W2).mono ?_
                rintro e W3 ⟨rfl, hb3⟩
                have hB3 := below_next hB2'h.out hb3
                have hk3 := heap_below hb3 hk2'h.out (lt_of_heap hk2'h.out)
                clear hb3 e0 e1 e2 e3 e4 e5 e6 e7 e8 e9 ea eb ec
                obtain ⟨e0, e1, e2, e3, e4, e5, e6, e7, e8, e9, ea, eb, ec⟩ := cells13 hk3
                rw [h0] at hR3'h
                cases em with
                | false =>
                  obtain rfl : R = false := by rw [hR3'h.out]; simp
                  have hB3'h := Lib.hid hB3
                  clear hB3
                  go_wp2
                  go_ret
                  exact ⟨rfl, hB3'h.out⟩
                | true =>
                  have hp0 : pnx = 0 := hempty'h.out rfl
                  have hB3'h := Lib.hid hB3
                  have hp0'h := Lib.hid hp0
                  clear hB3 hp0
                  rcases zero_or tnx with rfl | ⟨q1, q2, q3⟩
                  · have ht0 : toldx = [] := List.eq_nil_of_length_eq_zero htn'h.out.symm
                    have hR4 : R = (decide (atx = 0) || decide (atx ≥ beganx)) := by
                      rw [hR3'h.out, ht0, hp0'h.out]
                      have : (1073741824 : Int) ≥ beganx := by omega
                      simp [this]
                    clear ht0
                    have hR4'h := Lib.hid hR4
                    clear hR4
                    rcases int_zero_or atx with ⟨p0, p1, p2⟩ | ⟨p0, p1, p2⟩
                    · obtain rfl : R = true := by rw [hR4'h.out, p0]; simp
                      clear p0
                      go_wp2
                      go_ret
                      exact ⟨rfl, hB3'h.out⟩
                    · have hR5 : R = decide (atx ≥ beganx) := by rw [hR4'h.out]; simp [p0]
                      clear p0
                      have hR5'h := Lib.hid hR5
                      clear hR5
                      go_wp2
                      go_ret
                      exact ⟨ret_bool hR5'h.out.symm, hB3'h.out⟩
                  · obtain rfl : R = false := by
                      rw [hR3'h.out, hp0'h.out]
                      simp [q3]
                    clear q2 q3
                    go_wp2
                    go_ret
                    exact ⟨rfl, hB3'h.out⟩
              · have hR4 : R = (decide (overx ≥ beganx) && (decide (atx = 0) || (decide (atx ≥ beganx) && decide (atx ≤ overx))) && (toldx.all fun y => decide (y ≥ beganx) && decide (y ≤ overx)) && (decide (tnx = pnx) && (decide (tnx = 0) || decide (opx = 6)))) := by
                  rw [hR3'h.out]
                  simp [h0]
                clear hR3'h DN'h hempty'h
                have hR4'h := Lib.hid hR4
                have h0'h := Lib.hid h0
                clear hR4 h0
                by_cases c6 : overx < beganx
                · obtain rfl : R = false := by rw [hR4'h.out]; have : ¬ overx ≥ beganx := (by omega); simp [this]
                  go_wp2
                  go_ret
                  exact ⟨rfl, hB2'h.out⟩
                · have g6 : decide (overx ≥ beganx) = true := decide_eq_true (by omega)
                  have hR5 := hR4'h.out
                  rw [g6, Bool.true_and] at hR5
                  clear g6 hR4'h
                  have hR5'h := Lib.hid hR5
                  clear hR5
                  rcases int_zero_or atx with ⟨p0, p1, p2⟩ | ⟨p0, p1, p2⟩
                  · have hR6 := hR5'h.out
                    rw [decide_eq_true p0] at hR6
                    simp only [Bool.true_or, Bool.true_and] at hR6
                    clear hR5'h p0
                    have hR6'h := Lib.hid hR6
                    clear hR6
                    by_cases c9 : tnx = pnx
                    · have j1 : ((tnx : Int) != (pnx : Int)) = false := by simp; omega
                      have hR7 := hR6'h.out
                      rw [decide_eq_true c9, Bool.true_and] at hR7
                      clear hR6'h c9
                      have hR7'h := Lib.hid hR7
                      clear hR7
                      go_wp2
                      go_loopg [4, 95] tnx (fun q v4 v95 wr => ∃ k : Nat, k + q = tnx ∧ v95 = .int .i64 (k : Int) ∧ (∀ i, i < k → (hi : i < toldx.length) → (decide (toldx[i] ≥ beganx) && decide (toldx[i] ≤ overx)) = true) ∧ wr = W2)
                      case atStart => exact ⟨0, by omega, rfl, fun i hi => by omega, rfl⟩
                      case round =>
                        obtain ⟨k, hk, rfl, hall, rfl⟩ := hrel
                        by_cases hlt : k < tnx
                        · have hkl : k < toldx.length := by have := htn'h.out; omega
                          obtain ⟨tb, tz, rfl, hcs⟩ := hT2'h.out.some' (by omega)
                          obtain ⟨y, hy⟩ : ∃ y, y = toldx[k] := ⟨_, rfl⟩
                          have t1 : wr.cell? ⟨tb, tz + k, none⟩ = some (.int .i64 y) := hcs k _ (by rw [List.getElem?_map, List.getElem?_eq_getElem hkl, hy]; rfl)
                          have i1 : (k : Int) < (tnx : Int) := by omega
                          have i2 : (0 : Int) ≤ (k : Int) := by omega
                          have i3 : (k : Int) + 1 ≤ 9223372036854775807 := by have := hmax'h.out; omega
                          clear hcs
                          have hk'h := Lib.hid hk
                          have hall'h := Lib.hid hall
                          clear hk hall
                          by_cases d1 : y < beganx
                          · obtain rfl : R = false := by
                              rw [hR7'h.out]
                              have : (toldx.all fun y => decide (y ≥ beganx) && decide (y ≤ overx)) = false := by
                                rw [List.all_eq_false]
                                refine ⟨y, (by rw [hy]; exact List.getElem_mem _), ?_⟩
                                have q1 : ¬ y ≥ beganx := by omega
                                simp [q1]
                              rw [this]; rfl
                            clear hy hkl
                            go_wp2
                            go_ret
                            exact ⟨rfl, hB2'h.out⟩
                          · by_cases d2 : y > overx
                            · obtain rfl : R = false := by
                                rw [hR7'h.out]
                                have : (toldx.all fun y => decide (y ≥ beganx) && decide (y ≤ overx)) = false := by
                                  rw [List.all_eq_false]
                                  refine ⟨y, (by rw [hy]; exact List.getElem_mem _), ?_⟩
                                  have q1 : ¬ y ≤ overx := by omega
                                  simp [q1]
                                rw [this]; rfl
                              clear hy hkl
                              go_wp2
                              go_ret
                              exact ⟨rfl, hB2'h.out⟩
                            · have hall2 : ∀ i, i < k + 1 → (hi : i < toldx.length) → (decide (toldx[i] ≥ beganx) && decide (toldx[i] ≤ overx)) = true := fun i hi hil => by
                                by_cases e : i = k
                                · subst e
                                  rw [← hy]
                                  have q1 : y ≥ beganx := by omega
                                  have q2 : y ≤ overx := by omega
                                  simp [q1, q2]
                                · exact hall'h.out i (by omega) hil
                              clear hy hkl
                              have hall2'h := Lib.hid hall2
                              clear hall2
                              go_wp2
                              go_roundg (gk - 1)
                              case measure => have := hk'h.out; omega
                              case rel => exact ⟨k + 1, by have := hk'h.out; omega, by go_num, hall2'h.out, rfl⟩
                        · have i1 : ¬ (k : Int) < (tnx : Int) := by omega
                          have hw : (toldx.all fun y => decide (y ≥ beganx) && decide (y ≤ overx)) = true := by
                            rw [List.all_eq_true]
                            intro y hy
                            obtain ⟨i, hi, rfl⟩ := List.getElem_of_mem hy
                            exact hall i (by have := htn'h.out; omega) hi
                          have hR8 : R = (decide (tnx = 0) || decide (opx = 6)) := by rw [hR7'h.out, hw]; rfl
                          clear hw hall hk hlt
                          have hR8'h := Lib.hid hR8
                          clear hR8
                          rcases zero_or tnx with rfl | ⟨q1, q2, q3⟩
                          · obtain rfl : R = true := by rw [hR8'h.out]; simp
                            go_wp2
                            go_ret
                            exact ⟨rfl, hB2'h.out⟩
                          · have hR9 : R = (opx == 6) := by rw [hR8'h.out, q3, Bool.false_or]; rfl
                            clear q2 q3
                            have hR9'h := Lib.hid hR9
                            clear hR9
                            go_wp2
                            go_ret
                            exact ⟨ret_bool hR9'h.out.symm, hB2'h.out⟩
                    · have j1 : ((tnx : Int) != (pnx : Int)) = true := by simp; omega
                      obtain rfl : R = false := by rw [hR6'h.out]; simp [c9]
                      clear c9
                      go_wp2
                      go_ret
                      exact ⟨rfl, hB2'h.out⟩
                  · by_cases c7 : atx < beganx
                    · obtain rfl : R = false := by rw [hR5'h.out]; have : ¬ atx ≥ beganx := (by omega); simp [this, p0]
                      clear p0
                      go_wp2
                      go_ret
                      exact ⟨rfl, hB2'h.out⟩
                    · by_cases c8 : atx > overx
                      · obtain rfl : R = false := by rw [hR5'h.out]; have : ¬ atx ≤ overx := (by omega); simp [this, p0]
                        clear p0
                        go_wp2
                        go_ret
                        exact ⟨rfl, hB2'h.out⟩
                      · have hR6 := hR5'h.out
                        rw [decide_eq_true (show atx ≥ beganx by omega), decide_eq_true (show atx ≤ overx by omega)] at hR6
                        simp only [Bool.true_and, Bool.or_true] at hR6
                        clear hR5'h p0
                        have hR6'h := Lib.hid hR6
                        clear hR6
                        by_cases c9 : tnx = pnx
                        · have j1 : ((tnx : Int) != (pnx : Int)) = false := by simp; omega
                          have hR7 := hR6'h.out
                          rw [decide_eq_true c9, Bool.true_and] at hR7
                          clear hR6'h c9
                          have hR7'h := Lib.hid hR7
                          clear hR7
                          go_wp2
                          go_loopg [4, 95] tnx (fun q v4 v95 wr => ∃ k : Nat, k + q = tnx ∧ v95 = .int .i64 (k : Int) ∧ (∀ i, i < k → (hi : i < toldx.length) → (decide (toldx[i] ≥ beganx) && decide (toldx[i] ≤ overx)) = true) ∧ wr = W2)
                          case atStart => exact ⟨0, by omega, rfl, fun i hi => by omega, rfl⟩
                          case round =>
                            obtain ⟨k, hk, rfl, hall, rfl⟩ := hrel
                            by_cases hlt : k < tnx
                            · have hkl : k < toldx.length := by have := htn'h.out; omega
                              obtain ⟨tb, tz, rfl, hcs⟩ := hT2'h.out.some' (by omega)
                              obtain ⟨y, hy⟩ : ∃ y, y = toldx[k] := ⟨_, rfl⟩
                              have t1 : wr.cell? ⟨tb, tz + k, none⟩ = some (.int .i64 y) := hcs k _ (by rw [List.getElem?_map, List.getElem?_eq_getElem hkl, hy]; rfl)
                              have i1 : (k : Int) < (tnx : Int) := by omega
                              have i2 : (0 : Int) ≤ (k : Int) := by omega
                              have i3 : (k : Int) + 1 ≤ 9223372036854775807 := by have := hmax'h.out; omega
                              clear hcs
                              have hk'h := Lib.hid hk
                              have hall'h := Lib.hid hall
                              clear hk hall
                              by_cases d1 : y < beganx
                              · obtain rfl : R = false := by
                                  rw [hR7'h.out]
                                  have : (toldx.all fun y => decide (y ≥ beganx) && decide (y ≤ overx)) = false := by
                                    rw [List.all_eq_false]
                                    refine ⟨y, (by rw [hy]; exact List.getElem_mem _), ?_⟩
                                    have q1 : ¬ y ≥ beganx := by omega
                                    simp [q1]
                                  rw [this]; rfl
                                clear hy hkl
                                go_wp2
                                go_ret
                                exact ⟨rfl, hB2'h.out⟩
                              · by_cases d2 : y > overx
                                · obtain rfl : R = false := by
                                    rw [hR7'h.out]
                                    have : (toldx.all fun y => decide (y ≥ beganx) && decide (y ≤ overx)) = false := by
                                      rw [List.all_eq_false]
                                      refine ⟨y, (by rw [hy]; exact List.getElem_mem _), ?_⟩
                                      have q1 : ¬ y ≤ overx := by omega
                                      simp [q1]
                                    rw [this]; rfl
                                  clear hy hkl
                                  go_wp2
                                  go_ret
                                  exact ⟨rfl, hB2'h.out⟩
                                · have hall2 : ∀ i, i < k + 1 → (hi : i < toldx.length) → (decide (toldx[i] ≥ beganx) && decide (toldx[i] ≤ overx)) = true := fun i hi hil => by
                                    by_cases e : i = k
                                    · subst e
                                      rw [← hy]
                                      have q1 : y ≥ beganx := by omega
                                      have q2 : y ≤ overx := by omega
                                      simp [q1, q2]
                                    · exact hall'h.out i (by omega) hil
                                  clear hy hkl
                                  have hall2'h := Lib.hid hall2
                                  clear hall2
                                  go_wp2
                                  go_roundg (gk - 1)
                                  case measure => have := hk'h.out; omega
                                  case rel => exact ⟨k + 1, by have := hk'h.out; omega, by go_num, hall2'h.out, rfl⟩
                            · have i1 : ¬ (k : Int) < (tnx : Int) := by omega
                              have hw : (toldx.all fun y => decide (y ≥ beganx) && decide (y ≤ overx)) = true := by
                                rw [List.all_eq_true]
                                intro y hy
                                obtain ⟨i, hi, rfl⟩ := List.getElem_of_mem hy
                                exact hall i (by have := htn'h.out; omega) hi
                              have hR8 : R = (decide (tnx = 0) || decide (opx = 6)) := by rw [hR7'h.out, hw]; rfl
                              clear hw hall hk hlt
                              have hR8'h := Lib.hid hR8
                              clear hR8
                              rcases zero_or tnx with rfl | ⟨q1, q2, q3⟩
                              · obtain rfl : R = true := by rw [hR8'h.out]; simp
                                go_wp2
                                go_ret
                                exact ⟨rfl, hB2'h.out⟩
                              · have hR9 : R = (opx == 6) := by rw [hR8'h.out, q3, Bool.false_or]; rfl
                                clear q2 q3
                                have hR9'h := Lib.hid hR9
                                clear hR9
                                go_wp2
                                go_ret
                                exact ⟨ret_bool hR9'h.out.symm, hB2'h.out⟩
                        · have j1 : ((tnx : Int) != (pnx : Int)) = true := by simp; omega
                          obtain rfl : R = false := by rw [hR6'h.out]; simp [c9]
                          clear c9
                          go_wp2
                          go_ret
                          exact ⟨rfl, hB2'h.out⟩
end Go.Proofs.YtogeohjeabbmaaaDoor

/-
  The document's answer for layer 27: may calls be?
-/
set_option linter.unusedSimpArgs false
set_option linter.unusedVariables false
set_option maxRecDepth 100000
namespace Go.Proofs.YtogeohjeabbmaaaDoor
open Go.RowKit

theorem apartM_symm (a b : Md) : apartM a b = apartM b a := by
  unfold apartM
  rw [show decide (a.goer ≠ b.goer) = decide (b.goer ≠ a.goer) from decide_eq_decide.2 ⟨fun h e => h e.symm, fun h e => h e.symm⟩]
  cases decide (b.goer ≠ a.goer) <;> cases aheadM a b <;> cases aheadM b a <;> rfl
theorem check_one {l : List Mm} {j : Nat} (hj : j < l.length) (h : rightM (nthM l j).md = false) : checkB l = false := by
  unfold checkB
  have : l.all (fun m => rightM m.md) = false := by
    rw [List.all_eq_false]
    exact ⟨nthM l j, nthM_mem hj, by rw [h]; simp⟩
  rw [this]
  simp
theorem check_pair' {l : List Mm} {j k : Nat} (hj : j < l.length) (hk : k < j) (h : apartM (nthM l j).md (nthM l k).md = false) : checkB l = false := by
  unfold checkB
  have : (List.range l.length).all (apartsM l) = false := by
    rw [List.all_eq_false]
    refine ⟨j, List.mem_range.2 hj, ?_⟩
    have : apartsM l j = false := by
      unfold apartsM
      rw [List.all_eq_false]
      refine ⟨nthM l k, ?_, by rw [h]; simp⟩
      rw [← nthM_take hk]
      exact nthM_mem (by rw [List.length_take]; omega)
    rw [this]; simp
  rw [this]
  simp
theorem check_pair {l : List Mm} {j k : Nat} (hj : j < l.length) (hk : k < l.length) (hne : j ≠ k) (h : apartM (nthM l j).md (nthM l k).md = false) : checkB l = false := by
  by_cases e : k < j
  · exact check_pair' hj e h
  · exact check_pair' (k := j) hk (by omega) (by rw [apartM_symm]; exact h)
theorem check_all {l : List Mm} (h1 : ∀ i, i < l.length → rightM (nthM l i).md = true) (h2 : ∀ i k, i < l.length → k < l.length → i ≠ k → apartM (nthM l i).md (nthM l k).md = true) : checkB l = decide (l.length ≤ 80) := by
  unfold checkB
  have a : l.all (fun m => rightM m.md) = true := by
    rw [List.all_eq_true]
    intro m hm
    obtain ⟨i, hi, rfl⟩ := List.getElem_of_mem hm
    rw [nthM_eq hi]
    exact h1 i hi
  have b : (List.range l.length).all (apartsM l) = true := by
    rw [List.all_eq_true]
    intro i hi
    have hi := List.mem_range.1 hi
    unfold apartsM
    rw [List.all_eq_true]
    intro m hm
    obtain ⟨k, hk, rfl⟩ := List.getElem_of_mem hm
    have hk2 := hk
    rw [List.length_take] at hk2
    rw [nthM_eq hk, nthM_take (by omega)]
    exact h2 i k hi (by omega) (by omega)
  rw [a, b]; simp
set_option maxHeartbeats 4000000 in
theorem drightM_any (sp : Option Addr) (n cap : Nat) (l : List Mm) (w : World) (h : MsIn w sp n l) :
    Calls Tryd.prog 18 #[.slice sp n cap] w fun e w' => e = .returned (.bool (checkB l)) ∧ Below w.heap.size w w' := by
  have hlen := h.len
  have hmax := h.sl.2.1
  unfold maxLen at hmax
  obtain ⟨R, hR⟩ : ∃ R, R = checkB l := ⟨_, rfl⟩
  rw [← hR]
  have hR'h := Lib.hid hR
  have hlen'h := Lib.hid hlen
  have hmax'h := Lib.hid hmax
  have h'h := Lib.hid h
  clear hR hlen hmax h
  go_enter Tryd.func18, Tryd.ntmps18
  go_wp2
  go_loopg [9] n (fun q v9 wr => ∃ j : Nat, j + q = n ∧ v9 = .int .i64 (j : Int) ∧ (∀ i, i < j → rightM (nthM l i).md = true) ∧ (∀ i k, i < j → k < n → i ≠ k → apartM (nthM l i).md (nthM l k).md = true) ∧ Below w.heap.size w wr)
  case atStart => exact ⟨0, by omega, rfl, fun i hi => by omega, fun i k hi => by omega, Below.refl _ _⟩
  case round =>
    obtain ⟨j, hj, rfl, hall, hpr, hB⟩ := hrel
    by_cases hlt : j < n
    · have i3 : (j : Int) < (n : Int) := by omega
      have i4 : (0 : Int) ≤ (j : Int) := by omega
      have i5 : (j : Int) + 1 ≤ 9223372036854775807 := by have := hmax'h.out; omega
      have hS := h'h.out.below hB
      obtain ⟨b, off, rfl⟩ := slk_some hS.sl (by omega)
      have hjl : j < l.length := by have := hlen'h.out; omega
      obtain ⟨x, hx0⟩ : ∃ x, x = nthM l j := ⟨_, rfl⟩
      have hcl := fun (i : Nat) (v : Value) (hi : i < 13) (hv : (mmL x)[i]? = some v) => hS.cells hjl (i := i) (v := v) hi (by rw [← hx0]; exact hv)
      have hxI : MmIn wr x := hS.each x (by rw [hx0]; exact nthM_mem hjl)
      have hB3 := (Below.refl wr.heap.size wr).alloc (Nat.le_refl _) (.cells (mmA x) 39)
      have hb3 := World.alloc_heap_new wr (.cells (mmA x) 39)
      have DO := done_any x (wr.alloc (.cells (mmA x) 39)) (hxI.below hB3)
      have AX := fun (y : Mm) W => dahead_any x y W
      have AY := fun (y : Mm) W => dahead_any y x W
      obtain ⟨rx, hrx⟩ : ∃ rx, rx = rightM x.md := ⟨_, rfl⟩
      rw [← hrx] at DO
      obtain ⟨mx, hmx⟩ : ∃ mx, mx = x.md := ⟨_, rfl⟩
      rw [← hmx] at AX AY hrx
      have hgx : mx.goer = x.md.goer := by rw [hmx]
      have hmx2 : mx = (nthM l j).md := by rw [hmx, hx0]
      clear hx0 hS hmx hxI
      obtain ⟨⟨goerx, ⟨opx, kyx, cax, cbx⟩, ⟨errx, valx, donex⟩, prsx, beganx, atx, overx, toldx⟩, ppx, pnx, pcx, tpx, tnx, tcx⟩ := x
      have e0 := hcl 0 _ (by omega) rfl
      have e1 := hcl 1 _ (by omega) rfl
      have e2 := hcl 2 _ (by omega) rfl
      have e3 := hcl 3 _ (by omega) rfl
      have e4 := hcl 4 _ (by omega) rfl
      have e5 := hcl 5 _ (by omega) rfl
      have e6 := hcl 6 _ (by omega) rfl
      have e7 := hcl 7 _ (by omega) rfl
      have e8 := hcl 8 _ (by omega) rfl
      have e9 := hcl 9 _ (by omega) rfl
      have ea := hcl 10 _ (by omega) rfl
      have eb := hcl 11 _ (by omega) rfl
      have ec := hcl 12 _ (by omega) rfl
      simp only [Nat.add_zero] at e0
      simp only [mmA] at *
      clear hcl
      obtain ⟨W3, hW3⟩ : ∃ W3, W3 = wr.alloc (.cells #[.int .i64 goerx, .int .i64 opx, .int .u64 (kyx : Int), .int .u64 (cax : Int), .int .u64 (cbx : Int), .int .i64 errx, .int .u64 (valx : Int), .bool donex, .slice ppx pnx pcx, .int .i64 beganx, .int .i64 atx, .int .i64 overx, .slice tpx tnx tcx] 39) := ⟨_, rfl⟩
      rw [← hW3] at hB3 hb3 DO
      obtain ⟨go, hgo⟩ : ∃ go : Nat, go = gk := ⟨_, rfl⟩
      have hj'h := Lib.hid hj
      have hB'h := Lib.hid hB
      have hall'h := Lib.hid hall
      have hpr'h := Lib.hid hpr
      have AX'h := Lib.hid AX
      have AY'h := Lib.hid AY
      have DO'h := Lib.hid DO
      have hmx2'h := Lib.hid hmx2
      have hgx'h := Lib.hid hgx
      have hrx'h := Lib.hid hrx
      have hB3'h := Lib.hid hB3
      have hb3'h := Lib.hid hb3
      have hjl'h := Lib.hid hjl
      have hlt'h := Lib.hid hlt
      have hgo'h := Lib.hid hgo
      clear hj hB hall hpr AX AY DO hmx2 hgx hrx hB3 hb3 hjl hlt hgo
      go_upto_region 4 with fail
      rw [← hW3]
      clear hW3 e0 e1 e2 e3 e4 e5 e6 e7 e8 e9 ea eb ec
      have hB4 := below_next hB'h.out hB3'h.out
      have hb3 := hb3'h.out
      clear hb3'h hB3'h hB'h
      generalize wr.heap.size = ab at hb3 ⊢
      obtain ⟨b0, b1, b2, b3, b4, b5, b6, b7, b8, b9, ba, bb, bc⟩ := cells13 hb3
      have hB4'h := Lib.hid hB4
      have hb3'h := Lib.hid hb3
      clear hB4 hb3
      go_wp2_with fail
      refine DO'h.out.mono ?_
      rintro e W5 ⟨rfl, hb5⟩
      have hB5 := below_next hB4'h.out hb5
      have hab5 := heap_below hb5 hb3'h.out (lt_of_heap hb3'h.out)
      clear hb5 b0 b1 b2 b3 b4 b5 b6 b7 b8 b9 ba bb bc DO'h hB4'h hb3'h
      have hB5'h := Lib.hid hB5
      have hab5'h := Lib.hid hab5
      clear hB5 hab5
      cases rx with
      | false =>
        obtain rfl : R = false := by rw [hR'h.out]; exact check_one hjl'h.out (by rw [← hmx2'h.out]; exact hrx'h.out.symm)
        go_wp2
        go_ret
        exact ⟨rfl, hB5'h.out⟩
      | true =>
        go_wp2
        go_loopg [19] n (fun q v19 wq => ∃ k : Nat, k + q = n ∧ v19 = .int .i64 (k : Int) ∧ (∀ i, i < k → j ≠ i → apartM mx (nthM l i).md = true) ∧ Below w.heap.size w wq ∧ wq.heap[ab]? = some (.cells #[.int .i64 goerx, .int .i64 opx, .int .u64 (kyx : Int), .int .u64 (cax : Int), .int .u64 (cbx : Int), .int .i64 errx, .int .u64 (valx : Int), .bool donex, .slice ppx pnx pcx, .int .i64 beganx, .int .i64 atx, .int .i64 overx, .slice tpx tnx tcx] 39 (0, 0)))
        case atStart => exact ⟨0, by omega, rfl, fun i hi => by omega, hB5'h.out, hab5'h.out⟩
        case round =>
          obtain ⟨k, hk, rfl, hall2, hB, hab⟩ := hrel
          by_cases hlt2 : k < n
          · have j1 : (k : Int) < (n : Int) := by omega
            have j2 : (0 : Int) ≤ (k : Int) := by omega
            have j3 : (k : Int) + 1 ≤ 9223372036854775807 := by have := hmax'h.out; omega
            have hS := h'h.out.below hB
            have hkl : k < l.length := by have := hlen'h.out; omega
            obtain ⟨y, hy0⟩ : ∃ y, y = nthM l k := ⟨_, rfl⟩
            have hcl := fun (i : Nat) (v : Value) (hi : i < 13) (hv : (mmL y)[i]? = some v) => hS.cells hkl (i := i) (v := v) hi (by rw [← hy0]; exact hv)
            have AX := AX'h.out y
            have AY := AY'h.out y
            obtain ⟨p, hp⟩ : ∃ p, p = aheadM mx y.md := ⟨_, rfl⟩
            obtain ⟨p2, hp2⟩ : ∃ p2, p2 = aheadM y.md mx := ⟨_, rfl⟩
            rw [← hp] at AX
            rw [← hp2] at AY
            have hap : apartM mx (nthM l k).md = (decide (mx.goer ≠ y.md.goer) || p || p2) := by rw [hp, hp2, hy0]; rfl
            rw [hgx'h.out] at hap
            have hB5 := (Below.refl wr.heap.size wr).alloc (Nat.le_refl _) (.cells (mmA y) 39)
            have hb5 := World.alloc_heap_new wr (.cells (mmA y) 39)
            clear hp hp2 hy0 hS
            obtain ⟨⟨goery, ⟨opy, kyy, cay, cby⟩, ⟨erry, valy, doney⟩, prsy, begany, aty, overy, toldy⟩, ppy, pny, pcy, tpy, tny, tcy⟩ := y
            have e0 := hcl 0 _ (by omega) rfl
            have e1 := hcl 1 _ (by omega) rfl
            have e2 := hcl 2 _ (by omega) rfl
            have e3 := hcl 3 _ (by omega) rfl
            have e4 := hcl 4 _ (by omega) rfl
            have e5 := hcl 5 _ (by omega) rfl
            have e6 := hcl 6 _ (by omega) rfl
            have e7 := hcl 7 _ (by omega) rfl
            have e8 := hcl 8 _ (by omega) rfl
            have e9 := hcl 9 _ (by omega) rfl
            have ea := hcl 10 _ (by omega) rfl
            have eb := hcl 11 _ (by omega) rfl
            have ec := hcl 12 _ (by omega) rfl
            simp only [Nat.add_zero] at e0
            simp only [mmA] at *
            clear hcl
            obtain ⟨W6, hW6⟩ : ∃ W6, W6 = wr.alloc (.cells #[.int .i64 goery, .int .i64 opy, .int .u64 (kyy : Int), .int .u64 (cay : Int), .int .u64 (cby : Int), .int .i64 erry, .int .u64 (valy : Int), .bool doney, .slice ppy pny pcy, .int .i64 begany, .int .i64 aty, .int .i64 overy, .slice tpy tny tcy] 39) := ⟨_, rfl⟩
            rw [← hW6] at hB5 hb5
            have hk'h := Lib.hid hk
            have hB'h := Lib.hid hB
            have hall2'h := Lib.hid hall2
            have hab'h := Lib.hid hab
            have AX'h := Lib.hid AX
            have AY'h := Lib.hid AY
            have hB5'h := Lib.hid hB5
            have hb5'h := Lib.hid hb5
            have hkl'h := Lib.hid hkl
            have hlt2'h := Lib.hid hlt2
            have hap'h := Lib.hid hap
            clear hk hB hall2 hab AX AY hB5 hb5 hkl hlt2 hap
            go_upto_region 9 with fail
            rw [← hW6]
            clear hW6 e0 e1 e2 e3 e4 e5 e6 e7 e8 e9 ea eb ec
            have hB6 := below_next hB'h.out hB5'h.out
            have hab6 := heap_below hB5'h.out hab'h.out (lt_of_heap hab'h.out)
            have hb5 := hb5'h.out
            clear hB5'h hB'h hab'h hb5'h
            generalize wr.heap.size = yb at hb5 ⊢
            obtain ⟨a0, a1, a2, a3, a4, a5, a6, a7, a8, a9, aa, a_b, ac⟩ := cells13 hb5
            obtain ⟨b0, b1, b2, b3, b4, b5, b6, b7, b8, b9, ba, bb, bc⟩ := cells13 hab6
            have hB6'h := Lib.hid hB6
            have hab6'h := Lib.hid hab6
            have hb5'h := Lib.hid hb5
            clear hB6 hab6 hb5
            by_cases hjk : j = k
            · have c1 : ((j : Int) != (k : Int)) = false := by simp [hjk]
              have hall3 : ∀ i, i < k + 1 → j ≠ i → apartM mx (nthM l i).md = true := fun i hi hne => hall2'h.out i (by omega) hne
              clear hjk AX'h AY'h
              have hall3'h := Lib.hid hall3
              clear hall3
              go_wp2
              go_roundg (gk - 1)
              case measure => have := hk'h.out; have := hlt2'h.out; omega
              case rel => exact ⟨k + 1, by have := hk'h.out; have := hlt2'h.out; omega, by go_num, hall3'h.out, hB6'h.out, hab6'h.out⟩
            · have c1 : ((j : Int) != (k : Int)) = true := by simp; omega
              have hjk'h := Lib.hid hjk
              clear hjk
              by_cases hg : goerx = goery
              · have c2 : (goerx == goery) = true := by simp [hg]
                have hap2 : apartM mx (nthM l k).md = (p || p2) := by rw [hap'h.out, decide_eq_false (by intro h; exact h hg), Bool.false_or]
                clear hg hap'h
                have hap2'h := Lib.hid hap2
                clear hap2
                go_wp2_with fail
                refine (AX'h.out _).mono ?_
                rintro e W7 ⟨rfl, hb7⟩
                have hB7 := below_next hB6'h.out hb7
                have hab7 := heap_below hb7 hab6'h.out (lt_of_heap hab6'h.out)
                have hc7 := heap_below hb7 hb5'h.out (lt_of_heap hb5'h.out)
                clear hb7 a0 a1 a2 a3 a4 a5 a6 a7 a8 a9 aa a_b ac b0 b1 b2 b3 b4 b5 b6 b7 b8 b9 ba bb bc hB6'h hab6'h hb5'h AX'h
                obtain ⟨a0, a1, a2, a3, a4, a5, a6, a7, a8, a9, aa, a_b, ac⟩ := cells13 hc7
                obtain ⟨b0, b1, b2, b3, b4, b5, b6, b7, b8, b9, ba, bb, bc⟩ := cells13 hab7
                have hB7'h := Lib.hid hB7
                have hab7'h := Lib.hid hab7
                have hc7'h := Lib.hid hc7
                clear hB7 hab7 hc7
                cases p with
                | true =>
                  have hall3 : ∀ i, i < k + 1 → j ≠ i → apartM mx (nthM l i).md = true := fun i hi hne => by
                    by_cases e : i = k
                    · rw [e, hap2'h.out]; rfl
                    · exact hall2'h.out i (by omega) hne
                  clear AY'h
                  have hall3'h := Lib.hid hall3
                  clear hall3
                  go_wp2
                  go_roundg (gk - 1)
                  case measure => have := hk'h.out; have := hlt2'h.out; omega
                  case rel => exact ⟨k + 1, by have := hk'h.out; have := hlt2'h.out; omega, by go_num, hall3'h.out, hB7'h.out, hab7'h.out⟩
                | false =>
                  go_wp2_with fail
                  refine (AY'h.out _).mono ?_
                  rintro e W8 ⟨rfl, hb8⟩
                  have hB8 := below_next hB7'h.out hb8
                  have hab8 := heap_below hb8 hab7'h.out (lt_of_heap hab7'h.out)
                  clear hb8 a0 a1 a2 a3 a4 a5 a6 a7 a8 a9 aa a_b ac b0 b1 b2 b3 b4 b5 b6 b7 b8 b9 ba bb bc hB7'h hab7'h AY'h
                  have hB8'h := Lib.hid hB8
                  have hab8'h := Lib.hid hab8
                  clear hB8 hab8
                  cases p2 with
                  | true =>
                    have hall3 : ∀ i, i < k + 1 → j ≠ i → apartM mx (nthM l i).md = true := fun i hi hne => by
                      by_cases e : i = k
                      · rw [e, hap2'h.out]; rfl
                      · exact hall2'h.out i (by omega) hne
                    have hall3'h := Lib.hid hall3
                    clear hall3
                    go_wp2
                    go_roundg (gk - 1)
                    case measure => have := hk'h.out; have := hlt2'h.out; omega
                    case rel => exact ⟨k + 1, by have := hk'h.out; have := hlt2'h.out; omega, by go_num, hall3'h.out, hB8'h.out, hab8'h.out⟩
                  | false =>
                    obtain rfl : R = false := by
                      rw [hR'h.out]
                      exact check_pair hjl'h.out hkl'h.out hjk'h.out (by rw [← hmx2'h.out, hap2'h.out]; rfl)
                    go_wp2
                    go_ret
                    exact ⟨rfl, hB8'h.out⟩
              · have c2 : (goerx == goery) = false := by simp [hg]
                have hall3 : ∀ i, i < k + 1 → j ≠ i → apartM mx (nthM l i).md = true := fun i hi hne => by
                  by_cases e : i = k
                  · rw [e, hap'h.out, decide_eq_true hg]; rfl
                  · exact hall2'h.out i (by omega) hne
                clear hg AX'h AY'h
                have hall3'h := Lib.hid hall3
                clear hall3
                go_wp2
                go_roundg (gk - 1)
                case measure => have := hk'h.out; have := hlt2'h.out; omega
                case rel => exact ⟨k + 1, by have := hk'h.out; have := hlt2'h.out; omega, by go_num, hall3'h.out, hB6'h.out, hab6'h.out⟩
          · have j1 : ¬ (k : Int) < (n : Int) := by omega
            have hall3 : ∀ i, i < j + 1 → rightM (nthM l i).md = true := fun i hi => by
              by_cases e : i = j
              · rw [e, ← hmx2'h.out]; exact hrx'h.out.symm
              · exact hall'h.out i (by omega)
            have hpr3 : ∀ i k, i < j + 1 → k < n → i ≠ k → apartM (nthM l i).md (nthM l k).md = true := fun i k' hi hk2 hne => by
              by_cases e : i = j
              · subst e
                rw [← hmx2'h.out]; exact hall2 k' (by omega) hne
              · exact hpr'h.out i k' (by omega) hk2 hne
            clear hall2 hk hlt2 hab
            have hall3'h := Lib.hid hall3
            have hpr3'h := Lib.hid hpr3
            have hB'h := Lib.hid hB
            clear hall3 hpr3 hB
            go_wp2
            go_roundg (go - 1)
            case measure => have := hgo'h.out; have := hj'h.out; have := hlt'h.out; omega
            case rel => exact ⟨j + 1, by have := hgo'h.out; have := hj'h.out; have := hlt'h.out; omega, by go_num, hall3'h.out, hpr3'h.out, hB'h.out⟩
    · have i3 : ¬ (j : Int) < (n : Int) := by omega
      have hR8 : R = decide (n ≤ 80) := by
        rw [hR'h.out, check_all (fun i hi => hall i (by have := hlen'h.out; omega)) (fun i k hi hk => hpr i k (by have := hlen'h.out; omega) (by have := hlen'h.out; omega)), hlen'h.out]
      clear hall hpr hj hlt
      have hR8'h := Lib.hid hR8
      have hB'h := Lib.hid hB
      clear hR8 hB
      go_wp2
      go_ret
      exact ⟨ret_bool (by rw [hR8'h.out]; exact decide_eq_decide.2 (by omega)), hB'h.out⟩
end Go.Proofs.YtogeohjeabbmaaaDoor

