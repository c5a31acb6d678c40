/-
  Layer 27 (order): may a call be, by itself?
-/
import Derived.Test.YtogeohjeabbmaaaDoorOrdA
import Derived.Deep.Cut
import Derived.Deep.CutRange
set_option linter.unusedSimpArgs false
set_option linter.unusedVariables false
set_option maxRecDepth 100000
namespace Go.Proofs.YtogeohjeabbmaaaDoor
open Go.RowKit

/-- The script of one call. -/
def oneS (c : Cal) : Scr := ⟨1, 2, 0, [[c]], []⟩
theorem oneS_right (c : Cal) : rightS (oneS c) = rightC c := by
  unfold rightS headS sizesS oneS
  simp
/-- While a call is looked at: the box of its last step. -/
structure RtI (W4 : World) (b4 : Nat) (la : Int) (wr : World) : Prop where
  low : Below W4.heap.size W4 wr
  last : wr.heap[b4]? = some (.cells #[.int .i64 la] 3 (0, 0))
theorem RtI.next {W4 : World} {b4 : Nat} {la : Int} {wr wr' : World} (h : RtI W4 b4 la wr) (hb : Below wr.heap.size wr wr') : RtI W4 b4 la wr' :=
  ⟨below_next h.low hb, heap_below hb h.last (lt_of_heap h.last)⟩
theorem cells13 {W : World} {b : Nat} {v0 v1 v2 v3 v4 v5 v6 v7 v8 v9 va vb vc : Value} {t : TypeId} (h : W.heap[b]? = some (.cells #[v0, v1, v2, v3, v4, v5, v6, v7, v8, v9, va, vb, vc] t (0, 0))) :
    W.cell? ⟨b, 0, none⟩ = some v0 ∧ W.cell? ⟨b, 1, none⟩ = some v1 ∧ W.cell? ⟨b, 2, none⟩ = some v2 ∧ W.cell? ⟨b, 3, none⟩ = some v3 ∧ W.cell? ⟨b, 4, none⟩ = some v4 ∧ W.cell? ⟨b, 5, none⟩ = some v5 ∧ W.cell? ⟨b, 6, none⟩ = some v6 ∧ W.cell? ⟨b, 7, none⟩ = some v7 ∧ W.cell? ⟨b, 8, none⟩ = some v8 ∧ W.cell? ⟨b, 9, none⟩ = some v9 ∧ W.cell? ⟨b, 10, none⟩ = some va ∧ W.cell? ⟨b, 11, none⟩ = some vb ∧ W.cell? ⟨b, 12, none⟩ = some vc :=
  ⟨blk_cell (i := 0) h rfl, blk_cell (i := 1) h rfl, blk_cell (i := 2) h rfl, blk_cell (i := 3) h rfl, blk_cell (i := 4) h rfl, blk_cell (i := 5) h rfl, blk_cell (i := 6) h rfl, blk_cell (i := 7) h rfl, blk_cell (i := 8) h rfl, blk_cell (i := 9) h rfl, blk_cell (i := 10) h rfl, blk_cell (i := 11) h rfl, blk_cell (i := 12) h rfl⟩
theorem cells5o {W : World} {b : Nat} {v0 v1 v2 v3 v4 : Value} {t : TypeId} (h : W.heap[b]? = some (.cells #[v0, v1, v2, v3, v4] t (0, 0))) :
    W.cell? ⟨b, 0, none⟩ = some v0 ∧ W.cell? ⟨b, 1, none⟩ = some v1 ∧ W.cell? ⟨b, 2, none⟩ = some v2 ∧ W.cell? ⟨b, 3, none⟩ = some v3 ∧ W.cell? ⟨b, 4, none⟩ = some v4 :=
  ⟨blk_cell (i := 0) h rfl, blk_cell (i := 1) h rfl, blk_cell (i := 2) h rfl, blk_cell (i := 3) h rfl, blk_cell (i := 4) h rfl⟩
set_option maxHeartbeats 8000000 in
theorem rightM_any (m : Mm) (w : World) (hT : Tks w) (h : MmIn w m) :
    Calls Tryd.prog 29 #[.agg (mmA m)] w fun e w' => e = .returned (.bool (rightM m.md)) ∧ Below w.heap.size w w' := by
  have hpn := h.pn
  have htn := h.tn
  have hok := h.ok
  obtain ⟨R, hR⟩ : ∃ R, R = rightM m.md := ⟨_, rfl⟩
  rw [← hR]
  obtain ⟨fl, hfl⟩ : ∃ fl, fl = flatM m.md := ⟨_, rfl⟩
  obtain ⟨st, hst⟩ : ∃ st, st = stepsM m.md := ⟨_, rfl⟩
  obtain ⟨wi, hwi⟩ : ∃ wi, wi = withinM m.md := ⟨_, rfl⟩
  obtain ⟨td, htd⟩ : ∃ td, td = toldM m.md := ⟨_, rfl⟩
  obtain ⟨em, hem⟩ : ∃ em, em = emptyM m.md := ⟨_, rfl⟩
  obtain ⟨la, hla⟩ : ∃ la, la = lastM m.md := ⟨_, rfl⟩
  unfold rightM at hR
  rw [← hfl, ← hst, ← hwi, ← htd, ← hem] at hR
  have hwi2 : wi = m.md.told.all (withinB m.md.began la) := by rw [hwi, hla]; rfl
  unfold flatM at hfl
  unfold stepsM at hst
  unfold toldM at htd
  rw [← htn, ← hpn] at htd
  rw [← hla] at hst
  have E := fun W => empty_any m W hpn
  rw [← hem] at E
  have hH := ((((Hs.nil w).new (mmA m) 39).new (calA m.md.call) 31).new #[.slice (some ⟨w.heap.size + 1, 0, none⟩) 1 1] 22).new #[.int .i64 1, .int .i64 2, .int .u64 0, .slice (some ⟨w.heap.size + 1 + 1, 0, none⟩) 1 1, .slice none 0 0] 92
  simp only [World.size_alloc] at hH
  obtain ⟨W4, hW4⟩ : ∃ W4, W4 = (((w.alloc (.cells (mmA m) 39)).alloc (.cells (calA m.md.call) 31)).alloc (.cells #[.slice (some ⟨w.heap.size + 1, 0, none⟩) 1 1] 22)).alloc (.cells #[.int .i64 1, .int .i64 2, .int .u64 0, .slice (some ⟨w.heap.size + 1 + 1, 0, none⟩) 1 1, .slice none 0 0] 92) := ⟨_, rfl⟩
  have hW4s : w.heap.size + 1 + 1 + 1 + 1 = W4.heap.size := by rw [hW4]; simp
  rw [← hW4] at hH
  have hlow4 : Below w.heap.size w W4 := hH.old
  have hscr : W4.heap[w.heap.size + 1 + 1 + 1]? = some (.cells #[.int .i64 1, .int .i64 2, .int .u64 0, .slice (some ⟨w.heap.size + 1 + 1, 0, none⟩) 1 1, .slice none 0 0] 92 (0, 0)) := hH.rows.1
  have hls : W4.heap[w.heap.size + 1 + 1]? = some (.cells #[.slice (some ⟨w.heap.size + 1, 0, none⟩) 1 1] 22 (0, 0)) := hH.rows.2.1
  have hcl : W4.heap[w.heap.size + 1]? = some (.cells (calA m.md.call) 31 (0, 0)) := hH.rows.2.2.1
  have hbox : W4.heap[w.heap.size]? = some (.cells (mmA m) 39 (0, 0)) := hH.rows.2.2.2.1
  have hSm : SmIn W4 ⟨1, 2, 0, some ⟨w.heap.size + 1 + 1, 0, none⟩, 1, 1, [⟨some ⟨w.heap.size + 1, 0, none⟩, 1, 1, [m.md.call]⟩], none, 0, 0, []⟩ := by
    refine ⟨⟨SlK.of_blk (k := 1) (n := 1) hls rfl (by decide), (fun r hr => ?_), (fun r hr => ?_), (fun r hr => ?_), (fun r hr => ?_), by simp, (fun r hr => ?_)⟩, Sl.nil _ _, (fun k hk => by cases hk), (by show (0 : Nat) < 2 ^ 64; decide), (by show (-9223372036854775808 : Int) ≤ 1 ∧ (1 : Int) ≤ 9223372036854775807; decide), (by show (-9223372036854775808 : Int) ≤ 2 ∧ (2 : Int) ≤ 9223372036854775807; decide), (fun h => by cases h), Nat.le_refl _, fun _ => rfl, Nat.le_refl _, Nat.zero_le _⟩
    all_goals
      obtain rfl := List.mem_singleton.1 hr
    · exact SlK.of_blk (k := 4) (n := 1) hcl rfl (by decide)
    · intro h; cases h
    · exact Nat.le_refl _
    · intro c hc
      obtain rfl := List.mem_singleton.1 hc
      exact hok.call
    · simp
  have hCK : ∀ W, Below W4.heap.size W4 W → Calls Tryd.prog 54 #[.agg #[.int .i64 1, .int .i64 2, .int .u64 0, .slice (some ⟨w.heap.size + 1 + 1, 0, none⟩) 1 1, .slice none 0 0]] W fun e w' => e = .returned (.int .i64 (if rightC m.md.call = true then 0 else 130)) ∧ Below W.heap.size W w' := fun W hW => by
    have := check_any ⟨1, 2, 0, some ⟨w.heap.size + 1 + 1, 0, none⟩, 1, 1, [⟨some ⟨w.heap.size + 1, 0, none⟩, 1, 1, [m.md.call]⟩], none, 0, 0, []⟩ W (hT.next (below_next hlow4 hW)) (hSm.below hW)
    have e : chkS (Sm.scr ⟨1, 2, 0, some ⟨w.heap.size + 1 + 1, 0, none⟩, 1, 1, [⟨some ⟨w.heap.size + 1, 0, none⟩, 1, 1, [m.md.call]⟩], none, 0, 0, []⟩) = if rightC m.md.call = true then 0 else 130 := by
      unfold chkS
      rw [show Sm.scr ⟨1, 2, 0, some ⟨w.heap.size + 1 + 1, 0, none⟩, 1, 1, [⟨some ⟨w.heap.size + 1, 0, none⟩, 1, 1, [m.md.call]⟩], none, 0, 0, []⟩ = oneS m.md.call from rfl, oneS_right]
    rw [e] at this
    exact this
  have hTD := fun W (hW : Below w.heap.size w W) => h.told.below hW
  obtain ⟨rc, hrc⟩ : ∃ rc, rc = rightC m.md.call := ⟨_, rfl⟩
  rw [← hrc] at hCK hfl
  have hI0 : RtI W4 (w.heap.size + 1 + 1 + 1 + 1) m.md.over (W4.alloc (.cells #[.int .i64 m.md.over] 3)) := ⟨(Below.refl _ _).alloc (Nat.le_refl _) _, by rw [hW4s]; exact World.alloc_heap_new _ _⟩
  unfold lastM at hla
  clear hpn htn hok hwi hem hrc hSm hls hcl hH hT h
  obtain ⟨M, hM⟩ : ∃ M, M = m.md := ⟨_, rfl⟩
  clear hM M
  obtain ⟨⟨goerq, ⟨opq, kyq, caq, cbq⟩, ⟨errq, valq, doneq⟩, prsq, beganq, atq, overq, toldq⟩, ppq, pnq, pcq, tpq, tnq, tcq⟩ := m
  simp only [mmA, calA, anL] at *
  have hR'h := Lib.hid hR
  have hfl'h := Lib.hid hfl
  have hst'h := Lib.hid hst
  have hwi2'h := Lib.hid hwi2
  have htd'h := Lib.hid htd
  have hla'h := Lib.hid hla
  have E'h := Lib.hid E
  have hscr'h := Lib.hid hscr
  have hbox'h := Lib.hid hbox
  have hCK'h := Lib.hid hCK
  have hTD'h := Lib.hid hTD
  have hlow4'h := Lib.hid hlow4
  have hI0'h := Lib.hid hI0
  have hW4s'h := Lib.hid hW4s
  clear hR hfl hst hwi2 htd hla E hscr hbox hCK hTD hlow4 hI0 hW4s
  go_enter Tryd.func29, Tryd.ntmps29
  go_upto_region 3 with fail
  change Code.wp _ _ _ _ ((((((w.alloc (.cells #[.int .i64 goerq, .int .i64 opq, .int .u64 (kyq : Int), .int .u64 (caq : Int), .int .u64 (cbq : Int), .int .i64 errq, .int .u64 (valq : Int), .bool doneq, .slice ppq pnq pcq, .int .i64 beganq, .int .i64 atq, .int .i64 overq, .slice tpq tnq tcq] 39)).alloc (.cells #[.int .i64 opq, .int .u64 (kyq : Int), .int .u64 (caq : Int), .int .u64 (cbq : Int)] 31)).alloc (.cells #[.slice (some ⟨w.heap.size + 1, 0, none⟩) 1 1] 22)).alloc (.cells #[.int .i64 1, .int .i64 2, .int .u64 0, .slice (some ⟨w.heap.size + 1 + 1, 0, none⟩) 1 1, .slice none 0 0] 92)).alloc (.cells #[.int .i64 overq] 3)))
  rw [← hW4]
  clear hW4
  generalize w.heap.size + 1 + 1 + 1 + 1 = b4 at hI0'h hW4s'h ⊢
  generalize W4.alloc _ = W5 at hI0'h ⊢
  rcases int_zero_or overq with ⟨h0, h1, h2⟩ | ⟨h0, h1, h2⟩
  · have hI := hI0'h.out
    have y0 : W5.cell? ⟨b4, 0, none⟩ = some (.int .i64 overq) := blk_cell (i := 0) hI.last rfl
    have f0 := blk_free 0 hI.last
    have hIs : RtI W4 b4 la (W5.setCell ⟨b4, 0, none⟩ (.int .i64 1073741824)) := ⟨hI.low.setCell (by rw [← hW4s'h.out]; exact Nat.le_refl _) _, by rw [hla'h.out, if_pos h0]; exact blk_set (i := 0) _ hI.last⟩
    clear hI h2
    have hIs'h := Lib.hid hIs
    have h0'h := Lib.hid h0
    clear hIs h0
    go_upto_region 5 with fail
    clear y0 f0 h1
    generalize World.setCell _ _ _ = W6 at hIs'h ⊢
    obtain ⟨a0, a1, a2, a3, a4, a5, a6, a7, a8, a9, aa, ab, ac⟩ := cells13 (heap_below hIs'h.out.low hbox'h.out (lt_of_heap hbox'h.out))
    go_cut [5] from 18 (fun v wr => v = .bool fl ∧ RtI W4 b4 la wr)
    case first =>
      have hIs := hIs'h.out
      obtain ⟨s0, s1, s2, s3, s4⟩ := cells5o (heap_below hIs.low hscr'h.out (lt_of_heap hscr'h.out))
      have CK := hCK'h.out _ hIs.low
      by_cases c1 : 0 ≤ goerq
      · have i1 : goerq ≥ 0 := c1
        by_cases c2 : goerq < 8
        · cases rc with
          | true =>
            rw [if_pos rfl] at CK
            by_cases c3 : 1 ≤ beganq
            · have i3 : beganq ≥ 1 := c3
              by_cases c4 : beganq ≤ 1073741824
              · obtain rfl : fl = true := by rw [hfl'h.out]; simp [c1, c2, c3, c4]
                have hIs'h := Lib.hid hIs
                have CK'h := Lib.hid CK
                clear hIs CK
                go_wp2_with fail
                refine CK'h.out.mono ?_
                rintro e w7 ⟨rfl, hB7⟩
                obtain ⟨a0, a1, a2, a3, a4, a5, a6, a7, a8, a9, aa, ab, ac⟩ := cells13 (heap_below (hIs'h.out.next hB7).low hbox'h.out (lt_of_heap hbox'h.out))
                have hI7 := hIs'h.out.next hB7
                clear hB7
                have hI7'h := Lib.hid hI7
                clear hI7
                go_wp2
                go_meet
                exact ⟨by first | rfl | exact congrArg Value.bool (decide_eq_false (by omega)), hI7'h.out⟩
              · obtain rfl : fl = false := by rw [hfl'h.out]; simp [c4]
                have hIs'h := Lib.hid hIs
                have CK'h := Lib.hid CK
                clear hIs CK
                go_wp2_with fail
                refine CK'h.out.mono ?_
                rintro e w7 ⟨rfl, hB7⟩
                obtain ⟨a0, a1, a2, a3, a4, a5, a6, a7, a8, a9, aa, ab, ac⟩ := cells13 (heap_below (hIs'h.out.next hB7).low hbox'h.out (lt_of_heap hbox'h.out))
                have hI7 := hIs'h.out.next hB7
                clear hB7
                have hI7'h := Lib.hid hI7
                clear hI7
                go_wp2
                go_meet
                exact ⟨by first | rfl | exact congrArg Value.bool (decide_eq_false (by omega)), hI7'h.out⟩
            · have i3 : ¬ beganq ≥ 1 := c3
              obtain rfl : fl = false := by rw [hfl'h.out]; simp [c3]
              have hIs'h := Lib.hid hIs
              have CK'h := Lib.hid CK
              clear hIs CK
              go_wp2_with fail
              refine CK'h.out.mono ?_
              rintro e w7 ⟨rfl, hB7⟩
              obtain ⟨a0, a1, a2, a3, a4, a5, a6, a7, a8, a9, aa, ab, ac⟩ := cells13 (heap_below (hIs'h.out.next hB7).low hbox'h.out (lt_of_heap hbox'h.out))
              have hI7 := hIs'h.out.next hB7
              clear hB7
              have hI7'h := Lib.hid hI7
              clear hI7
              go_wp2
              go_meet
              exact ⟨by first | rfl | exact congrArg Value.bool (decide_eq_false (by omega)), hI7'h.out⟩
          | false =>
            rw [if_neg (by simp)] at CK
            obtain rfl : fl = false := by rw [hfl'h.out]; simp
            have hIs'h := Lib.hid hIs
            have CK'h := Lib.hid CK
            clear hIs CK
            go_wp2_with fail
            refine CK'h.out.mono ?_
            rintro e w7 ⟨rfl, hB7⟩
            obtain ⟨a0, a1, a2, a3, a4, a5, a6, a7, a8, a9, aa, ab, ac⟩ := cells13 (heap_below (hIs'h.out.next hB7).low hbox'h.out (lt_of_heap hbox'h.out))
            have hI7 := hIs'h.out.next hB7
            clear hB7
            have hI7'h := Lib.hid hI7
            clear hI7
            go_wp2
            go_meet
            exact ⟨by first | rfl | exact congrArg Value.bool (decide_eq_false (by omega)), hI7'h.out⟩
        · obtain rfl : fl = false := by rw [hfl'h.out]; simp [c2]
          clear CK
          have hIs'h := Lib.hid hIs
          clear hIs
          go_wp2
          go_meet
          exact ⟨rfl, hIs'h.out⟩
      · have i1 : ¬ goerq ≥ 0 := c1
        obtain rfl : fl = false := by rw [hfl'h.out]; simp [c1]
        clear CK
        have hIs'h := Lib.hid hIs
        clear hIs
        go_wp2
        go_meet
        exact ⟨rfl, hIs'h.out⟩
    case rest =>
      obtain ⟨rfl, hI6⟩ := hcut
      clear a0 a1 a2 a3 a4 a5 a6 a7 a8 a9 aa ab ac hIs'h
      obtain ⟨a0, a1, a2, a3, a4, a5, a6, a7, a8, a9, aa, ab, ac⟩ := cells13 (heap_below hI6.low hbox'h.out (lt_of_heap hbox'h.out))
      have y0 : wc.cell? ⟨b4, 0, none⟩ = some (.int .i64 la) := blk_cell (i := 0) hI6.last rfl
      have hI6'h := Lib.hid hI6
      clear hI6
      go_upto_region 6 with fail
      go_cut [6] from 41 (fun v wr => v = .bool st ∧ wr = wc)
      case first =>
        by_cases d1 : overq ≤ 1073741824
        · by_cases d2 : la ≥ beganq
          · rcases int_zero_or atq with ⟨d3, d3a, d3b⟩ | ⟨d3, d3a, d3b⟩
            · obtain rfl : st = true := by rw [hst'h.out]; simp [d1, d2, d3]
              subst d3
              go_wp2
              go_meet
              exact ⟨by first | rfl | (simp; omega) | simp [*], rfl⟩
            · by_cases d4 : atq ≥ beganq
              · rcases int_zero_or overq with ⟨d5, d5a, d5b⟩ | ⟨d5, d5a, d5b⟩
                · obtain rfl : st = true := by rw [hst'h.out]; simp [d1, d2, d4, d5]
                  clear d3b d5b d5
                  go_wp2
                  go_meet
                  exact ⟨by first | rfl | (simp; omega) | simp [*], rfl⟩
                · by_cases d6 : atq ≤ overq
                  · obtain rfl : st = true := by rw [hst'h.out]; simp [d1, d2, d4, d6]
                    clear d3b d5b
                    go_wp2
                    go_meet
                    exact ⟨by first | rfl | (simp; omega) | simp [*], rfl⟩
                  · obtain rfl : st = false := by rw [hst'h.out]; simp [d3, d5, d6]
                    clear d3b d5b
                    go_wp2
                    go_meet
                    exact ⟨by first | rfl | (simp; omega) | simp [*], rfl⟩
              · obtain rfl : st = false := by rw [hst'h.out]; simp [d3, d4]
                clear d3b
                go_wp2
                go_meet
                exact ⟨by first | rfl | (simp; omega) | simp [*], rfl⟩
          · obtain rfl : st = false := by rw [hst'h.out]; simp [d2]
            go_wp2
            go_meet
            exact ⟨by first | rfl | (simp; omega) | simp [*], rfl⟩
        · obtain rfl : st = false := by rw [hst'h.out]; simp [d1]
          go_wp2
          go_meet
          exact ⟨by first | rfl | (simp; omega) | simp [*], rfl⟩
      case rest =>
        obtain ⟨rfl, hw9⟩ := hcut
        obtain rfl := hw9.symm
        have AL := allI_any tpq tnq tcq toldq w.heap.size b4 beganq la wc (hTD'h.out _ (below_next hlow4'h.out hI6'h.out.low)) a9 y0
        rw [← hwi2'h.out] at AL
        have AL'h := Lib.hid AL
        clear AL
        go_wp2_with fail
        refine AL'h.out.mono ?_
        rintro e w7 ⟨rfl, hB7⟩
        have hI7 := hI6'h.out.next hB7
        clear a0 a1 a2 a3 a4 a5 a6 a7 a8 a9 aa ab ac y0 hB7 AL'h hI6'h
        obtain ⟨a0, a1, a2, a3, a4, a5, a6, a7, a8, a9, aa, ab, ac⟩ := cells13 (heap_below hI7.low hbox'h.out (lt_of_heap hbox'h.out))
        have hI7'h := Lib.hid hI7
        clear hI7
        go_upto_region 8 with fail
        go_cut [8] from 78 (fun v wr => v = .bool td ∧ wr = w7)
        case first =>
          by_cases e1 : tnq = pnq
          · have j1 : ((tnq : Int) == (pnq : Int)) = true := by simp; omega
            rcases zero_or tnq with e2 | ⟨e2, e3, e4⟩
            · obtain rfl : td = true := by rw [htd'h.out]; simp [← e1, e2]
              have j2 : ((tnq : Int) == 0) = true := by simp; omega
              clear e1 e2
              go_wp2
              go_meet
              exact ⟨by first | rfl | (simp; omega) | simp [*], rfl⟩
            · by_cases e5 : opq = 6
              · obtain rfl : td = true := by rw [htd'h.out]; simp [e1, e5]
                have j3 : (opq == 6) = true := by simp [e5]
                clear e1 e3 e4 e5
                go_wp2
                go_meet
                exact ⟨by first | rfl | (simp; omega) | simp [*], rfl⟩
              · obtain rfl : td = false := by rw [htd'h.out]; rw [e4]; simp [e5]
                have j3 : (opq == 6) = false := by simp [e5]
                clear e1 e3 e4 e5
                go_wp2
                go_meet
                exact ⟨by first | rfl | (simp; omega) | simp [*], rfl⟩
          · have j1 : ((tnq : Int) == (pnq : Int)) = false := by simp; omega
            obtain rfl : td = false := by rw [htd'h.out]; simp [e1]
            clear e1
            go_wp2
            go_meet
            exact ⟨by first | rfl | (simp; omega) | simp [*], rfl⟩
        case rest =>
          obtain ⟨rfl, hw9⟩ := hcut
          obtain rfl := hw9.symm
          have hlow := below_next hlow4'h.out hI7'h.out.low
          cases fl with
          | false =>
            obtain rfl : R = false := by rw [hR'h.out]; rfl
            clear a0 a1 a2 a3 a4 a5 a6 a7 a8 a9 aa ab ac
            have hlow'h := Lib.hid hlow
            clear hlow
            go_wp2
            go_ret
            exact ⟨rfl, hlow'h.out⟩
          | true =>
            cases st with
            | false =>
              obtain rfl : R = false := by rw [hR'h.out]; rfl
              clear a0 a1 a2 a3 a4 a5 a6 a7 a8 a9 aa ab ac
              have hlow'h := Lib.hid hlow
              clear hlow
              go_wp2
              go_ret
              exact ⟨rfl, hlow'h.out⟩
            | true =>
              cases wi with
              | false =>
                obtain rfl : R = false := by rw [hR'h.out]; rfl
                clear a0 a1 a2 a3 a4 a5 a6 a7 a8 a9 aa ab ac
                have hlow'h := Lib.hid hlow
                clear hlow
                go_wp2
                go_ret
                exact ⟨rfl, hlow'h.out⟩
              | true =>
                cases td with
                | false =>
                  obtain rfl : R = false := by rw [hR'h.out]; rfl
                  clear a0 a1 a2 a3 a4 a5 a6 a7 a8 a9 aa ab ac
                  have hlow'h := Lib.hid hlow
                  clear hlow
                  go_wp2
                  go_ret
                  exact ⟨rfl, hlow'h.out⟩
                | true =>
                  rcases int_zero_or overq with ⟨d5, d5a, d5b⟩ | ⟨d5, d5a, d5b⟩
                  · have hRe : R = em := by rw [hR'h.out]; simp [d5]
                    have EE := E'h.out w7
                    clear d5 d5a hR'h
                    have hlow'h := Lib.hid hlow
                    have EE'h := Lib.hid EE
                    have hRe'h := Lib.hid hRe
                    clear hlow EE hRe
                    go_wp2_with fail
                    refine EE'h.out.mono ?_
                    rintro e w8 ⟨rfl, hB8⟩
                    have hfin := below_next hlow'h.out hB8
                    clear hB8 a0 a1 a2 a3 a4 a5 a6 a7 a8 a9 aa ab ac hlow'h EE'h
                    have hfin'h := Lib.hid hfin
                    clear hfin
                    go_wp2
                    go_ret
                    exact ⟨ret_bool hRe'h.out.symm, hfin'h.out⟩
                  · obtain rfl : R = true := by rw [hR'h.out]; simp [d5]
                    clear d5 d5a
                    have hlow'h := Lib.hid hlow
                    clear hlow
                    go_wp2
                    go_ret
                    exact ⟨rfl, hlow'h.out⟩
  · have hI := hI0'h.out
    have y0 : W5.cell? ⟨b4, 0, none⟩ = some (.int .i64 overq) := blk_cell (i := 0) hI.last rfl
    have hIs : RtI W4 b4 la W5 := ⟨hI.low, by rw [hla'h.out, if_neg h0]; exact hI.last⟩
    clear hI h2
    have hIs'h := Lib.hid hIs
    have h0'h := Lib.hid h0
    clear hIs h0
    go_upto_region 5 with fail
    clear y0 h1
    obtain ⟨a0, a1, a2, a3, a4, a5, a6, a7, a8, a9, aa, ab, ac⟩ := cells13 (heap_below hIs'h.out.low hbox'h.out (lt_of_heap hbox'h.out))
    go_cut [5] from 18 (fun v wr => v = .bool fl ∧ RtI W4 b4 la wr)
    case first =>
      have hIs := hIs'h.out
      obtain ⟨s0, s1, s2, s3, s4⟩ := cells5o (heap_below hIs.low hscr'h.out (lt_of_heap hscr'h.out))
      have CK := hCK'h.out _ hIs.low
      by_cases c1 : 0 ≤ goerq
      · have i1 : goerq ≥ 0 := c1
        by_cases c2 : goerq < 8
        · cases rc with
          | true =>
            rw [if_pos rfl] at CK
            by_cases c3 : 1 ≤ beganq
            · have i3 : beganq ≥ 1 := c3
              by_cases c4 : beganq ≤ 1073741824
              · obtain rfl : fl = true := by rw [hfl'h.out]; simp [c1, c2, c3, c4]
                have hIs'h := Lib.hid hIs
                have CK'h := Lib.hid CK
                clear hIs CK
                go_wp2_with fail
                refine CK'h.out.mono ?_
                rintro e w7 ⟨rfl, hB7⟩
                obtain ⟨a0, a1, a2, a3, a4, a5, a6, a7, a8, a9, aa, ab, ac⟩ := cells13 (heap_below (hIs'h.out.next hB7).low hbox'h.out (lt_of_heap hbox'h.out))
                have hI7 := hIs'h.out.next hB7
                clear hB7
                have hI7'h := Lib.hid hI7
                clear hI7
                go_wp2
                go_meet
                exact ⟨by first | rfl | exact congrArg Value.bool (decide_eq_false (by omega)), hI7'h.out⟩
              · obtain rfl : fl = false := by rw [hfl'h.out]; simp [c4]
                have hIs'h := Lib.hid hIs
                have CK'h := Lib.hid CK
                clear hIs CK
                go_wp2_with fail
                refine CK'h.out.mono ?_
                rintro e w7 ⟨rfl, hB7⟩
                obtain ⟨a0, a1, a2, a3, a4, a5, a6, a7, a8, a9, aa, ab, ac⟩ := cells13 (heap_below (hIs'h.out.next hB7).low hbox'h.out (lt_of_heap hbox'h.out))
                have hI7 := hIs'h.out.next hB7
                clear hB7
                have hI7'h := Lib.hid hI7
                clear hI7
                go_wp2
                go_meet
                exact ⟨by first | rfl | exact congrArg Value.bool (decide_eq_false (by omega)), hI7'h.out⟩
            · have i3 : ¬ beganq ≥ 1 := c3
              obtain rfl : fl = false := by rw [hfl'h.out]; simp [c3]
              have hIs'h := Lib.hid hIs
              have CK'h := Lib.hid CK
              clear hIs CK
              go_wp2_with fail
              refine CK'h.out.mono ?_
              rintro e w7 ⟨rfl, hB7⟩
              obtain ⟨a0, a1, a2, a3, a4, a5, a6, a7, a8, a9, aa, ab, ac⟩ := cells13 (heap_below (hIs'h.out.next hB7).low hbox'h.out (lt_of_heap hbox'h.out))
              have hI7 := hIs'h.out.next hB7
              clear hB7
              have hI7'h := Lib.hid hI7
              clear hI7
              go_wp2
              go_meet
              exact ⟨by first | rfl | exact congrArg Value.bool (decide_eq_false (by omega)), hI7'h.out⟩
          | false =>
            rw [if_neg (by simp)] at CK
            obtain rfl : fl = false := by rw [hfl'h.out]; simp
            have hIs'h := Lib.hid hIs
            have CK'h := Lib.hid CK
            clear hIs CK
            go_wp2_with fail
            refine CK'h.out.mono ?_
            rintro e w7 ⟨rfl, hB7⟩
            obtain ⟨a0, a1, a2, a3, a4, a5, a6, a7, a8, a9, aa, ab, ac⟩ := cells13 (heap_below (hIs'h.out.next hB7).low hbox'h.out (lt_of_heap hbox'h.out))
            have hI7 := hIs'h.out.next hB7
            clear hB7
            have hI7'h := Lib.hid hI7
            clear hI7
            go_wp2
            go_meet
            exact ⟨by first | rfl | exact congrArg Value.bool (decide_eq_false (by omega)), hI7'h.out⟩
        · obtain rfl : fl = false := by rw [hfl'h.out]; simp [c2]
          clear CK
          have hIs'h := Lib.hid hIs
          clear hIs
          go_wp2
          go_meet
          exact ⟨rfl, hIs'h.out⟩
      · have i1 : ¬ goerq ≥ 0 := c1
        obtain rfl : fl = false := by rw [hfl'h.out]; simp [c1]
        clear CK
        have hIs'h := Lib.hid hIs
        clear hIs
        go_wp2
        go_meet
        exact ⟨rfl, hIs'h.out⟩
    case rest =>
      obtain ⟨rfl, hI6⟩ := hcut
      clear a0 a1 a2 a3 a4 a5 a6 a7 a8 a9 aa ab ac hIs'h
      obtain ⟨a0, a1, a2, a3, a4, a5, a6, a7, a8, a9, aa, ab, ac⟩ := cells13 (heap_below hI6.low hbox'h.out (lt_of_heap hbox'h.out))
      have y0 : wc.cell? ⟨b4, 0, none⟩ = some (.int .i64 la) := blk_cell (i := 0) hI6.last rfl
      have hI6'h := Lib.hid hI6
      clear hI6
      go_upto_region 6 with fail
      go_cut [6] from 41 (fun v wr => v = .bool st ∧ wr = wc)
      case first =>
        by_cases d1 : overq ≤ 1073741824
        · by_cases d2 : la ≥ beganq
          · rcases int_zero_or atq with ⟨d3, d3a, d3b⟩ | ⟨d3, d3a, d3b⟩
            · obtain rfl : st = true := by rw [hst'h.out]; simp [d1, d2, d3]
              subst d3
              go_wp2
              go_meet
              exact ⟨by first | rfl | (simp; omega) | simp [*], rfl⟩
            · by_cases d4 : atq ≥ beganq
              · rcases int_zero_or overq with ⟨d5, d5a, d5b⟩ | ⟨d5, d5a, d5b⟩
                · obtain rfl : st = true := by rw [hst'h.out]; simp [d1, d2, d4, d5]
                  clear d3b d5b d5
                  go_wp2
                  go_meet
                  exact ⟨by first | rfl | (simp; omega) | simp [*], rfl⟩
                · by_cases d6 : atq ≤ overq
                  · obtain rfl : st = true := by rw [hst'h.out]; simp [d1, d2, d4, d6]
                    clear d3b d5b
                    go_wp2
                    go_meet
                    exact ⟨by first | rfl | (simp; omega) | simp [*], rfl⟩
                  · obtain rfl : st = false := by rw [hst'h.out]; simp [d3, d5, d6]
                    clear d3b d5b
                    go_wp2
                    go_meet
                    exact ⟨by first | rfl | (simp; omega) | simp [*], rfl⟩
              · obtain rfl : st = false := by rw [hst'h.out]; simp [d3, d4]
                clear d3b
                go_wp2
                go_meet
                exact ⟨by first | rfl | (simp; omega) | simp [*], rfl⟩
          · obtain rfl : st = false := by rw [hst'h.out]; simp [d2]
            go_wp2
            go_meet
            exact ⟨by first | rfl | (simp; omega) | simp [*], rfl⟩
        · obtain rfl : st = false := by rw [hst'h.out]; simp [d1]
          go_wp2
          go_meet
          exact ⟨by first | rfl | (simp; omega) | simp [*], rfl⟩
      case rest =>
        obtain ⟨rfl, hw9⟩ := hcut
        obtain rfl := hw9.symm
        have AL := allI_any tpq tnq tcq toldq w.heap.size b4 beganq la wc (hTD'h.out _ (below_next hlow4'h.out hI6'h.out.low)) a9 y0
        rw [← hwi2'h.out] at AL
        have AL'h := Lib.hid AL
        clear AL
        go_wp2_with fail
        refine AL'h.out.mono ?_
        rintro e w7 ⟨rfl, hB7⟩
        have hI7 := hI6'h.out.next hB7
        clear a0 a1 a2 a3 a4 a5 a6 a7 a8 a9 aa ab ac y0 hB7 AL'h hI6'h
        obtain ⟨a0, a1, a2, a3, a4, a5, a6, a7, a8, a9, aa, ab, ac⟩ := cells13 (heap_below hI7.low hbox'h.out (lt_of_heap hbox'h.out))
        have hI7'h := Lib.hid hI7
        clear hI7
        go_upto_region 8 with fail
        go_cut [8] from 78 (fun v wr => v = .bool td ∧ wr = w7)
        case first =>
          by_cases e1 : tnq = pnq
          · have j1 : ((tnq : Int) == (pnq : Int)) = true := by simp; omega
            rcases zero_or tnq with e2 | ⟨e2, e3, e4⟩
            · obtain rfl : td = true := by rw [htd'h.out]; simp [← e1, e2]
              have j2 : ((tnq : Int) == 0) = true := by simp; omega
              clear e1 e2
              go_wp2
              go_meet
              exact ⟨by first | rfl | (simp; omega) | simp [*], rfl⟩
            · by_cases e5 : opq = 6
              · obtain rfl : td = true := by rw [htd'h.out]; simp [e1, e5]
                have j3 : (opq == 6) = true := by simp [e5]
                clear e1 e3 e4 e5
                go_wp2
                go_meet
                exact ⟨by first | rfl | (simp; omega) | simp [*], rfl⟩
              · obtain rfl : td = false := by rw [htd'h.out]; rw [e4]; simp [e5]
                have j3 : (opq == 6) = false := by simp [e5]
                clear e1 e3 e4 e5
                go_wp2
                go_meet
                exact ⟨by first | rfl | (simp; omega) | simp [*], rfl⟩
          · have j1 : ((tnq : Int) == (pnq : Int)) = false := by simp; omega
            obtain rfl : td = false := by rw [htd'h.out]; simp [e1]
            clear e1
            go_wp2
            go_meet
            exact ⟨by first | rfl | (simp; omega) | simp [*], rfl⟩
        case rest =>
          obtain ⟨rfl, hw9⟩ := hcut
          obtain rfl := hw9.symm
          have hlow := below_next hlow4'h.out hI7'h.out.low
          cases fl with
          | false =>
            obtain rfl : R = false := by rw [hR'h.out]; rfl
            clear a0 a1 a2 a3 a4 a5 a6 a7 a8 a9 aa ab ac
            have hlow'h := Lib.hid hlow
            clear hlow
            go_wp2
            go_ret
            exact ⟨rfl, hlow'h.out⟩
          | true =>
            cases st with
            | false =>
              obtain rfl : R = false := by rw [hR'h.out]; rfl
              clear a0 a1 a2 a3 a4 a5 a6 a7 a8 a9 aa ab ac
              have hlow'h := Lib.hid hlow
              clear hlow
              go_wp2
              go_ret
              exact ⟨rfl, hlow'h.out⟩
            | true =>
              cases wi with
              | false =>
                obtain rfl : R = false := by rw [hR'h.out]; rfl
                clear a0 a1 a2 a3 a4 a5 a6 a7 a8 a9 aa ab ac
                have hlow'h := Lib.hid hlow
                clear hlow
                go_wp2
                go_ret
                exact ⟨rfl, hlow'h.out⟩
              | true =>
                cases td with
                | false =>
                  obtain rfl : R = false := by rw [hR'h.out]; rfl
                  clear a0 a1 a2 a3 a4 a5 a6 a7 a8 a9 aa ab ac
                  have hlow'h := Lib.hid hlow
                  clear hlow
                  go_wp2
                  go_ret
                  exact ⟨rfl, hlow'h.out⟩
                | true =>
                  rcases int_zero_or overq with ⟨d5, d5a, d5b⟩ | ⟨d5, d5a, d5b⟩
                  · have hRe : R = em := by rw [hR'h.out]; simp [d5]
                    have EE := E'h.out w7
                    clear d5 d5a hR'h
                    have hlow'h := Lib.hid hlow
                    have EE'h := Lib.hid EE
                    have hRe'h := Lib.hid hRe
                    clear hlow EE hRe
                    go_wp2_with fail
                    refine EE'h.out.mono ?_
                    rintro e w8 ⟨rfl, hB8⟩
                    have hfin := below_next hlow'h.out hB8
                    clear hB8 a0 a1 a2 a3 a4 a5 a6 a7 a8 a9 aa ab ac hlow'h EE'h
                    have hfin'h := Lib.hid hfin
                    clear hfin
                    go_wp2
                    go_ret
                    exact ⟨ret_bool hRe'h.out.symm, hfin'h.out⟩
                  · obtain rfl : R = true := by rw [hR'h.out]; simp [d5]
                    clear d5 d5a
                    have hlow'h := Lib.hid hlow
                    clear hlow
                    go_wp2
                    go_ret
                    exact ⟨rfl, hlow'h.out⟩
end Go.Proofs.YtogeohjeabbmaaaDoor
