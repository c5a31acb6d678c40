/-
  Several texts of mine in one: DocA DocB DocC DocD DocE.
-/
import Derived.Test.YtifofdciablljaaDoorQ2
import Derived.Test.YtifofdciablljaaDoorQ5
/-
  The document's answer for layer 3: what calls take; may a call be, and a script?
-/
set_option linter.unusedSimpArgs false
set_option linter.unusedVariables false
set_option maxRecDepth 100000
namespace Go.Proofs.YtifofdciablljaaDoor
open Go.RowKit

theorem dtakes_any (op : Int) (w : World) : Calls Tryd.prog 12 #[.int .i64 op] w fun e w' => e = .returned (.int .i64 (takesI op)) ∧ w' = w := by
  by_cases h : 1 ≤ op ∧ op ≤ 7
  · have h7 : op = 1 ∨ op = 2 ∨ op = 3 ∨ op = 4 ∨ op = 5 ∨ op = 6 ∨ op = 7 := by omega
    rcases h7 with rfl | rfl | rfl | rfl | rfl | rfl | rfl <;> clear h <;>
    · go_enter Tryd.func12, Tryd.ntmps12
      go_wp2
      go_ret
      exact ⟨rfl, rfl⟩
  · have h1 : (op == 1) = false := by simp; omega
    have h2 : (op == 2) = false := by simp; omega
    have h3 : (op == 3) = false := by simp; omega
    have h4 : (op == 4) = false := by simp; omega
    have h5 : (op == 5) = false := by simp; omega
    have h6 : (op == 6) = false := by simp; omega
    have h7 : (op == 7) = false := by simp; omega
    have ht : takesI op = -1 := by
      unfold takesI
      by_cases h0 : op < 0 ∨ 8 ≤ op
      · rw [if_pos h0]
      · have : op = 0 := by omega
        subst this
        rfl
    rw [ht]
    clear h ht
    go_enter Tryd.func12, Tryd.ntmps12
    go_wp2
    go_ret
    exact ⟨rfl, rfl⟩
theorem rightC_neg {c : Cal} (h : takesI c.op = -1) : rightC c = false := by unfold rightC; rw [h]; rfl
theorem rightC_0 {c : Cal} (h : takesI c.op = 0) : rightC c = (decide (c.key = 0) && (decide (c.a = 0) && decide (c.b = 0))) := by unfold rightC wordsC; rw [h]; simp; rfl
theorem rightC_1 {c : Cal} (h : takesI c.op = 1) : rightC c = (decide (c.a = 0) && decide (c.b = 0)) := by unfold rightC wordsC; rw [h]; simp; rfl
theorem rightC_2 {c : Cal} (h : takesI c.op = 2) : rightC c = decide (c.b = 0) := by unfold rightC wordsC; rw [h]; simp; rfl
theorem rightC_3 {c : Cal} (h : takesI c.op = 3) : rightC c = true := by unfold rightC wordsC; rw [h]; simp
theorem takesI_five (op : Int) : takesI op = -1 ∨ takesI op = 0 ∨ takesI op = 1 ∨ takesI op = 2 ∨ takesI op = 3 := by have := takesI_range op; omega
theorem zero_or (n : Nat) : n = 0 ∨ ((((n : Int) == 0) = false) ∧ ¬ ((n : Int) = 0) ∧ decide (n = 0) = false) := by
  by_cases h : n = 0
  · exact .inl h
  · exact .inr ⟨by simp; omega, by omega, by simp [h]⟩
theorem dcall_any (c : Cal) (w : World) : Calls Tryd.prog 40 #[.agg (calA c)] w fun e w' => e = .returned (.bool (rightC c)) ∧ Below w.heap.size w w' := by
  have T := dtakes_any c.op (w.alloc (.cells (calA c) 57))
  have hB : Below w.heap.size w (w.alloc (.cells (calA c) 57)) := (Below.refl _ _).alloc (Nat.le_refl _) _
  obtain ⟨r, hr⟩ : ∃ r, r = rightC c := ⟨_, rfl⟩
  rw [← hr]
  have h5 := takesI_five c.op
  have r1 := fun h => hr.trans (rightC_neg (c := c) h)
  have r2 := fun h => hr.trans (rightC_0 (c := c) h)
  have r3 := fun h => hr.trans (rightC_1 (c := c) h)
  have r4 := fun h => hr.trans (rightC_2 (c := c) h)
  have r5 := fun h => hr.trans (rightC_3 (c := c) h)
  clear hr
  obtain ⟨op, key, a, b⟩ := c
  simp only [calA] at *
  obtain ⟨t, ht⟩ : ∃ t, t = takesI op := ⟨_, rfl⟩
  rw [← ht] at T h5 r1 r2 r3 r4 r5
  clear ht
  rcases h5 with rfl | rfl | rfl | rfl | rfl
  · have e := r1 rfl
    subst e
    clear r1 r2 r3 r4 r5
    have T'h := Lib.hid T
    have hB'h := Lib.hid hB
    clear T hB
    go_enter Tryd.func40, Tryd.ntmps40
    go_wp2_with fail
    refine T'h.out.mono ?_
    rintro e w7 ⟨rfl, hw7⟩
    obtain rfl := hw7.symm
    go_wp2
    go_ret
    exact ⟨rfl, hB'h.out⟩
  · have e := r2 rfl
    clear r1 r2 r3 r4 r5
    rcases zero_or key with rfl | ⟨k1, k2, k3⟩
    · rcases zero_or a with rfl | ⟨k1, k2, k3⟩
      · rcases zero_or b with rfl | ⟨k1, k2, k3⟩
        · obtain rfl : r = true := by rw [e]; rfl
          clear e
          have T'h := Lib.hid T
          have hB'h := Lib.hid hB
          clear T hB
          go_enter Tryd.func40, Tryd.ntmps40
          go_wp2_with fail
          refine T'h.out.mono ?_
          rintro e w7 ⟨rfl, hw7⟩
          obtain rfl := hw7.symm
          go_wp2
          go_ret
          exact ⟨rfl, hB'h.out⟩
        · obtain rfl : r = false := by rw [e, k3]; simp
          clear e
          have T'h := Lib.hid T
          have hB'h := Lib.hid hB
          clear T hB
          go_enter Tryd.func40, Tryd.ntmps40
          go_wp2_with fail
          refine T'h.out.mono ?_
          rintro e w7 ⟨rfl, hw7⟩
          obtain rfl := hw7.symm
          go_wp2
          go_ret
          exact ⟨rfl, hB'h.out⟩
      · obtain rfl : r = false := by rw [e, k3]; simp
        clear e
        have T'h := Lib.hid T
        have hB'h := Lib.hid hB
        clear T hB
        go_enter Tryd.func40, Tryd.ntmps40
        go_wp2_with fail
        refine T'h.out.mono ?_
        rintro e w7 ⟨rfl, hw7⟩
        obtain rfl := hw7.symm
        go_wp2
        go_ret
        exact ⟨rfl, hB'h.out⟩
    · obtain rfl : r = false := by rw [e, k3]; simp
      clear e
      have T'h := Lib.hid T
      have hB'h := Lib.hid hB
      clear T hB
      go_enter Tryd.func40, Tryd.ntmps40
      go_wp2_with fail
      refine T'h.out.mono ?_
      rintro e w7 ⟨rfl, hw7⟩
      obtain rfl := hw7.symm
      go_wp2
      go_ret
      exact ⟨rfl, hB'h.out⟩
  · have e := r3 rfl
    clear r1 r2 r3 r4 r5
    rcases zero_or a with rfl | ⟨k1, k2, k3⟩
    · rcases zero_or b with rfl | ⟨k1, k2, k3⟩
      · obtain rfl : r = true := by rw [e]; rfl
        clear e
        have T'h := Lib.hid T
        have hB'h := Lib.hid hB
        clear T hB
        go_enter Tryd.func40, Tryd.ntmps40
        go_wp2_with fail
        refine T'h.out.mono ?_
        rintro e w7 ⟨rfl, hw7⟩
        obtain rfl := hw7.symm
        go_wp2
        go_ret
        exact ⟨rfl, hB'h.out⟩
      · obtain rfl : r = false := by rw [e, k3]; simp
        clear e
        have T'h := Lib.hid T
        have hB'h := Lib.hid hB
        clear T hB
        go_enter Tryd.func40, Tryd.ntmps40
        go_wp2_with fail
        refine T'h.out.mono ?_
        rintro e w7 ⟨rfl, hw7⟩
        obtain rfl := hw7.symm
        go_wp2
        go_ret
        exact ⟨rfl, hB'h.out⟩
    · obtain rfl : r = false := by rw [e, k3]; simp
      clear e
      have T'h := Lib.hid T
      have hB'h := Lib.hid hB
      clear T hB
      go_enter Tryd.func40, Tryd.ntmps40
      go_wp2_with fail
      refine T'h.out.mono ?_
      rintro e w7 ⟨rfl, hw7⟩
      obtain rfl := hw7.symm
      go_wp2
      go_ret
      exact ⟨rfl, hB'h.out⟩
  · have e := r4 rfl
    clear r1 r2 r3 r4 r5
    rcases zero_or b with rfl | ⟨k1, k2, k3⟩
    · obtain rfl : r = true := by rw [e]; rfl
      clear e
      have T'h := Lib.hid T
      have hB'h := Lib.hid hB
      clear T hB
      go_enter Tryd.func40, Tryd.ntmps40
      go_wp2_with fail
      refine T'h.out.mono ?_
      rintro e w7 ⟨rfl, hw7⟩
      obtain rfl := hw7.symm
      go_wp2
      go_ret
      exact ⟨rfl, hB'h.out⟩
    · obtain rfl : r = false := by rw [e, k3]
      clear e
      have T'h := Lib.hid T
      have hB'h := Lib.hid hB
      clear T hB
      go_enter Tryd.func40, Tryd.ntmps40
      go_wp2_with fail
      refine T'h.out.mono ?_
      rintro e w7 ⟨rfl, hw7⟩
      obtain rfl := hw7.symm
      go_wp2
      go_ret
      exact ⟨rfl, hB'h.out⟩
  · have e := r5 rfl
    clear r1 r2 r3 r4 r5
    subst e
    have e : True := trivial
    clear e
    have T'h := Lib.hid T
    have hB'h := Lib.hid hB
    clear T hB
    go_enter Tryd.func40, Tryd.ntmps40
    go_wp2_with fail
    refine T'h.out.mono ?_
    rintro e w7 ⟨rfl, hw7⟩
    obtain rfl := hw7.symm
    go_wp2
    go_ret
    exact ⟨rfl, hB'h.out⟩
end Go.Proofs.YtifofdciablljaaDoor

/-
  The document's answer for layer 3: may a script be?
-/
set_option linter.unusedSimpArgs false
set_option linter.unusedVariables false
set_option maxRecDepth 100000
namespace Go.Proofs.YtifofdciablljaaDoor
open Go.RowKit

theorem cells5' {W : World} {b : Nat} {v0 v1 v2 v3 v4 : Value} {t : TypeId} (h : W.heap[b]? = some (.cells #[v0, v1, v2, v3, v4] t (0, 0))) :
    W.cell? ⟨b, 0, none⟩ = some v0 ∧ W.cell? ⟨b, 1, none⟩ = some v1 ∧ W.cell? ⟨b, 2, none⟩ = some v2 ∧ W.cell? ⟨b, 3, none⟩ = some v3 ∧ W.cell? ⟨b, 4, none⟩ = some v4 :=
  ⟨blk_cell (i := 0) h rfl, blk_cell (i := 1) h rfl, blk_cell (i := 2) h rfl, blk_cell (i := 3) h rfl, blk_cell (i := 4) h rfl⟩
theorem all_flatten_false {rows : List CRow} {r : CRow} {c : Cal} (hr : r ∈ rows) (hc : c ∈ r.cs) (h : rightC c = false) : (rows.map (·.cs)).flatten.all rightC = false := by
  rw [List.all_eq_false]
  exact ⟨c, List.mem_flatten.2 ⟨r.cs, List.mem_map.2 ⟨r, hr, rfl⟩, hc⟩, by rw [h]; simp⟩
theorem nthCal_mem {l : List Cal} {k : Nat} (h : k < l.length) : nthCal l k ∈ l := List.mem_of_getElem? (nthCal_at h)
theorem cat_all {rows : List CRow} {j : Nat} (hj : j < rows.length) (h : (catC rows j).all rightC = true) (hr : ∀ i, i < (nthR rows j).cs.length → rightC (nthCal (nthR rows j).cs i) = true) : (catC rows (j + 1)).all rightC = true := by
  rw [catC_succ hj, List.all_append, h, Bool.true_and, List.all_eq_true]
  intro c hc
  obtain ⟨i, hi, rfl⟩ := List.mem_iff_getElem.1 hc
  rw [nthCal_eq hi]
  exact hr i hi
set_option maxHeartbeats 2000000 in
theorem dright_any (s : Sm) (w : World) (h : SmIn w s) :
    Calls Tryd.prog 14 #[.agg (smA s)] w fun e w' => e = .returned (.bool (rightS s.scr)) ∧ Below w.heap.size w w' := by
  have hln := h.rows.len
  have hcat := h.cat
  have hB1 : Below w.heap.size w (w.alloc (.cells (smA s) 26)) := (Below.refl _ _).alloc (Nat.le_refl _) _
  have hR := h.rows.below hB1
  obtain ⟨r, hr⟩ : ∃ r, r = rightS s.scr := ⟨_, rfl⟩
  have e1 : r = (headS s.scr && (decide (s.scr.lists.flatten.length ≤ 64) && s.scr.lists.flatten.all rightC)) := hr
  have e2 : headS s.scr = (decide (1 ≤ s.goers) && decide (s.goers ≤ 8) && decide (2 ≤ s.slabs) && decide (s.slabs ≤ 128) && decide ((s.ln : Int) = s.goers) && decide (s.pn ≤ 4096)) := by
    rw [h.ln, h.pn]; rfl
  rw [e2, ← hcat] at e1
  rw [← hr]
  have hfl : ∀ r ∈ s.rows, ∀ c ∈ r.cs, rightC c = false → (catC s.rows s.ln).all rightC = false := fun r hr c hc hf => by
    rw [hcat]; exact all_flatten_false hr hc hf
  have hcl : (catC s.rows s.ln).length ≤ 1056 := by
    have h1 := catC_le h.rows.short s.ln (by rw [h.rows.len]; exact Nat.le_refl _)
    have := h.rows.few
    have h2 := h.rows.len
    omega
  have hfew := h.rows.few
  have hshort := h.rows.short
  clear e2 hcat h hr
  obtain ⟨g, sb, seed, lp, ln, lc, rows, pp, pn, pc, picks⟩ := s
  simp only [smA] at *
  by_cases h1 : 1 ≤ g
  rotate_left
  · obtain rfl : r = false := by rw [e1, decide_eq_false h1]; simp
    have i1 : g < 1 := by omega
    clear e1 hfl hcl hR hfew hshort hln
    have hB1'h := Lib.hid hB1
    clear hB1
    go_enter Tryd.func14, Tryd.ntmps14
    go_wp2
    go_ret
    exact ⟨rfl, hB1'h.out⟩
  by_cases h2 : g ≤ 8
  rotate_left
  · obtain rfl : r = false := by rw [e1, decide_eq_false h2]; simp
    have i1 : ¬ g < 1 := by omega
    have i2 : g > 8 := by omega
    clear e1 hfl hcl hR hfew hshort hln
    have hB1'h := Lib.hid hB1
    clear hB1
    go_enter Tryd.func14, Tryd.ntmps14
    go_wp2
    go_ret
    exact ⟨rfl, hB1'h.out⟩
  by_cases h3 : 2 ≤ sb
  rotate_left
  · obtain rfl : r = false := by rw [e1, decide_eq_false h3]; simp
    have i1 : ¬ g < 1 := by omega
    have i2 : ¬ g > 8 := by omega
    have i3 : sb < 2 := by omega
    clear e1 hfl hcl hR hfew hshort hln
    have hB1'h := Lib.hid hB1
    clear hB1
    go_enter Tryd.func14, Tryd.ntmps14
    go_wp2
    go_ret
    exact ⟨rfl, hB1'h.out⟩
  by_cases h4 : sb ≤ 128
  rotate_left
  · obtain rfl : r = false := by rw [e1, decide_eq_false h4]; simp
    have i1 : ¬ g < 1 := by omega
    have i2 : ¬ g > 8 := by omega
    have i3 : ¬ sb < 2 := by omega
    have i4 : sb > 128 := by omega
    clear e1 hfl hcl hR hfew hshort hln
    have hB1'h := Lib.hid hB1
    clear hB1
    go_enter Tryd.func14, Tryd.ntmps14
    go_wp2
    go_ret
    exact ⟨rfl, hB1'h.out⟩
  by_cases h5 : (ln : Int) = g
  rotate_left
  · obtain rfl : r = false := by rw [e1, decide_eq_false h5]; simp
    have i1 : ¬ g < 1 := by omega
    have i2 : ¬ g > 8 := by omega
    have i3 : ¬ sb < 2 := by omega
    have i4 : ¬ sb > 128 := by omega
    have i5 : ((ln : Int) != g) = true := by simpa using h5
    clear e1 hfl hcl hR hfew hshort hln
    have hB1'h := Lib.hid hB1
    clear hB1
    go_enter Tryd.func14, Tryd.ntmps14
    go_wp2
    go_ret
    exact ⟨rfl, hB1'h.out⟩
  by_cases h6 : pn ≤ 4096
  rotate_left
  · obtain rfl : r = false := by rw [e1, decide_eq_false h6]; simp
    have i1 : ¬ g < 1 := by omega
    have i2 : ¬ g > 8 := by omega
    have i3 : ¬ sb < 2 := by omega
    have i4 : ¬ sb > 128 := by omega
    have i5 : ((ln : Int) != g) = false := by simpa using h5
    have i6 : (pn : Int) > 4096 := by omega
    clear e1 hfl hcl hR hfew hshort hln
    have hB1'h := Lib.hid hB1
    clear hB1
    go_enter Tryd.func14, Tryd.ntmps14
    go_wp2
    go_ret
    exact ⟨rfl, hB1'h.out⟩
  have i1 : ¬ g < 1 := by omega
  have i2 : ¬ g > 8 := by omega
  have i3 : ¬ sb < 2 := by omega
  have i4 : ¬ sb > 128 := by omega
  have i5 : ((ln : Int) != g) = false := by simpa using h5
  have i6 : ¬ (pn : Int) > 4096 := by omega
  rw [decide_eq_true h1, decide_eq_true h2, decide_eq_true h3, decide_eq_true h4, decide_eq_true h5, decide_eq_true h6] at e1
  simp only [Bool.true_and] at e1
  clear h1 h2 h3 h4 h5 h6
  have hb := World.alloc_heap_new w (.cells #[.int .i64 g, .int .i64 sb, .int .u64 (seed : Int), .slice lp ln lc, .slice pp pn pc] 26)
  have y3 : (w.alloc (.cells #[.int .i64 g, .int .i64 sb, .int .u64 (seed : Int), .slice lp ln lc, .slice pp pn pc] 26)).cell? ⟨w.heap.size, 3, none⟩ = some (.slice lp ln lc) := blk_cell (i := 3) hb rfl
  clear hb
  have hln'h := Lib.hid hln
  have e1'h := Lib.hid e1
  have hB1'h := Lib.hid hB1
  have hR'h := Lib.hid hR
  have hfl'h := Lib.hid hfl
  have hcl'h := Lib.hid hcl
  have hfew'h := Lib.hid hfew
  have hshort'h := Lib.hid hshort
  clear hln e1 hB1 hR hfl hcl hfew hshort
  go_enter Tryd.func14, Tryd.ntmps14
  go_wp2
  go_loopg [43, 3] ln (fun q ix nv wr => ∃ j : Nat, j + q = ln ∧ ix = .int .i64 (j : Int) ∧ nv = .int .i64 ((catC rows j).length : Int) ∧ (catC rows j).all rightC = true ∧ Below w.heap.size w wr ∧ RowsIn wr lp ln rows)
  case atStart => exact ⟨0, by omega, rfl, rfl, rfl, hB1'h.out, hR'h.out⟩
  case round =>
    obtain ⟨j, hj, rfl, rfl, hall, hB, hRj⟩ := hrel
    clear y3 i1 i2 i3 i4 i5 i6
    obtain ⟨go, rfl⟩ : ∃ go : Nat, go = gk := ⟨_, rfl⟩
    by_cases hlt : j < ln
    · have i1 : (j : Int) < (ln : Int) := by omega
      have i2 : (0 : Int) ≤ (j : Int) := by omega
      obtain ⟨b, o, rfl, c0⟩ := hRj.head hlt
      have hjl : j < rows.length := by have := hln'h.out; omega
      obtain ⟨x, hx⟩ : ∃ x, x = nthR rows j := ⟨_, rfl⟩
      have hmem : x ∈ rows := by rw [hx]; exact nthR_mem hjl
      have hsl := hRj.each x hmem
      have hxl := hRj.rlen hmem
      have hsh := hshort'h.out x hmem
      rw [← hx] at c0
      obtain ⟨n0, hn0⟩ : ∃ n0, n0 = (catC rows j).length := ⟨_, rfl⟩
      have hn1 : n0 ≤ 1056 := by
        rw [hn0]
        have h1 := catC_le hshort'h.out j (by omega)
        have := hfew'h.out
        omega
      rw [← hn0]
      obtain ⟨xp, xl, xc, cs⟩ := x
      simp only at hsl hxl hsh c0 hx
      have hall'h := Lib.hid hall
      have hj'h := Lib.hid hj
      have hx'h := Lib.hid hx
      have hmem'h := Lib.hid hmem
      have hsl'h := Lib.hid hsl
      have hxl'h := Lib.hid hxl
      have hn0'h := Lib.hid hn0
      have hn1'h := Lib.hid hn1
      have hsh'h := Lib.hid hsh
      have hRj'h := Lib.hid hRj
      have hB'h := Lib.hid hB
      clear hall hj hx hmem hsl hxl hn0 hn1 hsh hRj hB
      go_wp2
      go_loopg [49, 3] xl (fun q ix nv wr => ∃ i : Nat, i + q = xl ∧ ix = .int .i64 (i : Int) ∧ nv = .int .i64 ((n0 + i : Nat) : Int) ∧ (∀ i', i' < i → rightC (nthCal cs i') = true) ∧ Below w.heap.size w wr ∧ RowsIn wr (some ⟨b, o, none⟩) ln rows ∧ SlK wr 4 xp xl (cals cs))
      case atStart => exact ⟨0, by omega, rfl, rfl, fun i' hi => by omega, hB'h.out, hRj'h.out, hsl'h.out⟩
      case round =>
        obtain ⟨i, hi, rfl, rfl, hall2, hB2, hR2, hS2⟩ := hrel
        clear c0 hRj'h hsl'h hB'h
        by_cases hlt2 : i < xl
        · have i3 : (i : Int) < (xl : Int) := by omega
          have i4 : (0 : Int) ≤ (i : Int) := by omega
          have hil : i < cs.length := by have := hxl'h.out; omega
          obtain ⟨b2, o2, rfl⟩ := slk_some hS2 (by omega)
          obtain ⟨c, hc⟩ : ∃ c, c = nthCal cs i := ⟨_, rfl⟩
          obtain ⟨c1, c2, c3, c4⟩ := cals_cells hS2 hil
          rw [← hc] at c1 c2 c3 c4
          have hB3 := (Below.refl wr.heap.size wr).alloc (Nat.le_refl _) (.cells #[.int .i64 c.op, .int .u64 (c.key : Int), .int .u64 (c.a : Int), .int .u64 (c.b : Int)] 57)
          have hB4 := below_next hB2 hB3
          have D := dcall_any c (wr.alloc (.cells #[.int .i64 c.op, .int .u64 (c.key : Int), .int .u64 (c.a : Int), .int .u64 (c.b : Int)] 57))
          have hR3 := hR2.below hB3
          have hS3 := hS2.below hB3
          clear hB3 hB2 hR2 hS2
          have e' : calA c = #[.int .i64 c.op, .int .u64 (c.key : Int), .int .u64 (c.a : Int), .int .u64 (c.b : Int)] := rfl
          rw [e'] at D
          cases hrc : rightC c with
          | false =>
            obtain rfl : r = false := by
              rw [e1'h.out, hfl'h.out _ hmem'h.out c (by rw [hc]; exact nthCal_mem hil) hrc]; simp
            rw [hrc] at D
            clear hrc hc e' hall2
            have hi'h := Lib.hid hi
            have hR3'h := Lib.hid hR3
            have hS3'h := Lib.hid hS3
            have hB4'h := Lib.hid hB4
            have D'h := Lib.hid D
            clear hi hR3 hS3 hB4 D
            go_wp2_with fail
            refine D'h.out.mono ?_
            rintro e w5 ⟨rfl, hB5⟩
            have hB6 := below_next hB4'h.out hB5
            clear hB5 D'h hR3'h hS3'h hB4'h
            have hB6'h := Lib.hid hB6
            clear hB6
            go_wp2
            go_ret
            exact ⟨rfl, hB6'h.out⟩
          | true =>
            rw [hrc] at D
            have hn2 : (n0 : Int) + (i : Int) + 1 ≤ 9223372036854775807 := by have := hn1'h.out; have := hsh'h.out; have := hxl'h.out; omega
            have hall3 : ∀ i', i' < i + 1 → rightC (nthCal cs i') = true := fun i' hi' => by
              by_cases e : i' = i
              · rw [e, ← hc]; exact hrc
              · exact hall2 i' (by omega)
            clear hrc hc e' hall2 hn2
            have hi'h := Lib.hid hi
            have hR3'h := Lib.hid hR3
            have hS3'h := Lib.hid hS3
            have hB4'h := Lib.hid hB4
            have D'h := Lib.hid D
            have hall3'h := Lib.hid hall3
            clear hi hR3 hS3 hB4 D hall3
            go_wp2_with fail
            refine D'h.out.mono ?_
            rintro e w5 ⟨rfl, hB5⟩
            have hB6 := below_next hB4'h.out hB5
            have hR6 := hR3'h.out.below hB5
            have hS6 := hS3'h.out.below hB5
            clear hB5 D'h hR3'h hS3'h hB4'h c1 c2 c3 c4
            have q1 : ((n0 + i : Nat) : Int) ≤ 2000 := by have := hn1'h.out; have := hsh'h.out; have := hxl'h.out; omega
            have q2 : (0 : Int) ≤ ((n0 + i : Nat) : Int) := by omega
            have hB6'h := Lib.hid hB6
            have hR6'h := Lib.hid hR6
            have hS6'h := Lib.hid hS6
            clear hB6 hR6 hS6
            go_wp2
            go_roundg (gk - 1)
            case measure => have := hi'h.out; omega
            case rel => exact ⟨i + 1, by have := hi'h.out; omega, by go_num, by go_num, hall3'h.out, hB6'h.out, hR6'h.out, hS6'h.out⟩
        · have i3 : ¬ (i : Int) < (xl : Int) := by omega
          obtain rfl : i = xl := by omega
          have hcat2 : (catC rows (j + 1)).length = n0 + i := by
            rw [catC_succ hjl, List.length_append, ← hn0'h.out, ← hx'h.out, hxl'h.out]
          have hall4 : (catC rows (j + 1)).all rightC = true := cat_all hjl hall'h.out (by rw [← hx'h.out]; intro i' hi'; exact hall2 i' (by have := hxl'h.out; simp only at hi'; omega))
          clear hall2 hS2
          have q1 : (j : Int) + 1 ≤ 2000 := by have := hfew'h.out; omega
          have hi'h := Lib.hid hi
          have hB2'h := Lib.hid hB2
          have hR2'h := Lib.hid hR2
          have hcat2'h := Lib.hid hcat2
          have hall4'h := Lib.hid hall4
          clear hi hB2 hR2 hcat2 hall4
          go_wp2
          go_roundg (go - 1)
          case measure => have := hj'h.out; omega
          case rel => exact ⟨j + 1, by have := hj'h.out; omega, by go_num, by rw [hcat2'h.out, Int.natCast_add], hall4'h.out, hB2'h.out, hR2'h.out⟩
    · have i1 : ¬ (j : Int) < (ln : Int) := by omega
      obtain rfl : j = ln := by omega
      obtain ⟨n0, hn0⟩ : ∃ n0, n0 = (catC rows j).length := ⟨_, rfl⟩
      have e2 : r = decide (n0 ≤ 64) := by rw [e1'h.out, hall, ← hn0, Bool.and_true]
      rw [← hn0]
      clear hall hRj hj
      have hB'h := Lib.hid hB
      have e2'h := Lib.hid e2
      have hn0'h := Lib.hid hn0
      clear hB e2 hn0
      by_cases h64 : n0 ≤ 64
      · obtain rfl : r = true := by rw [e2'h.out, decide_eq_true h64]
        have i7 : (n0 : Int) ≤ 64 := by omega
        go_wp2
        go_ret
        exact ⟨rfl, hB'h.out⟩
      · obtain rfl : r = false := by rw [e2'h.out, decide_eq_false h64]
        have i7 : ¬ (n0 : Int) ≤ 64 := by omega
        go_wp2
        go_ret
        exact ⟨rfl, hB'h.out⟩
end Go.Proofs.YtifofdciablljaaDoor

/-
  The document's answer for layer 3: are scripts the same?
-/
set_option linter.unusedSimpArgs false
set_option linter.unusedVariables false
set_option maxRecDepth 100000
namespace Go.Proofs.YtifofdciablljaaDoor
open Go.RowKit

theorem nth_of_map {rows rows' : List CRow} {j : Nat} (hj : j < rows.length) (hj' : j < rows'.length) (h : rows.map (·.cs) = rows'.map (·.cs)) : (nthR rows j).cs = (nthR rows' j).cs := by
  have := congrArg (fun l : List (List Cal) => l[j]?) h
  simp only [List.getElem?_map, nthR_at hj, nthR_at hj', Option.map_some] at this
  injection this
theorem map_of_nth {rows rows' : List CRow} (hl : rows.length = rows'.length) (h : ∀ j, j < rows.length → (nthR rows j).cs = (nthR rows' j).cs) : rows.map (·.cs) = rows'.map (·.cs) := by
  refine List.ext_getElem (by simpa using hl) fun j h1 h2 => ?_
  have e1 := nthR_at (l := rows) (k := j) (by simpa using h1)
  have e2 := nthR_at (l := rows') (k := j) (by simpa using h2)
  have := h j (by simpa using h1)
  rw [List.getElem?_eq_getElem (by simpa using h1)] at e1
  rw [List.getElem?_eq_getElem (by simpa using h2)] at e2
  injection e1 with e1
  injection e2 with e2
  rw [List.getElem_map, List.getElem_map, e1, e2, this]
theorem cal_ext {l l' : List Cal} (hl : l.length = l'.length) (h : ∀ j, j < l.length → nthCal l j = nthCal l' j) : l = l' := by
  refine List.ext_getElem hl fun j h1 h2 => ?_
  rw [nthCal_eq h1, nthCal_eq h2]
  exact h j h1
def nthU (l : List Nat) (k : Nat) : Nat := l.getD k 0
theorem nthU_eq {l : List Nat} {k : Nat} (h : k < l.length) : l[k] = nthU l k := by unfold nthU; rw [List.getD_eq_getElem?_getD, List.getElem?_eq_getElem h]; rfl
theorem nthU_at {l : List Nat} {k : Nat} (h : k < l.length) : l[k]? = some (nthU l k) := by rw [List.getElem?_eq_getElem h, nthU_eq h]
theorem u_ext {l l' : List Nat} (hl : l.length = l'.length) (h : ∀ j, j < l.length → nthU l j = nthU l' j) : l = l' := by
  refine List.ext_getElem hl fun j h1 h2 => ?_
  rw [nthU_eq h1, nthU_eq h2]
  exact h j h1
theorem nthU_cell {w : World} {b off n : Nat} {l : List Nat} (h : Sl w (some ⟨b, off, none⟩) n (u64s l)) {k : Nat} (hk : k < l.length) : w.cell? ⟨b, off + k, none⟩ = some (.int .u64 (nthU l k : Int)) := by
  obtain ⟨b', o', e, hc⟩ := h.some' (by have := h.1; rw [u64s_length] at this; omega)
  injection e with e
  injection e with e1 e2
  subst e1 e2
  exact hc k _ (by unfold u64s; rw [List.getElem?_map, nthU_at hk]; rfl)
set_option maxHeartbeats 4000000 in
theorem dsame_any (s t : Sm) (w : World) (h : SmIn w s) (h' : SmIn w t) :
    Calls Tryd.prog 16 #[.agg (smA s), .agg (smA t)] w fun e w' => e = .returned (.bool (decide (s.scr = t.scr))) ∧ Below w.heap.size w w' := by
  obtain ⟨r, hr⟩ : ∃ r, r = decide (s.scr = t.scr) := ⟨_, rfl⟩
  have e1 := hr.trans (scr_eq s t)
  rw [← hr]
  have hln := h.rows.len
  have hln' := h'.rows.len
  have hpn := h.pn
  have hpn' := h'.pn
  obtain ⟨W0, hW0⟩ : ∃ W0, W0 = (w.alloc (.cells (smA s) 26)).alloc (.cells (smA t) 26) := ⟨_, rfl⟩
  have hB0 : Below w.heap.size w W0 := by rw [hW0]; exact ((Below.refl _ _).alloc (Nat.le_refl _) _).alloc (by simp) _
  have hbx : W0.heap[w.heap.size]? = some (.cells (smA s) 26 (0, 0)) := by rw [hW0]; exact (Below.heap_alloc _ _ _ (by simp)).trans (World.alloc_heap_new _ _)
  have hby : W0.heap[w.heap.size + 1]? = some (.cells (smA t) 26 (0, 0)) := by rw [hW0]; exact heap_alloc2_new w _ _
  have hR := h.rows.below hB0
  have hR' := h'.rows.below hB0
  have hP := h.picks.below hB0
  have hP' := h'.picks.below hB0
  have hfew := h.rows.few
  have hshort := h.rows.short
  have hshort' := h'.rows.short
  have hmany := h.many
  clear hr h h'
  obtain ⟨g, sb, seed, lp, ln, lc, rows, pp, pn, pc, ps⟩ := s
  obtain ⟨g', sb', seed', lp', ln', lc', rows', pp', pn', pc', ps'⟩ := t
  simp only [smA, Sm.scr] at *
  have hnr : rows.length ≠ rows'.length → rows.map (·.cs) ≠ rows'.map (·.cs) := fun hn e => hn (by have := congrArg List.length e; simpa using this)
  obtain ⟨x0, x1, x2, x3, x4⟩ := cells5' hbx
  obtain ⟨z0, z1, z2, z3, z4⟩ := cells5' hby
  by_cases h1 : g = g'
  rotate_left
  · obtain rfl : r = false := by rw [e1, decide_eq_false h1]; simp
    have i1 : (g != g') = true := by simpa using h1
    clear e1 hR hR' hP hP' hfew hshort hshort' hmany hbx hby hln hln' hpn hpn' hnr
    have hB0'h := Lib.hid hB0
    clear hB0
    go_enter Tryd.func16, Tryd.ntmps16
    go_upto_region 1 with fail
    change Code.wp _ _ _ _ ((w.alloc (.cells #[.int .i64 _, .int .i64 _, .int .u64 _, .slice _ _ _, .slice _ _ _] 26)).alloc (.cells #[.int .i64 _, .int .i64 _, .int .u64 _, .slice _ _ _, .slice _ _ _] 26))
    rw [← hW0]
    clear hW0
    go_wp2
    go_ret
    exact ⟨rfl, hB0'h.out⟩
  subst h1
  have i1 : (g != g) = false := by simp
  by_cases h1 : sb = sb'
  rotate_left
  · obtain rfl : r = false := by rw [e1, decide_eq_false h1]; simp
    have i2 : (sb != sb') = true := by simpa using h1
    clear e1 hR hR' hP hP' hfew hshort hshort' hmany hbx hby hln hln' hpn hpn' hnr
    have hB0'h := Lib.hid hB0
    clear hB0
    go_enter Tryd.func16, Tryd.ntmps16
    go_upto_region 1 with fail
    change Code.wp _ _ _ _ ((w.alloc (.cells #[.int .i64 _, .int .i64 _, .int .u64 _, .slice _ _ _, .slice _ _ _] 26)).alloc (.cells #[.int .i64 _, .int .i64 _, .int .u64 _, .slice _ _ _, .slice _ _ _] 26))
    rw [← hW0]
    clear hW0
    go_wp2
    go_ret
    exact ⟨rfl, hB0'h.out⟩
  subst h1
  have i2 : (sb != sb) = false := by simp
  by_cases h1 : seed = seed'
  rotate_left
  · obtain rfl : r = false := by rw [e1, decide_eq_false h1]; simp
    have i3 : ((seed : Int) != (seed' : Int)) = true := by simp; omega
    clear e1 hR hR' hP hP' hfew hshort hshort' hmany hbx hby hln hln' hpn hpn' hnr
    have hB0'h := Lib.hid hB0
    clear hB0
    go_enter Tryd.func16, Tryd.ntmps16
    go_upto_region 1 with fail
    change Code.wp _ _ _ _ ((w.alloc (.cells #[.int .i64 _, .int .i64 _, .int .u64 _, .slice _ _ _, .slice _ _ _] 26)).alloc (.cells #[.int .i64 _, .int .i64 _, .int .u64 _, .slice _ _ _, .slice _ _ _] 26))
    rw [← hW0]
    clear hW0
    go_wp2
    go_ret
    exact ⟨rfl, hB0'h.out⟩
  subst h1
  have i3 : ((seed : Int) != (seed : Int)) = false := by simp
  by_cases h1 : ln = ln'
  rotate_left
  · obtain rfl : r = false := by rw [e1, decide_eq_false (hnr (by omega))]; simp
    have i4 : ((ln : Int) != (ln' : Int)) = true := by simp; omega
    clear e1 hR hR' hP hP' hfew hshort hshort' hmany hbx hby hln hln' hpn hpn' hnr
    have hB0'h := Lib.hid hB0
    clear hB0
    go_enter Tryd.func16, Tryd.ntmps16
    go_upto_region 1 with fail
    change Code.wp _ _ _ _ ((w.alloc (.cells #[.int .i64 _, .int .i64 _, .int .u64 _, .slice _ _ _, .slice _ _ _] 26)).alloc (.cells #[.int .i64 _, .int .i64 _, .int .u64 _, .slice _ _ _, .slice _ _ _] 26))
    rw [← hW0]
    clear hW0
    go_wp2
    go_ret
    exact ⟨rfl, hB0'h.out⟩
  subst h1
  have i4 : ((ln : Int) != (ln : Int)) = false := by simp
  by_cases h1 : pn = pn'
  rotate_left
  · obtain rfl : r = false := by
      have hn : ps ≠ ps' := fun e => h1 (by rw [hpn, hpn', e])
      rw [e1, decide_eq_false hn]; simp
    have i5 : ((pn : Int) != (pn' : Int)) = true := by simp; omega
    clear e1 hR hR' hP hP' hfew hshort hshort' hmany hbx hby hln hln' hpn hpn' hnr
    have hB0'h := Lib.hid hB0
    clear hB0
    go_enter Tryd.func16, Tryd.ntmps16
    go_upto_region 1 with fail
    change Code.wp _ _ _ _ ((w.alloc (.cells #[.int .i64 _, .int .i64 _, .int .u64 _, .slice _ _ _, .slice _ _ _] 26)).alloc (.cells #[.int .i64 _, .int .i64 _, .int .u64 _, .slice _ _ _, .slice _ _ _] 26))
    rw [← hW0]
    clear hW0
    go_wp2
    go_ret
    exact ⟨rfl, hB0'h.out⟩
  subst h1
  have i5 : ((pn : Int) != (pn : Int)) = false := by simp
  rw [decide_eq_true rfl, decide_eq_true rfl, decide_eq_true rfl] at e1
  simp only [Bool.true_and] at e1
  clear hnr
  have e1'h := Lib.hid e1
  have hln'h := Lib.hid hln
  have hln''h := Lib.hid hln'
  have hpn'h := Lib.hid hpn
  have hpn''h := Lib.hid hpn'
  have hB0'h := Lib.hid hB0
  have hR'h := Lib.hid hR
  have hR''h := Lib.hid hR'
  have hP'h := Lib.hid hP
  have hP''h := Lib.hid hP'
  have hfew'h := Lib.hid hfew
  have hshort'h := Lib.hid hshort
  have hshort''h := Lib.hid hshort'
  have hmany'h := Lib.hid hmany
  have hbx'h := Lib.hid hbx
  have hby'h := Lib.hid hby
  clear e1 hln hln' hpn hpn' hB0 hR hR' hP hP' hfew hshort hshort' hmany hbx hby
  go_enter Tryd.func16, Tryd.ntmps16
  go_upto_region 1 with fail
  change Code.wp _ _ _ _ ((w.alloc (.cells #[.int .i64 g, .int .i64 sb, .int .u64 (seed : Int), .slice lp ln lc, .slice pp pn pc] 26)).alloc (.cells #[.int .i64 g, .int .i64 sb, .int .u64 (seed : Int), .slice lp' ln lc', .slice pp' pn pc'] 26))
  rw [← hW0]
  clear hW0
  go_wp2
  clear i1 i2 i3 i4 i5 x0 x1 x2 z0 z1 z2
  go_loopg [51] ln (fun q ix wr => ∃ j : Nat, j + q = ln ∧ ix = .int .i64 (j : Int) ∧ (∀ i, i < j → (nthR rows i).cs = (nthR rows' i).cs) ∧ Below W0.heap.size W0 wr)
  case atStart => exact ⟨0, by omega, rfl, fun i hi => by omega, Below.refl _ _⟩
  case round =>
    obtain ⟨j, hj, rfl, hall, hB⟩ := hrel
    obtain ⟨go, rfl⟩ : ∃ go : Nat, go = gk := ⟨_, rfl⟩
    clear x3 x4 z3 z4
    by_cases hlt : j < ln
    · have i1 : (j : Int) < (ln : Int) := by omega
      have i2 : (0 : Int) ≤ (j : Int) := by omega
      obtain ⟨b, o, rfl, c0⟩ := (hR'h.out.below hB).head hlt
      obtain ⟨b', o', rfl, c0'⟩ := (hR''h.out.below hB).head hlt
      have hjl : j < rows.length := by have := hln'h.out; omega
      have hjl' : j < rows'.length := by have := hln''h.out; omega
      obtain ⟨x, hx⟩ : ∃ x, x = nthR rows j := ⟨_, rfl⟩
      obtain ⟨y, hy⟩ : ∃ y, y = nthR rows' j := ⟨_, rfl⟩
      have hmem : x ∈ rows := by rw [hx]; exact nthR_mem hjl
      have hmem' : y ∈ rows' := by rw [hy]; exact nthR_mem hjl'
      have hsl := hR'h.out.each x hmem
      have hsl' := hR''h.out.each y hmem'
      have hxl := hR'h.out.rlen hmem
      have hyl := hR''h.out.rlen hmem'
      have hsh := hshort'h.out x hmem
      have hcs : rows.map (·.cs) = rows'.map (·.cs) → x.cs = y.cs := fun e => by rw [hx, hy]; exact nth_of_map hjl hjl' e
      rw [← hx] at c0
      rw [← hy] at c0'
      obtain ⟨-, -, -, z3, -⟩ := cells5' (heap_below hB hby'h.out (lt_of_heap hby'h.out))
      obtain ⟨xp, xl, xc, cs⟩ := x
      obtain ⟨yp, yl, yc, ds⟩ := y
      simp only at hsl hsl' hxl hyl hsh c0 c0' hx hy hcs
      by_cases hl : xl = yl
      · subst hl
        have i3 : ((xl : Int) != (xl : Int)) = false := by simp
        have hcd : cs.length = ds.length := by omega
        have hall'h := Lib.hid hall
        have hj'h := Lib.hid hj
        have hx'h := Lib.hid hx
        have hy'h := Lib.hid hy
        have hmem'h := Lib.hid hmem
        have hmem''h := Lib.hid hmem'
        have hsl'h := Lib.hid hsl
        have hsl''h := Lib.hid hsl'
        have hxl'h := Lib.hid hxl
        have hyl'h := Lib.hid hyl
        have hsh'h := Lib.hid hsh
        have hB'h := Lib.hid hB
        have hcs'h := Lib.hid hcs
        have hcd'h := Lib.hid hcd
        clear hall hj hx hy hmem hmem' hsl hsl' hxl hyl hsh hB hcs hcd
        go_wp2
        go_loopg [67] xl (fun q ix wr => ∃ i : Nat, i + q = xl ∧ ix = .int .i64 (i : Int) ∧ (∀ i', i' < i → nthCal cs i' = nthCal ds i') ∧ Below W0.heap.size W0 wr)
        case atStart => exact ⟨0, by omega, rfl, fun i' hi => by omega, hB'h.out⟩
        case round =>
          obtain ⟨i, hi, rfl, hall2, hB2⟩ := hrel
          clear c0 c0' hB'h z3 i3
          by_cases hlt2 : i < xl
          · have i3 : (i : Int) < (xl : Int) := by omega
            have i4 : (0 : Int) ≤ (i : Int) := by omega
            have hil : i < cs.length := by have := hxl'h.out; omega
            have hil' : i < ds.length := by have := hcd'h.out; omega
            obtain ⟨b2, o2, rfl⟩ := slk_some (hsl'h.out.below hB2) (by omega)
            obtain ⟨b3, o3, rfl⟩ := slk_some (hsl''h.out.below hB2) (by omega)
            obtain ⟨c, hc⟩ : ∃ c, c = nthCal cs i := ⟨_, rfl⟩
            obtain ⟨d, hd⟩ : ∃ d, d = nthCal ds i := ⟨_, rfl⟩
            obtain ⟨c1, c2, c3, c4⟩ := cals_cells (hsl'h.out.below hB2) hil
            rw [← hc] at c1 c2 c3 c4
            obtain ⟨V, hV⟩ : ∃ V, V = wr.alloc (.cells #[.int .i64 c.op, .int .u64 (c.key : Int), .int .u64 (c.a : Int), .int .u64 (c.b : Int)] 57) := ⟨_, rfl⟩
            have hB3 : Below wr.heap.size wr V := by rw [hV]; exact (Below.refl _ _).alloc (Nat.le_refl _) _
            have hbV : V.heap[wr.heap.size]? = some (.cells #[.int .i64 c.op, .int .u64 (c.key : Int), .int .u64 (c.a : Int), .int .u64 (c.b : Int)] 57 (0, 0)) := by rw [hV]; exact World.alloc_heap_new _ _
            have hB4 := below_next hB2 hB3
            obtain ⟨d1, d2, d3, d4⟩ := cals_cells (hsl''h.out.below hB4) hil'
            rw [← hd] at d1 d2 d3 d4
            obtain ⟨-, -, -, z3, -⟩ := cells5' (heap_below hB4 hby'h.out (lt_of_heap hby'h.out))
            obtain ⟨b5, o5, e5, c5⟩ := (hR''h.out.below hB4).head hlt
            rw [← hy'h.out] at c5
            simp only at c5
            injection e5 with e5
            injection e5 with e51 e52
            subst e51 e52
            have z3' : ∀ q, (V.drewN q).cell? ⟨w.heap.size + 1, 3, none⟩ = some (.slice (some ⟨b', o', none⟩) ln lc') := fun q => z3
            have c5' : ∀ q, (V.drewN q).cell? ⟨b', o' + j, none⟩ = some (.slice (some ⟨b3, o3, none⟩) xl yc) := fun q => c5
            have d1' : ∀ q, (V.drewN q).cell? ⟨b3, o3 + i * 4, none⟩ = some (.int .i64 d.op) := fun q => d1
            have d2' : ∀ q, (V.drewN q).cell? ⟨b3, o3 + i * 4 + 1, none⟩ = some (.int .u64 (d.key : Int)) := fun q => d2
            have d3' : ∀ q, (V.drewN q).cell? ⟨b3, o3 + i * 4 + 2, none⟩ = some (.int .u64 (d.a : Int)) := fun q => d3
            have d4' : ∀ q, (V.drewN q).cell? ⟨b3, o3 + i * 4 + 3, none⟩ = some (.int .u64 (d.b : Int)) := fun q => d4
            have a1' : ∀ q, (V.drewN q).cell? ⟨wr.heap.size, 0, none⟩ = some (.int .i64 c.op) := fun q => blk_cell (i := 0) hbV rfl
            have a2' : ∀ q, (V.drewN q).cell? ⟨wr.heap.size, 1, none⟩ = some (.int .u64 (c.key : Int)) := fun q => blk_cell (i := 1) hbV rfl
            have a3' : ∀ q, (V.drewN q).cell? ⟨wr.heap.size, 2, none⟩ = some (.int .u64 (c.a : Int)) := fun q => blk_cell (i := 2) hbV rfl
            have a4' : ∀ q, (V.drewN q).cell? ⟨wr.heap.size, 3, none⟩ = some (.int .u64 (c.b : Int)) := fun q => blk_cell (i := 3) hbV rfl
            have hq := fun w => neq_cal c d w
            clear d1 d2 d3 d4 z3 c5 hbV hB3 hB2
            by_cases he : c = d
            · have hx' : (!decide (c = d)) = false := by rw [he]; simp
              rw [hx'] at hq
              have hall3 : ∀ i', i' < i + 1 → nthCal cs i' = nthCal ds i' := fun i' hi' => by
                by_cases e : i' = i
                · rw [e, ← hc, ← hd]; exact he
                · exact hall2 i' (by omega)
              clear hx' hc hd he hall2
              have q1 : (i : Int) ≤ 2000 := by have := hsh'h.out; have := hxl'h.out; omega
              have hi'h := Lib.hid hi
              have hall3'h := Lib.hid hall3
              have hB4'h := Lib.hid hB4
              clear hi hall3 hB4
              go_upto_region 11 with fail
              rw [← hV]
              clear hV c1 c2 c3 c4
              go_quiet (fail)
              go_wp2
              go_roundg (gk - 1)
              case measure => have := hi'h.out; omega
              case rel => exact ⟨i + 1, by have := hi'h.out; omega, by go_num, hall3'h.out, hB4'h.out.trans (below_drewN' _ nq)⟩
            · have hx' : (!decide (c = d)) = true := by simp [he]
              rw [hx'] at hq
              obtain rfl : r = false := by
                have hn : rows.map (·.cs) ≠ rows'.map (·.cs) := fun e => he (by rw [hc, hd, hcs'h.out e])
                rw [e1'h.out, decide_eq_false hn]; simp
              clear hx' hc hd he hall2
              have hi'h := Lib.hid hi
              have hB4'h := Lib.hid hB4
              clear hi hB4
              go_upto_region 11 with fail
              rw [← hV]
              clear hV c1 c2 c3 c4
              go_quiet (fail)
              go_wp2
              go_ret
              exact ⟨rfl, below_next hB0'h.out (hB4'h.out.trans (below_drewN' _ nq))⟩
          · have i3 : ¬ (i : Int) < (xl : Int) := by omega
            obtain rfl : i = xl := by omega
            have hcd2 : cs = ds := cal_ext hcd'h.out fun i' hi' => hall2 i' (by have := hxl'h.out; omega)
            have hall4 : ∀ i', i' < j + 1 → (nthR rows i').cs = (nthR rows' i').cs := fun i' hi' => by
              by_cases e : i' = j
              · rw [e, ← hx'h.out, ← hy'h.out]; exact hcd2
              · exact hall'h.out i' (by omega)
            clear hall2 hcd2
            have q1 : (j : Int) + 1 ≤ 2000 := by have := hfew'h.out; omega
            have hi'h := Lib.hid hi
            have hB2'h := Lib.hid hB2
            have hall4'h := Lib.hid hall4
            clear hi hB2 hall4
            go_wp2
            go_roundg (go - 1)
            case measure => have := hj'h.out; omega
            case rel => exact ⟨j + 1, by have := hj'h.out; omega, by go_num, hall4'h.out, hB2'h.out⟩
      · have i3 : ((xl : Int) != (yl : Int)) = true := by simp; omega
        obtain rfl : r = false := by
          have hn : rows.map (·.cs) ≠ rows'.map (·.cs) := fun e => hl (by rw [hxl, hyl, hcs e])
          rw [e1'h.out, decide_eq_false hn]; simp
        have hB9 := below_next hB0'h.out hB
        clear hl hall hj hx hy hmem hmem' hsl hsl' hxl hyl hsh hB hcs
        have hB9'h := Lib.hid hB9
        clear hB9
        go_wp2
        go_ret
        exact ⟨rfl, hB9'h.out⟩
    · have i1 : ¬ (j : Int) < (ln : Int) := by omega
      obtain rfl : j = ln := by omega
      have hmm : rows.map (·.cs) = rows'.map (·.cs) := map_of_nth (by have := hln'h.out; have := hln''h.out; omega) fun i hi => hall i (by have := hln'h.out; omega)
      have e2 : r = decide (ps = ps') := by rw [e1'h.out, decide_eq_true hmm, Bool.and_true]
      obtain ⟨-, -, -, -, x4⟩ := cells5' (heap_below hB hbx'h.out (lt_of_heap hbx'h.out))
      have hll : ps.length = ps'.length := by
        have h1 := hpn'h.out
        have h2 := hpn''h.out
        omega
      have hpl : pn = ps.length := hpn'h.out
      clear hall hmm hj
      have hB'h := Lib.hid hB
      have e2'h := Lib.hid e2
      have hll'h := Lib.hid hll
      have hpl'h := Lib.hid hpl
      clear hB e2 hll hpl
      go_wp2
      go_loopg [87] pn (fun q ix wr => ∃ k : Nat, k + q = pn ∧ ix = .int .i64 (k : Int) ∧ (∀ i, i < k → nthU ps i = nthU ps' i) ∧ Below W0.heap.size W0 wr)
      case atStart => exact ⟨0, by omega, rfl, fun i hi => by omega, hB'h.out⟩
      case round =>
        obtain ⟨k, hk, rfl, hall, hB2⟩ := hrel
        clear x4 hB'h
        by_cases hlt : k < pn
        · have i3 : (k : Int) < (pn : Int) := by omega
          have i4 : (0 : Int) ≤ (k : Int) := by omega
          have hkl : k < ps.length := by have := hpl'h.out; omega
          have hkl' : k < ps'.length := by have := hll'h.out; omega
          obtain ⟨b, o, rfl, -⟩ := (hP'h.out.below hB2).some' (by omega)
          obtain ⟨b', o', rfl, -⟩ := (hP''h.out.below hB2).some' (by omega)
          have c1 := nthU_cell (hP'h.out.below hB2) hkl
          have c2 := nthU_cell (hP''h.out.below hB2) hkl'
          obtain ⟨-, -, -, -, z4⟩ := cells5' (heap_below hB2 hby'h.out (lt_of_heap hby'h.out))
          obtain ⟨u, hu⟩ : ∃ u, u = nthU ps k := ⟨_, rfl⟩
          obtain ⟨v, hv⟩ : ∃ v, v = nthU ps' k := ⟨_, rfl⟩
          rw [← hu] at c1
          rw [← hv] at c2
          by_cases he : u = v
          · subst he
            have i5 : ((u : Int) != (u : Int)) = false := by simp
            have hall3 : ∀ i, i < k + 1 → nthU ps i = nthU ps' i := fun i hi => by
              by_cases e : i = k
              · rw [e, ← hu, ← hv]
              · exact hall i (by omega)
            have q1 : (k : Int) + 1 ≤ 5000 := by have := hmany'h.out; omega
            clear hall hu hv
            have hk'h := Lib.hid hk
            have hall3'h := Lib.hid hall3
            have hB2'h := Lib.hid hB2
            clear hk hall3 hB2
            go_wp2
            go_roundg (gk - 1)
            case measure => have := hk'h.out; omega
            case rel => exact ⟨k + 1, by have := hk'h.out; omega, by go_num, hall3'h.out, hB2'h.out⟩
          · have i5 : ((u : Int) != (v : Int)) = true := by simp; omega
            obtain rfl : r = false := by
              have hn : ps ≠ ps' := fun e => he (by rw [hu, hv, e])
              rw [e2'h.out, decide_eq_false hn]
            have hB9 := below_next hB0'h.out hB2
            clear hall hk hB2 hu hv he
            have hB9'h := Lib.hid hB9
            clear hB9
            go_wp2
            go_ret
            exact ⟨rfl, hB9'h.out⟩
        · have i3 : ¬ (k : Int) < (pn : Int) := by omega
          have hpp : ps = ps' := u_ext hll'h.out fun i hi => hall i (by have := hpl'h.out; omega)
          obtain rfl : r = true := by rw [e2'h.out, decide_eq_true hpp]
          have hB9 := below_next hB0'h.out hB2
          clear hall hk hB2 hpp
          have hB9'h := Lib.hid hB9
          clear hB9
          go_wp2
          go_ret
          exact ⟨rfl, hB9'h.out⟩
end Go.Proofs.YtifofdciablljaaDoor

/-
  The document's answer for layer 3: the keys of a script.
-/
set_option linter.unusedSimpArgs false
set_option linter.unusedVariables false
set_option maxRecDepth 100000
namespace Go.Proofs.YtifofdciablljaaDoor
open Go.RowKit

/-! ### Put into a rising row -/
def ins (x : Nat) : List Nat → List Nat
  | [] => [x]
  | y :: l => if y < x then y :: ins x l else if y = x then y :: l else x :: y :: l
theorem mem_ins {x z : Nat} : ∀ {l : List Nat}, z ∈ ins x l ↔ z = x ∨ z ∈ l
  | [] => by simp [ins]
  | y :: l => by
    unfold ins
    split
    · rw [List.mem_cons, mem_ins (l := l), List.mem_cons]
      exact ⟨fun h => h.elim (fun h => .inr (.inl h)) (fun h => h.elim .inl fun h => .inr (.inr h)), fun h => h.elim (fun h => .inr (.inl h)) (fun h => h.elim .inl fun h => .inr (.inr h))⟩
    · split
      · rename_i e; subst e; simp
      · simp
theorem ins_rises {x : Nat} : ∀ {l : List Nat}, l.Pairwise (· < ·) → (ins x l).Pairwise (· < ·)
  | [], _ => by simp [ins]
  | y :: l, h => by
    have h1 := List.pairwise_cons.1 h
    unfold ins
    split
    · refine List.pairwise_cons.2 ⟨fun z hz => ?_, ins_rises h1.2⟩
      rcases mem_ins.1 hz with rfl | hz
      · assumption
      · exact h1.1 z hz
    · split
      · exact h
      · refine List.pairwise_cons.2 ⟨fun z hz => ?_, h⟩
        rcases List.mem_cons.1 hz with rfl | hz
        · omega
        · have := h1.1 z hz; omega
theorem ins_len (x : Nat) : ∀ l : List Nat, (ins x l).length ≤ l.length + 1
  | [] => by simp [ins]
  | y :: l => by
    have := ins_len x l
    unfold ins
    split
    · simp only [List.length_cons]; omega
    · split <;> simp only [List.length_cons] <;> omega
theorem ins_at {x : Nat} : ∀ (l : List Nat) (k : Nat), k ≤ l.length → (∀ i, i < k → nthU l i < x) → (k < l.length → x < nthU l k) → ins x l = l.take k ++ x :: l.drop k
  | [], k, hk, _, _ => by
    have : k = 0 := by simpa using hk
    subst this; rfl
  | y :: l, 0, _, _, h => by
    have := h (by simp)
    unfold nthU at this
    simp only [List.getD_cons_zero] at this
    unfold ins
    rw [if_neg (by omega), if_neg (by omega)]
    rfl
  | y :: l, k + 1, hk, h1, h => by
    have h0 := h1 0 (by omega)
    unfold nthU at h0
    simp only [List.getD_cons_zero] at h0
    unfold ins
    rw [if_pos h0, ins_at l k (by simpa using hk) (fun i hi => by have := h1 (i + 1) (by omega); simpa [nthU] using this) (fun hl => by have := h (by simpa using hl); simpa [nthU] using this)]
    rfl
theorem ins_same {x : Nat} : ∀ (l : List Nat) (k : Nat), k < l.length → (∀ i, i < k → nthU l i < x) → nthU l k = x → ins x l = l
  | [], k, hk, _, _ => by simp at hk
  | y :: l, 0, _, _, h => by
    unfold nthU at h
    simp only [List.getD_cons_zero] at h
    unfold ins
    rw [if_neg (by omega), if_pos h]
  | y :: l, k + 1, hk, h1, h => by
    have h0 := h1 0 (by omega)
    unfold nthU at h0
    simp only [List.getD_cons_zero] at h0
    unfold ins
    rw [if_pos h0, ins_same l k (by simpa using hk) (fun i hi => by have := h1 (i + 1) (by omega); simpa [nthU] using this) (by unfold nthU at h ⊢; simpa using h)]
def insK (ks : List Nat) : List Nat := ks.foldl (fun l x => ins x l) []
theorem insK_snoc (ks : List Nat) (k : Nat) : insK (ks ++ [k]) = ins k (insK ks) := by unfold insK; rw [List.foldl_append]; rfl
theorem insFold_mem (z : Nat) : ∀ (ks acc : List Nat), z ∈ ks.foldl (fun l x => ins x l) acc ↔ z ∈ acc ∨ z ∈ ks
  | [], acc => by simp
  | k :: ks, acc => by
    rw [List.foldl_cons, insFold_mem z ks, mem_ins, List.mem_cons]
    exact ⟨fun h => h.elim (fun h => h.elim (fun h => .inr (.inl h)) .inl) fun h => .inr (.inr h), fun h => h.elim (fun h => .inl (.inr h)) fun h => h.elim (fun h => .inl (.inl h)) .inr⟩
theorem insFold_rises : ∀ (ks acc : List Nat), acc.Pairwise (· < ·) → (ks.foldl (fun l x => ins x l) acc).Pairwise (· < ·)
  | [], _, h => h
  | k :: ks, acc, h => insFold_rises ks _ (ins_rises h)
theorem insFold_len : ∀ (ks acc : List Nat), (ks.foldl (fun l x => ins x l) acc).length ≤ acc.length + ks.length
  | [], acc => by simp
  | k :: ks, acc => by
    have h1 := insFold_len ks (ins k acc)
    have h2 := ins_len k acc
    rw [List.foldl_cons, List.length_cons]
    omega
theorem insK_len (ks : List Nat) : (insK ks).length ≤ ks.length := by have := insFold_len ks []; simpa [insK] using this
theorem rises_ext : ∀ {l m : List Nat}, l.Pairwise (· < ·) → m.Pairwise (· < ·) → (∀ z, z ∈ l ↔ z ∈ m) → l = m
  | [], [], _, _, _ => rfl
  | [], y :: m, _, _, h => by have := (h y).2 (by simp); cases this
  | x :: l, [], _, _, h => by have := (h x).1 (by simp); cases this
  | x :: l, y :: m, hl, hm, h => by
    have hl1 := List.pairwise_cons.1 hl
    have hm1 := List.pairwise_cons.1 hm
    have e : x = y := by
      rcases List.mem_cons.1 ((h x).1 (by simp)) with e | hx
      · exact e
      · rcases List.mem_cons.1 ((h y).2 (by simp)) with e | hy
        · exact e.symm
        · have := hm1.1 x hx; have := hl1.1 y hy; omega
    subst e
    rw [rises_ext hl1.2 hm1.2 fun z => ⟨fun hz => (List.mem_cons.1 ((h z).1 (List.mem_cons_of_mem _ hz))).resolve_left fun e => by have := hl1.1 z hz; omega, fun hz => (List.mem_cons.1 ((h z).2 (List.mem_cons_of_mem _ hz))).resolve_left fun e => by have := hm1.1 z hz; omega⟩]
theorem keysL_rises (cs : List Cal) : (keysL cs).Pairwise (· < ·) := by
  have h1 := sorted64_le (onceL (keyL cs))
  have h2 : (sorted64 (onceL (keyL cs))).Nodup := (List.mergeSort_perm _ _).nodup_iff.2 (once_nodup _)
  unfold keysL
  exact (List.pairwise_and_iff.2 ⟨h1, h2⟩).imp fun ⟨a, b⟩ => by omega
theorem insK_keys (cs : List Cal) : insK (keyL cs) = keysL cs :=
  rises_ext (insFold_rises _ _ List.Pairwise.nil) (keysL_rises cs) fun z => by
    unfold insK keysL
    rw [insFold_mem, sorted64_mem, mem_onceL]; simp
theorem keyL_app (a b : List Cal) : keyL (a ++ b) = keyL a ++ keyL b := by unfold keyL; rw [List.filter_append, List.map_append]
theorem keyL_le (a : List Cal) : (keyL a).length ≤ a.length := by unfold keyL; rw [List.length_map]; exact List.length_filter_le ..
theorem own_lit' (W : World) (t : TypeId) (n : Nat) (vs : Array Value) (hn : vs.size = n) (hm : n ≤ maxLen) : (W.alloc (.cells vs t)).ownsRow W.heap.size t 1 (.slice (some ⟨W.heap.size, 0, none⟩) n n) n vs.toList :=
  ⟨by simp [hn], .inr ⟨W.heap.size, n, vs, rfl, Nat.le_refl _, World.alloc_heap_new _ _, Nat.le_refl _, hm, by simp [hn], by rw [Nat.mul_one, ← hn]; exact List.take_of_length_le (by simp)⟩⟩
theorem u64s_one' (l : List Nat) : ∀ v ∈ u64s l, v.oneCell' = true := by
  intro v hv
  obtain ⟨n, -, rfl⟩ := List.mem_map.1 hv
  rfl
theorem drop_slk {w : World} {b o k r c : Nat} {l : List Nat} (h : Sl w (some ⟨b, o, none⟩) (k + r) (u64s l)) : SlK w 1 (if k + r + c = k then some ⟨b, o, none⟩ else some ⟨b, o + k, none⟩) r (u64s (l.drop k)) := by
  have h1 := (SlK.of_sl h).drop k (by omega)
  rw [Nat.add_sub_cancel_left] at h1
  have e : (u64s l).drop k = u64s (l.drop k) := by unfold u64s; rw [List.map_drop]
  rw [e] at h1
  split
  · rename_i he
    obtain rfl : r = 0 := by omega
    exact ⟨h1.1, h1.2.1, .inl rfl⟩
  · exact h1
set_option maxHeartbeats 4000000 in
theorem dkeys_any (s : Sm) (w : World) (h : SmIn w s) :
    Calls Tryd.prog 19 #[.agg (smA s)] w fun e w' => ∃ sp n c, e = .returned (.slice sp n c) ∧ Below w.heap.size w w' ∧ w'.ownsRow w.heap.size 22 1 (.slice sp n c) n (u64s (keysL s.scr.lists.flatten)) := by
  have hln := h.rows.len
  have hcat := h.cat
  have hB1 : Below w.heap.size w (w.alloc (.cells (smA s) 26)) := (Below.refl _ _).alloc (Nat.le_refl _) _
  have hb1 := World.alloc_heap_new w (.cells (smA s) 26)
  have hR := h.rows.below hB1
  have hfin : keysL s.scr.lists.flatten = insK (keyL (catC s.rows s.ln)) := by rw [hcat, insK_keys]
  rw [hfin]
  have hfew := h.rows.few
  have hshort := h.rows.short
  clear hcat h hfin
  obtain ⟨g, sb, seed, lp, ln, lc, rows, pp, pn, pc, picks⟩ := s
  simp only [smA] at *
  have hlen : ∀ j, j ≤ ln → (insK (keyL (catC rows j))).length ≤ 1056 := fun j hj => by
    have h1 := insK_len (keyL (catC rows j))
    have h2 := keyL_le (catC rows j)
    have h3 := catC_le hshort j (by omega)
    omega
  have x3 : (w.alloc (.cells #[.int .i64 g, .int .i64 sb, .int .u64 (seed : Int), .slice lp ln lc, .slice pp pn pc] 26)).cell? ⟨w.heap.size, 3, none⟩ = some (.slice lp ln lc) := blk_cell (i := 3) hb1 rfl
  obtain ⟨i0, hi, hz, hs, hby⟩ := info_parts info_clone64
  have hln'h := Lib.hid hln
  have hB1'h := Lib.hid hB1
  have hR'h := Lib.hid hR
  have hfew'h := Lib.hid hfew
  have hshort'h := Lib.hid hshort
  have hlen'h := Lib.hid hlen
  have hb1'h := Lib.hid hb1
  clear hln hB1 hR hfew hshort hlen hb1
  go_enter Tryd.func19, Tryd.ntmps19
  go_wp2
  go_loopg [12, 3] ln (fun q ix ov wr => ∃ (j : Nat) (L : List Nat), j + q = ln ∧ ix = .int .i64 (j : Int) ∧ L = insK (keyL (catC rows j)) ∧ wr.ownsRow w.heap.size 22 1 ov L.length (u64s L) ∧ Below w.heap.size w wr ∧ RowsIn wr lp ln rows)
  case atStart => exact ⟨0, [], by omega, rfl, rfl, ⟨rfl, .inl ⟨rfl, rfl⟩⟩, hB1'h.out, hR'h.out⟩
  case round =>
    obtain ⟨j, L, hj, rfl, hL, hrow, hB, hRj⟩ := hrel
    obtain ⟨sp, cap, rfl⟩ := row_slice' hrow
    clear x3
    obtain ⟨go, rfl⟩ : ∃ go : Nat, go = gk := ⟨_, rfl⟩
    by_cases hlt : j < ln
    · have i1 : (j : Int) < (ln : Int) := by omega
      have i2 : (0 : Int) ≤ (j : Int) := by omega
      obtain ⟨b, o, rfl, c0⟩ := hRj.head hlt
      have hjl : j < rows.length := by have := hln'h.out; omega
      obtain ⟨x, hx⟩ : ∃ x, x = nthR rows j := ⟨_, rfl⟩
      have hmem : x ∈ rows := by rw [hx]; exact nthR_mem hjl
      have hsl := hRj.each x hmem
      have hxl := hRj.rlen hmem
      have hsh := hshort'h.out x hmem
      rw [← hx] at c0
      obtain ⟨xp, xl, xc, cs⟩ := x
      simp only at hsl hxl hsh c0 hx
      have hj'h := Lib.hid hj
      have hx'h := Lib.hid hx
      have hmem'h := Lib.hid hmem
      have hsl'h := Lib.hid hsl
      have hxl'h := Lib.hid hxl
      have hsh'h := Lib.hid hsh
      have hRj'h := Lib.hid hRj
      have hB'h := Lib.hid hB
      have hL'h := Lib.hid hL
      have hrow'h := Lib.hid hrow
      clear hj hx hmem hsl hxl hsh hRj hB hL hrow
      go_wp2
      go_loopg [18, 3] xl (fun q ix ov wr => ∃ (i : Nat) (M : List Nat), i + q = xl ∧ ix = .int .i64 (i : Int) ∧ M = insK (keyL (catC rows j ++ cs.take i)) ∧ wr.ownsRow w.heap.size 22 1 ov M.length (u64s M) ∧ Below w.heap.size w wr ∧ RowsIn wr (some ⟨b, o, none⟩) ln rows ∧ SlK wr 4 xp xl (cals cs))
      case atStart => exact ⟨0, L, by omega, rfl, by rw [hL'h.out]; simp, hrow'h.out, hB'h.out, hRj'h.out, hsl'h.out⟩
      case round =>
        obtain ⟨i, M, hi', rfl, hM, hrow2, hB2, hR2, hS2⟩ := hrel
        obtain ⟨gi, rfl⟩ : ∃ gi : Nat, gi = gk := ⟨_, rfl⟩
        obtain ⟨sp2, cap2, rfl⟩ := row_slice' hrow2
        clear c0 hRj'h hsl'h hB'h hrow'h
        by_cases hlt2 : i < xl
        · have i3 : (i : Int) < (xl : Int) := by omega
          have i4 : (0 : Int) ≤ (i : Int) := by omega
          have hil : i < cs.length := by have := hxl'h.out; omega
          obtain ⟨b2, o2, rfl⟩ := slk_some hS2 (by omega)
          obtain ⟨c, hc⟩ : ∃ c, c = nthCal cs i := ⟨_, rfl⟩
          obtain ⟨c1, c2, c3, c4⟩ := cals_cells hS2 hil
          rw [← hc] at c1 c2 c3 c4
          obtain ⟨V, hV⟩ : ∃ V, V = wr.alloc (.cells #[.int .i64 c.op, .int .u64 (c.key : Int), .int .u64 (c.a : Int), .int .u64 (c.b : Int)] 57) := ⟨_, rfl⟩
          have hB3 : Below wr.heap.size wr V := by rw [hV]; exact (Below.refl _ _).alloc (Nat.le_refl _) _
          have hbV : V.heap[wr.heap.size]? = some (.cells #[.int .i64 c.op, .int .u64 (c.key : Int), .int .u64 (c.a : Int), .int .u64 (c.b : Int)] 57 (0, 0)) := by rw [hV]; exact World.alloc_heap_new _ _
          have hB4 := below_next hB2 hB3
          have hR3 := hR2.below hB3
          have hS3 := hS2.below hB3
          have hrow3 := ownsRow_next hrow2 hB3
          have D := dtakes_any c.op V
          obtain ⟨t, ht⟩ : ∃ t, t = takesI c.op := ⟨_, rfl⟩
          rw [← ht] at D
          have hnext : keyL (catC rows j ++ cs.take (i + 1)) = keyL (catC rows j ++ cs.take i) ++ (if 0 < t then [c.key] else []) := by
            rw [keyL_app, keyL_next hil, ← hc, ← ht, ← List.append_assoc, ← keyL_app]
          clear hc ht hB2 hB3 hR2 hS2 hrow2
          have hi''h := Lib.hid hi'
          have hM'h := Lib.hid hM
          have D'h := Lib.hid D
          have hnext'h := Lib.hid hnext
          have hB4'h := Lib.hid hB4
          have hR3'h := Lib.hid hR3
          have hS3'h := Lib.hid hS3
          have hrow3'h := Lib.hid hrow3
          have hbV'h := Lib.hid hbV
          clear hi' hM D hnext hB4 hR3 hS3 hrow3 hbV
          go_upto_region 8 with fail
          rw [← hV]
          clear hV c1 c2 c3 c4
          have a0 : V.cell? ⟨wr.heap.size, 0, none⟩ = some (.int .i64 c.op) := blk_cell (i := 0) hbV'h.out rfl
          go_wp2_with fail
          refine D'h.out.mono ?_
          rintro e w5 ⟨rfl, hw5⟩
          obtain rfl := hw5.symm
          clear a0
          by_cases ht : t < 1
          · have hn2 := hnext'h.out
            rw [if_neg (by omega), List.append_nil] at hn2
            have q1 : (i : Int) + 1 ≤ 100 := by have := hsh'h.out; have := hxl'h.out; omega
            clear hnext'h D'h
            have hn2'h := Lib.hid hn2
            clear hn2
            go_wp2
            go_roundg (gi - 1)
            case measure => have := hi''h.out; omega
            case rel => exact ⟨i + 1, M, by have := hi''h.out; omega, by go_num, by rw [hn2'h.out]; exact hM'h.out, hrow3'h.out, hB4'h.out, hR3'h.out, hS3'h.out⟩
          · have hn2 := hnext'h.out
            rw [if_pos (by omega)] at hn2
            have hM2 : insK (keyL (catC rows j ++ cs.take (i + 1))) = ins c.key M := by rw [hn2, insK_snoc, ← hM'h.out]
            have hri : M.Pairwise (· < ·) := by rw [hM'h.out]; exact insFold_rises _ _ List.Pairwise.nil
            obtain ⟨m, hm⟩ : ∃ m, m = M.length := ⟨_, rfl⟩
            have hmb : m ≤ 1200 := by
              rw [hm, hM'h.out]
              have h1 := insK_len (keyL (catC rows j ++ cs.take i))
              have h2 := keyL_le (catC rows j ++ cs.take i)
              have h3 := catC_le hshort'h.out j (by omega)
              have h4 := hsh'h.out
              have h5 := hxl'h.out
              have h6 := hfew'h.out
              rw [List.length_append, List.length_take] at h2
              omega
            have hrow4 := hrow3'h.out
            rw [← hm] at hrow4 ⊢
            clear hn2 hnext'h D'h hrow3'h
            have a1 : ∀ q, (V.drewN q).cell? ⟨wr.heap.size, 1, none⟩ = some (.int .u64 (c.key : Int)) := fun q => blk_cell (i := 1) hbV'h.out rfl
            obtain ⟨key, hkey⟩ : ∃ key, key = c.key := ⟨_, rfl⟩
            rw [← hkey] at a1 hM2
            have hM2'h := Lib.hid hM2
            have hri'h := Lib.hid hri
            have hm'h := Lib.hid hm
            have hmb'h := Lib.hid hmb
            have hrow4'h := Lib.hid hrow4
            have hkey'h := Lib.hid hkey
            clear hM2 hri hm hmb hrow4 hkey
            go_wp2
            go_loopg [8] m (fun q kv w2 => ∃ k : Nat, k + q = m ∧ kv = .int .i64 (k : Int) ∧ (∀ i, i < k → nthU M i < key) ∧ ∃ d, w2 = V.drewN d)
            case atStart => exact ⟨0, by omega, rfl, fun i hi => by omega, 0, rfl⟩
            case round =>
              obtain ⟨k, hk, rfl, hbel, d, rfl⟩ := hrel
              by_cases hlt3 : k < m
              · have i5 : (k : Int) < (m : Int) := by omega
                have i6 : (0 : Int) ≤ (k : Int) := by omega
                have hkM : k < M.length := by have := hm'h.out; omega
                have hSl := Sl.of_row hrow4'h.out (by have := hmb'h.out; unfold maxLen; omega)
                obtain ⟨b3, o3, rfl, -⟩ := hSl.some' (by omega)
                have e1 := nthU_cell hSl hkM
                have e1' : ∀ q, (V.drewN q).cell? ⟨b3, o3 + k, none⟩ = some (.int .u64 (nthU M k : Int)) := fun q => e1
                have i7 : ((k : Int) == (m : Int)) = false := by simp; omega
                obtain ⟨y, hy⟩ : ∃ y, y = nthU M k := ⟨_, rfl⟩
                rw [← hy] at e1'
                clear e1
                by_cases hyk : y < key
                · have i8 : (y : Int) < (key : Int) := by omega
                  have hbel2 : ∀ i, i < k + 1 → nthU M i < key := fun i hi => by
                    by_cases e : i = k
                    · rw [e, ← hy]; exact hyk
                    · exact hbel i (by omega)
                  have q1 : (k : Int) + 1 ≤ 2000 := by have := hmb'h.out; omega
                  clear hSl hbel hy hyk
                  have hk'h := Lib.hid hk
                  have hbel2'h := Lib.hid hbel2
                  clear hk hbel2
                  go_wp2_with fail
                  go_quiet (fail)
                  go_wp2
                  go_roundg (gk - 1)
                  case measure => have := hk'h.out; omega
                  case rel => exact ⟨k + 1, by have := hk'h.out; omega, by go_num, hbel2'h.out, d + nq, rfl⟩
                · have i8 : ¬ (y : Int) < (key : Int) := by omega
                  by_cases he : y = key
                  · have i9 : ((y : Int) != (key : Int)) = false := by simp; omega
                    have hsame : ins key M = M := ins_same M k hkM hbel (by rw [← hy]; exact he)
                    have hM3 : M = insK (keyL (catC rows j ++ cs.take (i + 1))) := by rw [hM2'h.out, hsame]
                    have q1 : (i : Int) + 1 ≤ 100 := by have := hsh'h.out; have := hxl'h.out; omega
                    clear hSl hbel hy hyk he hsame
                    have hM3'h := Lib.hid hM3
                    clear hM3
                    go_wp2_with fail
                    go_quiet (fail)
                    go_wp2_with fail
                    go_quiet (fail)
                    go_wp2
                    go_roundg (gi - 1)
                    case measure => have := hi''h.out; omega
                    case rel => exact ⟨i + 1, M, by have := hi''h.out; omega, by go_num, hM3'h.out, by rw [← hm'h.out]; exact ownsRow_next hrow4'h.out (below_drewN' _ _), below_next hB4'h.out (below_drewN' _ _), hR3'h.out.below (below_drewN' _ _), hS3'h.out.below (below_drewN' _ _)⟩
                  · have i9 : ((y : Int) != (key : Int)) = true := by simp; omega
                    have hins := ins_at (x := key) M k (by omega) hbel (fun _ => by rw [← hy]; omega)
                    clear hbel hy hyk he
                    have hins'h := Lib.hid hins
                    have hSl'h := Lib.hid hSl
                    clear hins hSl
                    go_wp2_with fail
                    go_quiet (fail)
                    go_upto_region 13 with (go_quiet (fail))
                    generalize hWW : World.drewN _ _ = W
                    have hB5 : Below V.heap.size V W := by rw [← hWW]; exact ((below_drewN' _ _).trans (below_drewN' _ _)).trans (below_drewN' _ _)
                    clear hWW
                    have hBw := below_next hB4'h.out hB5
                    have hRW := hR3'h.out.below hB5
                    have hSW := hS3'h.out.below hB5
                    have z1 : W.cell? ⟨wr.heap.size, 1, none⟩ = some (.int .u64 (key : Int)) := (hB5.cell (p := ⟨wr.heap.size, 1, none⟩) (lt_of_heap hbV'h.out)).trans (a1 0)
                    have hz1l := lt_of_cell z1
                    have hrow5 := ownsRow_next hrow4'h.out hB5
                    have hSl5 := Sl.of_row hrow5 (by have := hmb'h.out; unfold maxLen; omega)
                    have hcp : m ≤ cap2 := by obtain ⟨_, _, e, h1, -, -⟩ := row_form hrow5; injection e with _ _ e; omega
                    clear a1 e1' i5 i6 i7 i8 i9 hB5
                    obtain ⟨mr, hmr⟩ : ∃ mr, m = k + mr := ⟨m - k, by omega⟩
                    obtain ⟨cr, hcr⟩ : ∃ cr, cap2 = m + cr := ⟨cap2 - m, by omega⟩
                    subst hcr
                    subst hmr
                    have j1 : ¬ ((k : Int) + (mr : Int) + (cr : Int) < (k : Int)) := by omega
                    have j2 : (k : Int) ≤ (k : Int) + (mr : Int) := by omega
                    have j3 : (0 : Int) ≤ (k : Int) := by omega
                    have hBw'h := Lib.hid hBw
                    have hRW'h := Lib.hid hRW
                    have hSW'h := Lib.hid hSW
                    have hrow5'h := Lib.hid hrow5
                    have hSl5'h := Lib.hid hSl5
                    have hz1l'h := Lib.hid hz1l
                    clear hBw hRW hSW hrow5 hSl5 hz1l
                    refine wp_region_heldF (fun w' => Below W.heap.size W w') 99 (by kernel_rfl) ?_
                    have R := (Below.refl W.heap.size W).drew
                    generalize W.drew = V0 at R ⊢
                    refine wpAnyF_take (i := 1) (v := .slice (some ⟨b3, o3, none⟩) (k + mr) (k + mr + cr)) rfl (by kernel_rfl) (by kernel_rfl) (by kernel_rfl) (by kernel_rfl) (fun _ _ _ h => h) (Or.inl ⟨by kernel_rfl, fun w hSw => by (try dsimp only at hSw); go_simp⟩) R ?_; try simp only [Act.put, List.getElem_toArray, List.getElem_cons_succ, List.getElem_cons_zero, List.setIfInBounds_toArray, List.set_cons_zero, List.set_cons_succ]
                    refine wpAnyF_take (i := 2) (v := .int .i64 (k : Int)) rfl (by kernel_rfl) (by kernel_rfl) (by kernel_rfl) (by kernel_rfl) (fun _ _ _ h => h) (Or.inl ⟨by kernel_rfl, fun w hSw => by (try dsimp only at hSw); go_simp⟩) R ?_; try simp only [Act.put, List.getElem_toArray, List.getElem_cons_succ, List.getElem_cons_zero, List.setIfInBounds_toArray, List.set_cons_zero, List.set_cons_succ]
                    refine wpAnyF_take (i := 3) (v := .slice (some ⟨b3, o3, none⟩) k (k + mr + cr)) rfl (by kernel_rfl) (by kernel_rfl) (by kernel_rfl) (by kernel_rfl) (fun _ _ _ h => h) (Or.inl ⟨by kernel_rfl, fun w hSw => by (try dsimp only at hSw); go_simp⟩) R ?_; try simp only [Act.put, List.getElem_toArray, List.getElem_cons_succ, List.getElem_cons_zero, List.setIfInBounds_toArray, List.set_cons_zero, List.set_cons_succ]
                    refine wpAnyF_take (i := 5) (v := .pointer (some ⟨wr.heap.size, 1, none⟩)) rfl (by kernel_rfl) (by kernel_rfl) (by kernel_rfl) (by kernel_rfl) (fun _ _ _ h => h) (Or.inl ⟨by kernel_rfl, fun w hSw => by (try dsimp only at hSw); go_simp⟩) R ?_; try simp only [Act.put, List.getElem_toArray, List.getElem_cons_succ, List.getElem_cons_zero, List.setIfInBounds_toArray, List.set_cons_zero, List.set_cons_succ]
                    refine wpAnyF_take (i := 6) (v := .int .u64 (key : Int)) rfl (by kernel_rfl) (by kernel_rfl) (by kernel_rfl) (by kernel_rfl) (fun _ _ _ h => h) (Or.inl ⟨by kernel_rfl, fun w hSw => by have hcc := (hSw.cell (p := ⟨wr.heap.size, 1, none⟩) hz1l'h.out).trans z1; (try dsimp only at hSw); go_simp⟩) R ?_; try simp only [Act.put, List.getElem_toArray, List.getElem_cons_succ, List.getElem_cons_zero, List.setIfInBounds_toArray, List.set_cons_zero, List.set_cons_succ]
                    refine wpAnyF_take (i := 9) (v := .slice (some ⟨b3, o3, none⟩) (k + mr) (k + mr + cr)) rfl (by kernel_rfl) (by kernel_rfl) (by kernel_rfl) (by kernel_rfl) (fun _ _ _ h => h) (Or.inl ⟨by kernel_rfl, fun w hSw => by (try dsimp only at hSw); go_simp⟩) R ?_; try simp only [Act.put, List.getElem_toArray, List.getElem_cons_succ, List.getElem_cons_zero, List.setIfInBounds_toArray, List.set_cons_zero, List.set_cons_succ]
                    refine wpAnyF_take (i := 10) (v := .int .i64 (k : Int)) rfl (by kernel_rfl) (by kernel_rfl) (by kernel_rfl) (by kernel_rfl) (fun _ _ _ h => h) (Or.inl ⟨by kernel_rfl, fun w hSw => by (try dsimp only at hSw); go_simp⟩) R ?_; try simp only [Act.put, List.getElem_toArray, List.getElem_cons_succ, List.getElem_cons_zero, List.setIfInBounds_toArray, List.set_cons_zero, List.set_cons_succ]
                    refine wpAnyF_take (i := 11) (v := .slice (if k + mr + cr = k then some ⟨b3, o3, none⟩ else some ⟨b3, o3 + k, none⟩) mr (k + mr + cr - k)) rfl (by kernel_rfl) (by kernel_rfl) (by kernel_rfl) (by kernel_rfl) (fun _ _ _ h => h) (Or.inl ⟨by kernel_rfl, fun w hSw => by (try dsimp only at hSw); go_simp⟩) R ?_; try simp only [Act.put, List.getElem_toArray, List.getElem_cons_succ, List.getElem_cons_zero, List.setIfInBounds_toArray, List.set_cons_zero, List.set_cons_succ]
                    have hT0 : Sl W (some ⟨b3, o3, none⟩) k (u64s (M.take k)) := by rw [← u64s_take]; exact hSl5'h.out.take k (by omega)
                    have hD0 : SlK W 1 (if k + mr + cr = k then some ⟨b3, o3, none⟩ else some ⟨b3, o3 + k, none⟩) mr (u64s (M.drop k)) := drop_slk hSl5'h.out
                    generalize (if k + mr + cr = k then some (⟨b3, o3, none⟩ : Addr) else some ⟨b3, o3 + k, none⟩) = dp at hD0 ⊢
                    have hT0'h := Lib.hid hT0
                    have hD0'h := Lib.hid hD0
                    clear hT0 hD0
                    refine wpAnyF_two (i := 0) (j := 7) (by kernel_rfl) rfl rfl (fun K hK => ?_) (fun K hK => ?_)
                    ·
                      go_simp
                      have hA1 := (Below.refl V0.heap.size V0).alloc (Nat.le_refl _) (.cells #[] 22)
                      have hrA : (V0.alloc (.cells #[] 22)).ownsRow W.heap.size 22 1 (.slice (some ⟨V0.heap.size, 0, none⟩) 0 0) 0 [] := ownsRow_mono (own_lit' V0 22 0 #[] rfl (by decide)) R.size
                      have R1 := below_next R hA1
                      have hlo : V0.heap.size < (V0.alloc (.cells #[] 22)).heap.size := by simp
                      clear R hA1
                      refine hK.out _ _ (fun _ => R1) ?_; clear hK K; try simp only [Act.put, List.getElem_toArray, List.getElem_cons_succ, List.getElem_cons_zero, List.setIfInBounds_toArray, List.set_cons_zero, List.set_cons_succ]
                      generalize V0.heap.size = e0 at hrA hlo ⊢
                      generalize V0.alloc _ = V1 at hrA R1 hlo ⊢
                      refine wpAnyF_two (i := 4) (j := 7) (by kernel_rfl) rfl rfl (fun K hK => ?_) (fun K hK => ?_)
                      ·
                        refine step_append_slk _ rfl (.tmp 54) (.tmp 57) 24 rfl W.heap.size 22 i0 (.int .u64 0) 1 8 Tryd.underlying24 hi hz hs hby rfl (by decide) _ 0 [] rfl hrA (some ⟨b3, o3, none⟩) k (k + mr + cr) _ rfl (SlK.of_sl (hT0'h.out.below R1)) (u64s_one' _) (by have := hmb'h.out; unfold maxLen; omega) (by have := hmb'h.out; omega) R1.size ?_
                        intro v1 V2 hown2 hgrow2 hwh2
                        rw [Nat.zero_add, List.nil_append] at hown2
                        have R2 := R1.grown hgrow2 R1.size (fun q hq => (hrA.lt q hq).1)
                        clear hrA R1 hgrow2 hwh2
                        refine hK.out _ _ (fun _ => R2) ?_; clear hK K; try simp only [Act.put, List.getElem_toArray, List.getElem_cons_succ, List.getElem_cons_zero, List.setIfInBounds_toArray, List.set_cons_zero, List.set_cons_succ]
                        refine wpAnyF_one (i := 7) (by kernel_rfl) rfl (fun K hK => ?_); go_simp
                        have hA2 := (Below.refl V2.heap.size V2).alloc (Nat.le_refl _) (.cells #[.int .u64 (key : Int)] 22)
                        have hkey : SlK (V2.alloc (.cells #[.int .u64 (key : Int)] 22)) 1 (some ⟨V2.heap.size, 0, none⟩) 1 (u64s [key]) := SlK.of_blk (World.alloc_heap_new _ _) rfl (by decide)
                        have R3 := below_next R2 hA2
                        have hown3 := ownsRow_next hown2 hA2
                        clear R2 hown2 hA2
                        refine hK.out _ _ (fun _ => R3) ?_; clear hK K; try simp only [Act.put, List.getElem_toArray, List.getElem_cons_succ, List.getElem_cons_zero, List.setIfInBounds_toArray, List.set_cons_zero, List.set_cons_succ]
                        generalize V2.heap.size = kb at hkey ⊢
                        generalize V2.alloc _ = V3 at hkey hown3 R3 ⊢
                        refine wpAnyF_one (i := 8) (by kernel_rfl) rfl (fun K hK => ?_)
                        refine step_append_slk _ rfl (.tmp 58) (.tmp 61) 24 rfl W.heap.size 22 i0 (.int .u64 0) 1 8 Tryd.underlying24 hi hz hs hby rfl (by decide) _ k _ rfl hown3 (some ⟨kb, 0, none⟩) 1 1 _ rfl hkey (u64s_one' _) (by have := hmb'h.out; unfold maxLen; omega) (by have := hmb'h.out; omega) R3.size ?_
                        intro v2 V4 hown4 hgrow4 hwh4
                        have R4 := R3.grown hgrow4 R3.size (fun q hq => (hown3.lt q hq).1)
                        clear hown3 R3 hgrow4 hwh4 hkey
                        refine hK.out _ _ (fun _ => R4) ?_; clear hK K; try simp only [Act.put, List.getElem_toArray, List.getElem_cons_succ, List.getElem_cons_zero, List.setIfInBounds_toArray, List.set_cons_zero, List.set_cons_succ]
                        refine wpAnyF_one (i := 12) (by kernel_rfl) rfl (fun K hK => ?_)
                        refine step_append_slk _ rfl (.tmp 62) (.tmp 65) 24 rfl W.heap.size 22 i0 (.int .u64 0) 1 8 Tryd.underlying24 hi hz hs hby rfl (by decide) _ (k + 1) _ rfl hown4 (dp) mr (k + mr + cr - k) _ rfl (hD0'h.out.below R4) (u64s_one' _) (by have := hmb'h.out; unfold maxLen; omega) (by have := hmb'h.out; omega) R4.size ?_
                        intro v3 V5 hown5 hgrow5 hwh5
                        have R5 := R4.grown hgrow5 R4.size (fun q hq => (hown4.lt q hq).1)
                        obtain ⟨sv3, cv3, rfl⟩ := row_slice' hown5
                        clear hown4 R4 hgrow5 hwh5
                        refine hK.out _ _ (fun _ => R5) ?_; clear hK K; try simp only [Act.put, List.getElem_toArray, List.getElem_cons_succ, List.getElem_cons_zero, List.setIfInBounds_toArray, List.set_cons_zero, List.set_cons_succ]
                        refine wpAnyF_take (i := 13) (v := .slice sv3 (k + 1 + mr) cv3) rfl (by kernel_rfl) (by kernel_rfl) (by kernel_rfl) (by kernel_rfl) (fun _ _ _ h => h) (Or.inl ⟨by kernel_rfl, fun w hSw => by (try dsimp only at hSw); go_simp⟩) R5 ?_; try simp only [Act.put, List.getElem_toArray, List.getElem_cons_succ, List.getElem_cons_zero, List.setIfInBounds_toArray, List.set_cons_zero, List.set_cons_succ]
                        refine wpAnyF_done (by kernel_rfl) ?_ _
                        have hbl := below_next hBw'h.out R5
                        have hrf := hRW'h.out.below R5
                        have hsf := hSW'h.out.below R5
                        have hil : (ins key M).length = k + 1 + mr := by
                          rw [hins'h.out]
                          have := hm'h.out
                          simp only [List.length_append, List.length_take, List.length_cons, List.length_drop]
                          omega
                        have hiu : u64s (ins key M) = u64s (M.take k) ++ u64s [key] ++ u64s (M.drop k) := by
                          rw [hins'h.out]
                          unfold u64s
                          simp
                        have hown6 := ownsRow_mono hown5 (base' := w.heap.size) (by have := hBw'h.out.size; omega)
                        rw [← hiu] at hown6
                        have q1 : (i : Int) + 1 ≤ 100 := by have := hsh'h.out; have := hxl'h.out; omega
                        clear R5 hown5 hiu z1 j1 j2 j3
                        have hbl'h := Lib.hid hbl
                        have hrf'h := Lib.hid hrf
                        have hsf'h := Lib.hid hsf
                        have hil'h := Lib.hid hil
                        have hown6'h := Lib.hid hown6
                        clear hbl hrf hsf hil hown6
                        go_wp2
                        go_roundg (gi - 1)
                        case measure => have := hi''h.out; omega
                        case rel => exact ⟨i + 1, ins key M, by have := hi''h.out; omega, by go_num, hM2'h.out.symm, by rw [hil'h.out]; exact hown6'h.out, hbl'h.out, hrf'h.out, hsf'h.out⟩
                      ·
                        go_simp
                        have hA2 := (Below.refl V1.heap.size V1).alloc (Nat.le_refl _) (.cells #[.int .u64 (key : Int)] 22)
                        have hkb : (V1.alloc (.cells #[.int .u64 (key : Int)] 22)).heap[V1.heap.size]? = some (.cells #[.int .u64 (key : Int)] 22 (0, 0)) := World.alloc_heap_new _ _
                        have R2 := below_next R1 hA2
                        have hrB := ownsRow_next hrA hA2
                        have hne : e0 ≠ V1.heap.size := by omega
                        clear R1 hrA hA2 hlo
                        refine hK.out _ _ (fun _ => R2) ?_; clear hK K; try simp only [Act.put, List.getElem_toArray, List.getElem_cons_succ, List.getElem_cons_zero, List.setIfInBounds_toArray, List.set_cons_zero, List.set_cons_succ]
                        generalize V1.heap.size = kb at hkb hne ⊢
                        generalize V1.alloc _ = V2 at hkb hrB R2 ⊢
                        refine wpAnyF_one (i := 4) (by kernel_rfl) rfl (fun K hK => ?_)
                        refine step_append_slk _ rfl (.tmp 54) (.tmp 57) 24 rfl W.heap.size 22 i0 (.int .u64 0) 1 8 Tryd.underlying24 hi hz hs hby rfl (by decide) _ 0 [] rfl hrB (some ⟨b3, o3, none⟩) k (k + mr + cr) _ rfl (SlK.of_sl (hT0'h.out.below R2)) (u64s_one' _) (by have := hmb'h.out; unfold maxLen; omega) (by have := hmb'h.out; omega) R2.size ?_
                        intro v1 V3 hown3 hgrow3 hwh3
                        rw [Nat.zero_add, List.nil_append] at hown3
                        have R3 := R2.grown hgrow3 R2.size (fun q hq => (hrB.lt q hq).1)
                        have hkb3 := (hgrow3.block kb (lt_of_heap hkb) (fun e => hne (by injection e with e; exact e.symm))).trans hkb
                        have hkey : SlK V3 1 (some ⟨kb, 0, none⟩) 1 (u64s [key]) := SlK.of_blk hkb3 rfl (by decide)
                        clear hrB R2 hgrow3 hwh3 hkb hkb3 hne
                        refine hK.out _ _ (fun _ => R3) ?_; clear hK K; try simp only [Act.put, List.getElem_toArray, List.getElem_cons_succ, List.getElem_cons_zero, List.setIfInBounds_toArray, List.set_cons_zero, List.set_cons_succ]
                        refine wpAnyF_one (i := 8) (by kernel_rfl) rfl (fun K hK => ?_)
                        refine step_append_slk _ rfl (.tmp 58) (.tmp 61) 24 rfl W.heap.size 22 i0 (.int .u64 0) 1 8 Tryd.underlying24 hi hz hs hby rfl (by decide) _ k _ rfl hown3 (some ⟨kb, 0, none⟩) 1 1 _ rfl hkey (u64s_one' _) (by have := hmb'h.out; unfold maxLen; omega) (by have := hmb'h.out; omega) R3.size ?_
                        intro v2 V4 hown4 hgrow4 hwh4
                        have R4 := R3.grown hgrow4 R3.size (fun q hq => (hown3.lt q hq).1)
                        clear hown3 R3 hgrow4 hwh4 hkey
                        refine hK.out _ _ (fun _ => R4) ?_; clear hK K; try simp only [Act.put, List.getElem_toArray, List.getElem_cons_succ, List.getElem_cons_zero, List.setIfInBounds_toArray, List.set_cons_zero, List.set_cons_succ]
                        refine wpAnyF_one (i := 12) (by kernel_rfl) rfl (fun K hK => ?_)
                        refine step_append_slk _ rfl (.tmp 62) (.tmp 65) 24 rfl W.heap.size 22 i0 (.int .u64 0) 1 8 Tryd.underlying24 hi hz hs hby rfl (by decide) _ (k + 1) _ rfl hown4 (dp) mr (k + mr + cr - k) _ rfl (hD0'h.out.below R4) (u64s_one' _) (by have := hmb'h.out; unfold maxLen; omega) (by have := hmb'h.out; omega) R4.size ?_
                        intro v3 V5 hown5 hgrow5 hwh5
                        have R5 := R4.grown hgrow5 R4.size (fun q hq => (hown4.lt q hq).1)
                        obtain ⟨sv3, cv3, rfl⟩ := row_slice' hown5
                        clear hown4 R4 hgrow5 hwh5
                        refine hK.out _ _ (fun _ => R5) ?_; clear hK K; try simp only [Act.put, List.getElem_toArray, List.getElem_cons_succ, List.getElem_cons_zero, List.setIfInBounds_toArray, List.set_cons_zero, List.set_cons_succ]
                        refine wpAnyF_take (i := 13) (v := .slice sv3 (k + 1 + mr) cv3) rfl (by kernel_rfl) (by kernel_rfl) (by kernel_rfl) (by kernel_rfl) (fun _ _ _ h => h) (Or.inl ⟨by kernel_rfl, fun w hSw => by (try dsimp only at hSw); go_simp⟩) R5 ?_; try simp only [Act.put, List.getElem_toArray, List.getElem_cons_succ, List.getElem_cons_zero, List.setIfInBounds_toArray, List.set_cons_zero, List.set_cons_succ]
                        refine wpAnyF_done (by kernel_rfl) ?_ _
                        have hbl := below_next hBw'h.out R5
                        have hrf := hRW'h.out.below R5
                        have hsf := hSW'h.out.below R5
                        have hil : (ins key M).length = k + 1 + mr := by
                          rw [hins'h.out]
                          have := hm'h.out
                          simp only [List.length_append, List.length_take, List.length_cons, List.length_drop]
                          omega
                        have hiu : u64s (ins key M) = u64s (M.take k) ++ u64s [key] ++ u64s (M.drop k) := by
                          rw [hins'h.out]
                          unfold u64s
                          simp
                        have hown6 := ownsRow_mono hown5 (base' := w.heap.size) (by have := hBw'h.out.size; omega)
                        rw [← hiu] at hown6
                        have q1 : (i : Int) + 1 ≤ 100 := by have := hsh'h.out; have := hxl'h.out; omega
                        clear R5 hown5 hiu z1 j1 j2 j3
                        have hbl'h := Lib.hid hbl
                        have hrf'h := Lib.hid hrf
                        have hsf'h := Lib.hid hsf
                        have hil'h := Lib.hid hil
                        have hown6'h := Lib.hid hown6
                        clear hbl hrf hsf hil hown6
                        go_wp2
                        go_roundg (gi - 1)
                        case measure => have := hi''h.out; omega
                        case rel => exact ⟨i + 1, ins key M, by have := hi''h.out; omega, by go_num, hM2'h.out.symm, by rw [hil'h.out]; exact hown6'h.out, hbl'h.out, hrf'h.out, hsf'h.out⟩
                    ·
                      go_simp
                      have hA1 := (Below.refl V0.heap.size V0).alloc (Nat.le_refl _) (.cells #[.int .u64 (key : Int)] 22)
                      have hkb0 : (V0.alloc (.cells #[.int .u64 (key : Int)] 22)).heap[V0.heap.size]? = some (.cells #[.int .u64 (key : Int)] 22 (0, 0)) := World.alloc_heap_new _ _
                      have R1 := below_next R hA1
                      have hlo := lt_of_heap hkb0
                      clear R hA1
                      refine hK.out _ _ (fun _ => R1) ?_; clear hK K; try simp only [Act.put, List.getElem_toArray, List.getElem_cons_succ, List.getElem_cons_zero, List.setIfInBounds_toArray, List.set_cons_zero, List.set_cons_succ]
                      generalize V0.heap.size = kb at hkb0 hlo ⊢
                      generalize V0.alloc _ = V1 at hkb0 R1 hlo ⊢
                      refine wpAnyF_one (i := 0) (by kernel_rfl) rfl (fun K hK => ?_); go_simp
                      have hA2 := (Below.refl V1.heap.size V1).alloc (Nat.le_refl _) (.cells #[] 22)
                      have hrB : (V1.alloc (.cells #[] 22)).ownsRow W.heap.size 22 1 (.slice (some ⟨V1.heap.size, 0, none⟩) 0 0) 0 [] := ownsRow_mono (own_lit' V1 22 0 #[] rfl (by decide)) R1.size
                      have hkb := heap_below hA2 hkb0 hlo
                      have R2 := below_next R1 hA2
                      have hne : V1.heap.size ≠ kb := by omega
                      clear R1 hA2 hkb0 hlo
                      refine hK.out _ _ (fun _ => R2) ?_; clear hK K; try simp only [Act.put, List.getElem_toArray, List.getElem_cons_succ, List.getElem_cons_zero, List.setIfInBounds_toArray, List.set_cons_zero, List.set_cons_succ]
                      generalize V1.heap.size = e0 at hrB hne ⊢
                      generalize V1.alloc _ = V2 at hkb hrB R2 ⊢
                      refine wpAnyF_one (i := 4) (by kernel_rfl) rfl (fun K hK => ?_)
                      refine step_append_slk _ rfl (.tmp 54) (.tmp 57) 24 rfl W.heap.size 22 i0 (.int .u64 0) 1 8 Tryd.underlying24 hi hz hs hby rfl (by decide) _ 0 [] rfl hrB (some ⟨b3, o3, none⟩) k (k + mr + cr) _ rfl (SlK.of_sl (hT0'h.out.below R2)) (u64s_one' _) (by have := hmb'h.out; unfold maxLen; omega) (by have := hmb'h.out; omega) R2.size ?_
                      intro v1 V3 hown3 hgrow3 hwh3
                      rw [Nat.zero_add, List.nil_append] at hown3
                      have R3 := R2.grown hgrow3 R2.size (fun q hq => (hrB.lt q hq).1)
                      have hkb3 := (hgrow3.block kb (lt_of_heap hkb) (fun e => hne (by injection e with e; exact e.symm))).trans hkb
                      have hkey : SlK V3 1 (some ⟨kb, 0, none⟩) 1 (u64s [key]) := SlK.of_blk hkb3 rfl (by decide)
                      clear hrB R2 hgrow3 hwh3 hkb hkb3 hne
                      refine hK.out _ _ (fun _ => R3) ?_; clear hK K; try simp only [Act.put, List.getElem_toArray, List.getElem_cons_succ, List.getElem_cons_zero, List.setIfInBounds_toArray, List.set_cons_zero, List.set_cons_succ]
                      refine wpAnyF_one (i := 8) (by kernel_rfl) rfl (fun K hK => ?_)
                      refine step_append_slk _ rfl (.tmp 58) (.tmp 61) 24 rfl W.heap.size 22 i0 (.int .u64 0) 1 8 Tryd.underlying24 hi hz hs hby rfl (by decide) _ k _ rfl hown3 (some ⟨kb, 0, none⟩) 1 1 _ rfl hkey (u64s_one' _) (by have := hmb'h.out; unfold maxLen; omega) (by have := hmb'h.out; omega) R3.size ?_
                      intro v2 V4 hown4 hgrow4 hwh4
                      have R4 := R3.grown hgrow4 R3.size (fun q hq => (hown3.lt q hq).1)
                      clear hown3 R3 hgrow4 hwh4 hkey
                      refine hK.out _ _ (fun _ => R4) ?_; clear hK K; try simp only [Act.put, List.getElem_toArray, List.getElem_cons_succ, List.getElem_cons_zero, List.setIfInBounds_toArray, List.set_cons_zero, List.set_cons_succ]
                      refine wpAnyF_one (i := 12) (by kernel_rfl) rfl (fun K hK => ?_)
                      refine step_append_slk _ rfl (.tmp 62) (.tmp 65) 24 rfl W.heap.size 22 i0 (.int .u64 0) 1 8 Tryd.underlying24 hi hz hs hby rfl (by decide) _ (k + 1) _ rfl hown4 (dp) mr (k + mr + cr - k) _ rfl (hD0'h.out.below R4) (u64s_one' _) (by have := hmb'h.out; unfold maxLen; omega) (by have := hmb'h.out; omega) R4.size ?_
                      intro v3 V5 hown5 hgrow5 hwh5
                      have R5 := R4.grown hgrow5 R4.size (fun q hq => (hown4.lt q hq).1)
                      obtain ⟨sv3, cv3, rfl⟩ := row_slice' hown5
                      clear hown4 R4 hgrow5 hwh5
                      refine hK.out _ _ (fun _ => R5) ?_; clear hK K; try simp only [Act.put, List.getElem_toArray, List.getElem_cons_succ, List.getElem_cons_zero, List.setIfInBounds_toArray, List.set_cons_zero, List.set_cons_succ]
                      refine wpAnyF_take (i := 13) (v := .slice sv3 (k + 1 + mr) cv3) rfl (by kernel_rfl) (by kernel_rfl) (by kernel_rfl) (by kernel_rfl) (fun _ _ _ h => h) (Or.inl ⟨by kernel_rfl, fun w hSw => by (try dsimp only at hSw); go_simp⟩) R5 ?_; try simp only [Act.put, List.getElem_toArray, List.getElem_cons_succ, List.getElem_cons_zero, List.setIfInBounds_toArray, List.set_cons_zero, List.set_cons_succ]
                      refine wpAnyF_done (by kernel_rfl) ?_ _
                      have hbl := below_next hBw'h.out R5
                      have hrf := hRW'h.out.below R5
                      have hsf := hSW'h.out.below R5
                      have hil : (ins key M).length = k + 1 + mr := by
                        rw [hins'h.out]
                        have := hm'h.out
                        simp only [List.length_append, List.length_take, List.length_cons, List.length_drop]
                        omega
                      have hiu : u64s (ins key M) = u64s (M.take k) ++ u64s [key] ++ u64s (M.drop k) := by
                        rw [hins'h.out]
                        unfold u64s
                        simp
                      have hown6 := ownsRow_mono hown5 (base' := w.heap.size) (by have := hBw'h.out.size; omega)
                      rw [← hiu] at hown6
                      have q1 : (i : Int) + 1 ≤ 100 := by have := hsh'h.out; have := hxl'h.out; omega
                      clear R5 hown5 hiu z1 j1 j2 j3
                      have hbl'h := Lib.hid hbl
                      have hrf'h := Lib.hid hrf
                      have hsf'h := Lib.hid hsf
                      have hil'h := Lib.hid hil
                      have hown6'h := Lib.hid hown6
                      clear hbl hrf hsf hil hown6
                      go_wp2
                      go_roundg (gi - 1)
                      case measure => have := hi''h.out; omega
                      case rel => exact ⟨i + 1, ins key M, by have := hi''h.out; omega, by go_num, hM2'h.out.symm, by rw [hil'h.out]; exact hown6'h.out, hbl'h.out, hrf'h.out, hsf'h.out⟩
              · have i5 : ¬ (k : Int) < (m : Int) := by omega
                obtain rfl : k = m := by omega
                have hins := ins_at (x := key) M k (by have := hm'h.out; omega) hbel (fun h => by have := hm'h.out; omega)
                have i7 : ((k : Int) == (k : Int)) = true := by simp
                clear hbel
                cases sp2 with
                | none =>
                  obtain ⟨rfl, rfl⟩ : k = 0 ∧ cap2 = 0 := by
                    obtain ⟨_, _, e, h1, h2, -⟩ := row_form hrow4'h.out
                    injection e with e1 e2 e3
                    have := h2 e1.symm
                    omega
                  have hMn : M = [] := List.eq_nil_of_length_eq_zero (by have := hm'h.out; omega)
                  clear i5 i7
                  have hins'h := Lib.hid hins
                  have hMn'h := Lib.hid hMn
                  clear hins hMn
                  go_wp2_with fail
                  go_quiet (fail)
                  go_upto_region 13 with (go_quiet (fail))
                  generalize hWW : World.drewN _ _ = W
                  have hB5 : Below V.heap.size V W := by rw [← hWW]; exact ((below_drewN' _ _).trans (below_drewN' _ _)).trans (below_drewN' _ _)
                  clear hWW
                  have hBw := below_next hB4'h.out hB5
                  have hRW := hR3'h.out.below hB5
                  have hSW := hS3'h.out.below hB5
                  have z1 : W.cell? ⟨wr.heap.size, 1, none⟩ = some (.int .u64 (key : Int)) := (hB5.cell (p := ⟨wr.heap.size, 1, none⟩) (lt_of_heap hbV'h.out)).trans (a1 0)
                  have hz1l := lt_of_cell z1
                  clear a1 hB5
                  have hBw'h := Lib.hid hBw
                  have hRW'h := Lib.hid hRW
                  have hSW'h := Lib.hid hSW
                  have hz1l'h := Lib.hid hz1l
                  clear hBw hRW hSW hz1l
                  refine wp_region_heldF (fun w' => Below W.heap.size W w') 99 (by kernel_rfl) ?_
                  have R := (Below.refl W.heap.size W).drew
                  generalize W.drew = V0 at R ⊢
                  refine wpAnyF_take (i := 1) (v := .slice none 0 0) rfl (by kernel_rfl) (by kernel_rfl) (by kernel_rfl) (by kernel_rfl) (fun _ _ _ h => h) (Or.inl ⟨by kernel_rfl, fun w hSw => by (try dsimp only at hSw); go_simp⟩) R ?_; try simp only [Act.put, List.getElem_toArray, List.getElem_cons_succ, List.getElem_cons_zero, List.setIfInBounds_toArray, List.set_cons_zero, List.set_cons_succ]
                  refine wpAnyF_take (i := 2) (v := .int .i64 0) rfl (by kernel_rfl) (by kernel_rfl) (by kernel_rfl) (by kernel_rfl) (fun _ _ _ h => h) (Or.inl ⟨by kernel_rfl, fun w hSw => by (try dsimp only at hSw); go_simp⟩) R ?_; try simp only [Act.put, List.getElem_toArray, List.getElem_cons_succ, List.getElem_cons_zero, List.setIfInBounds_toArray, List.set_cons_zero, List.set_cons_succ]
                  refine wpAnyF_take (i := 3) (v := .slice none 0 0) rfl (by kernel_rfl) (by kernel_rfl) (by kernel_rfl) (by kernel_rfl) (fun _ _ _ h => h) (Or.inl ⟨by kernel_rfl, fun w hSw => by (try dsimp only at hSw); go_simp⟩) R ?_; try simp only [Act.put, List.getElem_toArray, List.getElem_cons_succ, List.getElem_cons_zero, List.setIfInBounds_toArray, List.set_cons_zero, List.set_cons_succ]
                  refine wpAnyF_take (i := 5) (v := .pointer (some ⟨wr.heap.size, 1, none⟩)) rfl (by kernel_rfl) (by kernel_rfl) (by kernel_rfl) (by kernel_rfl) (fun _ _ _ h => h) (Or.inl ⟨by kernel_rfl, fun w hSw => by (try dsimp only at hSw); go_simp⟩) R ?_; try simp only [Act.put, List.getElem_toArray, List.getElem_cons_succ, List.getElem_cons_zero, List.setIfInBounds_toArray, List.set_cons_zero, List.set_cons_succ]
                  refine wpAnyF_take (i := 6) (v := .int .u64 (key : Int)) rfl (by kernel_rfl) (by kernel_rfl) (by kernel_rfl) (by kernel_rfl) (fun _ _ _ h => h) (Or.inl ⟨by kernel_rfl, fun w hSw => by have hcc := (hSw.cell (p := ⟨wr.heap.size, 1, none⟩) hz1l'h.out).trans z1; (try dsimp only at hSw); go_simp⟩) R ?_; try simp only [Act.put, List.getElem_toArray, List.getElem_cons_succ, List.getElem_cons_zero, List.setIfInBounds_toArray, List.set_cons_zero, List.set_cons_succ]
                  refine wpAnyF_take (i := 9) (v := .slice none 0 0) rfl (by kernel_rfl) (by kernel_rfl) (by kernel_rfl) (by kernel_rfl) (fun _ _ _ h => h) (Or.inl ⟨by kernel_rfl, fun w hSw => by (try dsimp only at hSw); go_simp⟩) R ?_; try simp only [Act.put, List.getElem_toArray, List.getElem_cons_succ, List.getElem_cons_zero, List.setIfInBounds_toArray, List.set_cons_zero, List.set_cons_succ]
                  refine wpAnyF_take (i := 10) (v := .int .i64 0) rfl (by kernel_rfl) (by kernel_rfl) (by kernel_rfl) (by kernel_rfl) (fun _ _ _ h => h) (Or.inl ⟨by kernel_rfl, fun w hSw => by (try dsimp only at hSw); go_simp⟩) R ?_; try simp only [Act.put, List.getElem_toArray, List.getElem_cons_succ, List.getElem_cons_zero, List.setIfInBounds_toArray, List.set_cons_zero, List.set_cons_succ]
                  refine wpAnyF_take (i := 11) (v := .slice none 0 0) rfl (by kernel_rfl) (by kernel_rfl) (by kernel_rfl) (by kernel_rfl) (fun _ _ _ h => h) (Or.inl ⟨by kernel_rfl, fun w hSw => by (try dsimp only at hSw); go_simp⟩) R ?_; try simp only [Act.put, List.getElem_toArray, List.getElem_cons_succ, List.getElem_cons_zero, List.setIfInBounds_toArray, List.set_cons_zero, List.set_cons_succ]
                  have hT0 : Sl W none 0 (u64s (M.take 0)) := ⟨rfl, Nat.zero_le _, .inl rfl⟩
                  have hD0 : SlK W 1 none 0 (u64s (M.drop 0)) := by rw [hMn'h.out]; exact SlK.nil _ _ _
                  have j1 : True := trivial
                  have j2 : True := trivial
                  have j3 : True := trivial
                  have hT0'h := Lib.hid hT0
                  have hD0'h := Lib.hid hD0
                  clear hT0 hD0
                  refine wpAnyF_two (i := 0) (j := 7) (by kernel_rfl) rfl rfl (fun K hK => ?_) (fun K hK => ?_)
                  ·
                    go_simp
                    have hA1 := (Below.refl V0.heap.size V0).alloc (Nat.le_refl _) (.cells #[] 22)
                    have hrA : (V0.alloc (.cells #[] 22)).ownsRow W.heap.size 22 1 (.slice (some ⟨V0.heap.size, 0, none⟩) 0 0) 0 [] := ownsRow_mono (own_lit' V0 22 0 #[] rfl (by decide)) R.size
                    have R1 := below_next R hA1
                    have hlo : V0.heap.size < (V0.alloc (.cells #[] 22)).heap.size := by simp
                    clear R hA1
                    refine hK.out _ _ (fun _ => R1) ?_; clear hK K; try simp only [Act.put, List.getElem_toArray, List.getElem_cons_succ, List.getElem_cons_zero, List.setIfInBounds_toArray, List.set_cons_zero, List.set_cons_succ]
                    generalize V0.heap.size = e0 at hrA hlo ⊢
                    generalize V0.alloc _ = V1 at hrA R1 hlo ⊢
                    refine wpAnyF_two (i := 4) (j := 7) (by kernel_rfl) rfl rfl (fun K hK => ?_) (fun K hK => ?_)
                    ·
                      refine step_append_slk _ rfl (.tmp 54) (.tmp 57) 24 rfl W.heap.size 22 i0 (.int .u64 0) 1 8 Tryd.underlying24 hi hz hs hby rfl (by decide) _ 0 [] rfl hrA (none) 0 (0) _ rfl (SlK.of_sl (hT0'h.out.below R1)) (u64s_one' _) (by have := hmb'h.out; unfold maxLen; omega) (by have := hmb'h.out; omega) R1.size ?_
                      intro v1 V2 hown2 hgrow2 hwh2
                      rw [Nat.zero_add, List.nil_append] at hown2
                      have R2 := R1.grown hgrow2 R1.size (fun q hq => (hrA.lt q hq).1)
                      clear hrA R1 hgrow2 hwh2
                      refine hK.out _ _ (fun _ => R2) ?_; clear hK K; try simp only [Act.put, List.getElem_toArray, List.getElem_cons_succ, List.getElem_cons_zero, List.setIfInBounds_toArray, List.set_cons_zero, List.set_cons_succ]
                      refine wpAnyF_one (i := 7) (by kernel_rfl) rfl (fun K hK => ?_); go_simp
                      have hA2 := (Below.refl V2.heap.size V2).alloc (Nat.le_refl _) (.cells #[.int .u64 (key : Int)] 22)
                      have hkey : SlK (V2.alloc (.cells #[.int .u64 (key : Int)] 22)) 1 (some ⟨V2.heap.size, 0, none⟩) 1 (u64s [key]) := SlK.of_blk (World.alloc_heap_new _ _) rfl (by decide)
                      have R3 := below_next R2 hA2
                      have hown3 := ownsRow_next hown2 hA2
                      clear R2 hown2 hA2
                      refine hK.out _ _ (fun _ => R3) ?_; clear hK K; try simp only [Act.put, List.getElem_toArray, List.getElem_cons_succ, List.getElem_cons_zero, List.setIfInBounds_toArray, List.set_cons_zero, List.set_cons_succ]
                      generalize V2.heap.size = kb at hkey ⊢
                      generalize V2.alloc _ = V3 at hkey hown3 R3 ⊢
                      refine wpAnyF_one (i := 8) (by kernel_rfl) rfl (fun K hK => ?_)
                      refine step_append_slk _ rfl (.tmp 58) (.tmp 61) 24 rfl W.heap.size 22 i0 (.int .u64 0) 1 8 Tryd.underlying24 hi hz hs hby rfl (by decide) _ 0 _ rfl hown3 (some ⟨kb, 0, none⟩) 1 1 _ rfl hkey (u64s_one' _) (by have := hmb'h.out; unfold maxLen; omega) (by have := hmb'h.out; omega) R3.size ?_
                      intro v2 V4 hown4 hgrow4 hwh4
                      have R4 := R3.grown hgrow4 R3.size (fun q hq => (hown3.lt q hq).1)
                      clear hown3 R3 hgrow4 hwh4 hkey
                      refine hK.out _ _ (fun _ => R4) ?_; clear hK K; try simp only [Act.put, List.getElem_toArray, List.getElem_cons_succ, List.getElem_cons_zero, List.setIfInBounds_toArray, List.set_cons_zero, List.set_cons_succ]
                      refine wpAnyF_one (i := 12) (by kernel_rfl) rfl (fun K hK => ?_)
                      refine step_append_slk _ rfl (.tmp 62) (.tmp 65) 24 rfl W.heap.size 22 i0 (.int .u64 0) 1 8 Tryd.underlying24 hi hz hs hby rfl (by decide) _ (0 + 1) _ rfl hown4 (none) 0 (0) _ rfl (hD0'h.out.below R4) (u64s_one' _) (by have := hmb'h.out; unfold maxLen; omega) (by have := hmb'h.out; omega) R4.size ?_
                      intro v3 V5 hown5 hgrow5 hwh5
                      have R5 := R4.grown hgrow5 R4.size (fun q hq => (hown4.lt q hq).1)
                      obtain ⟨sv3, cv3, rfl⟩ := row_slice' hown5
                      clear hown4 R4 hgrow5 hwh5
                      refine hK.out _ _ (fun _ => R5) ?_; clear hK K; try simp only [Act.put, List.getElem_toArray, List.getElem_cons_succ, List.getElem_cons_zero, List.setIfInBounds_toArray, List.set_cons_zero, List.set_cons_succ]
                      refine wpAnyF_take (i := 13) (v := .slice sv3 (0 + 1 + 0) cv3) rfl (by kernel_rfl) (by kernel_rfl) (by kernel_rfl) (by kernel_rfl) (fun _ _ _ h => h) (Or.inl ⟨by kernel_rfl, fun w hSw => by (try dsimp only at hSw); go_simp⟩) R5 ?_; try simp only [Act.put, List.getElem_toArray, List.getElem_cons_succ, List.getElem_cons_zero, List.setIfInBounds_toArray, List.set_cons_zero, List.set_cons_succ]
                      refine wpAnyF_done (by kernel_rfl) ?_ _
                      have hbl := below_next hBw'h.out R5
                      have hrf := hRW'h.out.below R5
                      have hsf := hSW'h.out.below R5
                      have hil : (ins key M).length = 0 + 1 + 0 := by
                        rw [hins'h.out]
                        have := hm'h.out
                        simp only [List.length_append, List.length_take, List.length_cons, List.length_drop]
                        omega
                      have hiu : u64s (ins key M) = u64s (M.take 0) ++ u64s [key] ++ u64s (M.drop 0) := by
                        rw [hins'h.out]
                        unfold u64s
                        simp
                      have hown6 := ownsRow_mono hown5 (base' := w.heap.size) (by have := hBw'h.out.size; omega)
                      rw [← hiu] at hown6
                      have q1 : (i : Int) + 1 ≤ 100 := by have := hsh'h.out; have := hxl'h.out; omega
                      clear R5 hown5 hiu z1 j1 j2 j3
                      have hbl'h := Lib.hid hbl
                      have hrf'h := Lib.hid hrf
                      have hsf'h := Lib.hid hsf
                      have hil'h := Lib.hid hil
                      have hown6'h := Lib.hid hown6
                      clear hbl hrf hsf hil hown6
                      go_wp2
                      go_roundg (gi - 1)
                      case measure => have := hi''h.out; omega
                      case rel => exact ⟨i + 1, ins key M, by have := hi''h.out; omega, by go_num, hM2'h.out.symm, by rw [hil'h.out]; exact hown6'h.out, hbl'h.out, hrf'h.out, hsf'h.out⟩
                    ·
                      go_simp
                      have hA2 := (Below.refl V1.heap.size V1).alloc (Nat.le_refl _) (.cells #[.int .u64 (key : Int)] 22)
                      have hkb : (V1.alloc (.cells #[.int .u64 (key : Int)] 22)).heap[V1.heap.size]? = some (.cells #[.int .u64 (key : Int)] 22 (0, 0)) := World.alloc_heap_new _ _
                      have R2 := below_next R1 hA2
                      have hrB := ownsRow_next hrA hA2
                      have hne : e0 ≠ V1.heap.size := by omega
                      clear R1 hrA hA2 hlo
                      refine hK.out _ _ (fun _ => R2) ?_; clear hK K; try simp only [Act.put, List.getElem_toArray, List.getElem_cons_succ, List.getElem_cons_zero, List.setIfInBounds_toArray, List.set_cons_zero, List.set_cons_succ]
                      generalize V1.heap.size = kb at hkb hne ⊢
                      generalize V1.alloc _ = V2 at hkb hrB R2 ⊢
                      refine wpAnyF_one (i := 4) (by kernel_rfl) rfl (fun K hK => ?_)
                      refine step_append_slk _ rfl (.tmp 54) (.tmp 57) 24 rfl W.heap.size 22 i0 (.int .u64 0) 1 8 Tryd.underlying24 hi hz hs hby rfl (by decide) _ 0 [] rfl hrB (none) 0 (0) _ rfl (SlK.of_sl (hT0'h.out.below R2)) (u64s_one' _) (by have := hmb'h.out; unfold maxLen; omega) (by have := hmb'h.out; omega) R2.size ?_
                      intro v1 V3 hown3 hgrow3 hwh3
                      rw [Nat.zero_add, List.nil_append] at hown3
                      have R3 := R2.grown hgrow3 R2.size (fun q hq => (hrB.lt q hq).1)
                      have hkb3 := (hgrow3.block kb (lt_of_heap hkb) (fun e => hne (by injection e with e; exact e.symm))).trans hkb
                      have hkey : SlK V3 1 (some ⟨kb, 0, none⟩) 1 (u64s [key]) := SlK.of_blk hkb3 rfl (by decide)
                      clear hrB R2 hgrow3 hwh3 hkb hkb3 hne
                      refine hK.out _ _ (fun _ => R3) ?_; clear hK K; try simp only [Act.put, List.getElem_toArray, List.getElem_cons_succ, List.getElem_cons_zero, List.setIfInBounds_toArray, List.set_cons_zero, List.set_cons_succ]
                      refine wpAnyF_one (i := 8) (by kernel_rfl) rfl (fun K hK => ?_)
                      refine step_append_slk _ rfl (.tmp 58) (.tmp 61) 24 rfl W.heap.size 22 i0 (.int .u64 0) 1 8 Tryd.underlying24 hi hz hs hby rfl (by decide) _ 0 _ rfl hown3 (some ⟨kb, 0, none⟩) 1 1 _ rfl hkey (u64s_one' _) (by have := hmb'h.out; unfold maxLen; omega) (by have := hmb'h.out; omega) R3.size ?_
                      intro v2 V4 hown4 hgrow4 hwh4
                      have R4 := R3.grown hgrow4 R3.size (fun q hq => (hown3.lt q hq).1)
                      clear hown3 R3 hgrow4 hwh4 hkey
                      refine hK.out _ _ (fun _ => R4) ?_; clear hK K; try simp only [Act.put, List.getElem_toArray, List.getElem_cons_succ, List.getElem_cons_zero, List.setIfInBounds_toArray, List.set_cons_zero, List.set_cons_succ]
                      refine wpAnyF_one (i := 12) (by kernel_rfl) rfl (fun K hK => ?_)
                      refine step_append_slk _ rfl (.tmp 62) (.tmp 65) 24 rfl W.heap.size 22 i0 (.int .u64 0) 1 8 Tryd.underlying24 hi hz hs hby rfl (by decide) _ (0 + 1) _ rfl hown4 (none) 0 (0) _ rfl (hD0'h.out.below R4) (u64s_one' _) (by have := hmb'h.out; unfold maxLen; omega) (by have := hmb'h.out; omega) R4.size ?_
                      intro v3 V5 hown5 hgrow5 hwh5
                      have R5 := R4.grown hgrow5 R4.size (fun q hq => (hown4.lt q hq).1)
                      obtain ⟨sv3, cv3, rfl⟩ := row_slice' hown5
                      clear hown4 R4 hgrow5 hwh5
                      refine hK.out _ _ (fun _ => R5) ?_; clear hK K; try simp only [Act.put, List.getElem_toArray, List.getElem_cons_succ, List.getElem_cons_zero, List.setIfInBounds_toArray, List.set_cons_zero, List.set_cons_succ]
                      refine wpAnyF_take (i := 13) (v := .slice sv3 (0 + 1 + 0) cv3) rfl (by kernel_rfl) (by kernel_rfl) (by kernel_rfl) (by kernel_rfl) (fun _ _ _ h => h) (Or.inl ⟨by kernel_rfl, fun w hSw => by (try dsimp only at hSw); go_simp⟩) R5 ?_; try simp only [Act.put, List.getElem_toArray, List.getElem_cons_succ, List.getElem_cons_zero, List.setIfInBounds_toArray, List.set_cons_zero, List.set_cons_succ]
                      refine wpAnyF_done (by kernel_rfl) ?_ _
                      have hbl := below_next hBw'h.out R5
                      have hrf := hRW'h.out.below R5
                      have hsf := hSW'h.out.below R5
                      have hil : (ins key M).length = 0 + 1 + 0 := by
                        rw [hins'h.out]
                        have := hm'h.out
                        simp only [List.length_append, List.length_take, List.length_cons, List.length_drop]
                        omega
                      have hiu : u64s (ins key M) = u64s (M.take 0) ++ u64s [key] ++ u64s (M.drop 0) := by
                        rw [hins'h.out]
                        unfold u64s
                        simp
                      have hown6 := ownsRow_mono hown5 (base' := w.heap.size) (by have := hBw'h.out.size; omega)
                      rw [← hiu] at hown6
                      have q1 : (i : Int) + 1 ≤ 100 := by have := hsh'h.out; have := hxl'h.out; omega
                      clear R5 hown5 hiu z1 j1 j2 j3
                      have hbl'h := Lib.hid hbl
                      have hrf'h := Lib.hid hrf
                      have hsf'h := Lib.hid hsf
                      have hil'h := Lib.hid hil
                      have hown6'h := Lib.hid hown6
                      clear hbl hrf hsf hil hown6
                      go_wp2
                      go_roundg (gi - 1)
                      case measure => have := hi''h.out; omega
                      case rel => exact ⟨i + 1, ins key M, by have := hi''h.out; omega, by go_num, hM2'h.out.symm, by rw [hil'h.out]; exact hown6'h.out, hbl'h.out, hrf'h.out, hsf'h.out⟩
                  ·
                    go_simp
                    have hA1 := (Below.refl V0.heap.size V0).alloc (Nat.le_refl _) (.cells #[.int .u64 (key : Int)] 22)
                    have hkb0 : (V0.alloc (.cells #[.int .u64 (key : Int)] 22)).heap[V0.heap.size]? = some (.cells #[.int .u64 (key : Int)] 22 (0, 0)) := World.alloc_heap_new _ _
                    have R1 := below_next R hA1
                    have hlo := lt_of_heap hkb0
                    clear R hA1
                    refine hK.out _ _ (fun _ => R1) ?_; clear hK K; try simp only [Act.put, List.getElem_toArray, List.getElem_cons_succ, List.getElem_cons_zero, List.setIfInBounds_toArray, List.set_cons_zero, List.set_cons_succ]
                    generalize V0.heap.size = kb at hkb0 hlo ⊢
                    generalize V0.alloc _ = V1 at hkb0 R1 hlo ⊢
                    refine wpAnyF_one (i := 0) (by kernel_rfl) rfl (fun K hK => ?_); go_simp
                    have hA2 := (Below.refl V1.heap.size V1).alloc (Nat.le_refl _) (.cells #[] 22)
                    have hrB : (V1.alloc (.cells #[] 22)).ownsRow W.heap.size 22 1 (.slice (some ⟨V1.heap.size, 0, none⟩) 0 0) 0 [] := ownsRow_mono (own_lit' V1 22 0 #[] rfl (by decide)) R1.size
                    have hkb := heap_below hA2 hkb0 hlo
                    have R2 := below_next R1 hA2
                    have hne : V1.heap.size ≠ kb := by omega
                    clear R1 hA2 hkb0 hlo
                    refine hK.out _ _ (fun _ => R2) ?_; clear hK K; try simp only [Act.put, List.getElem_toArray, List.getElem_cons_succ, List.getElem_cons_zero, List.setIfInBounds_toArray, List.set_cons_zero, List.set_cons_succ]
                    generalize V1.heap.size = e0 at hrB hne ⊢
                    generalize V1.alloc _ = V2 at hkb hrB R2 ⊢
                    refine wpAnyF_one (i := 4) (by kernel_rfl) rfl (fun K hK => ?_)
                    refine step_append_slk _ rfl (.tmp 54) (.tmp 57) 24 rfl W.heap.size 22 i0 (.int .u64 0) 1 8 Tryd.underlying24 hi hz hs hby rfl (by decide) _ 0 [] rfl hrB (none) 0 (0) _ rfl (SlK.of_sl (hT0'h.out.below R2)) (u64s_one' _) (by have := hmb'h.out; unfold maxLen; omega) (by have := hmb'h.out; omega) R2.size ?_
                    intro v1 V3 hown3 hgrow3 hwh3
                    rw [Nat.zero_add, List.nil_append] at hown3
                    have R3 := R2.grown hgrow3 R2.size (fun q hq => (hrB.lt q hq).1)
                    have hkb3 := (hgrow3.block kb (lt_of_heap hkb) (fun e => hne (by injection e with e; exact e.symm))).trans hkb
                    have hkey : SlK V3 1 (some ⟨kb, 0, none⟩) 1 (u64s [key]) := SlK.of_blk hkb3 rfl (by decide)
                    clear hrB R2 hgrow3 hwh3 hkb hkb3 hne
                    refine hK.out _ _ (fun _ => R3) ?_; clear hK K; try simp only [Act.put, List.getElem_toArray, List.getElem_cons_succ, List.getElem_cons_zero, List.setIfInBounds_toArray, List.set_cons_zero, List.set_cons_succ]
                    refine wpAnyF_one (i := 8) (by kernel_rfl) rfl (fun K hK => ?_)
                    refine step_append_slk _ rfl (.tmp 58) (.tmp 61) 24 rfl W.heap.size 22 i0 (.int .u64 0) 1 8 Tryd.underlying24 hi hz hs hby rfl (by decide) _ 0 _ rfl hown3 (some ⟨kb, 0, none⟩) 1 1 _ rfl hkey (u64s_one' _) (by have := hmb'h.out; unfold maxLen; omega) (by have := hmb'h.out; omega) R3.size ?_
                    intro v2 V4 hown4 hgrow4 hwh4
                    have R4 := R3.grown hgrow4 R3.size (fun q hq => (hown3.lt q hq).1)
                    clear hown3 R3 hgrow4 hwh4 hkey
                    refine hK.out _ _ (fun _ => R4) ?_; clear hK K; try simp only [Act.put, List.getElem_toArray, List.getElem_cons_succ, List.getElem_cons_zero, List.setIfInBounds_toArray, List.set_cons_zero, List.set_cons_succ]
                    refine wpAnyF_one (i := 12) (by kernel_rfl) rfl (fun K hK => ?_)
                    refine step_append_slk _ rfl (.tmp 62) (.tmp 65) 24 rfl W.heap.size 22 i0 (.int .u64 0) 1 8 Tryd.underlying24 hi hz hs hby rfl (by decide) _ (0 + 1) _ rfl hown4 (none) 0 (0) _ rfl (hD0'h.out.below R4) (u64s_one' _) (by have := hmb'h.out; unfold maxLen; omega) (by have := hmb'h.out; omega) R4.size ?_
                    intro v3 V5 hown5 hgrow5 hwh5
                    have R5 := R4.grown hgrow5 R4.size (fun q hq => (hown4.lt q hq).1)
                    obtain ⟨sv3, cv3, rfl⟩ := row_slice' hown5
                    clear hown4 R4 hgrow5 hwh5
                    refine hK.out _ _ (fun _ => R5) ?_; clear hK K; try simp only [Act.put, List.getElem_toArray, List.getElem_cons_succ, List.getElem_cons_zero, List.setIfInBounds_toArray, List.set_cons_zero, List.set_cons_succ]
                    refine wpAnyF_take (i := 13) (v := .slice sv3 (0 + 1 + 0) cv3) rfl (by kernel_rfl) (by kernel_rfl) (by kernel_rfl) (by kernel_rfl) (fun _ _ _ h => h) (Or.inl ⟨by kernel_rfl, fun w hSw => by (try dsimp only at hSw); go_simp⟩) R5 ?_; try simp only [Act.put, List.getElem_toArray, List.getElem_cons_succ, List.getElem_cons_zero, List.setIfInBounds_toArray, List.set_cons_zero, List.set_cons_succ]
                    refine wpAnyF_done (by kernel_rfl) ?_ _
                    have hbl := below_next hBw'h.out R5
                    have hrf := hRW'h.out.below R5
                    have hsf := hSW'h.out.below R5
                    have hil : (ins key M).length = 0 + 1 + 0 := by
                      rw [hins'h.out]
                      have := hm'h.out
                      simp only [List.length_append, List.length_take, List.length_cons, List.length_drop]
                      omega
                    have hiu : u64s (ins key M) = u64s (M.take 0) ++ u64s [key] ++ u64s (M.drop 0) := by
                      rw [hins'h.out]
                      unfold u64s
                      simp
                    have hown6 := ownsRow_mono hown5 (base' := w.heap.size) (by have := hBw'h.out.size; omega)
                    rw [← hiu] at hown6
                    have q1 : (i : Int) + 1 ≤ 100 := by have := hsh'h.out; have := hxl'h.out; omega
                    clear R5 hown5 hiu z1 j1 j2 j3
                    have hbl'h := Lib.hid hbl
                    have hrf'h := Lib.hid hrf
                    have hsf'h := Lib.hid hsf
                    have hil'h := Lib.hid hil
                    have hown6'h := Lib.hid hown6
                    clear hbl hrf hsf hil hown6
                    go_wp2
                    go_roundg (gi - 1)
                    case measure => have := hi''h.out; omega
                    case rel => exact ⟨i + 1, ins key M, by have := hi''h.out; omega, by go_num, hM2'h.out.symm, by rw [hil'h.out]; exact hown6'h.out, hbl'h.out, hrf'h.out, hsf'h.out⟩
                | some A =>
                  obtain ⟨b3, o3, rfl⟩ : ∃ b3 o3, A = ⟨b3, o3, none⟩ := by
                    obtain ⟨_, _, e, -, -, h3⟩ := row_form hrow4'h.out
                    injection e with e1 e2 e3
                    have := (h3 A e1.symm).2.2
                    obtain ⟨b3, o3, s3⟩ := A
                    simp only at this
                    subst this
                    exact ⟨b3, o3, rfl⟩
                  have hins'h := Lib.hid hins
                  clear hins
                  go_wp2_with fail
                  go_quiet (fail)
                  go_upto_region 13 with (go_quiet (fail))
                  generalize hWW : World.drewN _ _ = W
                  have hB5 : Below V.heap.size V W := by rw [← hWW]; exact ((below_drewN' _ _).trans (below_drewN' _ _)).trans (below_drewN' _ _)
                  clear hWW
                  have e1' : True := trivial
                  have i6 : True := trivial
                  have i8 : True := trivial
                  have i9 : True := trivial
                  have hBw := below_next hB4'h.out hB5
                  have hRW := hR3'h.out.below hB5
                  have hSW := hS3'h.out.below hB5
                  have z1 : W.cell? ⟨wr.heap.size, 1, none⟩ = some (.int .u64 (key : Int)) := (hB5.cell (p := ⟨wr.heap.size, 1, none⟩) (lt_of_heap hbV'h.out)).trans (a1 0)
                  have hz1l := lt_of_cell z1
                  have hrow5 := ownsRow_next hrow4'h.out hB5
                  have hSl5 := Sl.of_row hrow5 (by have := hmb'h.out; unfold maxLen; omega)
                  have hcp : k ≤ cap2 := by obtain ⟨_, _, e, h1, -, -⟩ := row_form hrow5; injection e with _ _ e; omega
                  clear a1 e1' i5 i6 i7 i8 i9 hB5
                  obtain ⟨cr, hcr⟩ : ∃ cr, cap2 = k + cr := ⟨cap2 - k, by omega⟩
                  subst hcr
                  have j1 : ¬ ((k : Int) + (cr : Int) < (k : Int)) := by omega
                  have j2 : (k : Int) ≤ (k : Int) := by omega
                  have j3 : (0 : Int) ≤ (k : Int) := by omega
                  have hBw'h := Lib.hid hBw
                  have hRW'h := Lib.hid hRW
                  have hSW'h := Lib.hid hSW
                  have hrow5'h := Lib.hid hrow5
                  have hSl5'h := Lib.hid hSl5
                  have hz1l'h := Lib.hid hz1l
                  clear hBw hRW hSW hrow5 hSl5 hz1l
                  refine wp_region_heldF (fun w' => Below W.heap.size W w') 99 (by kernel_rfl) ?_
                  have R := (Below.refl W.heap.size W).drew
                  generalize W.drew = V0 at R ⊢
                  refine wpAnyF_take (i := 1) (v := .slice (some ⟨b3, o3, none⟩) (k) (k + cr)) rfl (by kernel_rfl) (by kernel_rfl) (by kernel_rfl) (by kernel_rfl) (fun _ _ _ h => h) (Or.inl ⟨by kernel_rfl, fun w hSw => by (try dsimp only at hSw); go_simp⟩) R ?_; try simp only [Act.put, List.getElem_toArray, List.getElem_cons_succ, List.getElem_cons_zero, List.setIfInBounds_toArray, List.set_cons_zero, List.set_cons_succ]
                  refine wpAnyF_take (i := 2) (v := .int .i64 (k : Int)) rfl (by kernel_rfl) (by kernel_rfl) (by kernel_rfl) (by kernel_rfl) (fun _ _ _ h => h) (Or.inl ⟨by kernel_rfl, fun w hSw => by (try dsimp only at hSw); go_simp⟩) R ?_; try simp only [Act.put, List.getElem_toArray, List.getElem_cons_succ, List.getElem_cons_zero, List.setIfInBounds_toArray, List.set_cons_zero, List.set_cons_succ]
                  refine wpAnyF_take (i := 3) (v := .slice (some ⟨b3, o3, none⟩) k (k + cr)) rfl (by kernel_rfl) (by kernel_rfl) (by kernel_rfl) (by kernel_rfl) (fun _ _ _ h => h) (Or.inl ⟨by kernel_rfl, fun w hSw => by (try dsimp only at hSw); go_simp⟩) R ?_; try simp only [Act.put, List.getElem_toArray, List.getElem_cons_succ, List.getElem_cons_zero, List.setIfInBounds_toArray, List.set_cons_zero, List.set_cons_succ]
                  refine wpAnyF_take (i := 5) (v := .pointer (some ⟨wr.heap.size, 1, none⟩)) rfl (by kernel_rfl) (by kernel_rfl) (by kernel_rfl) (by kernel_rfl) (fun _ _ _ h => h) (Or.inl ⟨by kernel_rfl, fun w hSw => by (try dsimp only at hSw); go_simp⟩) R ?_; try simp only [Act.put, List.getElem_toArray, List.getElem_cons_succ, List.getElem_cons_zero, List.setIfInBounds_toArray, List.set_cons_zero, List.set_cons_succ]
                  refine wpAnyF_take (i := 6) (v := .int .u64 (key : Int)) rfl (by kernel_rfl) (by kernel_rfl) (by kernel_rfl) (by kernel_rfl) (fun _ _ _ h => h) (Or.inl ⟨by kernel_rfl, fun w hSw => by have hcc := (hSw.cell (p := ⟨wr.heap.size, 1, none⟩) hz1l'h.out).trans z1; (try dsimp only at hSw); go_simp⟩) R ?_; try simp only [Act.put, List.getElem_toArray, List.getElem_cons_succ, List.getElem_cons_zero, List.setIfInBounds_toArray, List.set_cons_zero, List.set_cons_succ]
                  refine wpAnyF_take (i := 9) (v := .slice (some ⟨b3, o3, none⟩) (k) (k + cr)) rfl (by kernel_rfl) (by kernel_rfl) (by kernel_rfl) (by kernel_rfl) (fun _ _ _ h => h) (Or.inl ⟨by kernel_rfl, fun w hSw => by (try dsimp only at hSw); go_simp⟩) R ?_; try simp only [Act.put, List.getElem_toArray, List.getElem_cons_succ, List.getElem_cons_zero, List.setIfInBounds_toArray, List.set_cons_zero, List.set_cons_succ]
                  refine wpAnyF_take (i := 10) (v := .int .i64 (k : Int)) rfl (by kernel_rfl) (by kernel_rfl) (by kernel_rfl) (by kernel_rfl) (fun _ _ _ h => h) (Or.inl ⟨by kernel_rfl, fun w hSw => by (try dsimp only at hSw); go_simp⟩) R ?_; try simp only [Act.put, List.getElem_toArray, List.getElem_cons_succ, List.getElem_cons_zero, List.setIfInBounds_toArray, List.set_cons_zero, List.set_cons_succ]
                  refine wpAnyF_take (i := 11) (v := .slice (if k + cr = k then some ⟨b3, o3, none⟩ else some ⟨b3, o3 + k, none⟩) 0 (cr)) rfl (by kernel_rfl) (by kernel_rfl) (by kernel_rfl) (by kernel_rfl) (fun _ _ _ h => h) (Or.inl ⟨by kernel_rfl, fun w hSw => by (try dsimp only at hSw); go_simp⟩) R ?_; try simp only [Act.put, List.getElem_toArray, List.getElem_cons_succ, List.getElem_cons_zero, List.setIfInBounds_toArray, List.set_cons_zero, List.set_cons_succ]
                  have hT0 : Sl W (some ⟨b3, o3, none⟩) k (u64s (M.take k)) := by rw [← u64s_take]; exact hSl5'h.out.take k (by omega)
                  have hD0 : SlK W 1 (if k + cr = k then some ⟨b3, o3, none⟩ else some ⟨b3, o3 + k, none⟩) 0 (u64s (M.drop k)) := drop_slk hSl5'h.out
                  generalize (if k + cr = k then some (⟨b3, o3, none⟩ : Addr) else some ⟨b3, o3 + k, none⟩) = dp at hD0 ⊢
                  have hT0'h := Lib.hid hT0
                  have hD0'h := Lib.hid hD0
                  clear hT0 hD0
                  refine wpAnyF_two (i := 0) (j := 7) (by kernel_rfl) rfl rfl (fun K hK => ?_) (fun K hK => ?_)
                  ·
                    go_simp
                    have hA1 := (Below.refl V0.heap.size V0).alloc (Nat.le_refl _) (.cells #[] 22)
                    have hrA : (V0.alloc (.cells #[] 22)).ownsRow W.heap.size 22 1 (.slice (some ⟨V0.heap.size, 0, none⟩) 0 0) 0 [] := ownsRow_mono (own_lit' V0 22 0 #[] rfl (by decide)) R.size
                    have R1 := below_next R hA1
                    have hlo : V0.heap.size < (V0.alloc (.cells #[] 22)).heap.size := by simp
                    clear R hA1
                    refine hK.out _ _ (fun _ => R1) ?_; clear hK K; try simp only [Act.put, List.getElem_toArray, List.getElem_cons_succ, List.getElem_cons_zero, List.setIfInBounds_toArray, List.set_cons_zero, List.set_cons_succ]
                    generalize V0.heap.size = e0 at hrA hlo ⊢
                    generalize V0.alloc _ = V1 at hrA R1 hlo ⊢
                    refine wpAnyF_two (i := 4) (j := 7) (by kernel_rfl) rfl rfl (fun K hK => ?_) (fun K hK => ?_)
                    ·
                      refine step_append_slk _ rfl (.tmp 54) (.tmp 57) 24 rfl W.heap.size 22 i0 (.int .u64 0) 1 8 Tryd.underlying24 hi hz hs hby rfl (by decide) _ 0 [] rfl hrA (some ⟨b3, o3, none⟩) k (k + cr) _ rfl (SlK.of_sl (hT0'h.out.below R1)) (u64s_one' _) (by have := hmb'h.out; unfold maxLen; omega) (by have := hmb'h.out; omega) R1.size ?_
                      intro v1 V2 hown2 hgrow2 hwh2
                      rw [Nat.zero_add, List.nil_append] at hown2
                      have R2 := R1.grown hgrow2 R1.size (fun q hq => (hrA.lt q hq).1)
                      clear hrA R1 hgrow2 hwh2
                      refine hK.out _ _ (fun _ => R2) ?_; clear hK K; try simp only [Act.put, List.getElem_toArray, List.getElem_cons_succ, List.getElem_cons_zero, List.setIfInBounds_toArray, List.set_cons_zero, List.set_cons_succ]
                      refine wpAnyF_one (i := 7) (by kernel_rfl) rfl (fun K hK => ?_); go_simp
                      have hA2 := (Below.refl V2.heap.size V2).alloc (Nat.le_refl _) (.cells #[.int .u64 (key : Int)] 22)
                      have hkey : SlK (V2.alloc (.cells #[.int .u64 (key : Int)] 22)) 1 (some ⟨V2.heap.size, 0, none⟩) 1 (u64s [key]) := SlK.of_blk (World.alloc_heap_new _ _) rfl (by decide)
                      have R3 := below_next R2 hA2
                      have hown3 := ownsRow_next hown2 hA2
                      clear R2 hown2 hA2
                      refine hK.out _ _ (fun _ => R3) ?_; clear hK K; try simp only [Act.put, List.getElem_toArray, List.getElem_cons_succ, List.getElem_cons_zero, List.setIfInBounds_toArray, List.set_cons_zero, List.set_cons_succ]
                      generalize V2.heap.size = kb at hkey ⊢
                      generalize V2.alloc _ = V3 at hkey hown3 R3 ⊢
                      refine wpAnyF_one (i := 8) (by kernel_rfl) rfl (fun K hK => ?_)
                      refine step_append_slk _ rfl (.tmp 58) (.tmp 61) 24 rfl W.heap.size 22 i0 (.int .u64 0) 1 8 Tryd.underlying24 hi hz hs hby rfl (by decide) _ k _ rfl hown3 (some ⟨kb, 0, none⟩) 1 1 _ rfl hkey (u64s_one' _) (by have := hmb'h.out; unfold maxLen; omega) (by have := hmb'h.out; omega) R3.size ?_
                      intro v2 V4 hown4 hgrow4 hwh4
                      have R4 := R3.grown hgrow4 R3.size (fun q hq => (hown3.lt q hq).1)
                      clear hown3 R3 hgrow4 hwh4 hkey
                      refine hK.out _ _ (fun _ => R4) ?_; clear hK K; try simp only [Act.put, List.getElem_toArray, List.getElem_cons_succ, List.getElem_cons_zero, List.setIfInBounds_toArray, List.set_cons_zero, List.set_cons_succ]
                      refine wpAnyF_one (i := 12) (by kernel_rfl) rfl (fun K hK => ?_)
                      refine step_append_slk _ rfl (.tmp 62) (.tmp 65) 24 rfl W.heap.size 22 i0 (.int .u64 0) 1 8 Tryd.underlying24 hi hz hs hby rfl (by decide) _ (k + 1) _ rfl hown4 (dp) 0 (cr) _ rfl (hD0'h.out.below R4) (u64s_one' _) (by have := hmb'h.out; unfold maxLen; omega) (by have := hmb'h.out; omega) R4.size ?_
                      intro v3 V5 hown5 hgrow5 hwh5
                      have R5 := R4.grown hgrow5 R4.size (fun q hq => (hown4.lt q hq).1)
                      obtain ⟨sv3, cv3, rfl⟩ := row_slice' hown5
                      clear hown4 R4 hgrow5 hwh5
                      refine hK.out _ _ (fun _ => R5) ?_; clear hK K; try simp only [Act.put, List.getElem_toArray, List.getElem_cons_succ, List.getElem_cons_zero, List.setIfInBounds_toArray, List.set_cons_zero, List.set_cons_succ]
                      refine wpAnyF_take (i := 13) (v := .slice sv3 (k + 1 + 0) cv3) rfl (by kernel_rfl) (by kernel_rfl) (by kernel_rfl) (by kernel_rfl) (fun _ _ _ h => h) (Or.inl ⟨by kernel_rfl, fun w hSw => by (try dsimp only at hSw); go_simp⟩) R5 ?_; try simp only [Act.put, List.getElem_toArray, List.getElem_cons_succ, List.getElem_cons_zero, List.setIfInBounds_toArray, List.set_cons_zero, List.set_cons_succ]
                      refine wpAnyF_done (by kernel_rfl) ?_ _
                      have hbl := below_next hBw'h.out R5
                      have hrf := hRW'h.out.below R5
                      have hsf := hSW'h.out.below R5
                      have hil : (ins key M).length = k + 1 + 0 := by
                        rw [hins'h.out]
                        have := hm'h.out
                        simp only [List.length_append, List.length_take, List.length_cons, List.length_drop]
                        omega
                      have hiu : u64s (ins key M) = u64s (M.take k) ++ u64s [key] ++ u64s (M.drop k) := by
                        rw [hins'h.out]
                        unfold u64s
                        simp
                      have hown6 := ownsRow_mono hown5 (base' := w.heap.size) (by have := hBw'h.out.size; omega)
                      rw [← hiu] at hown6
                      have q1 : (i : Int) + 1 ≤ 100 := by have := hsh'h.out; have := hxl'h.out; omega
                      clear R5 hown5 hiu z1 j1 j2 j3
                      have hbl'h := Lib.hid hbl
                      have hrf'h := Lib.hid hrf
                      have hsf'h := Lib.hid hsf
                      have hil'h := Lib.hid hil
                      have hown6'h := Lib.hid hown6
                      clear hbl hrf hsf hil hown6
                      go_wp2
                      go_roundg (gi - 1)
                      case measure => have := hi''h.out; omega
                      case rel => exact ⟨i + 1, ins key M, by have := hi''h.out; omega, by go_num, hM2'h.out.symm, by rw [hil'h.out]; exact hown6'h.out, hbl'h.out, hrf'h.out, hsf'h.out⟩
                    ·
                      go_simp
                      have hA2 := (Below.refl V1.heap.size V1).alloc (Nat.le_refl _) (.cells #[.int .u64 (key : Int)] 22)
                      have hkb : (V1.alloc (.cells #[.int .u64 (key : Int)] 22)).heap[V1.heap.size]? = some (.cells #[.int .u64 (key : Int)] 22 (0, 0)) := World.alloc_heap_new _ _
                      have R2 := below_next R1 hA2
                      have hrB := ownsRow_next hrA hA2
                      have hne : e0 ≠ V1.heap.size := by omega
                      clear R1 hrA hA2 hlo
                      refine hK.out _ _ (fun _ => R2) ?_; clear hK K; try simp only [Act.put, List.getElem_toArray, List.getElem_cons_succ, List.getElem_cons_zero, List.setIfInBounds_toArray, List.set_cons_zero, List.set_cons_succ]
                      generalize V1.heap.size = kb at hkb hne ⊢
                      generalize V1.alloc _ = V2 at hkb hrB R2 ⊢
                      refine wpAnyF_one (i := 4) (by kernel_rfl) rfl (fun K hK => ?_)
                      refine step_append_slk _ rfl (.tmp 54) (.tmp 57) 24 rfl W.heap.size 22 i0 (.int .u64 0) 1 8 Tryd.underlying24 hi hz hs hby rfl (by decide) _ 0 [] rfl hrB (some ⟨b3, o3, none⟩) k (k + cr) _ rfl (SlK.of_sl (hT0'h.out.below R2)) (u64s_one' _) (by have := hmb'h.out; unfold maxLen; omega) (by have := hmb'h.out; omega) R2.size ?_
                      intro v1 V3 hown3 hgrow3 hwh3
                      rw [Nat.zero_add, List.nil_append] at hown3
                      have R3 := R2.grown hgrow3 R2.size (fun q hq => (hrB.lt q hq).1)
                      have hkb3 := (hgrow3.block kb (lt_of_heap hkb) (fun e => hne (by injection e with e; exact e.symm))).trans hkb
                      have hkey : SlK V3 1 (some ⟨kb, 0, none⟩) 1 (u64s [key]) := SlK.of_blk hkb3 rfl (by decide)
                      clear hrB R2 hgrow3 hwh3 hkb hkb3 hne
                      refine hK.out _ _ (fun _ => R3) ?_; clear hK K; try simp only [Act.put, List.getElem_toArray, List.getElem_cons_succ, List.getElem_cons_zero, List.setIfInBounds_toArray, List.set_cons_zero, List.set_cons_succ]
                      refine wpAnyF_one (i := 8) (by kernel_rfl) rfl (fun K hK => ?_)
                      refine step_append_slk _ rfl (.tmp 58) (.tmp 61) 24 rfl W.heap.size 22 i0 (.int .u64 0) 1 8 Tryd.underlying24 hi hz hs hby rfl (by decide) _ k _ rfl hown3 (some ⟨kb, 0, none⟩) 1 1 _ rfl hkey (u64s_one' _) (by have := hmb'h.out; unfold maxLen; omega) (by have := hmb'h.out; omega) R3.size ?_
                      intro v2 V4 hown4 hgrow4 hwh4
                      have R4 := R3.grown hgrow4 R3.size (fun q hq => (hown3.lt q hq).1)
                      clear hown3 R3 hgrow4 hwh4 hkey
                      refine hK.out _ _ (fun _ => R4) ?_; clear hK K; try simp only [Act.put, List.getElem_toArray, List.getElem_cons_succ, List.getElem_cons_zero, List.setIfInBounds_toArray, List.set_cons_zero, List.set_cons_succ]
                      refine wpAnyF_one (i := 12) (by kernel_rfl) rfl (fun K hK => ?_)
                      refine step_append_slk _ rfl (.tmp 62) (.tmp 65) 24 rfl W.heap.size 22 i0 (.int .u64 0) 1 8 Tryd.underlying24 hi hz hs hby rfl (by decide) _ (k + 1) _ rfl hown4 (dp) 0 (cr) _ rfl (hD0'h.out.below R4) (u64s_one' _) (by have := hmb'h.out; unfold maxLen; omega) (by have := hmb'h.out; omega) R4.size ?_
                      intro v3 V5 hown5 hgrow5 hwh5
                      have R5 := R4.grown hgrow5 R4.size (fun q hq => (hown4.lt q hq).1)
                      obtain ⟨sv3, cv3, rfl⟩ := row_slice' hown5
                      clear hown4 R4 hgrow5 hwh5
                      refine hK.out _ _ (fun _ => R5) ?_; clear hK K; try simp only [Act.put, List.getElem_toArray, List.getElem_cons_succ, List.getElem_cons_zero, List.setIfInBounds_toArray, List.set_cons_zero, List.set_cons_succ]
                      refine wpAnyF_take (i := 13) (v := .slice sv3 (k + 1 + 0) cv3) rfl (by kernel_rfl) (by kernel_rfl) (by kernel_rfl) (by kernel_rfl) (fun _ _ _ h => h) (Or.inl ⟨by kernel_rfl, fun w hSw => by (try dsimp only at hSw); go_simp⟩) R5 ?_; try simp only [Act.put, List.getElem_toArray, List.getElem_cons_succ, List.getElem_cons_zero, List.setIfInBounds_toArray, List.set_cons_zero, List.set_cons_succ]
                      refine wpAnyF_done (by kernel_rfl) ?_ _
                      have hbl := below_next hBw'h.out R5
                      have hrf := hRW'h.out.below R5
                      have hsf := hSW'h.out.below R5
                      have hil : (ins key M).length = k + 1 + 0 := by
                        rw [hins'h.out]
                        have := hm'h.out
                        simp only [List.length_append, List.length_take, List.length_cons, List.length_drop]
                        omega
                      have hiu : u64s (ins key M) = u64s (M.take k) ++ u64s [key] ++ u64s (M.drop k) := by
                        rw [hins'h.out]
                        unfold u64s
                        simp
                      have hown6 := ownsRow_mono hown5 (base' := w.heap.size) (by have := hBw'h.out.size; omega)
                      rw [← hiu] at hown6
                      have q1 : (i : Int) + 1 ≤ 100 := by have := hsh'h.out; have := hxl'h.out; omega
                      clear R5 hown5 hiu z1 j1 j2 j3
                      have hbl'h := Lib.hid hbl
                      have hrf'h := Lib.hid hrf
                      have hsf'h := Lib.hid hsf
                      have hil'h := Lib.hid hil
                      have hown6'h := Lib.hid hown6
                      clear hbl hrf hsf hil hown6
                      go_wp2
                      go_roundg (gi - 1)
                      case measure => have := hi''h.out; omega
                      case rel => exact ⟨i + 1, ins key M, by have := hi''h.out; omega, by go_num, hM2'h.out.symm, by rw [hil'h.out]; exact hown6'h.out, hbl'h.out, hrf'h.out, hsf'h.out⟩
                  ·
                    go_simp
                    have hA1 := (Below.refl V0.heap.size V0).alloc (Nat.le_refl _) (.cells #[.int .u64 (key : Int)] 22)
                    have hkb0 : (V0.alloc (.cells #[.int .u64 (key : Int)] 22)).heap[V0.heap.size]? = some (.cells #[.int .u64 (key : Int)] 22 (0, 0)) := World.alloc_heap_new _ _
                    have R1 := below_next R hA1
                    have hlo := lt_of_heap hkb0
                    clear R hA1
                    refine hK.out _ _ (fun _ => R1) ?_; clear hK K; try simp only [Act.put, List.getElem_toArray, List.getElem_cons_succ, List.getElem_cons_zero, List.setIfInBounds_toArray, List.set_cons_zero, List.set_cons_succ]
                    generalize V0.heap.size = kb at hkb0 hlo ⊢
                    generalize V0.alloc _ = V1 at hkb0 R1 hlo ⊢
                    refine wpAnyF_one (i := 0) (by kernel_rfl) rfl (fun K hK => ?_); go_simp
                    have hA2 := (Below.refl V1.heap.size V1).alloc (Nat.le_refl _) (.cells #[] 22)
                    have hrB : (V1.alloc (.cells #[] 22)).ownsRow W.heap.size 22 1 (.slice (some ⟨V1.heap.size, 0, none⟩) 0 0) 0 [] := ownsRow_mono (own_lit' V1 22 0 #[] rfl (by decide)) R1.size
                    have hkb := heap_below hA2 hkb0 hlo
                    have R2 := below_next R1 hA2
                    have hne : V1.heap.size ≠ kb := by omega
                    clear R1 hA2 hkb0 hlo
                    refine hK.out _ _ (fun _ => R2) ?_; clear hK K; try simp only [Act.put, List.getElem_toArray, List.getElem_cons_succ, List.getElem_cons_zero, List.setIfInBounds_toArray, List.set_cons_zero, List.set_cons_succ]
                    generalize V1.heap.size = e0 at hrB hne ⊢
                    generalize V1.alloc _ = V2 at hkb hrB R2 ⊢
                    refine wpAnyF_one (i := 4) (by kernel_rfl) rfl (fun K hK => ?_)
                    refine step_append_slk _ rfl (.tmp 54) (.tmp 57) 24 rfl W.heap.size 22 i0 (.int .u64 0) 1 8 Tryd.underlying24 hi hz hs hby rfl (by decide) _ 0 [] rfl hrB (some ⟨b3, o3, none⟩) k (k + cr) _ rfl (SlK.of_sl (hT0'h.out.below R2)) (u64s_one' _) (by have := hmb'h.out; unfold maxLen; omega) (by have := hmb'h.out; omega) R2.size ?_
                    intro v1 V3 hown3 hgrow3 hwh3
                    rw [Nat.zero_add, List.nil_append] at hown3
                    have R3 := R2.grown hgrow3 R2.size (fun q hq => (hrB.lt q hq).1)
                    have hkb3 := (hgrow3.block kb (lt_of_heap hkb) (fun e => hne (by injection e with e; exact e.symm))).trans hkb
                    have hkey : SlK V3 1 (some ⟨kb, 0, none⟩) 1 (u64s [key]) := SlK.of_blk hkb3 rfl (by decide)
                    clear hrB R2 hgrow3 hwh3 hkb hkb3 hne
                    refine hK.out _ _ (fun _ => R3) ?_; clear hK K; try simp only [Act.put, List.getElem_toArray, List.getElem_cons_succ, List.getElem_cons_zero, List.setIfInBounds_toArray, List.set_cons_zero, List.set_cons_succ]
                    refine wpAnyF_one (i := 8) (by kernel_rfl) rfl (fun K hK => ?_)
                    refine step_append_slk _ rfl (.tmp 58) (.tmp 61) 24 rfl W.heap.size 22 i0 (.int .u64 0) 1 8 Tryd.underlying24 hi hz hs hby rfl (by decide) _ k _ rfl hown3 (some ⟨kb, 0, none⟩) 1 1 _ rfl hkey (u64s_one' _) (by have := hmb'h.out; unfold maxLen; omega) (by have := hmb'h.out; omega) R3.size ?_
                    intro v2 V4 hown4 hgrow4 hwh4
                    have R4 := R3.grown hgrow4 R3.size (fun q hq => (hown3.lt q hq).1)
                    clear hown3 R3 hgrow4 hwh4 hkey
                    refine hK.out _ _ (fun _ => R4) ?_; clear hK K; try simp only [Act.put, List.getElem_toArray, List.getElem_cons_succ, List.getElem_cons_zero, List.setIfInBounds_toArray, List.set_cons_zero, List.set_cons_succ]
                    refine wpAnyF_one (i := 12) (by kernel_rfl) rfl (fun K hK => ?_)
                    refine step_append_slk _ rfl (.tmp 62) (.tmp 65) 24 rfl W.heap.size 22 i0 (.int .u64 0) 1 8 Tryd.underlying24 hi hz hs hby rfl (by decide) _ (k + 1) _ rfl hown4 (dp) 0 (cr) _ rfl (hD0'h.out.below R4) (u64s_one' _) (by have := hmb'h.out; unfold maxLen; omega) (by have := hmb'h.out; omega) R4.size ?_
                    intro v3 V5 hown5 hgrow5 hwh5
                    have R5 := R4.grown hgrow5 R4.size (fun q hq => (hown4.lt q hq).1)
                    obtain ⟨sv3, cv3, rfl⟩ := row_slice' hown5
                    clear hown4 R4 hgrow5 hwh5
                    refine hK.out _ _ (fun _ => R5) ?_; clear hK K; try simp only [Act.put, List.getElem_toArray, List.getElem_cons_succ, List.getElem_cons_zero, List.setIfInBounds_toArray, List.set_cons_zero, List.set_cons_succ]
                    refine wpAnyF_take (i := 13) (v := .slice sv3 (k + 1 + 0) cv3) rfl (by kernel_rfl) (by kernel_rfl) (by kernel_rfl) (by kernel_rfl) (fun _ _ _ h => h) (Or.inl ⟨by kernel_rfl, fun w hSw => by (try dsimp only at hSw); go_simp⟩) R5 ?_; try simp only [Act.put, List.getElem_toArray, List.getElem_cons_succ, List.getElem_cons_zero, List.setIfInBounds_toArray, List.set_cons_zero, List.set_cons_succ]
                    refine wpAnyF_done (by kernel_rfl) ?_ _
                    have hbl := below_next hBw'h.out R5
                    have hrf := hRW'h.out.below R5
                    have hsf := hSW'h.out.below R5
                    have hil : (ins key M).length = k + 1 + 0 := by
                      rw [hins'h.out]
                      have := hm'h.out
                      simp only [List.length_append, List.length_take, List.length_cons, List.length_drop]
                      omega
                    have hiu : u64s (ins key M) = u64s (M.take k) ++ u64s [key] ++ u64s (M.drop k) := by
                      rw [hins'h.out]
                      unfold u64s
                      simp
                    have hown6 := ownsRow_mono hown5 (base' := w.heap.size) (by have := hBw'h.out.size; omega)
                    rw [← hiu] at hown6
                    have q1 : (i : Int) + 1 ≤ 100 := by have := hsh'h.out; have := hxl'h.out; omega
                    clear R5 hown5 hiu z1 j1 j2 j3
                    have hbl'h := Lib.hid hbl
                    have hrf'h := Lib.hid hrf
                    have hsf'h := Lib.hid hsf
                    have hil'h := Lib.hid hil
                    have hown6'h := Lib.hid hown6
                    clear hbl hrf hsf hil hown6
                    go_wp2
                    go_roundg (gi - 1)
                    case measure => have := hi''h.out; omega
                    case rel => exact ⟨i + 1, ins key M, by have := hi''h.out; omega, by go_num, hM2'h.out.symm, by rw [hil'h.out]; exact hown6'h.out, hbl'h.out, hrf'h.out, hsf'h.out⟩
        · have i3 : ¬ (i : Int) < (xl : Int) := by omega
          obtain rfl : i = xl := by omega
          have hM2 : M = insK (keyL (catC rows (j + 1))) := by
            rw [hM, catC_succ hjl, ← hx'h.out, hxl'h.out]
            simp only [List.take_length]
          have q1 : (j : Int) + 1 ≤ 2000 := by have := hfew'h.out; omega
          clear hM hS2
          have hi''h := Lib.hid hi'
          have hM2'h := Lib.hid hM2
          have hrow2'h := Lib.hid hrow2
          have hB2'h := Lib.hid hB2
          have hR2'h := Lib.hid hR2
          clear hi' hM2 hrow2 hB2 hR2
          go_wp2
          go_roundg (go - 1)
          case measure => have := hj'h.out; omega
          case rel => exact ⟨j + 1, M, by have := hj'h.out; omega, by go_num, hM2'h.out, hrow2'h.out, hB2'h.out, hR2'h.out⟩
    · have i1 : ¬ (j : Int) < (ln : Int) := by omega
      obtain rfl : j = ln := by omega
      clear hRj hj
      have hrow'h := Lib.hid hrow
      have hB'h := Lib.hid hB
      have hL'h := Lib.hid hL
      clear hrow hB hL
      go_wp2
      go_ret
      exact ⟨sp, L.length, cap, rfl, hB'h.out, by rw [← hL'h.out]; exact hrow'h.out⟩
end Go.Proofs.YtifofdciablljaaDoor

/-
  The document's answer for layer 3: a script that is cut.
-/
set_option linter.unusedSimpArgs false
set_option linter.unusedVariables false
set_option maxRecDepth 100000
namespace Go.Proofs.YtifofdciablljaaDoor
open Go.RowKit

section
variable {W0 : World} {ob : Nat} {v0 v1 v2 lv pv : Value} {rows : List CRow} {ps : List Nat} {wr wr' : World}
theorem OutI.c4 (h : OutI W0 ob v0 v1 v2 lv pv rows ps wr) : wr.cell? ⟨ob, 4, none⟩ = some pv := blk_cell (i := 4) h.blk rfl
theorem OutI.kept4 (h : OutI W0 ob v0 v1 v2 lv pv rows ps wr) (hg : wr.grownBy wr' pv.ownBlock) : wr'.heap[ob]? = some (.cells #[v0, v1, v2, lv, pv] 26) :=
  (hg.block ob (lt_of_heap h.blk) (fun e => blk_apart h.picks h.blk (by decide) ob e.symm rfl)).trans h.blk
/-- A pick more, and the store of the row of picks. -/
theorem OutI.pick {x : Nat} {pv' : Value} (h : OutI W0 ob v0 v1 v2 lv pv rows ps wr) (ho : wr'.ownsRow W0.heap.size 22 1 pv' (ps.length + 1) (u64s ps ++ u64s [x])) (hg : wr.grownBy wr' pv.ownBlock) :
    OutI W0 ob v0 v1 v2 lv pv' rows (ps ++ [x]) (wr'.setCell ⟨ob, 4, none⟩ pv') := by
  have hb' := h.kept4 hg
  have z1 := fun (r : CRow) (hr : r ∈ rows) => ownsRow_other (h.inner r hr) hg (ownsRow_apart (h.inner r hr) h.picks (by decide))
  have z2 := ownsRow_other h.outer hg (ownsRow_apart h.outer h.picks (by decide))
  have hgT : wr'.grownBy (wr'.setCell ⟨ob, 4, none⟩ pv') (some ob) := ⟨rfl, rfl, rfl, by simp [World.setCell], fun k hk hne => Below.heap_setCell _ _ _ _ (fun e => hne (by rw [e]))⟩
  refine ⟨(h.low.grown hg h.low.size (fun k hk => (h.picks.lt k hk).1)).grown hgT ?_ (fun k hk => by injection hk with hk; subst hk; exact h.hob), ?_, h.hob, ?_, fun r hr => ?_, h.len, ?_⟩
  · exact Nat.le_trans h.low.size hg.size
  · exact blk_set (i := 4) _ hb'
  · exact ownsRow_other z2 hgT (blk_apart z2 hb' (by decide))
  · exact ownsRow_other (z1 r hr) hgT (blk_apart (z1 r hr) hb' (by decide))
  · have : wr'.ownsRow W0.heap.size 22 1 pv' (ps ++ [x]).length (u64s (ps ++ [x])) := by rw [List.length_append, ← u64s_app']; exact ho
    exact ownsRow_other this hgT (blk_apart this hb' (by decide))
where u64s_app' {a b : List Nat} : u64s a ++ u64s b = u64s (a ++ b) := by unfold u64s; rw [List.map_append]
end
theorem take_to (ps : List Nat) (j : Nat) (p : Int) (hj : j < ps.length) : (ps.take (j + 1)).take p.toNat = if (j : Int) < p then (ps.take j).take p.toNat ++ [nthU ps j] else (ps.take j).take p.toNat := by
  rw [List.take_take, List.take_take]
  split
  · rename_i h
    have e1 : min p.toNat (j + 1) = j + 1 := by omega
    have e2 : min p.toNat j = j := by omega
    rw [e1, e2, List.take_succ_eq_append_getElem hj, nthU_eq hj]
  · rename_i h
    have e1 : min p.toNat (j + 1) = min p.toNat j := by omega
    rw [e1]
theorem own_lit0 (W : World) (t : TypeId) (k : Nat) : (W.alloc (.cells #[] t)).ownsRow W.heap.size t k (.slice (some ⟨W.heap.size, 0, none⟩) 0 0) 0 [] :=
  ⟨by simp, .inr ⟨W.heap.size, 0, #[], rfl, Nat.le_refl _, World.alloc_heap_new _ _, Nat.le_refl _, Nat.zero_le _, by simp, by simp⟩⟩
theorem contains_next {G : List Int} {k : Nat} {x : Int} (hx : G[k]? = some x) (z : Int) : (G.take (k + 1)).contains z = ((G.take k).contains z || (x == z)) := by
  have hk : k < G.length := (List.getElem?_eq_some_iff.1 hx).1
  have e : G[k] = x := by rw [List.getElem?_eq_getElem hk] at hx; injection hx
  rw [List.take_succ_eq_append_getElem hk, e, Bool.eq_iff_iff, Bool.or_eq_true, List.contains_iff_mem, List.contains_iff_mem, List.mem_append, List.mem_singleton, beq_iff_eq]
  exact or_congr Iff.rfl eq_comm
set_option maxHeartbeats 8000000 in
theorem dcut_any (s : Sm) (picks : Int) (gp : Option Addr) (gn gc : Nat) (G : List Int) (w : World) (h : SmIn w s) (hG : Sl w gp gn (G.map (Value.int .i64))) :
    Calls Tryd.prog 31 #[.agg (smA s), .int .i64 picks, .slice gp gn gc] w fun e w' => CutAt w (cutS s.scr picks G) e w' := by
  obtain ⟨g, sb, seed, lp, ln, lc, rows, pp, pn, pc, ps⟩ := s
  have hg := h.g
  have hsb := h.sl
  have hseed := h.seed
  have hfew := h.rows.few
  have hmany := h.many
  have hrl : ln = rows.length := h.rows.len
  have hpl : pn = ps.length := by have := h.picks.1; rw [u64s_length] at this; exact this
  have hk64 : W64 ((ps.take pn).take picks.toNat) := fun k hk => h.w64 k (List.mem_of_mem_take (List.mem_of_mem_take hk))
  have hgl : gn = G.length := by have := hG.1; simpa using this
  have hgm := hG.2.1
  simp only at hg hsb hseed hfew hmany
  unfold maxLen at hgm
  obtain ⟨W0, hW0⟩ : ∃ W0, W0 = (w.alloc (.cells #[.int .i64 g, .int .i64 sb, .int .u64 (seed : Int), .slice lp ln lc, .slice pp pn pc] 26)).alloc (.cells zeroSm 26) := ⟨_, rfl⟩
  have hB00 : Below w.heap.size w W0 := by rw [hW0]; exact ((Below.refl _ _).alloc (Nat.le_refl _) _).alloc (by simp) _
  have hbx : W0.heap[w.heap.size]? = some (.cells #[.int .i64 g, .int .i64 sb, .int .u64 (seed : Int), .slice lp ln lc, .slice pp pn pc] 26 (0, 0)) := by rw [hW0]; exact (Below.heap_alloc _ _ _ (by simp)).trans (World.alloc_heap_new _ _)
  have hbr : W0.heap[w.heap.size + 1]? = some (.cells zeroSm 26) := by rw [hW0]; exact heap_alloc2_new w _ _
  have hW0s : W0.heap.size = w.heap.size + 2 := by rw [hW0]; simp
  have hA0 := h.below hB00
  have hG0 := hG.below hB00
  obtain ⟨i0, hi, hz, hs, hby⟩ := info_parts info_clone64
  obtain ⟨x0, x1, x2, x3, x4⟩ := cells5' hbx
  have hI0 : OutI W0 W0.heap.size (.int .i64 g) (.int .i64 sb) (.int .u64 (seed : Int)) (.slice none 0 0) (.slice none 0 0) [] [] (W0.alloc (.cells #[.int .i64 g, .int .i64 sb, .int .u64 (seed : Int), .slice none 0 0, .slice none 0 0] 26)) :=
    ⟨(Below.refl _ _).alloc (Nat.le_refl _) _, World.alloc_heap_new _ _, Nat.le_refl _, ⟨rfl, .inl ⟨rfl, rfl⟩⟩, fun r hr => by simp at hr, fun r hr => by simp at hr, ⟨rfl, .inl ⟨rfl, rfl⟩⟩⟩
  unfold smA
  simp only
  clear hG h
  have hg'h := Lib.hid hg
  have hsb'h := Lib.hid hsb
  have hseed'h := Lib.hid hseed
  have hfew'h := Lib.hid hfew
  have hmany'h := Lib.hid hmany
  have hrl'h := Lib.hid hrl
  have hpl'h := Lib.hid hpl
  have hk64'h := Lib.hid hk64
  have hB00'h := Lib.hid hB00
  have hbx'h := Lib.hid hbx
  have hbr'h := Lib.hid hbr
  have hW0s'h := Lib.hid hW0s
  have hA0'h := Lib.hid hA0
  have hG0'h := Lib.hid hG0
  have hI0'h := Lib.hid hI0
  have hgl'h := Lib.hid hgl
  have hgm'h := Lib.hid hgm
  clear hg hsb hseed hfew hmany hrl hpl hk64 hB00 hbx hbr hW0s hA0 hG0 hI0 hgl hgm
  go_enter Tryd.func31, Tryd.ntmps31
  go_upto_region 1 with fail
  change Code.wp _ _ _ _ ((w.alloc (.cells #[.int .i64 g, .int .i64 sb, .int .u64 (seed : Int), .slice lp ln lc, .slice pp pn pc] 26)).alloc (.cells zeroSm 26))
  rw [← hW0]
  clear hW0
  go_upto_region 2 with fail
  have hI1 := hI0'h.out
  obtain ⟨ob, hob⟩ : ∃ ob, ob = W0.heap.size := ⟨_, rfl⟩
  rw [← hob] at hI1 ⊢
  generalize W0.alloc _ = W1 at hI1 ⊢
  obtain ⟨-, -, -, -, x4⟩ := cells5' (heap_below hI1.low hbx'h.out (lt_of_heap hbx'h.out))
  clear x0 x1 x2 x3 hI0'h hob
  have hI1'h := Lib.hid hI1
  clear hI1
  go_wp2
  go_loopg [25] pn (fun q ix wr => ∃ (j : Nat) (pv : Value), j + q = pn ∧ ix = .int .i64 (j : Int) ∧ OutI W0 ob (.int .i64 g) (.int .i64 sb) (.int .u64 (seed : Int)) (.slice none 0 0) pv [] ((ps.take j).take picks.toNat) wr)
  case atStart => exact ⟨0, _, by omega, rfl, by rw [List.take_zero, List.take_nil]; exact hI1'h.out⟩
  case round =>
    obtain ⟨j, pv, hj, rfl, hI⟩ := hrel
    clear x4 hI1'h
    obtain ⟨cp, cc, rfl⟩ := row_slice' hI.picks
    by_cases hlt : j < pn
    · have i1 : (j : Int) < (pn : Int) := by omega
      have i2 : (0 : Int) ≤ (j : Int) := by omega
      have i3 : (j : Int) + 1 ≤ 9223372036854775807 := by have := hmany'h.out; omega
      have hjl : j < ps.length := by have := hpl'h.out; omega
      have hP := hA0'h.out.picks.below hI.low
      obtain ⟨b, o, hsp, -⟩ := hP.some' (by simp only; omega)
      simp only at hsp hP
      subst hsp
      have c1 := nthU_cell hP hjl
      have htk := take_to ps j picks hjl
      obtain ⟨x, hx⟩ : ∃ x, x = nthU ps j := ⟨_, rfl⟩
      rw [← hx] at c1 htk
      clear hx hP
      obtain ⟨L, hL⟩ : ∃ L, L = (ps.take j).take picks.toNat := ⟨_, rfl⟩
      rw [← hL] at hI htk
      have hLl : L.length ≤ 4200 := by
        rw [hL, List.length_take, List.length_take]
        have := hmany'h.out
        omega
      clear hL
      by_cases hpk : (j : Int) < picks
      · rw [if_pos hpk] at htk
        have hB2 := (Below.refl wr.heap.size wr).alloc (Nat.le_refl _) (.cells #[.int .u64 (x : Int)] 22)
        have hI2 := hI.next hB2
        have hsl : SlK (wr.alloc (.cells #[.int .u64 (x : Int)] 22)) 1 (some ⟨wr.heap.size, 0, none⟩) 1 (u64s [x]) := SlK.of_blk (World.alloc_heap_new _ _) rfl (by decide)
        have y4 := hI.c4
        clear hI hB2
        have hI2'h := Lib.hid hI2
        have hsl'h := Lib.hid hsl
        have hj'h := Lib.hid hj
        have htk'h := Lib.hid htk
        have hLl'h := Lib.hid hLl
        clear hI2 hsl hj htk hLl
        go_wp2_with (at_builtin; refine wpList_append_slk _ rfl (.tmp 34) (.tmp 36) 24 rfl W0.heap.size 22 i0 (.int .u64 0) 1 8 Tryd.underlying24 hi hz hs hby rfl (by decide) (.slice cp L.length cc) L.length (u64s L) rfl hI2'h.out.picks _ 1 1 _ rfl hsl'h.out (u64s_one' _) (by have := hLl'h.out; unfold maxLen; omega) (by have := hLl'h.out; omega) hI2'h.out.low.size ?_; intro v' V3 hown3 hgrow3 hwh3; have hI4 := hI2'h.out.pick (x := x) hown3 hgrow3; have hb3 := hI2'h.out.kept4 hgrow3; obtain ⟨sp', cp', hv', -, -, -⟩ := row_form hown3; subst hv'; have y9 : V3.cell? ⟨ob, 4, none⟩ = some (.slice cp L.length cc) := blk_cell (i := 4) hb3 rfl; have f9 := blk_free 4 hb3; clear hgrow3 hwh3 hown3 hb3; have hI4'h := Lib.hid hI4; clear hI4)
        go_roundg (gk - 1)
        case measure => have := hj'h.out; omega
        case rel => exact ⟨j + 1, _, by have := hj'h.out; omega, by go_num, by rw [htk'h.out]; exact hI4'h.out⟩
      · rw [if_neg hpk] at htk
        have hI'h := Lib.hid hI
        have hj'h := Lib.hid hj
        have htk'h := Lib.hid htk
        have hLl'h := Lib.hid hLl
        clear hI hj htk hLl
        go_wp2
        go_roundg (gk - 1)
        case measure => have := hj'h.out; omega
        case rel => exact ⟨j + 1, _, by have := hj'h.out; omega, by go_num, by rw [htk'h.out]; exact hI'h.out⟩
    · have i1 : ¬ (j : Int) < (pn : Int) := by omega
      obtain rfl : j = pn := by omega
      obtain ⟨P, hP⟩ : ∃ P, P = (ps.take j).take picks.toNat := ⟨_, rfl⟩
      rw [← hP] at hI
      have hPS : P = ps.take picks.toNat := by rw [hP, hpl'h.out, List.take_length]
      have hk64 := hk64'h.out
      rw [← hP] at hk64
      have hPl : P.length ≤ 4200 := by
        rw [hP, List.length_take, List.length_take]
        have := hmany'h.out
        omega
      clear hP hk64'h hj
      have x3 : wr.cell? ⟨w.heap.size, 3, none⟩ = some (.slice lp ln lc) := blk_cell (i := 3) (heap_below hI.low hbx'h.out (lt_of_heap hbx'h.out)) rfl
      obtain ⟨i9, hi9, hz9, hs9, hby9⟩ := info_parts info_lst
      obtain ⟨i8, hi8, hz8, hs8, hby8⟩ := info_calp
      have hI'h := Lib.hid hI
      have hPS'h := Lib.hid hPS
      have hk64'h := Lib.hid hk64
      have hPl'h := Lib.hid hPl
      clear hI hPS hk64 hPl
      go_wp2
      go_loopg [43] ln (fun q ix wr => ∃ (j : Nat) (outs : List CRow) (lv : Value), j + q = ln ∧ ix = .int .i64 (j : Int) ∧ outs.length = j ∧ outs.map (·.cs) = (List.range j).map (fun (i : Nat) => if G.contains (i : Int) then (nthR rows i).cs else []) ∧ OutI W0 ob (.int .i64 g) (.int .i64 sb) (.int .u64 (seed : Int)) lv (.slice cp P.length cc) outs P wr)
      case atStart => exact ⟨0, [], _, by omega, rfl, rfl, rfl, hI'h.out⟩
      case round =>
        obtain ⟨j2, outs, lv, hj, rfl, hol, hom, hI⟩ := hrel
        clear hI'h x3 i1
        obtain ⟨gj, rfl⟩ : ∃ gj : Nat, gj = gk := ⟨_, rfl⟩
        obtain ⟨op, oc, rfl⟩ := row_slice' hI.outer
        by_cases hlt : j2 < ln
        · have i1 : (j2 : Int) < (ln : Int) := by omega
          have i2 : (0 : Int) ≤ (j2 : Int) := by omega
          have i3 : (j2 : Int) < 9223372036854775807 := by have := hfew'h.out; omega
          have hA := hA0'h.out.below hI.low
          obtain ⟨b, o, hsp, hc⟩ := hA.rows.sl.some' (by simp only; omega)
          simp only at hsp
          have hjl : j2 < rows.length := by have := hrl'h.out; omega
          obtain ⟨r, hr⟩ : ∃ r, r = nthR rows j2 := ⟨_, rfl⟩
          have hmem : r ∈ rows := by rw [hr]; exact nthR_mem hjl
          have c1 : wr.cell? ⟨b, o + j2, none⟩ = some (.slice r.sp r.len r.cap) := by
            have := hc j2 (crV r) (by rw [List.getElem?_map, nthR_at hjl, hr]; rfl)
            exact this
          have hE := hA.rows.each r hmem
          have hO := hA.rows.ok r hmem
          have hS := hA.rows.short r hmem
          have hGr := hG0'h.out.below hI.low
          obtain ⟨rs, rl, rc, rws⟩ := r
          simp only at c1 hE hO hS
          have hrl4 : rl = rws.length := slk_len calL_len (by decide) hE
          have hrws : (nthR rows j2).cs = rws := by rw [← hr]
          clear hr hc hmem hA
          rw [hsp]
          have hgl := hgl'h.out
          have hj'h := Lib.hid hj
          have hol'h := Lib.hid hol
          have hom'h := Lib.hid hom
          have hI'h := Lib.hid hI
          have hE'h := Lib.hid hE
          have hO'h := Lib.hid hO
          have hS'h := Lib.hid hS
          have hrl4'h := Lib.hid hrl4
          have hrws'h := Lib.hid hrws
          have hGr'h := Lib.hid hGr
          have hgl'h := Lib.hid hgl
          clear hj hol hom hI hE hO hS hrl4 hrws hGr hgl
          go_wp2
          go_loopg [50, 12] gn (fun q kx nv w2 => ∃ k : Nat, k + q = gn ∧ kx = .int .i64 (k : Int) ∧ nv = .bool ((G.take k).contains (j2 : Int)) ∧ w2 = wr)
          case atStart => exact ⟨0, by omega, rfl, rfl, rfl⟩
          case round =>
            obtain ⟨k, hk, rfl, rfl, rfl⟩ := hrel
            clear c1
            by_cases hlk : k < gn
            · have i4 : (k : Int) < (gn : Int) := by omega
              have i5 : (0 : Int) ≤ (k : Int) := by omega
              have i6 : (k : Int) + 1 ≤ 9223372036854775807 := by have := hgm'h.out; omega
              have hkl : k < G.length := by have := hgl'h.out; omega
              obtain ⟨bg, og, hgp, hcg⟩ := hGr'h.out.some' (by omega)
              obtain ⟨x, hx⟩ : ∃ x, G[k]? = some x := ⟨_, List.getElem?_eq_getElem hkl⟩
              have c2 : wr.cell? ⟨bg, og + k, none⟩ = some (.int .i64 x) := hcg k _ (by rw [List.getElem?_map, hx]; rfl)
              have hnx := contains_next hx (j2 : Int)
              clear hcg hx
              obtain ⟨nb, hnb⟩ : ∃ nb, nb = (G.take k).contains (j2 : Int) := ⟨_, rfl⟩
              rw [← hnb] at hnx ⊢
              clear hnb
              cases nb with
              | true =>
                rw [Bool.true_or] at hnx
                have hk'h := Lib.hid hk
                have hnx'h := Lib.hid hnx
                clear hk hnx
                rw [hgp]
                go_wp2
                rw [← hgp]
                go_roundg (gk - 1)
                case measure => have := hk'h.out; omega
                case rel => exact ⟨k + 1, by have := hk'h.out; omega, by go_num, by rw [hnx'h.out], rfl⟩
              | false =>
                rw [Bool.false_or] at hnx
                cases he : (x == (j2 : Int)) with
                | true =>
                  rw [he] at hnx
                  have hk'h := Lib.hid hk
                  have hnx'h := Lib.hid hnx
                  clear hk hnx
                  rw [hgp]
                  go_wp2
                  rw [← hgp]
                  go_roundg (gk - 1)
                  case measure => have := hk'h.out; omega
                  case rel => exact ⟨k + 1, by have := hk'h.out; omega, by go_num, by rw [hnx'h.out], rfl⟩
                | false =>
                  rw [he] at hnx
                  have hk'h := Lib.hid hk
                  have hnx'h := Lib.hid hnx
                  clear hk hnx
                  rw [hgp]
                  go_wp2
                  rw [← hgp]
                  go_roundg (gk - 1)
                  case measure => have := hk'h.out; omega
                  case rel => exact ⟨k + 1, by have := hk'h.out; omega, by go_num, by rw [hnx'h.out], rfl⟩
            · have i4 : ¬ (k : Int) < (gn : Int) := by omega
              have hkg : G.take k = G := by rw [show k = G.length by have := hgl'h.out; omega, List.take_length]
              rw [hkg]
              have hbo := hI'h.out.blk
              have y3 : wr.cell? ⟨ob, 3, none⟩ = some (.slice op outs.length oc) := hI'h.out.c3
              clear hbo hkg
              cases hct : G.contains (j2 : Int) with
              | true =>
                clear hgl'h hGr'h
                have hk'h := Lib.hid hk
                have hct'h := Lib.hid hct
                clear hk hct
                go_upto_region 18 with fail
                refine wp_region_heldF (fun w' => Below W0.heap.size W0 w' ∧ w'.cell? ⟨ob, 3, none⟩ = some (.slice op outs.length oc)) 8 (by kernel_rfl) ?_
                have hI0 := hI'h.out.next ((Below.refl wr.heap.size wr).drew)
                have hE0 := hE'h.out.below ((Below.refl wr.heap.size wr).drew)
                clear y3 hI'h hE'h
                generalize wr.drew = V0 at hI0 hE0 ⊢
                refine wpAnyF_take (i := 0) (v := .pointer (some ⟨ob, 3, none⟩)) rfl (by kernel_rfl) (by kernel_rfl) (by kernel_rfl) (by kernel_rfl) (fun _ _ _ h => h) (Or.inl ⟨by kernel_rfl, fun w hSw => by (try dsimp only at hSw); go_simp⟩) ⟨hI0.low, hI0.c3⟩ ?_; try simp only [Act.put, List.getElem_toArray, List.getElem_cons_succ, List.getElem_cons_zero, List.setIfInBounds_toArray, List.set_cons_zero, List.set_cons_succ]
                refine wpAnyF_take (i := 1) (v := .slice op outs.length oc) rfl (by kernel_rfl) (by kernel_rfl) (by kernel_rfl) (by kernel_rfl) (fun _ _ _ h => h) (Or.inl ⟨by kernel_rfl, fun w hSw => by have hcc := hSw.2; (try dsimp only at hSw); go_simp⟩) ⟨hI0.low, hI0.c3⟩ ?_; try simp only [Act.put, List.getElem_toArray, List.getElem_cons_succ, List.getElem_cons_zero, List.setIfInBounds_toArray, List.set_cons_zero, List.set_cons_succ]
                refine wpAnyF_take (i := 3) (v := .slice rs rl rc) rfl (by kernel_rfl) (by kernel_rfl) (by kernel_rfl) (by kernel_rfl) (fun _ _ _ h => h) (Or.inl ⟨by kernel_rfl, fun w hSw => by (try dsimp only at hSw); go_simp⟩) ⟨hI0.low, hI0.c3⟩ ?_; try simp only [Act.put, List.getElem_toArray, List.getElem_cons_succ, List.getElem_cons_zero, List.setIfInBounds_toArray, List.set_cons_zero, List.set_cons_succ]
                refine wpAnyF_one (i := 2) (by kernel_rfl) rfl (fun K hK => ?_); go_simp
                have hB1 := (Below.refl V0.heap.size V0).alloc (Nat.le_refl _) (.cells #[] 57)
                have hrA := own_lit0 V0 57 4
                have hI1 := hI0.next hB1
                refine hK.out _ _ (fun _ => ⟨hI1.low, hI1.c3⟩) ?_; clear hK K; try simp only [Act.put, List.getElem_toArray, List.getElem_cons_succ, List.getElem_cons_zero, List.setIfInBounds_toArray, List.set_cons_zero, List.set_cons_succ]
                generalize V0.alloc _ = V1 at hI1 hB1 hrA ⊢
                refine wpAnyF_one (i := 4) (by kernel_rfl) rfl (fun K hK => ?_)
                refine step_append_slk _ rfl (.tmp 64) (.tmp 65) 55 rfl V0.heap.size 57 i8 calZ 4 32 Tryd.underlying55 hi8 hz8 hs8 hby8 rfl (by decide) _ 0 [] rfl hrA rs rl rc (cals rws) rfl (hE0.below hB1) (cals_one _) (by have := hrl4'h.out; have := hS'h.out; unfold maxLen; omega) (by have := hrl4'h.out; have := hS'h.out; omega) hB1.size ?_
                intro v1 V2 hown2 hgrow2 hwh2
                rw [Nat.zero_add, List.nil_append] at hown2
                have hB2 := hB1.grown hgrow2 hB1.size (fun q hq => (hrA.lt q hq).1)
                have hI2 := hI0.next hB2
                clear hI1 hB1 hrA hgrow2 hwh2 hE0
                refine hK.out _ _ (fun _ => ⟨hI2.low, hI2.c3⟩) ?_; clear hK K; try simp only [Act.put, List.getElem_toArray, List.getElem_cons_succ, List.getElem_cons_zero, List.setIfInBounds_toArray, List.set_cons_zero, List.set_cons_succ]
                have hrow2 := ownsRow_mono hown2 (base' := W0.heap.size) hI0.low.size
                obtain ⟨s1, k1, rfl⟩ := row_slice' hown2
                clear hown2 hB2 hI0
                refine wpAnyF_one (i := 5) (by kernel_rfl) rfl (fun K hK => ?_); go_simp
                obtain ⟨r', hr'⟩ : ∃ r' : CRow, r' = ⟨s1, rl, k1, rws⟩ := ⟨_, rfl⟩
                have hr'V : crV r' = .slice s1 rl k1 := by rw [hr']; rfl
                have hB3 := (Below.refl V2.heap.size V2).alloc (Nat.le_refl _) (.cells #[.slice s1 rl k1] 55)
                have hI3 := hI2.next hB3
                have hrv : (V2.alloc (.cells #[.slice s1 rl k1] 55)).ownsRow W0.heap.size 57 4 (crV r') r'.len (cals r'.cs) := by rw [hr']; exact ownsRow_next hrow2 hB3
                have hlv : r'.len = r'.cs.length ∧ r'.cs.length ≤ 66 ∧ ∀ c ∈ r'.cs, CalOk c := by rw [hr']; exact ⟨hrl4'h.out, hS'h.out, hO'h.out⟩
                have hsl : SlK (V2.alloc (.cells #[.slice s1 rl k1] 55)) 1 (some ⟨V2.heap.size, 0, none⟩) 1 [crV r'] := by rw [hr'V]; exact SlK.of_blk (World.alloc_heap_new _ _) rfl (by decide)
                have hr'c : (if G.contains (j2 : Int) then (nthR rows j2).cs else []) = r'.cs := by rw [hct'h.out, hrws'h.out, hr']; rfl
                clear hr' hrow2 hB3 hI2
                refine hK.out _ _ (fun _ => ⟨hI3.low, hI3.c3⟩) ?_; clear hK K; try simp only [Act.put, List.getElem_toArray, List.getElem_cons_succ, List.getElem_cons_zero, List.setIfInBounds_toArray, List.set_cons_zero, List.set_cons_succ]
                generalize V2.heap.size = kb at hsl ⊢
                generalize V2.alloc _ = V3 at hI3 hrv hsl ⊢
                refine wpAnyF_one (i := 6) (by kernel_rfl) rfl (fun K hK => ?_)
                refine step_append_slk _ rfl (.tmp 63) (.tmp 67) 23 rfl W0.heap.size 55 i9 (.slice none 0 0) 1 24 Tryd.underlying23 hi9 hz9 hs9 hby9 rfl (by decide) _ outs.length (outs.map crV) rfl hI3.outer (some ⟨kb, 0, none⟩) 1 1 _ rfl hsl (by intro v hv; simp at hv; subst hv; rfl) (by have := hol'h.out; have := hfew'h.out; unfold maxLen; omega) (by have := hol'h.out; have := hfew'h.out; omega) hI3.low.size ?_
                intro v2 V4 hown4 hgrow4 hwh4
                have hI4 := hI3.push (r := r') hrv hlv hown4 hgrow4
                have hb4 := hI3.kept hgrow4
                have hlow4 := hI3.low.grown hgrow4 hI3.low.size (fun q hq => (hI3.outer.lt q hq).1)
                obtain ⟨sp', cp', rfl⟩ := row_slice' hown4
                have y9 : V4.cell? ⟨ob, 3, none⟩ = some (.slice op outs.length oc) := blk_cell (i := 3) hb4 rfl
                have f9 := blk_free 3 hb4
                clear hI3 hrv hsl hown4 hgrow4 hwh4 hb4
                refine hK.out _ _ (fun _ => ⟨hlow4, y9⟩) ?_; clear hK K; try simp only [Act.put, List.getElem_toArray, List.getElem_cons_succ, List.getElem_cons_zero, List.setIfInBounds_toArray, List.set_cons_zero, List.set_cons_succ]
                refine wpAnyF_take (i := 7) (v := .pointer (some ⟨ob, 3, none⟩)) rfl (by kernel_rfl) (by kernel_rfl) (by kernel_rfl) (by kernel_rfl) (fun _ _ _ h => h) (Or.inl ⟨by kernel_rfl, fun w hSw => by (try dsimp only at hSw); go_simp⟩) ⟨hlow4, y9⟩ ?_; try simp only [Act.put, List.getElem_toArray, List.getElem_cons_succ, List.getElem_cons_zero, List.setIfInBounds_toArray, List.set_cons_zero, List.set_cons_succ]
                refine wpAnyF_one (i := 8) (by kernel_rfl) rfl (fun K hK => ?_); go_simp
                refine hK.out _ _ (fun h => absurd rfl h) ?_
                clear hK K y9 f9 hlow4
                try simp only [Act.put, List.getElem_toArray, List.getElem_cons_succ, List.getElem_cons_zero, List.setIfInBounds_toArray, List.set_cons_zero, List.set_cons_succ]
                refine wpAnyF_done (by kernel_rfl) ?_ _
                generalize World.setCell _ _ _ = V5 at hI4 ⊢
                have hI4'h := Lib.hid hI4
                have hr'c'h := Lib.hid hr'c
                clear hI4 hr'c
                go_wp2
                rw [← hsp]
                go_roundg (gj - 1)
                case measure => have := hj'h.out; omega
                case rel => exact ⟨j2 + 1, outs ++ [r'], _, by have := hj'h.out; omega, by go_num, by rw [List.length_append, hol'h.out]; rfl, by rw [List.map_append, hom'h.out, List.range_succ, List.map_append]; simp only [List.map_cons, List.map_nil]; rw [hr'c'h.out], hI4'h.out⟩
              | false =>
                have hIV := hI'h.out
                obtain ⟨r', hr'⟩ : ∃ r' : CRow, r' = ⟨none, 0, 0, []⟩ := ⟨_, rfl⟩
                have hr'V : crV r' = .slice none 0 0 := by rw [hr']; rfl
                have hr'c : (if G.contains (j2 : Int) then (nthR rows j2).cs else []) = r'.cs := by rw [hct, hr']; rfl
                have hrv : wr.ownsRow W0.heap.size 57 4 (crV r') r'.len (cals r'.cs) := by rw [hr']; exact ⟨rfl, .inl ⟨rfl, rfl⟩⟩
                have hlv : r'.len = r'.cs.length ∧ r'.cs.length ≤ 66 ∧ ∀ c ∈ r'.cs, CalOk c := by rw [hr']; exact ⟨rfl, by simp, fun c hc => by simp at hc⟩
                clear hr' hI'h y3 hE'h hgl'h hGr'h
                have hk'h := Lib.hid hk
                clear hk
                have hIV'h := Lib.hid hIV
                have hrv'h := Lib.hid hrv
                have hlv'h := Lib.hid hlv
                clear hIV hrv hlv
                have hoc : outs.length ≤ 16 := by have := hol'h.out; have := hfew'h.out; omega
                have hlz := hIV'h.out.low.size
                have hB2 := (Below.refl wr.heap.size wr).alloc (Nat.le_refl _) (.cells #[.slice none 0 0] 55)
                have hI2 := hIV'h.out.next hB2
                have hrow2 := ownsRow_next hrv'h.out hB2
                have hsl : SlK (wr.alloc (.cells #[.slice none 0 0] 55)) 1 (some ⟨wr.heap.size, 0, none⟩) 1 [crV r'] := by rw [hr'V]; exact SlK.of_blk (World.alloc_heap_new _ _) rfl (by decide)
                have y3 : wr.cell? ⟨ob, 3, none⟩ = some (.slice op outs.length oc) := hIV'h.out.c3
                clear hB2
                have hI2'h := Lib.hid hI2
                have hrow2'h := Lib.hid hrow2
                have hsl'h := Lib.hid hsl
                have hoc'h := Lib.hid hoc
                have hlz'h := Lib.hid hlz
                have hr'V'h := Lib.hid hr'V
                have hr'c'h := Lib.hid hr'c
                clear hI2 hrow2 hsl hoc hlz hr'V hr'c
                go_wp2_with (at_builtin; refine wpList_append_slk _ rfl (.tmp 71) (.tmp 72) 23 rfl W0.heap.size 55 i9 (.slice none 0 0) 1 24 Tryd.underlying23 hi9 hz9 hs9 hby9 rfl (by decide) (.slice op outs.length oc) outs.length (outs.map crV) rfl hI2'h.out.outer _ 1 1 _ rfl hsl'h.out (by intro v hv; simp at hv; subst hv; rfl) (by have := hoc'h.out; unfold maxLen; omega) (by have := hoc'h.out; omega) hI2'h.out.low.size ?_; intro v' V3 hown3 hgrow3 hwh3; have hI4 := hI2'h.out.push (r := r') hrow2'h.out hlv'h.out hown3 hgrow3; have hb3 := hI2'h.out.kept hgrow3; obtain ⟨sp', cp', hv', -, -, -⟩ := row_form hown3; subst hv'; have y9 : V3.cell? ⟨ob, 3, none⟩ = some (.slice op outs.length oc) := blk_cell (i := 3) hb3 rfl; have f9 := blk_free 3 hb3; clear hgrow3 hwh3 hown3 hb3; have hI4'h := Lib.hid hI4; clear hI4)
                rw [← hsp]
                go_roundg (gj - 1)
                case measure => have := hj'h.out; omega
                case rel => exact ⟨j2 + 1, outs ++ [r'], _, by have := hj'h.out; omega, by go_num, by rw [List.length_append, hol'h.out]; rfl, by rw [List.map_append, hom'h.out, List.range_succ, List.map_append]; simp only [List.map_cons, List.map_nil]; rw [hr'c'h.out], hI4'h.out⟩
        · have i1 : ¬ (j2 : Int) < (ln : Int) := by omega
          have hjn : j2 = rows.length := by have := hrl'h.out; omega
          obtain ⟨hIn, hOwn, -, -⟩ := hI.script hg'h.out hsb'h.out hseed'h.out (by have := hfew'h.out; omega) hPl'h.out hk64'h.out
          have hb0 := hI.blk
          have y0 : wr.cell? ⟨ob, 0, none⟩ = some (.int .i64 g) := blk_cell (i := 0) hb0 rfl
          have y1 : wr.cell? ⟨ob, 1, none⟩ = some (.int .i64 sb) := blk_cell (i := 1) hb0 rfl
          have y2 : wr.cell? ⟨ob, 2, none⟩ = some (.int .u64 (seed : Int)) := blk_cell (i := 2) hb0 rfl
          have y3 : wr.cell? ⟨ob, 3, none⟩ = some (.slice op outs.length oc) := blk_cell (i := 3) hb0 rfl
          have y4 : wr.cell? ⟨ob, 4, none⟩ = some (.slice cp P.length cc) := blk_cell (i := 4) hb0 rfl
          have hbr := heap_below hI.low hbr'h.out (lt_of_heap hbr'h.out)
          have z0 : wr.cell? ⟨w.heap.size + 1, 0, none⟩ = some (.int .i64 0) := blk_cell (i := 0) hbr rfl
          have z1 : wr.cell? ⟨w.heap.size + 1, 1, none⟩ = some (.int .i64 0) := blk_cell (i := 1) hbr rfl
          have z2 : wr.cell? ⟨w.heap.size + 1, 2, none⟩ = some (.int .u64 0) := blk_cell (i := 2) hbr rfl
          have z3 : wr.cell? ⟨w.heap.size + 1, 3, none⟩ = some (.slice none 0 0) := blk_cell (i := 3) hbr rfl
          have z4 : wr.cell? ⟨w.heap.size + 1, 4, none⟩ = some (.slice none 0 0) := blk_cell (i := 4) hbr rfl
          have f0 := blk_free 0 hbr
          have f1 := blk_free 1 hbr
          have f2 := blk_free 2 hbr
          have f3 := blk_free 3 hbr
          have f4 := blk_free 4 hbr
          have hlow := hB00'h.out.trans (hI.low.mono (by rw [hW0s'h.out]; omega))
          clear hI hb0 hj
          rw [hjn]
          rw [hjn] at i1 hom
          have hom'h := Lib.hid hom
          have hIn'h := Lib.hid hIn
          have hOwn'h := Lib.hid hOwn
          have hbr'h := Lib.hid hbr
          have hlow'h := Lib.hid hlow
          have hol'h := Lib.hid hol
          clear hom hIn hOwn hbr hlow hol
          go_wp2
          have hK5 := ((((Kept.setCell (fun b => W0.heap.size ≤ b) wr ⟨w.heap.size + 1, 0, none⟩ (.int .i64 g) (by simp only; rw [hW0s'h.out]; omega)).trans (Kept.setCell _ _ ⟨w.heap.size + 1, 1, none⟩ (.int .i64 sb) (by simp only; rw [hW0s'h.out]; omega))).trans (Kept.setCell _ _ ⟨w.heap.size + 1, 2, none⟩ (.int .u64 (seed : Int)) (by simp only; rw [hW0s'h.out]; omega))).trans (Kept.setCell _ _ ⟨w.heap.size + 1, 3, none⟩ (.slice op outs.length oc) (by simp only; rw [hW0s'h.out]; omega))).trans (Kept.setCell _ _ ⟨w.heap.size + 1, 4, none⟩ (.slice cp P.length cc) (by simp only; rw [hW0s'h.out]; omega))
          have hOwn2 := hOwn'h.out.keep hK5
          have hIn2 := hIn'h.out.own hOwn2
          have hlow2 := ((((hlow'h.out.setCell (p := ⟨w.heap.size + 1, 0, none⟩) (by simp) (.int .i64 g)).setCell (p := ⟨w.heap.size + 1, 1, none⟩) (by simp) (.int .i64 sb)).setCell (p := ⟨w.heap.size + 1, 2, none⟩) (by simp) (.int .u64 (seed : Int))).setCell (p := ⟨w.heap.size + 1, 3, none⟩) (by simp) (.slice op outs.length oc)).setCell (p := ⟨w.heap.size + 1, 4, none⟩) (by simp) (.slice cp P.length cc)
          have hbr2 := blk_set (i := 4) (.slice cp P.length cc) (blk_set (i := 3) (.slice op outs.length oc) (blk_set (i := 2) (.int .u64 (seed : Int)) (blk_set (i := 1) (.int .i64 sb) (blk_set (i := 0) (.int .i64 g) hbr'h.out))))
          clear y0 y1 y2 y3 y4 z0 z1 z2 z3 z4 f0 f1 f2 f3 f4 hK5
          generalize World.setCell _ _ _ = W2 at hIn2 hlow2 hbr2 hOwn2 ⊢
          have d0 : W2.cell? ⟨w.heap.size + 1, 0, none⟩ = some (.int .i64 g) := blk_cell (i := 0) hbr2 rfl
          have d1 : W2.cell? ⟨w.heap.size + 1, 1, none⟩ = some (.int .i64 sb) := blk_cell (i := 1) hbr2 rfl
          have d2 : W2.cell? ⟨w.heap.size + 1, 2, none⟩ = some (.int .u64 (seed : Int)) := blk_cell (i := 2) hbr2 rfl
          have d3 : W2.cell? ⟨w.heap.size + 1, 3, none⟩ = some (.slice op outs.length oc) := blk_cell (i := 3) hbr2 rfl
          have d4 : W2.cell? ⟨w.heap.size + 1, 4, none⟩ = some (.slice cp P.length cc) := blk_cell (i := 4) hbr2 rfl
          have hfin : CutAt w (cutS (Sm.scr ⟨g, sb, seed, lp, ln, lc, rows, pp, j, pc, ps⟩) picks G) (.returned (.agg (smA ⟨g, sb, seed, op, outs.length, oc, outs, cp, P.length, cc, P⟩))) W2 := by
            refine ⟨_, rfl, hlow2, hIn2, hOwn2.mono (by rw [hW0s'h.out]; omega), ?_⟩
            unfold cutS Sm.scr
            simp only
            rw [hom'h.out, List.length_map, ← hPS'h.out]
            congr 1
            refine List.map_congr_left fun i hi => ?_
            rw [nth_lists (List.mem_range.1 hi)]
          unfold smA at hfin
          clear hIn2 hbr2 hlow2 hOwn2
          refine bodyPost_ret (v := .agg #[.int .i64 g, .int .i64 sb, .int .u64 (seed : Int), .slice op outs.length oc, .slice cp P.length cc]) ?_ rfl hfin
          simp [results, Tryd.results31, go_sem, d0, d1, d2, d3, d4]
end Go.Proofs.YtifofdciablljaaDoor

