/-
  Layer 3 (script): the chapter's script, and what the layer is asked first.
-/
import Derived.Test.YtifofdciablljaaDoorScrP
set_option linter.unusedSimpArgs false
set_option linter.unusedVariables false
set_option maxRecDepth 100000
namespace Go.Proofs.YtifofdciablljaaDoor
open Go.RowKit

def smallS : Scr := ⟨1, 2, 5, [[⟨2, 7, 9, 0⟩, ⟨7, 0, 0, 0⟩]], [0, 1]⟩
def SmAt (w : World) (S : Scr) (e : Ending) (w' : World) : Prop := ∃ sm : Sm, e = .returned (.agg (smA sm)) ∧ Below w.heap.size w w' ∧ SmIn w' sm ∧ sm.scr = S
theorem small_any (w : World) : Calls Tryd.prog 34 #[] w fun e w' => SmAt w smallS e w' := by
  go_enter Tryd.func34, Tryd.ntmps34
  go_wp2
  have H0 := ((((Hs.nil w).new #[.int .i64 1, .int .i64 2, .int .u64 5, .slice (some ⟨w.heap.size + 1 + 1, 0, none⟩) 1 1, .slice (some ⟨w.heap.size + 1 + 1 + 1, 0, none⟩) 2 2] 26).new #[.int .i64 2, .int .u64 7, .int .u64 9, .int .u64 0, .int .i64 7, .int .u64 0, .int .u64 0, .int .u64 0] 57).new #[.slice (some ⟨w.heap.size + 1, 0, none⟩) 2 2] 55).new #[.int .u64 0, .int .u64 1] 22
  simp only [World.size_alloc] at H0
  generalize World.alloc _ _ = W at H0 ⊢
  have d0 : W.cell? ⟨w.heap.size, 0, none⟩ = some (.int .i64 1) := blk_cell (i := 0) H0.rows.2.2.2.1 rfl
  have d1 : W.cell? ⟨w.heap.size, 1, none⟩ = some (.int .i64 2) := blk_cell (i := 1) H0.rows.2.2.2.1 rfl
  have d2 : W.cell? ⟨w.heap.size, 2, none⟩ = some (.int .u64 5) := blk_cell (i := 2) H0.rows.2.2.2.1 rfl
  have d3 : W.cell? ⟨w.heap.size, 3, none⟩ = some (.slice (some ⟨w.heap.size + 1 + 1, 0, none⟩) 1 1) := blk_cell (i := 3) H0.rows.2.2.2.1 rfl
  have d4 : W.cell? ⟨w.heap.size, 4, none⟩ = some (.slice (some ⟨w.heap.size + 1 + 1 + 1, 0, none⟩) 2 2) := blk_cell (i := 4) H0.rows.2.2.2.1 rfl
  obtain ⟨sm, hsm⟩ : ∃ sm : Sm, sm = ⟨1, 2, 5, some ⟨w.heap.size + 1 + 1, 0, none⟩, 1, 1, [⟨some ⟨w.heap.size + 1, 0, none⟩, 2, 2, [⟨2, 7, 9, 0⟩, ⟨7, 0, 0, 0⟩]⟩], some ⟨w.heap.size + 1 + 1 + 1, 0, none⟩, 2, 2, [0, 1]⟩ := ⟨_, rfl⟩
  have hA : SmAt w smallS (.returned (.agg (smA sm))) W := by
    refine ⟨sm, rfl, H0.old, ?_, by rw [hsm]; rfl⟩
    have hok : ∀ c ∈ ([⟨2, 7, 9, 0⟩, ⟨7, 0, 0, 0⟩] : List Cal), CalOk c := by
      intro c hc
      simp only [List.mem_cons, List.mem_nil_iff, or_false] at hc
      rcases hc with rfl | rfl <;> exact ⟨by decide, by decide, by decide, by decide, by decide⟩
    rw [hsm]
    refine ⟨⟨SlK.of_blk (H0.rows.2.1) rfl (show 1 ≤ maxLen by decide), fun r hr => ?_, fun r hr => ?_, fun r hr => ?_, fun r hr => ?_, by simp, fun r hr => ?_⟩, (SlK.of_blk (H0.rows.1) rfl (show 2 ≤ maxLen by decide)).sl, ?_, show (5 : Nat) < 2 ^ 64 by decide, ⟨show (-9223372036854775808 : Int) ≤ 1 by decide, show (1 : Int) ≤ 9223372036854775807 by decide⟩, ⟨show (-9223372036854775808 : Int) ≤ 2 by decide, show (2 : Int) ≤ 9223372036854775807 by decide⟩, by simp, show 1 ≤ 1 by decide, by simp, show 2 ≤ 2 by decide, show 2 ≤ 4200 by decide⟩
    · simp only [List.mem_singleton] at hr; subst hr; exact SlK.of_blk (k := 4) (n := 2) (H0.rows.2.2.1) rfl (by decide)
    · simp only [List.mem_singleton] at hr; subst hr; simp
    · simp only [List.mem_singleton] at hr; subst hr; simp
    · simp only [List.mem_singleton] at hr; subst hr; exact hok
    · simp only [List.mem_singleton] at hr; subst hr; simp
    · intro x hx; simp only [List.mem_cons, List.mem_nil_iff, or_false] at hx; rcases hx with rfl | rfl <;> decide
  rw [hsm] at hA
  unfold smA at hA
  clear H0 hsm
  refine bodyPost_ret (v := .agg #[.int .i64 1, .int .i64 2, .int .u64 5, .slice (some ⟨w.heap.size + 1 + 1, 0, none⟩) 1 1, .slice (some ⟨w.heap.size + 1 + 1 + 1, 0, none⟩) 2 2]) ?_ rfl hA
  simp [results, Tryd.results34, go_sem, d0, d1, d2, d3, d4]
theorem small_num {n : Nat} (h : n < 128) : numB n = [n] := numB_small h
def smallB : List Nat := [1, 2, 5, 2, 2, 7, 9, 7, 2, 0, 1]
theorem small_right : rightS smallS = true := by decide
theorem small_bytes : bytesS smallS = smallB := by
  unfold bytesS
  rw [show encS smallS = smallB by decide]
  simp [smallB, small_num]
theorem small_300 : numB 300 = [172, 2] := by rw [numB_great (by decide), numB_small (by decide)]
theorem small_read : scriptR (smallB ++ [99]) = some (smallS, [99]) := by kernel_rfl
theorem small_wrong : scriptR [1, 2, 5, 2, 2, 7, 9, 7, 2, 0] = none := by kernel_rfl
theorem small_keys : keysL smallS.lists.flatten = [7] := by
  unfold keysL
  rw [show onceL (keyL smallS.lists.flatten) = [7] by decide]
  simp [sorted64]
set_option maxHeartbeats 4000000 in
theorem wakes_any (w : World) (hT : Tks w) : Calls Tryd.prog 9 #[] w fun e w' => e = .returned (.bool true) ∧ Below w.heap.size w w' := by
  have hT'h := Lib.hid hT
  clear hT
  go_enter Tryd.func9, Tryd.ntmps9
  go_wp2_with fail
  refine (small_any w).mono ?_
  rintro e w1 ⟨sm, rfl, hB1, hIn1, hs1⟩
  have hT1 := hT'h.out.next hB1
  have E := encode_yes sm w1 hT1 hIn1 (by rw [hs1]; exact small_right)
  rw [hs1, small_bytes, show smallB.length = 11 from rfl] at E
  clear hs1 hIn1
  have hB1'h := Lib.hid hB1
  have hT1'h := Lib.hid hT1
  have E'h := Lib.hid E
  clear hB1 hT1 E
  go_wp2_with fail
  refine E'h.out.mono ?_
  rintro e w2 ⟨v, rfl, hB2, hrow2⟩
  obtain ⟨bp, bc, rfl⟩ := row_slice' hrow2
  have hS2 := Sl.of_row hrow2 (by decide)
  have hn2 := row_nil' hrow2
  have hB02 := below_next hB1'h.out hB2
  have hT2 := hT1'h.out.next hB2
  clear hB2 hrow2 E'h
  have hS2'h := Lib.hid hS2
  have hn2'h := Lib.hid hn2
  have hB02'h := Lib.hid hB02
  have hT2'h := Lib.hid hT2
  clear hS2 hn2 hB02 hT2
  go_wp2_with fail
  refine (clone8_any bp 11 bc (u8s smallB) w2 (by decide) (u8s_one _) hn2'h.out hS2'h.out).mono ?_
  rintro e w3 ⟨cp, cc, rfl, hB3, hrow3⟩
  obtain ⟨i0, hi, hz, hs, hby⟩ := info_parts info_clone8
  have hB4 := (Below.refl w3.heap.size w3).alloc (Nat.le_refl _) (.cells #[.int .u8 99] 5)
  have hsl4 : SlK (w3.alloc (.cells #[.int .u8 99] 5)) 1 (some ⟨w3.heap.size, 0, none⟩) 1 (u8s [99]) := SlK.of_blk (World.alloc_heap_new _ _) rfl (by decide)
  have hr4 := ownsRow_next hrow3 hB4
  have hb4 := Nat.le_trans hB3.size hB4.size
  have hB24 := below_next hB3 hB4
  clear hB3 hrow3 hB4
  have hsl4'h := Lib.hid hsl4
  have hr4'h := Lib.hid hr4
  have hb4'h := Lib.hid hb4
  have hB24'h := Lib.hid hB24
  clear hsl4 hr4 hb4 hB24
  go_wp2_with (at_builtin; refine wpList_append_slk _ rfl (.tmp 16) (.tmp 17) 38 rfl w2.heap.size 5 i0 (.int .u8 0) 1 1 Tryd.underlying38 hi hz hs hby rfl (by decide) (.slice cp 11 cc) 11 (u8s smallB) rfl hr4'h.out _ 1 1 (u8s [99]) rfl hsl4'h.out (u8s_one _) (by decide) (by decide) hb4'h.out ?_; intro v' w5 hown' hgrow hwh; obtain ⟨dp, dc, hv', -, -, -⟩ := row_form hown'; subst hv'; have hS5 := Sl.of_row hown' (by decide); have hB5 := (Below.refl w2.heap.size _).grown hgrow hb4'h.out (fun q hq => (hr4'h.out.lt q hq).1); clear hown' hgrow hwh; have hS5'h := Lib.hid hS5; have hB5'h := Lib.hid hB5; clear hS5 hB5)
  have hB25 := hB24'h.out.trans hB5'h.out
  have hT5 := hT2'h.out.next hB25
  have hS5b := hS2'h.out.below hB25
  have hB05 := below_next hB02'h.out hB25
  have hS5 := hS5'h.out
  rw [u8s_app] at hS5
  have D := decode_any dp 12 dc (smallB ++ [99]) w5 hT5 hS5 (by decide) (by decide)
  rw [small_read] at D
  clear hB25 hS5 hsl4'h hr4'h hb4'h hB24'h hS5'h hB5'h hT2'h hS2'h hB02'h hT1'h hB1'h
  have hT5'h := Lib.hid hT5
  have hS5b'h := Lib.hid hS5b
  have hB05'h := Lib.hid hB05
  have D'h := Lib.hid D
  clear hT5 hS5b hB05 D
  refine D'h.out.mono ?_
  rintro e w6 ⟨hB6, sm6, rfl, hIn6, hs6, -⟩
  clear D'h
  have hT6 := hT5'h.out.next hB6
  have hS6 := hS5b'h.out.below hB6
  have hB06 := below_next hB05'h.out hB6
  rw [show ((12 - ([99] : List Nat).length : Nat) : Int) = 11 from rfl]
  clear hB6 hT5'h hS5b'h hB05'h
  obtain ⟨g, sb, seed, lp, ln, lc, rows, pp, pn, pc, ps⟩ := sm6
  obtain ⟨sm6, hsm6⟩ : ∃ s : Sm, s = ⟨g, sb, seed, lp, ln, lc, rows, pp, pn, pc, ps⟩ := ⟨_, rfl⟩
  have hA : smA sm6 = #[.int .i64 g, .int .i64 sb, .int .u64 (seed : Int), .slice lp ln lc, .slice pp pn pc] := by rw [hsm6]; rfl
  rw [← hsm6] at hIn6 hs6 ⊢
  rw [hA]
  obtain ⟨W7, hW7⟩ : ∃ W7, W7 = w6.alloc (.cells (smA sm6) 26) := ⟨_, rfl⟩
  have hB7 : Below w6.heap.size w6 W7 := by rw [hW7]; exact (Below.refl _ _).alloc (Nat.le_refl _) _
  have hb7 : W7.heap[w6.heap.size]? = some (.cells (smA sm6) 26) := by rw [hW7]; exact World.alloc_heap_new _ _
  obtain ⟨W8, hW8⟩ : ∃ W8, W8 = W7.alloc (.cells #[.int .u8 1, .int .u8 2, .int .u8 5, .int .u8 2, .int .u8 2, .int .u8 7, .int .u8 9, .int .u8 7, .int .u8 2, .int .u8 0] 5) := ⟨_, rfl⟩
  have hB8 : Below W7.heap.size W7 W8 := by rw [hW8]; exact (Below.refl _ _).alloc (Nat.le_refl _) _
  have hS8 : Sl W8 (some ⟨W7.heap.size, 0, none⟩) 10 (u8s [1, 2, 5, 2, 2, 7, 9, 7, 2, 0]) := by rw [hW8]; exact (SlK.of_blk (k := 1) (n := 10) (World.alloc_heap_new _ _) rfl (by decide)).sl
  have hb8 := heap_below hB8 hb7 (lt_of_heap hb7)
  have hB68 := hB7.trans (hB8.mono hB7.size)
  have hT8 := hT6.next hB68
  have D := decode_any _ 10 10 _ W8 hT8 hS8 (by decide) (by decide)
  rw [small_wrong] at D
  have hS8b := hS6.below hB68
  have hIn8 := hIn6.below hB68
  have hB08 := below_next hB06 hB68
  clear hB7 hb7 hB8 hS8 hB68 hIn6 hS6 hT6 hB06
  have hsm6'h := Lib.hid hsm6
  have hA'h := Lib.hid hA
  have D'h := Lib.hid D
  have hb8'h := Lib.hid hb8
  have hT8'h := Lib.hid hT8
  have hIn8'h := Lib.hid hIn8
  have hB08'h := Lib.hid hB08
  have hs6'h := Lib.hid hs6
  have hS8b'h := Lib.hid hS8b
  have hW7'h := Lib.hid hW7
  have hW8'h := Lib.hid hW8
  clear hsm6 hA D hb8 hT8 hIn8 hB08 hs6 hS8b hW7 hW8
  go_wp2_with fail
  rw [← hA'h.out, ← hW7'h.out, show w6.heap.size + 1 = W7.heap.size by rw [hW7'h.out]; simp, ← hW8'h.out, hA'h.out]
  refine D'h.out.mono ?_
  rintro e w9 ⟨hB9, h9⟩
  simp only at h9
  subst h9
  clear D'h
  have hB10 := (Below.refl w9.heap.size w9).alloc (Nat.le_refl _) (.cells zeroSm 26)
  have hB810 := below_next hB9 hB10
  have hb10 := heap_below hB810 hb8'h.out (lt_of_heap hb8'h.out)
  have hT10 := hT8'h.out.next hB810
  have hIn10 := hIn8'h.out.below hB810
  have hS10 := hS8b'h.out.below hB810
  have hB010 := below_next hB08'h.out hB810
  clear hb8'h hT8'h hIn8'h hS8b'h hB08'h hB9 hB10 hB810
  have hb10'h := Lib.hid hb10
  have hT10'h := Lib.hid hT10
  have hIn10'h := Lib.hid hIn10
  have hS10'h := Lib.hid hS10
  have hB010'h := Lib.hid hB010
  clear hb10 hT10 hIn10 hS10 hB010
  go_upto_region 4 with fail
  change Code.wp _ _ _ _ (w9.alloc (.cells zeroSm 26))
  generalize w9.alloc _ = W at *
  have hb10 := hb10'h.out
  have hT10 := hT10'h.out
  have hIn10 := hIn10'h.out
  have hS10 := hS10'h.out
  have hB010 := hB010'h.out
  clear hb10'h hT10'h hIn10'h hS10'h hB010'h
  rw [hA'h.out] at hb10
  refine wp_region_heldF (fun w' => Below W.heap.size W w') 99 (by kernel_rfl) ?_
  have R := (Below.refl W.heap.size W).drew
  generalize W.drew = V0 at R ⊢
  refine wpAnyF_take (i := 0) (v := .int .i64 0) rfl (by kernel_rfl) (by kernel_rfl) (by kernel_rfl) (by kernel_rfl) (fun _ _ _ h => h) (Or.inl ⟨by kernel_rfl, fun w hSw => by (try dsimp only at hSw); go_simp⟩) R ?_; try simp only [Act.put, List.getElem_toArray, List.getElem_cons_succ, List.getElem_cons_zero, List.setIfInBounds_toArray, List.set_cons_zero, List.set_cons_succ]
  refine wpAnyF_take (i := 1) (v := .bool true) rfl (by kernel_rfl) (by kernel_rfl) (by kernel_rfl) (by kernel_rfl) (fun _ _ _ h => h) (Or.inl ⟨by kernel_rfl, fun w hSw => by (try dsimp only at hSw); go_simp⟩) R ?_; try simp only [Act.put, List.getElem_toArray, List.getElem_cons_succ, List.getElem_cons_zero, List.setIfInBounds_toArray, List.set_cons_zero, List.set_cons_succ]
  refine wpAnyF_take (i := 2) (v := .bool true) rfl (by kernel_rfl) (by kernel_rfl) (by kernel_rfl) (by kernel_rfl) (fun _ _ _ h => h) (Or.inl ⟨by kernel_rfl, fun w hSw => by (try dsimp only at hSw); go_simp⟩) R ?_; try simp only [Act.put, List.getElem_toArray, List.getElem_cons_succ, List.getElem_cons_zero, List.setIfInBounds_toArray, List.set_cons_zero, List.set_cons_succ]
  refine wpAnyF_take (i := 3) (v := .int .i64 0) rfl (by kernel_rfl) (by kernel_rfl) (by kernel_rfl) (by kernel_rfl) (fun _ _ _ h => h) (Or.inl ⟨by kernel_rfl, fun w hSw => by (try dsimp only at hSw); go_simp⟩) R ?_; try simp only [Act.put, List.getElem_toArray, List.getElem_cons_succ, List.getElem_cons_zero, List.setIfInBounds_toArray, List.set_cons_zero, List.set_cons_succ]
  refine wpAnyF_take (i := 4) (v := .bool true) rfl (by kernel_rfl) (by kernel_rfl) (by kernel_rfl) (by kernel_rfl) (fun _ _ _ h => h) (Or.inl ⟨by kernel_rfl, fun w hSw => by (try dsimp only at hSw); go_simp⟩) R ?_; try simp only [Act.put, List.getElem_toArray, List.getElem_cons_succ, List.getElem_cons_zero, List.setIfInBounds_toArray, List.set_cons_zero, List.set_cons_succ]
  refine wpAnyF_take (i := 5) (v := .bool true) rfl (by kernel_rfl) (by kernel_rfl) (by kernel_rfl) (by kernel_rfl) (fun _ _ _ h => h) (Or.inl ⟨by kernel_rfl, fun w hSw => by (try dsimp only at hSw); go_simp⟩) R ?_; try simp only [Act.put, List.getElem_toArray, List.getElem_cons_succ, List.getElem_cons_zero, List.setIfInBounds_toArray, List.set_cons_zero, List.set_cons_succ]
  refine wpAnyF_take (i := 6) (v := .bool true) rfl (by kernel_rfl) (by kernel_rfl) (by kernel_rfl) (by kernel_rfl) (fun _ _ _ h => h) (Or.inl ⟨by kernel_rfl, fun w hSw => by (try dsimp only at hSw); go_simp⟩) R ?_; try simp only [Act.put, List.getElem_toArray, List.getElem_cons_succ, List.getElem_cons_zero, List.setIfInBounds_toArray, List.set_cons_zero, List.set_cons_succ]
  refine wpAnyF_take (i := 7) (v := .int .i64 131) rfl (by kernel_rfl) (by kernel_rfl) (by kernel_rfl) (by kernel_rfl) (fun _ _ _ h => h) (Or.inl ⟨by kernel_rfl, fun w hSw => by (try dsimp only at hSw); go_simp⟩) R ?_; try simp only [Act.put, List.getElem_toArray, List.getElem_cons_succ, List.getElem_cons_zero, List.setIfInBounds_toArray, List.set_cons_zero, List.set_cons_succ]
  refine wpAnyF_take (i := 8) (v := .bool true) rfl (by kernel_rfl) (by kernel_rfl) (by kernel_rfl) (by kernel_rfl) (fun _ _ _ h => h) (Or.inl ⟨by kernel_rfl, fun w hSw => by (try dsimp only at hSw); go_simp⟩) R ?_; try simp only [Act.put, List.getElem_toArray, List.getElem_cons_succ, List.getElem_cons_zero, List.setIfInBounds_toArray, List.set_cons_zero, List.set_cons_succ]
  refine wpAnyF_take (i := 9) (v := .bool true) rfl (by kernel_rfl) (by kernel_rfl) (by kernel_rfl) (by kernel_rfl) (fun _ _ _ h => h) (Or.inl ⟨by kernel_rfl, fun w hSw => by (try dsimp only at hSw); go_simp⟩) R ?_; try simp only [Act.put, List.getElem_toArray, List.getElem_cons_succ, List.getElem_cons_zero, List.setIfInBounds_toArray, List.set_cons_zero, List.set_cons_succ]
  refine wpAnyF_take (i := 10) (v := .bool true) rfl (by kernel_rfl) (by kernel_rfl) (by kernel_rfl) (by kernel_rfl) (fun _ _ _ h => h) (Or.inl ⟨by kernel_rfl, fun w hSw => by (try dsimp only at hSw); go_simp⟩) R ?_; try simp only [Act.put, List.getElem_toArray, List.getElem_cons_succ, List.getElem_cons_zero, List.setIfInBounds_toArray, List.set_cons_zero, List.set_cons_succ]
  refine wpAnyF_take (i := 11) (v := .int .i64 11) rfl (by kernel_rfl) (by kernel_rfl) (by kernel_rfl) (by kernel_rfl) (fun _ _ _ h => h) (Or.inl ⟨by kernel_rfl, fun w hSw => by (try dsimp only at hSw); go_simp⟩) R ?_; try simp only [Act.put, List.getElem_toArray, List.getElem_cons_succ, List.getElem_cons_zero, List.setIfInBounds_toArray, List.set_cons_zero, List.set_cons_succ]
  refine wpAnyF_take (i := 12) (v := .bool true) rfl (by kernel_rfl) (by kernel_rfl) (by kernel_rfl) (by kernel_rfl) (fun _ _ _ h => h) (Or.inl ⟨by kernel_rfl, fun w hSw => by (try dsimp only at hSw); go_simp⟩) R ?_; try simp only [Act.put, List.getElem_toArray, List.getElem_cons_succ, List.getElem_cons_zero, List.setIfInBounds_toArray, List.set_cons_zero, List.set_cons_succ]
  refine wpAnyF_take (i := 13) (v := .bool true) rfl (by kernel_rfl) (by kernel_rfl) (by kernel_rfl) (by kernel_rfl) (fun _ _ _ h => h) (Or.inl ⟨by kernel_rfl, fun w hSw => by (try dsimp only at hSw); go_simp⟩) R ?_; try simp only [Act.put, List.getElem_toArray, List.getElem_cons_succ, List.getElem_cons_zero, List.setIfInBounds_toArray, List.set_cons_zero, List.set_cons_succ]
  refine wpAnyF_take (i := 14) (v := .bool true) rfl (by kernel_rfl) (by kernel_rfl) (by kernel_rfl) (by kernel_rfl) (fun _ _ _ h => h) (Or.inl ⟨by kernel_rfl, fun w hSw => by (try dsimp only at hSw); go_simp⟩) R ?_; try simp only [Act.put, List.getElem_toArray, List.getElem_cons_succ, List.getElem_cons_zero, List.setIfInBounds_toArray, List.set_cons_zero, List.set_cons_succ]
  refine wpAnyF_take (i := 15) (v := .slice bp 11 bc) rfl (by kernel_rfl) (by kernel_rfl) (by kernel_rfl) (by kernel_rfl) (fun _ _ _ h => h) (Or.inl ⟨by kernel_rfl, fun w hSw => by (try dsimp only at hSw); go_simp⟩) R ?_; try simp only [Act.put, List.getElem_toArray, List.getElem_cons_succ, List.getElem_cons_zero, List.setIfInBounds_toArray, List.set_cons_zero, List.set_cons_succ]
  refine wpAnyF_one (i := 16) (by kernel_rfl) rfl (fun K hK => ?_); go_simp
  have R1 := below_next R ((Below.refl V0.heap.size V0).alloc (Nat.le_refl _) (.cells #[.int .u8 1, .int .u8 2, .int .u8 5, .int .u8 2, .int .u8 2, .int .u8 7, .int .u8 9, .int .u8 7, .int .u8 2, .int .u8 0, .int .u8 1] 5))
  have hS1 : Sl (V0.alloc (.cells #[.int .u8 1, .int .u8 2, .int .u8 5, .int .u8 2, .int .u8 2, .int .u8 7, .int .u8 9, .int .u8 7, .int .u8 2, .int .u8 0, .int .u8 1] 5)) (some ⟨V0.heap.size, 0, none⟩) 11 (u8s smallB) := (SlK.of_blk (k := 1) (n := 11) (World.alloc_heap_new _ _) rfl (by decide)).sl
  refine hK.out _ _ (fun _ => R1) ?_; clear hK K; try simp only [Act.put, List.getElem_toArray, List.getElem_cons_succ, List.getElem_cons_zero, List.setIfInBounds_toArray, List.set_cons_zero, List.set_cons_succ]
  refine wpAnyF_one (i := 17) (by kernel_rfl) rfl (fun K hK => ?_); go_simp
  refine (eqB_any _ _ 11 11 _ _ smallB smallB _ (hS10.below R1) hS1 (by decide) (by decide)).mono ?_
  rintro e V1 ⟨rfl, hV1⟩
  rw [hV1, decide_eq_true rfl]
  clear hV1 hS1
  dsimp only
  refine hK.out _ _ (fun _ => R1) ?_; clear hK K; try simp only [Act.put, List.getElem_toArray, List.getElem_cons_succ, List.getElem_cons_zero, List.setIfInBounds_toArray, List.set_cons_zero, List.set_cons_succ]
  generalize V0.alloc _ = V1 at R1 ⊢
  clear R
  refine wpAnyF_take (i := 18) (v := .bool true) rfl (by kernel_rfl) (by kernel_rfl) (by kernel_rfl) (by kernel_rfl) (fun _ _ _ h => h) (Or.inl ⟨by kernel_rfl, fun w hSw => by (try dsimp only at hSw); go_simp⟩) R1 ?_; try simp only [Act.put, List.getElem_toArray, List.getElem_cons_succ, List.getElem_cons_zero, List.setIfInBounds_toArray, List.set_cons_zero, List.set_cons_succ]
  refine wpAnyF_take (i := 19) (v := .bool true) rfl (by kernel_rfl) (by kernel_rfl) (by kernel_rfl) (by kernel_rfl) (fun _ _ _ h => h) (Or.inl ⟨by kernel_rfl, fun w hSw => by (try dsimp only at hSw); go_simp⟩) R1 ?_; try simp only [Act.put, List.getElem_toArray, List.getElem_cons_succ, List.getElem_cons_zero, List.setIfInBounds_toArray, List.set_cons_zero, List.set_cons_succ]
  refine wpAnyF_take (i := 20) (v := .agg #[.int .i64 g, .int .i64 sb, .int .u64 (seed : Int), .slice lp ln lc, .slice pp pn pc]) rfl (by kernel_rfl) (by kernel_rfl) (by kernel_rfl) (by kernel_rfl) (fun _ _ _ h => h) (Or.inl ⟨by kernel_rfl, fun w hSw => run_load_agg (by rfl) (by rfl) (heap_below hSw hb10 (lt_of_heap hb10)) Tryd.underlying26 rfl info_sm⟩) R1 ?_; try simp only [Act.put, List.getElem_toArray, List.getElem_cons_succ, List.getElem_cons_zero, List.setIfInBounds_toArray, List.set_cons_zero, List.set_cons_succ]
  refine wpAnyF_one (i := 21) (by kernel_rfl) rfl (fun K hK => ?_); go_simp
  refine (small_any V1).mono ?_
  rintro e V2 ⟨sm', rfl, hB2, hIn2, hs2⟩
  have R2 := below_next R1 hB2
  clear R1 hB2
  dsimp only
  refine hK.out _ _ (fun _ => R2) ?_; clear hK K; try simp only [Act.put, List.getElem_toArray, List.getElem_cons_succ, List.getElem_cons_zero, List.setIfInBounds_toArray, List.set_cons_zero, List.set_cons_succ]
  refine wpAnyF_one (i := 22) (by kernel_rfl) rfl (fun K hK => ?_); go_simp
  have C := same_any sm6 sm' V2 (hIn10.below R2) hIn2
  rw [hs6'h.out, hs2, decide_eq_true rfl] at C
  rw [hA'h.out] at C
  refine C.mono ?_
  rintro e V3 ⟨rfl, hB3⟩
  have R3 := below_next R2 hB3
  clear R2 hB3 C hIn2
  dsimp only
  refine hK.out _ _ (fun _ => R3) ?_; clear hK K; try simp only [Act.put, List.getElem_toArray, List.getElem_cons_succ, List.getElem_cons_zero, List.setIfInBounds_toArray, List.set_cons_zero, List.set_cons_succ]
  refine wpAnyF_take (i := 23) (v := .bool true) rfl (by kernel_rfl) (by kernel_rfl) (by kernel_rfl) (by kernel_rfl) (fun _ _ _ h => h) (Or.inl ⟨by kernel_rfl, fun w hSw => by (try dsimp only at hSw); go_simp⟩) R3 ?_; try simp only [Act.put, List.getElem_toArray, List.getElem_cons_succ, List.getElem_cons_zero, List.setIfInBounds_toArray, List.set_cons_zero, List.set_cons_succ]
  refine wpAnyF_take (i := 24) (v := .bool true) rfl (by kernel_rfl) (by kernel_rfl) (by kernel_rfl) (by kernel_rfl) (fun _ _ _ h => h) (Or.inl ⟨by kernel_rfl, fun w hSw => by (try dsimp only at hSw); go_simp⟩) R3 ?_; try simp only [Act.put, List.getElem_toArray, List.getElem_cons_succ, List.getElem_cons_zero, List.setIfInBounds_toArray, List.set_cons_zero, List.set_cons_succ]
  refine wpAnyF_one (i := 25) (by kernel_rfl) rfl (fun K hK => ?_); go_simp
  refine (takes_any 4 V3 (hT10.next R3)).mono ?_
  rintro e V4 ⟨rfl, hV4⟩
  rw [hV4, show takesI 4 = 3 from rfl]
  clear hV4
  dsimp only
  refine hK.out _ _ (fun _ => R3) ?_; clear hK K; try simp only [Act.put, List.getElem_toArray, List.getElem_cons_succ, List.getElem_cons_zero, List.setIfInBounds_toArray, List.set_cons_zero, List.set_cons_succ]
  refine wpAnyF_take (i := 26) (v := .bool true) rfl (by kernel_rfl) (by kernel_rfl) (by kernel_rfl) (by kernel_rfl) (fun _ _ _ h => h) (Or.inl ⟨by kernel_rfl, fun w hSw => by (try dsimp only at hSw); go_simp⟩) R3 ?_; try simp only [Act.put, List.getElem_toArray, List.getElem_cons_succ, List.getElem_cons_zero, List.setIfInBounds_toArray, List.set_cons_zero, List.set_cons_succ]
  refine wpAnyF_take (i := 27) (v := .bool true) rfl (by kernel_rfl) (by kernel_rfl) (by kernel_rfl) (by kernel_rfl) (fun _ _ _ h => h) (Or.inl ⟨by kernel_rfl, fun w hSw => by (try dsimp only at hSw); go_simp⟩) R3 ?_; try simp only [Act.put, List.getElem_toArray, List.getElem_cons_succ, List.getElem_cons_zero, List.setIfInBounds_toArray, List.set_cons_zero, List.set_cons_succ]
  refine wpAnyF_take (i := 28) (v := .bool true) rfl (by kernel_rfl) (by kernel_rfl) (by kernel_rfl) (by kernel_rfl) (fun _ _ _ h => h) (Or.inl ⟨by kernel_rfl, fun w hSw => by (try dsimp only at hSw); go_simp⟩) R3 ?_; try simp only [Act.put, List.getElem_toArray, List.getElem_cons_succ, List.getElem_cons_zero, List.setIfInBounds_toArray, List.set_cons_zero, List.set_cons_succ]
  refine wpAnyF_two (i := 29) (j := 30) (by kernel_rfl) rfl rfl (fun K hK => ?_) (fun K hK => ?_)
  ·
    go_simp
    refine (number_any 300 V3 (by decide)).mono ?_
    rw [small_300]
    rintro e V5 ⟨nv, rfl, hrow5, hB5⟩
    obtain ⟨np, nc, rfl⟩ := row_slice' hrow5
    rw [show ([172, 2] : List Nat).length = 2 from rfl] at hrow5 ⊢
    have hS5 := Sl.of_row hrow5 (by decide)
    have R5 := below_next R3 hB5
    clear hB5 hrow5 R3
    dsimp only
    refine hK.out _ _ (fun _ => R5) ?_; clear hK K; try simp only [Act.put, List.getElem_toArray, List.getElem_cons_succ, List.getElem_cons_zero, List.setIfInBounds_toArray, List.set_cons_zero, List.set_cons_succ]
    refine wpAnyF_one (i := 30) (by kernel_rfl) rfl (fun K hK => ?_); go_simp
    have hB6 := (Below.refl V5.heap.size V5).alloc (Nat.le_refl _) (.cells #[.int .u8 172, .int .u8 2] 5)
    have R6 := below_next R5 hB6
    have hS6 : Sl (V5.alloc (.cells #[.int .u8 172, .int .u8 2] 5)) (some ⟨V5.heap.size, 0, none⟩) 2 (u8s [172, 2]) := (SlK.of_blk (k := 1) (n := 2) (World.alloc_heap_new _ _) rfl (by decide)).sl
    have hS5b := hS5.below hB6
    clear hB6 hS5 R5
    refine hK.out _ _ (fun _ => R6) ?_; clear hK K; try simp only [Act.put, List.getElem_toArray, List.getElem_cons_succ, List.getElem_cons_zero, List.setIfInBounds_toArray, List.set_cons_zero, List.set_cons_succ]
    generalize V5.alloc _ = V6 at R6 hS6 hS5b ⊢
    have R7 := R6
    refine wpAnyF_one (i := 31) (by kernel_rfl) rfl (fun K hK => ?_); go_simp
    refine (eqB_any _ _ 2 2 _ _ [172, 2] [172, 2] _ hS5b hS6 (by decide) (by decide)).mono ?_
    rintro e V7 ⟨rfl, hV7⟩
    rw [hV7, decide_eq_true rfl]
    clear hV7
    dsimp only
    refine hK.out _ _ (fun _ => R7) ?_; clear hK K; try simp only [Act.put, List.getElem_toArray, List.getElem_cons_succ, List.getElem_cons_zero, List.setIfInBounds_toArray, List.set_cons_zero, List.set_cons_succ]
    refine wpAnyF_take (i := 32) (v := .bool true) rfl (by kernel_rfl) (by kernel_rfl) (by kernel_rfl) (by kernel_rfl) (fun _ _ _ h => h) (Or.inl ⟨by kernel_rfl, fun w hSw => by (try dsimp only at hSw); go_simp⟩) R7 ?_; try simp only [Act.put, List.getElem_toArray, List.getElem_cons_succ, List.getElem_cons_zero, List.setIfInBounds_toArray, List.set_cons_zero, List.set_cons_succ]
    refine wpAnyF_take (i := 33) (v := .bool true) rfl (by kernel_rfl) (by kernel_rfl) (by kernel_rfl) (by kernel_rfl) (fun _ _ _ h => h) (Or.inl ⟨by kernel_rfl, fun w hSw => by (try dsimp only at hSw); go_simp⟩) R7 ?_; try simp only [Act.put, List.getElem_toArray, List.getElem_cons_succ, List.getElem_cons_zero, List.setIfInBounds_toArray, List.set_cons_zero, List.set_cons_succ]
    refine wpAnyF_take (i := 34) (v := .agg #[.int .i64 g, .int .i64 sb, .int .u64 (seed : Int), .slice lp ln lc, .slice pp pn pc]) rfl (by kernel_rfl) (by kernel_rfl) (by kernel_rfl) (by kernel_rfl) (fun _ _ _ h => h) (Or.inl ⟨by kernel_rfl, fun w hSw => run_load_agg (by rfl) (by rfl) (heap_below hSw hb10 (lt_of_heap hb10)) Tryd.underlying26 rfl info_sm⟩) R7 ?_; try simp only [Act.put, List.getElem_toArray, List.getElem_cons_succ, List.getElem_cons_zero, List.setIfInBounds_toArray, List.set_cons_zero, List.set_cons_succ]
    have hK := fun V (hV : Below W.heap.size W V) => keys_any sm6 V (hT10.next hV) (hIn10.below hV)
    rw [hs6'h.out, small_keys, hA'h.out] at hK
    have hKK := Lib.hid hK
    clear hK
    refine wpAnyF_two (i := 35) (j := 36) (by kernel_rfl) rfl rfl (fun K hK => ?_) (fun K hK => ?_)
    ·
      go_simp
      refine (hKK.out _ R7).mono ?_
      rintro e V8 ⟨kp, kn, kc, rfl, hB8, hrow8⟩
      dsimp only
      have hk1 := hrow8.1
      obtain rfl : kn = 1 := by simpa [u64s] using hk1.symm
      have hSk := Sl.of_row hrow8 (by decide)
      have R8 := below_next R7 hB8
      clear hB8 hrow8 hk1
      refine hK.out _ _ (fun _ => R8) ?_; clear hK K; try simp only [Act.put, List.getElem_toArray, List.getElem_cons_succ, List.getElem_cons_zero, List.setIfInBounds_toArray, List.set_cons_zero, List.set_cons_succ]
      refine wpAnyF_one (i := 36) (by kernel_rfl) rfl (fun K hK => ?_); go_simp
      have hB9 := (Below.refl V8.heap.size V8).alloc (Nat.le_refl _) (.cells #[.int .u64 7] 22)
      have R9 := below_next R8 hB9
      have hS9 : Sl (V8.alloc (.cells #[.int .u64 7] 22)) (some ⟨V8.heap.size, 0, none⟩) 1 (u64s [7]) := (SlK.of_blk (k := 1) (n := 1) (World.alloc_heap_new _ _) rfl (by decide)).sl
      have hSk9 := hSk.below hB9
      clear hB9 hSk
      refine hK.out _ _ (fun _ => R9) ?_; clear hK K; try simp only [Act.put, List.getElem_toArray, List.getElem_cons_succ, List.getElem_cons_zero, List.setIfInBounds_toArray, List.set_cons_zero, List.set_cons_succ]
      refine wpAnyF_one (i := 37) (by kernel_rfl) rfl (fun K hK => ?_); go_simp
      refine (equalU_any _ _ 1 1 _ _ [7] [7] _ hSk9 hS9).mono ?_
      rintro e V9 ⟨rfl, d, hV9⟩
      rw [hV9, decide_eq_true rfl]
      clear hV9
      dsimp only
      have R10 := R9.trans (below_drewN' _ d)
      refine hK.out _ _ (fun _ => R10) ?_; clear hK K; try simp only [Act.put, List.getElem_toArray, List.getElem_cons_succ, List.getElem_cons_zero, List.setIfInBounds_toArray, List.set_cons_zero, List.set_cons_succ]
      refine wpAnyF_take (i := 38) (v := .bool true) rfl (by kernel_rfl) (by kernel_rfl) (by kernel_rfl) (by kernel_rfl) (fun _ _ _ h => h) (Or.inl ⟨by kernel_rfl, fun w hSw => by (try dsimp only at hSw); go_simp⟩) R10 ?_; try simp only [Act.put, List.getElem_toArray, List.getElem_cons_succ, List.getElem_cons_zero, List.setIfInBounds_toArray, List.set_cons_zero, List.set_cons_succ]
      refine wpAnyF_take (i := 39) (v := .bool true) rfl (by kernel_rfl) (by kernel_rfl) (by kernel_rfl) (by kernel_rfl) (fun _ _ _ h => h) (Or.inl ⟨by kernel_rfl, fun w hSw => by (try dsimp only at hSw); go_simp⟩) R10 ?_; try simp only [Act.put, List.getElem_toArray, List.getElem_cons_succ, List.getElem_cons_zero, List.setIfInBounds_toArray, List.set_cons_zero, List.set_cons_succ]
      refine wpAnyF_done (by kernel_rfl) ?_ _
      have hR := below_next hB010 R10
      clear hB010 hT10 hIn10 hS10 hb10 R7 R8 R9 R10 hSk9 hS9 hKK
      generalize World.drewN _ _ = V10 at hR ⊢
      have hRR := Lib.hid hR
      clear hR
      go_wp2
      go_ret
      exact ⟨rfl, hRR.out⟩
    ·
      go_simp
      have hB9 := (Below.refl V6.heap.size V6).alloc (Nat.le_refl _) (.cells #[.int .u64 7] 22)
      have R9 := below_next R7 hB9
      have hS9 : Sl (V6.alloc (.cells #[.int .u64 7] 22)) (some ⟨V6.heap.size, 0, none⟩) 1 (u64s [7]) := (SlK.of_blk (k := 1) (n := 1) (World.alloc_heap_new _ _) rfl (by decide)).sl
      clear hB9
      refine hK.out _ _ (fun _ => R9) ?_; clear hK K; try simp only [Act.put, List.getElem_toArray, List.getElem_cons_succ, List.getElem_cons_zero, List.setIfInBounds_toArray, List.set_cons_zero, List.set_cons_succ]
      refine wpAnyF_one (i := 35) (by kernel_rfl) rfl (fun K hK => ?_); go_simp
      refine (hKK.out _ R9).mono ?_
      rintro e V8 ⟨kp, kn, kc, rfl, hB8, hrow8⟩
      dsimp only
      have hk1 := hrow8.1
      obtain rfl : kn = 1 := by simpa [u64s] using hk1.symm
      have hSk := Sl.of_row hrow8 (by decide)
      have hS10b := hS9.below hB8
      have R8 := below_next R9 hB8
      clear hB8 hrow8 hk1 hS9
      refine hK.out _ _ (fun _ => R8) ?_; clear hK K; try simp only [Act.put, List.getElem_toArray, List.getElem_cons_succ, List.getElem_cons_zero, List.setIfInBounds_toArray, List.set_cons_zero, List.set_cons_succ]
      refine wpAnyF_one (i := 37) (by kernel_rfl) rfl (fun K hK => ?_); go_simp
      refine (equalU_any _ _ 1 1 _ _ [7] [7] _ hSk hS10b).mono ?_
      rintro e V9 ⟨rfl, d, hV9⟩
      rw [hV9, decide_eq_true rfl]
      clear hV9
      dsimp only
      have R10 := R8.trans (below_drewN' _ d)
      refine hK.out _ _ (fun _ => R10) ?_; clear hK K; try simp only [Act.put, List.getElem_toArray, List.getElem_cons_succ, List.getElem_cons_zero, List.setIfInBounds_toArray, List.set_cons_zero, List.set_cons_succ]
      refine wpAnyF_take (i := 38) (v := .bool true) rfl (by kernel_rfl) (by kernel_rfl) (by kernel_rfl) (by kernel_rfl) (fun _ _ _ h => h) (Or.inl ⟨by kernel_rfl, fun w hSw => by (try dsimp only at hSw); go_simp⟩) R10 ?_; try simp only [Act.put, List.getElem_toArray, List.getElem_cons_succ, List.getElem_cons_zero, List.setIfInBounds_toArray, List.set_cons_zero, List.set_cons_succ]
      refine wpAnyF_take (i := 39) (v := .bool true) rfl (by kernel_rfl) (by kernel_rfl) (by kernel_rfl) (by kernel_rfl) (fun _ _ _ h => h) (Or.inl ⟨by kernel_rfl, fun w hSw => by (try dsimp only at hSw); go_simp⟩) R10 ?_; try simp only [Act.put, List.getElem_toArray, List.getElem_cons_succ, List.getElem_cons_zero, List.setIfInBounds_toArray, List.set_cons_zero, List.set_cons_succ]
      refine wpAnyF_done (by kernel_rfl) ?_ _
      have hR := below_next hB010 R10
      clear hB010 hT10 hIn10 hS10 hb10 R7 R8 R9 R10 hSk hS10b hKK
      generalize World.drewN _ _ = V10 at hR ⊢
      have hRR := Lib.hid hR
      clear hR
      go_wp2
      go_ret
      exact ⟨rfl, hRR.out⟩
  ·
    go_simp
    have hB6 := (Below.refl V3.heap.size V3).alloc (Nat.le_refl _) (.cells #[.int .u8 172, .int .u8 2] 5)
    have R6 := below_next R3 hB6
    have hS6 : Sl (V3.alloc (.cells #[.int .u8 172, .int .u8 2] 5)) (some ⟨V3.heap.size, 0, none⟩) 2 (u8s [172, 2]) := (SlK.of_blk (k := 1) (n := 2) (World.alloc_heap_new _ _) rfl (by decide)).sl
    clear hB6 R3
    refine hK.out _ _ (fun _ => R6) ?_; clear hK K; try simp only [Act.put, List.getElem_toArray, List.getElem_cons_succ, List.getElem_cons_zero, List.setIfInBounds_toArray, List.set_cons_zero, List.set_cons_succ]
    generalize V3.alloc _ = V6 at R6 hS6 ⊢
    refine wpAnyF_one (i := 29) (by kernel_rfl) rfl (fun K hK => ?_); go_simp
    refine (number_any 300 V6 (by decide)).mono ?_
    rw [small_300]
    rintro e V5 ⟨nv, rfl, hrow5, hB5⟩
    obtain ⟨np, nc, rfl⟩ := row_slice' hrow5
    rw [show ([172, 2] : List Nat).length = 2 from rfl] at hrow5 ⊢
    have hS5 := Sl.of_row hrow5 (by decide)
    have hS6b := hS6.below hB5
    have R5 := below_next R6 hB5
    clear hB5 hrow5 R6 hS6
    dsimp only
    refine hK.out _ _ (fun _ => R5) ?_; clear hK K; try simp only [Act.put, List.getElem_toArray, List.getElem_cons_succ, List.getElem_cons_zero, List.setIfInBounds_toArray, List.set_cons_zero, List.set_cons_succ]
    have R7 := R5
    refine wpAnyF_one (i := 31) (by kernel_rfl) rfl (fun K hK => ?_); go_simp
    refine (eqB_any _ _ 2 2 _ _ [172, 2] [172, 2] _ hS5 hS6b (by decide) (by decide)).mono ?_
    rintro e V7 ⟨rfl, hV7⟩
    rw [hV7, decide_eq_true rfl]
    clear hV7
    dsimp only
    refine hK.out _ _ (fun _ => R7) ?_; clear hK K; try simp only [Act.put, List.getElem_toArray, List.getElem_cons_succ, List.getElem_cons_zero, List.setIfInBounds_toArray, List.set_cons_zero, List.set_cons_succ]
    refine wpAnyF_take (i := 32) (v := .bool true) rfl (by kernel_rfl) (by kernel_rfl) (by kernel_rfl) (by kernel_rfl) (fun _ _ _ h => h) (Or.inl ⟨by kernel_rfl, fun w hSw => by (try dsimp only at hSw); go_simp⟩) R7 ?_; try simp only [Act.put, List.getElem_toArray, List.getElem_cons_succ, List.getElem_cons_zero, List.setIfInBounds_toArray, List.set_cons_zero, List.set_cons_succ]
    refine wpAnyF_take (i := 33) (v := .bool true) rfl (by kernel_rfl) (by kernel_rfl) (by kernel_rfl) (by kernel_rfl) (fun _ _ _ h => h) (Or.inl ⟨by kernel_rfl, fun w hSw => by (try dsimp only at hSw); go_simp⟩) R7 ?_; try simp only [Act.put, List.getElem_toArray, List.getElem_cons_succ, List.getElem_cons_zero, List.setIfInBounds_toArray, List.set_cons_zero, List.set_cons_succ]
    refine wpAnyF_take (i := 34) (v := .agg #[.int .i64 g, .int .i64 sb, .int .u64 (seed : Int), .slice lp ln lc, .slice pp pn pc]) rfl (by kernel_rfl) (by kernel_rfl) (by kernel_rfl) (by kernel_rfl) (fun _ _ _ h => h) (Or.inl ⟨by kernel_rfl, fun w hSw => run_load_agg (by rfl) (by rfl) (heap_below hSw hb10 (lt_of_heap hb10)) Tryd.underlying26 rfl info_sm⟩) R7 ?_; try simp only [Act.put, List.getElem_toArray, List.getElem_cons_succ, List.getElem_cons_zero, List.setIfInBounds_toArray, List.set_cons_zero, List.set_cons_succ]
    have hK := fun V (hV : Below W.heap.size W V) => keys_any sm6 V (hT10.next hV) (hIn10.below hV)
    rw [hs6'h.out, small_keys, hA'h.out] at hK
    have hKK := Lib.hid hK
    clear hK
    refine wpAnyF_two (i := 35) (j := 36) (by kernel_rfl) rfl rfl (fun K hK => ?_) (fun K hK => ?_)
    ·
      go_simp
      refine (hKK.out _ R7).mono ?_
      rintro e V8 ⟨kp, kn, kc, rfl, hB8, hrow8⟩
      dsimp only
      have hk1 := hrow8.1
      obtain rfl : kn = 1 := by simpa [u64s] using hk1.symm
      have hSk := Sl.of_row hrow8 (by decide)
      have R8 := below_next R7 hB8
      clear hB8 hrow8 hk1
      refine hK.out _ _ (fun _ => R8) ?_; clear hK K; try simp only [Act.put, List.getElem_toArray, List.getElem_cons_succ, List.getElem_cons_zero, List.setIfInBounds_toArray, List.set_cons_zero, List.set_cons_succ]
      refine wpAnyF_one (i := 36) (by kernel_rfl) rfl (fun K hK => ?_); go_simp
      have hB9 := (Below.refl V8.heap.size V8).alloc (Nat.le_refl _) (.cells #[.int .u64 7] 22)
      have R9 := below_next R8 hB9
      have hS9 : Sl (V8.alloc (.cells #[.int .u64 7] 22)) (some ⟨V8.heap.size, 0, none⟩) 1 (u64s [7]) := (SlK.of_blk (k := 1) (n := 1) (World.alloc_heap_new _ _) rfl (by decide)).sl
      have hSk9 := hSk.below hB9
      clear hB9 hSk
      refine hK.out _ _ (fun _ => R9) ?_; clear hK K; try simp only [Act.put, List.getElem_toArray, List.getElem_cons_succ, List.getElem_cons_zero, List.setIfInBounds_toArray, List.set_cons_zero, List.set_cons_succ]
      refine wpAnyF_one (i := 37) (by kernel_rfl) rfl (fun K hK => ?_); go_simp
      refine (equalU_any _ _ 1 1 _ _ [7] [7] _ hSk9 hS9).mono ?_
      rintro e V9 ⟨rfl, d, hV9⟩
      rw [hV9, decide_eq_true rfl]
      clear hV9
      dsimp only
      have R10 := R9.trans (below_drewN' _ d)
      refine hK.out _ _ (fun _ => R10) ?_; clear hK K; try simp only [Act.put, List.getElem_toArray, List.getElem_cons_succ, List.getElem_cons_zero, List.setIfInBounds_toArray, List.set_cons_zero, List.set_cons_succ]
      refine wpAnyF_take (i := 38) (v := .bool true) rfl (by kernel_rfl) (by kernel_rfl) (by kernel_rfl) (by kernel_rfl) (fun _ _ _ h => h) (Or.inl ⟨by kernel_rfl, fun w hSw => by (try dsimp only at hSw); go_simp⟩) R10 ?_; try simp only [Act.put, List.getElem_toArray, List.getElem_cons_succ, List.getElem_cons_zero, List.setIfInBounds_toArray, List.set_cons_zero, List.set_cons_succ]
      refine wpAnyF_take (i := 39) (v := .bool true) rfl (by kernel_rfl) (by kernel_rfl) (by kernel_rfl) (by kernel_rfl) (fun _ _ _ h => h) (Or.inl ⟨by kernel_rfl, fun w hSw => by (try dsimp only at hSw); go_simp⟩) R10 ?_; try simp only [Act.put, List.getElem_toArray, List.getElem_cons_succ, List.getElem_cons_zero, List.setIfInBounds_toArray, List.set_cons_zero, List.set_cons_succ]
      refine wpAnyF_done (by kernel_rfl) ?_ _
      have hR := below_next hB010 R10
      clear hB010 hT10 hIn10 hS10 hb10 R7 R8 R9 R10 hSk9 hS9 hKK
      generalize World.drewN _ _ = V10 at hR ⊢
      have hRR := Lib.hid hR
      clear hR
      go_wp2
      go_ret
      exact ⟨rfl, hRR.out⟩
    ·
      go_simp
      have hB9 := (Below.refl V5.heap.size V5).alloc (Nat.le_refl _) (.cells #[.int .u64 7] 22)
      have R9 := below_next R7 hB9
      have hS9 : Sl (V5.alloc (.cells #[.int .u64 7] 22)) (some ⟨V5.heap.size, 0, none⟩) 1 (u64s [7]) := (SlK.of_blk (k := 1) (n := 1) (World.alloc_heap_new _ _) rfl (by decide)).sl
      clear hB9
      refine hK.out _ _ (fun _ => R9) ?_; clear hK K; try simp only [Act.put, List.getElem_toArray, List.getElem_cons_succ, List.getElem_cons_zero, List.setIfInBounds_toArray, List.set_cons_zero, List.set_cons_succ]
      refine wpAnyF_one (i := 35) (by kernel_rfl) rfl (fun K hK => ?_); go_simp
      refine (hKK.out _ R9).mono ?_
      rintro e V8 ⟨kp, kn, kc, rfl, hB8, hrow8⟩
      dsimp only
      have hk1 := hrow8.1
      obtain rfl : kn = 1 := by simpa [u64s] using hk1.symm
      have hSk := Sl.of_row hrow8 (by decide)
      have hS10b := hS9.below hB8
      have R8 := below_next R9 hB8
      clear hB8 hrow8 hk1 hS9
      refine hK.out _ _ (fun _ => R8) ?_; clear hK K; try simp only [Act.put, List.getElem_toArray, List.getElem_cons_succ, List.getElem_cons_zero, List.setIfInBounds_toArray, List.set_cons_zero, List.set_cons_succ]
      refine wpAnyF_one (i := 37) (by kernel_rfl) rfl (fun K hK => ?_); go_simp
      refine (equalU_any _ _ 1 1 _ _ [7] [7] _ hSk hS10b).mono ?_
      rintro e V9 ⟨rfl, d, hV9⟩
      rw [hV9, decide_eq_true rfl]
      clear hV9
      dsimp only
      have R10 := R8.trans (below_drewN' _ d)
      refine hK.out _ _ (fun _ => R10) ?_; clear hK K; try simp only [Act.put, List.getElem_toArray, List.getElem_cons_succ, List.getElem_cons_zero, List.setIfInBounds_toArray, List.set_cons_zero, List.set_cons_succ]
      refine wpAnyF_take (i := 38) (v := .bool true) rfl (by kernel_rfl) (by kernel_rfl) (by kernel_rfl) (by kernel_rfl) (fun _ _ _ h => h) (Or.inl ⟨by kernel_rfl, fun w hSw => by (try dsimp only at hSw); go_simp⟩) R10 ?_; try simp only [Act.put, List.getElem_toArray, List.getElem_cons_succ, List.getElem_cons_zero, List.setIfInBounds_toArray, List.set_cons_zero, List.set_cons_succ]
      refine wpAnyF_take (i := 39) (v := .bool true) rfl (by kernel_rfl) (by kernel_rfl) (by kernel_rfl) (by kernel_rfl) (fun _ _ _ h => h) (Or.inl ⟨by kernel_rfl, fun w hSw => by (try dsimp only at hSw); go_simp⟩) R10 ?_; try simp only [Act.put, List.getElem_toArray, List.getElem_cons_succ, List.getElem_cons_zero, List.setIfInBounds_toArray, List.set_cons_zero, List.set_cons_succ]
      refine wpAnyF_done (by kernel_rfl) ?_ _
      have hR := below_next hB010 R10
      clear hB010 hT10 hIn10 hS10 hb10 R7 R8 R9 R10 hSk hS10b hKK
      generalize World.drewN _ _ = V10 at hR ⊢
      have hRR := Lib.hid hR
      clear hR
      go_wp2
      go_ret
      exact ⟨rfl, hRR.out⟩
end Go.Proofs.YtifofdciablljaaDoor
