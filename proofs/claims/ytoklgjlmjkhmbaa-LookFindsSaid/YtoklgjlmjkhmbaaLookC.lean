/-
  Package look: Need, and one load.
-/
import Derived.Test.YtoklgjlmjkhmbaaLookB
set_option linter.unusedSimpArgs false
set_option linter.unusedVariables false
set_option maxRecDepth 100000
namespace Go.Proofs.Ytoklgjlmjkhmbaa
open Go.RowKit

theorem lcheck_yes (s : Sg) (w : World) (h : SgOk s) (hr : SgRight s) : Calls Try.prog 21 #[.agg (sgA s)] w fun e w' => e = .returned (.int .i64 0) ∧ Below w.heap.size w w' := by
  have := lcheck_any s w h
  rwa [lcheckE_yes hr] at this
theorem lcheck_no (s : Sg) (w : World) (h : SgOk s) (hr : ¬ SgRight s) : Calls Try.prog 21 #[.agg (sgA s)] w fun e w' => e = .returned (.int .i64 280) ∧ Below w.heap.size w w' := by
  have := lcheck_any s w h
  rwa [lcheckE_no hr] at this
section
variable {P : Program}
theorem wpStill_value {ops : Array Oper} {rest : List Oper} {o : Oper} {a : Act} {w : World} {Q : Act → Prop} (hgd : o.guard = none) (v : Value) (hrun : (execOp a.eval o).run P w = .ok (.value v) w)
    (h : wpStill P ops w Q rest (a.put o.dst v)) : wpStill P ops w Q (o :: rest) a := by
  refine wpStill_step fun K hK => ?_
  have hw : Region.wanted o (yielded ops a.tmps) = true := by simp [Region.wanted, hgd]
  rw [if_pos hw]
  unfold Oper.still
  rw [hrun, Oper.stillUpon_value]
  exact hK _ h
theorem wpList_value {ops : Array Oper} {rest : List Oper} {o : Oper} {a : Act} {w : World} {Q : Exit → Act → World → Prop} (hgd : o.guard = none) (v : Value) (hrun : (execOp a.eval o).run P w = .ok (.value v) w)
    (h : wpList P ops Q rest (a.put o.dst v) w) : wpList P ops Q (o :: rest) a w :=
  wpList_plain hgd fun K hK => by
    unfold Oper.wp
    rw [hrun]
    exact hK _ _ h
end
theorem built_si (s : Sg) (w : World) : (Instr.build 88 #[(0, .agg (sgA s))]).run Try.prog w = .ok (.agg (sgA s)) w := by
  unfold sgA; kernel_rfl
theorem need_wrong (s : Sg) (w : World) (h : SgOk s) (hr : ¬ SgRight s) :
    Calls Try.prog 22 #[.agg (sgA s)] w fun e w' => e = .returned (.tuple #[.int .i64 0, .bool false]) ∧ Below w.heap.size w w' := by
  have C := fun w => lcheck_no s w h hr
  have hb0 : Below w.heap.size w (w.alloc (.cells (sgA s) 33)) := (Below.refl _ _).alloc (Nat.le_refl _) _
  have C'h := Lib.hid C
  have h'h := Lib.hid h
  have hr'h := Lib.hid hr
  have hb0'h := Lib.hid hb0
  clear C h hr hb0
  go_enter Try.func22, Try.ntmps22
  go_wp2_with (first | (refine wpList_load_row rfl _ _ rfl w.heap.size rfl 33 (sgA s) (0, 0) _ (World.alloc_heap_new _ _) Try.underlying33 rfl infoSg ?_) | (go_at_call 21; refine (C'h.out _).mono ?_; rintro e w2 ⟨rfl, hb2⟩))
  go_ret2
  exact ⟨rfl, below_next hb0'h.out hb2⟩
theorem need_over (s : Sg) (w : World) (h : SgOk s) (hr : SgRight s) (hh : hasS s = false) :
    Calls Try.prog 22 #[.agg (sgA s)] w fun e w' => e = .returned (.tuple #[.int .i64 0, .bool false]) ∧ Below w.heap.size w w' := by
  have C := fun w => lcheck_yes s w h hr
  have hb0 : Below w.heap.size w (w.alloc (.cells (sgA s) 33)) := (Below.refl _ _).alloc (Nat.le_refl _) _
  have hlt : w.heap.size < (w.alloc (.cells (sgA s) 33)).heap.size := by simp
  have hp : decide (4 < s.phase) = true := by unfold hasS at hh; simp at hh ⊢; omega
  generalize hph : s.phase = ph at *
  have C'h := Lib.hid C
  have h'h := Lib.hid h
  have hr'h := Lib.hid hr
  have hb0'h := Lib.hid hb0
  have hh'h := Lib.hid hh
  have hlt'h := Lib.hid hlt
  have hph'h := Lib.hid hph
  clear C h hr hb0 hh hlt hph
  go_enter Try.func22, Try.ntmps22
  go_wp2_with (first | (refine wpList_load_row rfl _ _ rfl w.heap.size rfl 33 (sgA s) (0, 0) _ (World.alloc_heap_new _ _) Try.underlying33 rfl infoSg ?_) | (go_at_call 21; refine (C'h.out _).mono ?_; rintro e w2 ⟨rfl, hb2⟩; have c0 : w2.cell? ⟨w.heap.size, 0, none⟩ = some (.int .i64 ph) := by { rw [← hph'h.out]; exact blk_cell (heap_below hb2 (World.alloc_heap_new _ _) hlt'h.out) rfl }))
  go_ret2
  exact ⟨rfl, below_next hb0'h.out hb2⟩
/-- The cells of one who reads. -/
def SgC (s : Sg) (b : Nat) (W : World) : Prop :=
  W.cell? ⟨b, 0, none⟩ = some (.int .i64 s.phase) ∧ W.cell? ⟨b, 1, none⟩ = some (.int .i64 s.slab) ∧ W.cell? ⟨b, 2, none⟩ = some (.int .u64 s.key) ∧ W.cell? ⟨b, 3, none⟩ = some (.int .u64 s.hash) ∧ W.cell? ⟨b, 4, none⟩ = some (.int .u64 s.began) ∧
  W.cell? ⟨b, 5, none⟩ = some (.int .i64 s.grp) ∧ W.cell? ⟨b, 6, none⟩ = some (.int .u64 s.ctrl) ∧ W.cell? ⟨b, 7, none⟩ = some (.int .u8 s.left) ∧ W.cell? ⟨b, 8, none⟩ = some (.int .u64 s.value) ∧ W.cell? ⟨b, 9, none⟩ = some (.bool s.found)
theorem SgC.of {s : Sg} {b : Nat} {W : World} {t : TypeId} (h : W.heap[b]? = some (.cells (sgA s) t (0, 0))) : SgC s b W :=
  ⟨blk_cell h rfl, blk_cell h rfl, blk_cell h rfl, blk_cell h rfl, blk_cell h rfl, blk_cell h rfl, blk_cell h rfl, blk_cell h rfl, blk_cell h rfl, blk_cell h rfl⟩
set_option maxHeartbeats 2000000 in
theorem need_yes' (s : Sg) (w : World) (h : SgOk s) (hr : SgRight s) (hh : hasS s = true) :
    Calls Try.prog 22 #[.agg (sgA s)] w fun e w' => e = .returned (.tuple #[.int .i64 (cellS s), .bool true]) ∧ Below w.heap.size w w' := by
  have C := fun w => lcheck_yes s w h hr
  have hb0 : Below w.heap.size w (w.alloc (.cells (sgA s) 33)) := (Below.refl _ _).alloc (Nat.le_refl _) _
  have hlt : w.heap.size < (w.alloc (.cells (sgA s) 33)).heap.size := by simp
  have hp : decide (4 < s.phase) = false := by unfold hasS at hh; simp at hh ⊢; omega
  have W := fun g w hg => word_any s g w h hr hg
  have hsl : ((s.slab.toNat : Nat) : Int) = s.slab := by have := hr.slab; omega
  have L := fun w => cell_yes s.slab.toNat (wordS s) w (by have := hr.slab; omega) (by have := wordS_lt h; omega)
  rw [hsl] at L
  have hcl : 16 + 40 * s.slab.toNat + wordS s = cellS s := rfl
  rw [hcl] at L
  generalize wordS s = wd at *
  generalize cellS s = cl at *
  clear hcl hsl
  obtain ⟨ph, sl, ky, ha, be, gr, ct, le, va, fo⟩ := s
  simp only [sgA] at *
  have C'h := Lib.hid C
  have h'h := Lib.hid h
  have hr'h := Lib.hid hr
  have hb0'h := Lib.hid hb0
  have hh'h := Lib.hid hh
  have hlt'h := Lib.hid hlt
  have L'h := Lib.hid L
  have W'h := Lib.hid W
  clear C h hr hb0 hh hlt L W
  go_enter Try.func22, Try.ntmps22
  go_wp2_with (first | (refine wpList_load_row rfl _ _ rfl w.heap.size rfl 33 _ (0, 0) _ (World.alloc_heap_new _ _) Try.underlying33 rfl infoSg ?_) | (go_at_call 21; refine (C'h.out _).mono ?_; rintro e w2 ⟨rfl, hb2⟩; have c0 : w2.cell? ⟨w.heap.size, 0, none⟩ = some (.int .i64 ph) := blk_cell (heap_below hb2 (World.alloc_heap_new _ _) hlt'h.out) rfl))
  have hg2 := heap_below hb2 (World.alloc_heap_new w _) hlt'h.out
  have hB2 := below_next hb0'h.out hb2
  have hc2 : SgC ⟨ph, sl, ky, ha, be, gr, ct, le, va, fo⟩ w.heap.size w2 := SgC.of hg2
  clear hb2 c0
  have hlt2 : w.heap.size < w2.heap.size := lt_of_heap hg2
  have hkeep : ∀ W' : World, Below w2.heap.size w2 W' → (SgC ⟨ph, sl, ky, ha, be, gr, ct, le, va, fo⟩ w.heap.size W' ∧ Below w2.heap.size w2 W') := fun W' h => ⟨SgC.of (heap_below h hg2 hlt2), h⟩
  have hnew : (w2.alloc (.cells #[.int .i64 ph, .int .i64 sl, .int .u64 ky, .int .u64 ha, .int .u64 be, .int .i64 gr, .int .u64 ct, .int .u8 le, .int .u64 va, .bool fo] 88)).drew.heap[w2.heap.size]? = some (SiB ⟨ph, sl, ky, ha, be, gr, ct, le, va, fo⟩) := World.alloc_heap_new w2 _
  have hB2'h := Lib.hid hB2
  have hg2'h := Lib.hid hg2
  have hkeep'h := Lib.hid hkeep
  have hlt2'h := Lib.hid hlt2
  have hnew'h := Lib.hid hnew
  clear hB2 hg2 hkeep hlt2 hnew
  simp only [SgC] at hc2 hkeep'h
  obtain ⟨c0, c1, c2, c3, c4, c5, c6, c7, c8, c9⟩ := hc2
  have k2 := Below.refl w2.heap.size w2
  go_region_held3 (fun W' => (W'.cell? ⟨w.heap.size, 0, none⟩ = some (.int .i64 ph) ∧ W'.cell? ⟨w.heap.size, 1, none⟩ = some (.int .i64 sl) ∧ W'.cell? ⟨w.heap.size, 2, none⟩ = some (.int .u64 ky) ∧ W'.cell? ⟨w.heap.size, 3, none⟩ = some (.int .u64 ha) ∧ W'.cell? ⟨w.heap.size, 4, none⟩ = some (.int .u64 be) ∧ W'.cell? ⟨w.heap.size, 5, none⟩ = some (.int .i64 gr) ∧ W'.cell? ⟨w.heap.size, 6, none⟩ = some (.int .u64 ct) ∧ W'.cell? ⟨w.heap.size, 7, none⟩ = some (.int .u8 le) ∧ W'.cell? ⟨w.heap.size, 8, none⟩ = some (.int .u64 va) ∧ W'.cell? ⟨w.heap.size, 9, none⟩ = some (.bool fo)) ∧ Below w2.heap.size w2 W') (first | exact hkeep'h.out _ (by assumption) | exact hkeep'h.out _ (Below.drew (by assumption)) | exact hkeep'h.out _ (Below.drew (Below.alloc (by assumption) (Nat.le_refl _) _)) | (go_split_ands; first | exact hkeep'h.out _ (by assumption) | exact hkeep'h.out _ (Below.drew (by assumption)) | exact hkeep'h.out _ (below_next (by assumption) (by assumption))) | fail) (first | (go_at_call 46; refine (W'h.out _ _ hnew'h.out).mono ?_; rintro e w3 ⟨rfl, hb3⟩) | (go_at_call 29; refine (L'h.out _).mono ?_; rintro e w4 ⟨rfl, rfl⟩) | fail)
  have hB3 := hB2'h.out.trans (Below.mono (below_next (Below.drew (Below.alloc (Below.refl _ w2) (Nat.le_refl _) _)) hb3) hB2'h.out.size)
  clear hb3 k2 c0 c1 c2 c3 c4 c5 c6 c7 c8 c9
  have hB3'h := Lib.hid hB3
  clear hB3
  go_wp2
  go_ret2
  exact ⟨rfl, hB3'h.out⟩

/-! ### What is made of a load -/
theorem set_phase (s : Sg) (v : Int) : (sgA s).setIfInBounds 0 (.int .i64 v) = sgA { s with phase := v } := rfl
theorem set_began (s : Sg) (v : Nat) : (sgA s).setIfInBounds 4 (.int .u64 v) = sgA { s with began := v } := rfl
theorem set_grp (s : Sg) (v : Int) : (sgA s).setIfInBounds 5 (.int .i64 v) = sgA { s with grp := v } := rfl
theorem set_ctrl (s : Sg) (v : Nat) : (sgA s).setIfInBounds 6 (.int .u64 v) = sgA { s with ctrl := v } := rfl
theorem set_left (s : Sg) (v : Nat) : (sgA s).setIfInBounds 7 (.int .u8 v) = sgA { s with left := v } := rfl
theorem set_value (s : Sg) (v : Nat) : (sgA s).setIfInBounds 8 (.int .u64 v) = sgA { s with value := v } := rfl
theorem set_found (s : Sg) (v : Bool) : (sgA s).setIfInBounds 9 (.bool v) = sgA { s with found := v } := rfl
theorem on_any (s : Sg) (g : Nat) (w : World) (hgr : 0 ≤ s.grp ∧ s.grp ≤ 1) (hct : s.ctrl < 2 ^ 64) (hg : w.heap[g]? = some (SiB s)) :
    Calls Try.prog 100 #[.pointer (some ⟨g, 0, none⟩)] w fun e w' => e = .returned (.tuple #[]) ∧ w'.heap[g]? = some (SiB (onS s)) ∧ OnlyB g w w' := by
  have c0 : w.cell? ⟨g, 0, none⟩ = some (.int .i64 s.phase) := blk_cell hg rfl
  have c5 : w.cell? ⟨g, 5, none⟩ = some (.int .i64 s.grp) := blk_cell hg rfl
  have c6 : w.cell? ⟨g, 6, none⟩ = some (.int .u64 s.ctrl) := blk_cell hg rfl
  have c7 : w.cell? ⟨g, 7, none⟩ = some (.int .u8 s.left) := blk_cell hg rfl
  have f0 : w.frozen? ⟨g, 0, none⟩ = false := blk_free 0 hg
  have f5 : w.frozen? ⟨g, 5, none⟩ = false := blk_free 5 hg
  by_cases hl : s.left = 0
  · have d1 : ((s.left : Int) != 0) = false := by simp [hl]
    have E := equal_any s.ctrl 128 w hct (by decide)
    by_cases he : equalM s.ctrl 128 = 0
    · have d2 : ((equalM s.ctrl 128 : Int) != 0) = false := by simp [he]
      by_cases h1 : s.grp = 1
      · have d3 : (s.grp == 1) = true := by simp [h1]
        have hfin : onS s = { s with phase := 4 } := by unfold onS; rw [if_neg (by simpa using hl), if_pos (.inr h1)]
        rw [hfin, SiB, ← set_phase]
        generalize equalM s.ctrl 128 = m at *
        generalize s.grp = gr at *
        generalize s.left = le at *
        generalize s.ctrl = ct at *
        generalize s.phase = ph at *
        have hg'h := Lib.hid hg
        have hfin'h := Lib.hid hfin
        have hl'h := Lib.hid hl
        have he'h := Lib.hid he
        have h1'h := Lib.hid h1
        have hct'h := Lib.hid hct
        have hgr'h := Lib.hid hgr
        have E'h := Lib.hid E
        clear hg hfin hl he h1 hct hgr E
        go_enter Try.func100, Try.ntmps100
        go_wp2_with (go_at_call 40; refine E'h.out.mono ?_; rintro e w2 ⟨rfl, rfl⟩)
        go_end0
        exact ⟨rfl, blk_set _ hg'h.out, (OnlyB.refl _ _).set _ _⟩
      · have d3 : (s.grp == 1) = false := by simpa using h1
        have h0 : s.grp = 0 := by omega
        have hfin : onS s = { s with phase := 1, grp := 1 } := by unfold onS; rw [if_neg (by simpa using hl), if_neg (by rintro (h | h); exact h he; exact h1 h), h0]; rfl
        rw [hfin, SiB, ← set_grp { s with phase := 1 } 1, ← set_phase]
        rw [h0] at c5 d3
        generalize equalM s.ctrl 128 = m at *
        generalize s.grp = gr at *
        generalize s.left = le at *
        generalize s.ctrl = ct at *
        generalize s.phase = ph at *
        have hg'h := Lib.hid hg
        have hfin'h := Lib.hid hfin
        have hl'h := Lib.hid hl
        have he'h := Lib.hid he
        have h1'h := Lib.hid h1
        have hct'h := Lib.hid hct
        have hgr'h := Lib.hid hgr
        have E'h := Lib.hid E
        have h0'h := Lib.hid h0
        clear hg hfin hl he h1 hct hgr E h0
        go_enter Try.func100, Try.ntmps100
        go_wp2_with (go_at_call 40; refine E'h.out.mono ?_; rintro e w2 ⟨rfl, rfl⟩)
        go_end0
        exact ⟨rfl, blk_set _ (blk_set _ hg'h.out), ((OnlyB.refl _ _).set _ _).set _ _⟩
    · have d2 : ((equalM s.ctrl 128 : Int) != 0) = true := by simp; omega
      have hfin : onS s = { s with phase := 4 } := by unfold onS; rw [if_neg (by simpa using hl), if_pos (.inl he)]
      rw [hfin, SiB, ← set_phase]
      generalize equalM s.ctrl 128 = m at *
      generalize s.grp = gr at *
      generalize s.left = le at *
      generalize s.ctrl = ct at *
      generalize s.phase = ph at *
      have hg'h := Lib.hid hg
      have hfin'h := Lib.hid hfin
      have hl'h := Lib.hid hl
      have he'h := Lib.hid he
      have hct'h := Lib.hid hct
      have hgr'h := Lib.hid hgr
      have E'h := Lib.hid E
      clear hg hfin hl he hct hgr E
      go_enter Try.func100, Try.ntmps100
      go_wp2_with (go_at_call 40; refine E'h.out.mono ?_; rintro e w2 ⟨rfl, rfl⟩)
      go_end0
      exact ⟨rfl, blk_set _ hg'h.out, (OnlyB.refl _ _).set _ _⟩
  · have d1 : ((s.left : Int) != 0) = true := by simp; omega
    have hfin : onS s = { s with phase := 2 } := by unfold onS; rw [if_pos hl]
    rw [hfin, SiB, ← set_phase]
    generalize s.grp = gr at *
    generalize s.left = le at *
    generalize s.ctrl = ct at *
    generalize s.phase = ph at *
    have hg'h := Lib.hid hg
    have hfin'h := Lib.hid hfin
    have hl'h := Lib.hid hl
    have hct'h := Lib.hid hct
    have hgr'h := Lib.hid hgr
    clear hg hfin hl hct hgr
    go_enter Try.func100, Try.ntmps100
    go_wp2
    go_end0
    exact ⟨rfl, blk_set _ hg'h.out, (OnlyB.refl _ _).set _ _⟩
end Go.Proofs.Ytoklgjlmjkhmbaa
