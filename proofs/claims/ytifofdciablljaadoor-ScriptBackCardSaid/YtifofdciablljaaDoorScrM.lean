/-
  Layer 3 (script): Decode.
-/
import Derived.Test.YtifofdciablljaaDoorScrL
set_option linter.unusedSimpArgs false
set_option linter.unusedVariables false
set_option maxRecDepth 100000
namespace Go.Proofs.YtifofdciablljaaDoor
open Go.RowKit

/-- What a deferred call that hands nothing back comes to. -/
def RestD (w1 : World) : Exit → Act → World → Prop := fun e a w => (e = .normal ∨ e = .ret) ∧ a.defers = [] ∧ w = w1
theorem wpS_rest {P : Program} {fn : Func} (hres : fn.results = #[]) {c : Code} {c₀ : Frame} {cs cs' : List Frame} {R : Ending → FrameMode → World → Prop} {u' : FrameMode} {a : Act} {w w1 : World}
    (hcs : cs' = { c₀ with mode := u' } :: cs) (h : c.wp P (RestD w1) a w) (hR : R (.returned (.tuple #[])) u' w1) : c.wpS P (bodyPostS P fn c₀ cs R) a cs' w := by
  subst hcs
  refine wpS_of_wp ?_
  intro b k cs1
  obtain ⟨e, a', w', ⟨he, hd, hw⟩, harr⟩ := h b k cs1
  refine ⟨e, a', w', ?_, harr⟩
  subst hw
  rcases he with rfl | rfl <;> exact ⟨hd, u', rfl, .tuple #[], results_none hres _ _ _, hR⟩
abbrev zeroSm : Array Value := #[.int .i64 0, .int .i64 0, .int .u64 0, .slice none 0 0, .slice none 0 0]
theorem idleDec (p q r : Addr) (w : World) :
    CallsD Tryd.prog 46 #[.pointer (some p), .pointer (some q), .pointer (some r)] .returning w fun e u' w' => e = .returned (.tuple #[]) ∧ u' = .returning ∧ w' = w := by
  refine callsD_of_wpS Tryd.func46 rfl fun c₀ cs hu => ?_
  simp only [Tryd.ntmps46, List.size_toArray, List.length_cons, List.length_nil, Nat.reduceAdd, Nat.reduceSub, Array.replicate_succ, Array.replicate_zero, List.push_toArray, List.append_toArray, List.nil_append, List.cons_append]
  apply wpS_seq
  apply wpS_region
  simp [wpOpsS, go_sem, recoverD, hu, Exit.thenS]
  refine wpS_rest (u' := .returning) (w1 := w) rfl (by cases c₀; simp_all) ?_ ⟨rfl, rfl, rfl⟩
  clear hu
  go_wp2
  exact ⟨.inl rfl, rfl, rfl⟩
def boomW (a b c : Nat) (w : World) : World := (((w.alloc (.cells #[] 79)).setRow a zeroSm).setCell ⟨b, 0, none⟩ (.int .i64 0)).setCell ⟨c, 0, none⟩ (.int .i64 131)
theorem boomDec (a b c : Nat) (w : World) (ha : w.heap[a]? = some (.cells zeroSm 26)) (hb : w.heap[b]? = some (.cells #[.int .i64 0] 3)) (hc : w.heap[c]? = some (.cells #[.int .i64 0] 31)) (hab : a ≠ b) (hac : a ≠ c) (hbc : b ≠ c) :
    CallsD Tryd.prog 46 #[.pointer (some ⟨a, 0, none⟩), .pointer (some ⟨b, 0, none⟩), .pointer (some ⟨c, 0, none⟩)] (.panicking [{ v := .iface 79 (.agg #[]), recovered := false }]) w fun e u' w' =>
      e = .returned (.tuple #[]) ∧ u' = .panicking [{ v := .iface 79 (.agg #[]), recovered := true }] ∧ w' = boomW a b c w := by
  have hta : ∀ (w : World), (Instr.typeAssert (.iface 79 (.agg #[])) 20 79 true).run Tryd.prog w = .ok (.tuple #[.agg #[], .bool true]) w := fun _ => by kernel_rfl
  have hal := (Below.refl w.heap.size w).alloc (Nat.le_refl _) (.cells #[] 79)
  have ha1 := heap_below hal ha (lt_of_heap ha)
  have hb1 := heap_below hal hb (lt_of_heap hb)
  have hc1 := heap_below hal hc (lt_of_heap hc)
  have hw1 : ∀ k, k ≠ a → ((w.alloc (.cells #[] 79)).setRow a zeroSm).heap[k]? = (w.alloc (.cells #[] 79)).heap[k]? := fun k hk => setRow_other _ _ _ _ hk
  have hb2 := (hw1 b hab.symm).trans hb1
  have hc2 := (hw1 c hac.symm).trans hc1
  have y1 := blk_cell (i := 0) hb2 rfl
  have f1 := blk_free 0 hb2
  have hc3 := (Below.heap_setCell ((w.alloc (.cells #[] 79)).setRow a zeroSm) ⟨b, 0, none⟩ (.int .i64 0) c (by show c ≠ b; exact hbc.symm)).trans hc2
  have y2 := blk_cell (i := 0) hc3 rfl
  have f2 := blk_free 0 hc3
  clear hw1 hb1 hc1 hb2 hc2 hc3 hal
  have ha1'h := Lib.hid ha1
  clear ha1
  refine callsD_of_wpS Tryd.func46 rfl fun c₀ cs hu => ?_
  simp only [Tryd.ntmps46, List.size_toArray, List.length_cons, List.length_nil, Nat.reduceAdd, Nat.reduceSub, Array.replicate_succ, Array.replicate_zero, List.push_toArray, List.append_toArray, List.nil_append, List.cons_append]
  apply wpS_seq
  apply wpS_region
  simp [wpOpsS, go_sem, recoverD, hu, Exit.thenS]
  refine wpS_rest (u' := .panicking [{ v := .iface 79 (.agg #[]), recovered := true }]) (w1 := boomW a b c w) rfl (by cases c₀; simp_all) ?_ ⟨rfl, rfl, rfl⟩
  clear hu
  go_wp2_with (guard_target = wpList _ _ _ (Oper.mk _ (.store _ (.tmp 0) _) _ _ _ _ :: _) _ _; refine wpList_store_row rfl 26 (.tmp 0) _ rfl (a) zeroSm rfl rfl 26 _ ha1'h.out info_sm rfl (by kernel_rfl) ?_)
  exact ⟨.inl rfl, rfl, rfl⟩
end Go.Proofs.YtifofdciablljaaDoor
