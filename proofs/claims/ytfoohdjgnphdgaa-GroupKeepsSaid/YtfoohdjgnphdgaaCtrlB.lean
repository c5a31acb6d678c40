/-
  What is tried with a word: a panic becomes an error.
-/
import Derived.Test.YtfoohdjgnphdgaaCtrl
set_option linter.unusedSimpArgs false
set_option linter.unusedVariables false
set_option maxRecDepth 100000
namespace Go.Proofs.Ytfoohdjgnphdgaa
open Go.RowKit

/-- What a deferred call that hands nothing back comes to. -/
def RestD (w1 : World) : Exit → Act → World → Prop := fun e a w => (e = .normal ∨ e = .ret) ∧ a.defers = [] ∧ w = w1
theorem wpS_rest {P : Program} {fn : Func} (hres : fn.results = #[]) {c : Code} {c₀ : Frame} {cs cs' : List Frame} {R : Ending → FrameMode → World → Prop} {u' : FrameMode} {a : Act} {w w1 : World}
    (hcs : cs' = { c₀ with mode := u' } :: cs) (h : c.wp P (RestD w1) a w) (hR : R (.returned (.tuple #[])) u' w1) : c.wpS P (bodyPostS P fn c₀ cs R) a cs' w := by
  subst hcs
  refine wpS_of_wp ?_
  intro b k cs1
  obtain ⟨e, a', w', ⟨he, hd, hw⟩, harr⟩ := h b k cs1
  refine ⟨e, a', w', ?_, harr⟩
  subst hw
  rcases he with rfl | rfl <;> exact ⟨hd, u', rfl, .tuple #[], results_none hres _ _ _, hR⟩

theorem idleU (p q : Addr) (w : World) :
    CallsD Try.prog 85 #[.pointer (some p), .pointer (some q)] .returning w fun e u' w' => e = .returned (.tuple #[]) ∧ u' = .returning ∧ w' = w := by
  refine callsD_of_wpS Try.func85 rfl fun c₀ cs hu => ?_
  simp only [Try.ntmps85, List.size_toArray, List.length_cons, List.length_nil, Nat.reduceAdd, Nat.reduceSub, Array.replicate_succ, Array.replicate_zero, List.push_toArray, List.append_toArray, List.nil_append, List.cons_append]
  apply wpS_seq
  apply wpS_region
  simp [wpOpsS, go_sem, recoverD, hu, Exit.thenS]
  refine wpS_rest (u' := .returning) (w1 := w) rfl (by cases c₀; simp_all) ?_ ⟨rfl, rfl, rfl⟩
  clear hu
  go_wp2
  exact ⟨.inl rfl, rfl, rfl⟩
theorem boomU (a b : Nat) (z z0 : Int) (v0 : Value) (w : World) (ha : w.cell? ⟨a, 0, none⟩ = some v0) (hfa : w.frozen? ⟨a, 0, none⟩ = false) (hb : w.cell? ⟨b, 0, none⟩ = some (.int .i64 z0)) (hfb : w.frozen? ⟨b, 0, none⟩ = false) (hne : a ≠ b) :
    CallsD Try.prog 85 #[.pointer (some ⟨a, 0, none⟩), .pointer (some ⟨b, 0, none⟩)] (.panicking [{ v := .iface 29 (.int .i64 z), recovered := false }]) w fun e u' w' =>
      e = .returned (.tuple #[]) ∧ u' = .panicking [{ v := .iface 29 (.int .i64 z), recovered := true }] ∧ w' = (w.setCell ⟨a, 0, none⟩ (.int .u64 0)).setCell ⟨b, 0, none⟩ (.int .i64 z) := by
  have hta : ∀ (w : World), (Instr.typeAssert (.iface 29 (.int .i64 z)) 20 29 true).run Try.prog w = .ok (.tuple #[.int .i64 z, .bool true]) w := fun _ => by kernel_rfl
  have hne' : b ≠ a := fun e => hne e.symm
  refine callsD_of_wpS Try.func85 rfl fun c₀ cs hu => ?_
  simp only [Try.ntmps85, List.size_toArray, List.length_cons, List.length_nil, Nat.reduceAdd, Nat.reduceSub, Array.replicate_succ, Array.replicate_zero, List.push_toArray, List.append_toArray, List.nil_append, List.cons_append]
  apply wpS_seq
  apply wpS_region
  simp [wpOpsS, go_sem, recoverD, hu, Exit.thenS]
  refine wpS_rest (u' := .panicking [{ v := .iface 29 (.int .i64 z), recovered := true }]) (w1 := (w.setCell ⟨a, 0, none⟩ (.int .u64 0)).setCell ⟨b, 0, none⟩ (.int .i64 z)) rfl (by cases c₀; simp_all) ?_ ⟨rfl, rfl, rfl⟩
  clear hu
  go_wp2
  exact ⟨.inl rfl, rfl, rfl⟩
theorem tries_notU (c : Nat) (f : Value) (w : World) (hc : c < 2 ^ 64) (hr : rightW c = false) :
    Calls Try.prog 74 #[.int .u64 c, f] w fun e w' => e = .returned (.tuple #[.int .u64 0, .int .i64 190]) ∧ Below w.heap.size w w' := by
  have hmf : ∀ (fn : Fn) (first cap : Array Value) (w : World), (Instr.makeFunc fn first cap).run Try.prog w = .ok (.func fn first cap) w := fun _ _ _ _ => rfl
  have C := fun w => check_any c w hc
  rw [if_neg (by rw [hr]; simp)] at C
  have C'h := Lib.hid C
  have hc'h := Lib.hid hc
  have hr'h := Lib.hid hr
  clear C hc hr
  go_enter_defers Try.func74, Try.ntmps74
  go_wp2_with fail
  refine (C'h.out _).mono ?_
  rintro e w' ⟨rfl, rfl⟩
  go_wp2_with fail
  refine (need_no _ _).mono ?_
  rintro e w' ⟨rfl, rfl⟩
  go_wp2
  obtain ⟨W, hW⟩ : ∃ W, W = (w.alloc (.cells #[.int .u64 0] 22)).alloc (.cells #[.int .i64 0] 29) := ⟨_, rfl⟩
  have hB : Below w.heap.size w W := by rw [hW]; exact ((Below.refl _ _).alloc (Nat.le_refl _) _).alloc (by simp) _
  have ha : W.heap[w.heap.size]? = some (.cells #[.int .u64 0] 22 (0, 0)) := by rw [hW]; exact (Below.heap_alloc _ _ _ (by simp)).trans (World.alloc_heap_new _ _)
  have hb : W.heap[w.heap.size + 1]? = some (.cells #[.int .i64 0] 29 (0, 0)) := by rw [hW]; exact heap_alloc2_new w _ _
  rw [← hW]
  refine leaves_cons (f := 85) (args := #[.pointer (some ⟨w.heap.size, 0, none⟩), .pointer (some ⟨w.heap.size + 1, 0, none⟩)]) (by simp) (by simp [go_sem]) ?_
  refine (boomU _ _ 190 0 (.int .u64 0) W (blk_cell ha rfl) (blk_free 0 ha) (blk_cell hb rfl) (blk_free 0 hb) (by omega)).mono ?_
  rintro e u' w'' ⟨rfl, rfl, rfl⟩
  have ha2 : ((W.setCell ⟨w.heap.size, 0, none⟩ (.int .u64 0)).setCell ⟨w.heap.size + 1, 0, none⟩ (.int .i64 190)).cell? ⟨w.heap.size, 0, none⟩ = some (.int .u64 0) := blk_cell ((Below.heap_setCell _ _ _ _ (by simp)).trans (blk_set _ ha)) rfl
  have hb2 : ((W.setCell ⟨w.heap.size, 0, none⟩ (.int .u64 0)).setCell ⟨w.heap.size + 1, 0, none⟩ (.int .i64 190)).cell? ⟨w.heap.size + 1, 0, none⟩ = some (.int .i64 190) := blk_cell (blk_set _ ((Below.heap_setCell _ _ _ _ (by simp)).trans hb)) rfl
  have hB2 : Below w.heap.size w ((W.setCell ⟨w.heap.size, 0, none⟩ (.int .u64 0)).setCell ⟨w.heap.size + 1, 0, none⟩ (.int .i64 190)) := (hB.setCell (by simp) _).setCell (by simp) _
  generalize (W.setCell ⟨w.heap.size, 0, none⟩ (.int .u64 0)).setCell ⟨w.heap.size + 1, 0, none⟩ (.int .i64 190) = W2 at *
  simp [Leaves, settle, results, Try.results74, go_sem, ha2, hb2, hB2]
theorem idleM (p q : Addr) (w : World) :
    CallsD Try.prog 83 #[.pointer (some p), .pointer (some q)] .returning w fun e u' w' => e = .returned (.tuple #[]) ∧ u' = .returning ∧ w' = w := by
  refine callsD_of_wpS Try.func83 rfl fun c₀ cs hu => ?_
  simp only [Try.ntmps83, List.size_toArray, List.length_cons, List.length_nil, Nat.reduceAdd, Nat.reduceSub, Array.replicate_succ, Array.replicate_zero, List.push_toArray, List.append_toArray, List.nil_append, List.cons_append]
  apply wpS_seq
  apply wpS_region
  simp [wpOpsS, go_sem, recoverD, hu, Exit.thenS]
  refine wpS_rest (u' := .returning) (w1 := w) rfl (by cases c₀; simp_all) ?_ ⟨rfl, rfl, rfl⟩
  clear hu
  go_wp2
  exact ⟨.inl rfl, rfl, rfl⟩
theorem boomM (a b : Nat) (z z0 : Int) (v0 : Value) (w : World) (ha : w.cell? ⟨a, 0, none⟩ = some v0) (hfa : w.frozen? ⟨a, 0, none⟩ = false) (hb : w.cell? ⟨b, 0, none⟩ = some (.int .i64 z0)) (hfb : w.frozen? ⟨b, 0, none⟩ = false) (hne : a ≠ b) :
    CallsD Try.prog 83 #[.pointer (some ⟨a, 0, none⟩), .pointer (some ⟨b, 0, none⟩)] (.panicking [{ v := .iface 29 (.int .i64 z), recovered := false }]) w fun e u' w' =>
      e = .returned (.tuple #[]) ∧ u' = .panicking [{ v := .iface 29 (.int .i64 z), recovered := true }] ∧ w' = (w.setCell ⟨a, 0, none⟩ (.int .u8 0)).setCell ⟨b, 0, none⟩ (.int .i64 z) := by
  have hta : ∀ (w : World), (Instr.typeAssert (.iface 29 (.int .i64 z)) 20 29 true).run Try.prog w = .ok (.tuple #[.int .i64 z, .bool true]) w := fun _ => by kernel_rfl
  have hne' : b ≠ a := fun e => hne e.symm
  refine callsD_of_wpS Try.func83 rfl fun c₀ cs hu => ?_
  simp only [Try.ntmps83, List.size_toArray, List.length_cons, List.length_nil, Nat.reduceAdd, Nat.reduceSub, Array.replicate_succ, Array.replicate_zero, List.push_toArray, List.append_toArray, List.nil_append, List.cons_append]
  apply wpS_seq
  apply wpS_region
  simp [wpOpsS, go_sem, recoverD, hu, Exit.thenS]
  refine wpS_rest (u' := .panicking [{ v := .iface 29 (.int .i64 z), recovered := true }]) (w1 := (w.setCell ⟨a, 0, none⟩ (.int .u8 0)).setCell ⟨b, 0, none⟩ (.int .i64 z)) rfl (by cases c₀; simp_all) ?_ ⟨rfl, rfl, rfl⟩
  clear hu
  go_wp2
  exact ⟨.inl rfl, rfl, rfl⟩
theorem tries_notM (c : Nat) (f : Value) (w : World) (hc : c < 2 ^ 64) (hr : rightW c = false) :
    Calls Try.prog 70 #[.int .u64 c, f] w fun e w' => e = .returned (.tuple #[.int .u8 0, .int .i64 190]) ∧ Below w.heap.size w w' := by
  have hmf : ∀ (fn : Fn) (first cap : Array Value) (w : World), (Instr.makeFunc fn first cap).run Try.prog w = .ok (.func fn first cap) w := fun _ _ _ _ => rfl
  have C := fun w => check_any c w hc
  rw [if_neg (by rw [hr]; simp)] at C
  have C'h := Lib.hid C
  have hc'h := Lib.hid hc
  have hr'h := Lib.hid hr
  clear C hc hr
  go_enter_defers Try.func70, Try.ntmps70
  go_wp2_with fail
  refine (C'h.out _).mono ?_
  rintro e w' ⟨rfl, rfl⟩
  go_wp2_with fail
  refine (need_no _ _).mono ?_
  rintro e w' ⟨rfl, rfl⟩
  go_wp2
  obtain ⟨W, hW⟩ : ∃ W, W = (w.alloc (.cells #[.int .u8 0] 83)).alloc (.cells #[.int .i64 0] 29) := ⟨_, rfl⟩
  have hB : Below w.heap.size w W := by rw [hW]; exact ((Below.refl _ _).alloc (Nat.le_refl _) _).alloc (by simp) _
  have ha : W.heap[w.heap.size]? = some (.cells #[.int .u8 0] 83 (0, 0)) := by rw [hW]; exact (Below.heap_alloc _ _ _ (by simp)).trans (World.alloc_heap_new _ _)
  have hb : W.heap[w.heap.size + 1]? = some (.cells #[.int .i64 0] 29 (0, 0)) := by rw [hW]; exact heap_alloc2_new w _ _
  rw [← hW]
  refine leaves_cons (f := 83) (args := #[.pointer (some ⟨w.heap.size, 0, none⟩), .pointer (some ⟨w.heap.size + 1, 0, none⟩)]) (by simp) (by simp [go_sem]) ?_
  refine (boomM _ _ 190 0 (.int .u8 0) W (blk_cell ha rfl) (blk_free 0 ha) (blk_cell hb rfl) (blk_free 0 hb) (by omega)).mono ?_
  rintro e u' w'' ⟨rfl, rfl, rfl⟩
  have ha2 : ((W.setCell ⟨w.heap.size, 0, none⟩ (.int .u8 0)).setCell ⟨w.heap.size + 1, 0, none⟩ (.int .i64 190)).cell? ⟨w.heap.size, 0, none⟩ = some (.int .u8 0) := blk_cell ((Below.heap_setCell _ _ _ _ (by simp)).trans (blk_set _ ha)) rfl
  have hb2 : ((W.setCell ⟨w.heap.size, 0, none⟩ (.int .u8 0)).setCell ⟨w.heap.size + 1, 0, none⟩ (.int .i64 190)).cell? ⟨w.heap.size + 1, 0, none⟩ = some (.int .i64 190) := blk_cell (blk_set _ ((Below.heap_setCell _ _ _ _ (by simp)).trans hb)) rfl
  have hB2 : Below w.heap.size w ((W.setCell ⟨w.heap.size, 0, none⟩ (.int .u8 0)).setCell ⟨w.heap.size + 1, 0, none⟩ (.int .i64 190)) := (hB.setCell (by simp) _).setCell (by simp) _
  generalize (W.setCell ⟨w.heap.size, 0, none⟩ (.int .u8 0)).setCell ⟨w.heap.size + 1, 0, none⟩ (.int .i64 190) = W2 at *
  simp [Leaves, settle, results, Try.results70, go_sem, ha2, hb2, hB2]
theorem tries_yesErase (c : Nat) (p1 : Value) (v : Nat) (w : World) (hc : c < 2 ^ 64) (hr : rightW c = true)
    (D : ∀ (g : Nat) (W : World), w.heap.size + 2 ≤ g → Below w.heap.size w W → W.heap[g]? = some (HandB c) → Calls Try.prog 75 #[.pointer (some ⟨g, 0, none⟩), p1] W fun e W' => e = .returned (.int .u64 v) ∧ Below g W W') :
    Calls Try.prog 74 #[.int .u64 c, .func (.func 75) #[] #[p1]] w fun e w' => e = .returned (.tuple #[.int .u64 v, .int .i64 0]) ∧ Below w.heap.size w w' := by
  have hmf : ∀ (fn : Fn) (first cap : Array Value) (w : World), (Instr.makeFunc fn first cap).run Try.prog w = .ok (.func fn first cap) w := fun _ _ _ _ => rfl
  have C := fun w => check_any c w hc
  rw [if_pos hr] at C
  have C'h := Lib.hid C
  have hc'h := Lib.hid hc
  have hr'h := Lib.hid hr
  have D'h := Lib.hid D
  clear C hc hr D
  go_enter_defers Try.func74, Try.ntmps74
  go_wp2_with fail
  refine (C'h.out _).mono ?_
  rintro e w' ⟨rfl, rfl⟩
  go_wp2_with fail
  refine (need_yes _ _).mono ?_
  rintro e w' ⟨rfl, rfl⟩
  go_wp2_with fail
  obtain ⟨W0, hW0⟩ : ∃ W0, W0 = (w.alloc (.cells #[.int .u64 0] 22)).alloc (.cells #[.int .i64 0] 29) := ⟨_, rfl⟩
  have hB0 : Below w.heap.size w W0 := by rw [hW0]; exact ((Below.refl _ _).alloc (Nat.le_refl _) _).alloc (by simp) _
  have ha0 : W0.heap[w.heap.size]? = some (.cells #[.int .u64 0] 22 (0, 0)) := by rw [hW0]; exact (Below.heap_alloc _ _ _ (by simp)).trans (World.alloc_heap_new _ _)
  have hb0 : W0.heap[w.heap.size + 1]? = some (.cells #[.int .i64 0] 29 (0, 0)) := by rw [hW0]; exact heap_alloc2_new w _ _
  have hs0 : W0.heap.size = w.heap.size + 2 := by rw [hW0]; simp
  rw [← hW0, show w.heap.size + 1 + 1 = W0.heap.size by omega]
  obtain ⟨W, hW⟩ : ∃ W, W = W0.alloc (HandB c) := ⟨_, rfl⟩
  have hB : Below w.heap.size w W := by rw [hW]; exact hB0.alloc (by omega) _
  have ha : W.heap[w.heap.size]? = some (.cells #[.int .u64 0] 22 (0, 0)) := by rw [hW]; exact (Below.heap_alloc _ _ _ (by omega)).trans ha0
  have hb : W.heap[w.heap.size + 1]? = some (.cells #[.int .i64 0] 29 (0, 0)) := by rw [hW]; exact (Below.heap_alloc _ _ _ (by omega)).trans hb0
  have hg : W.heap[w.heap.size + 2]? = some (HandB c) := by rw [hW, ← hs0]; exact World.alloc_heap_new _ _
  rw [← hW, hs0]
  clear ha0 hb0 hW hW0 hB0
  have hs0'h := Lib.hid hs0
  clear hs0
  refine (D'h.out _ _ (Nat.le_refl _) hB hg).mono ?_
  rintro e W1 ⟨rfl, hB1⟩
  have ha1 := heap_below hB1 ha (by omega)
  have hb1 := heap_below hB1 hb (by omega)
  have hBB := hB.trans (hB1.mono (by omega))
  clear hB1 hg ha hb hB
  have c1 : W1.cell? ⟨w.heap.size, 0, none⟩ = some (.int .u64 0) := blk_cell ha1 rfl
  have c2 : W1.cell? ⟨w.heap.size + 1, 0, none⟩ = some (.int .i64 0) := blk_cell hb1 rfl
  have f1 : W1.frozen? ⟨w.heap.size, 0, none⟩ = false := blk_free 0 ha1
  have f2 : W1.frozen? ⟨w.heap.size + 1, 0, none⟩ = false := blk_free 0 hb1
  have n1 : ¬ w.heap.size = w.heap.size + 1 := by omega
  have ha1'h := Lib.hid ha1
  have hb1'h := Lib.hid hb1
  have hBB'h := Lib.hid hBB
  clear ha1 hb1 hBB
  go_wp2
  have ha2 := (Below.heap_setCell (W1.setCell ⟨w.heap.size, 0, none⟩ (.int .u64 v)) ⟨w.heap.size + 1, 0, none⟩ (.int .i64 0) w.heap.size (by simp)).trans (blk_set (i := 0) (.int .u64 v) ha1'h.out)
  have hb2 := blk_set (i := 0) (.int .i64 0) ((Below.heap_setCell W1 ⟨w.heap.size, 0, none⟩ (.int .u64 v) (w.heap.size + 1) (by simp)).trans hb1'h.out)
  have hB2 : Below w.heap.size w ((W1.setCell ⟨w.heap.size, 0, none⟩ (.int .u64 v)).setCell ⟨w.heap.size + 1, 0, none⟩ (.int .i64 0)) := (hBB'h.out.setCell (by simp) _).setCell (by simp) _
  generalize (W1.setCell ⟨w.heap.size, 0, none⟩ (.int .u64 v)).setCell ⟨w.heap.size + 1, 0, none⟩ (.int .i64 0) = W2 at *
  have d1 : W2.cell? ⟨w.heap.size, 0, none⟩ = some (.int .u64 v) := blk_cell ha2 rfl
  have d2 : W2.cell? ⟨w.heap.size + 1, 0, none⟩ = some (.int .i64 0) := blk_cell hb2 rfl
  refine leaves_cons (f := 85) (args := #[.pointer (some ⟨w.heap.size, 0, none⟩), .pointer (some ⟨w.heap.size + 1, 0, none⟩)]) (by simp) (by simp [go_sem]) ?_
  refine (idleU _ _ W2).mono ?_
  rintro e u' w'' ⟨rfl, rfl, rfl⟩
  simp [Leaves, settle, results, Try.results74, go_sem, d1, d2, hB2]
theorem tries_noErase (c : Nat) (p1 : Value) (z : Int) (w : World) (hc : c < 2 ^ 64) (hr : rightW c = true)
    (D : ∀ (g : Nat) (W : World), w.heap.size + 2 ≤ g → Below w.heap.size w W → W.heap[g]? = some (HandB c) → Calls Try.prog 75 #[.pointer (some ⟨g, 0, none⟩), p1] W fun e W' => e = Boom z ∧ Below g W W') :
    Calls Try.prog 74 #[.int .u64 c, .func (.func 75) #[] #[p1]] w fun e w' => e = .returned (.tuple #[.int .u64 0, .int .i64 z]) ∧ Below w.heap.size w w' := by
  have hmf : ∀ (fn : Fn) (first cap : Array Value) (w : World), (Instr.makeFunc fn first cap).run Try.prog w = .ok (.func fn first cap) w := fun _ _ _ _ => rfl
  have C := fun w => check_any c w hc
  rw [if_pos hr] at C
  have C'h := Lib.hid C
  have hc'h := Lib.hid hc
  have hr'h := Lib.hid hr
  have D'h := Lib.hid D
  clear C hc hr D
  go_enter_defers Try.func74, Try.ntmps74
  go_wp2_with fail
  refine (C'h.out _).mono ?_
  rintro e w' ⟨rfl, rfl⟩
  go_wp2_with fail
  refine (need_yes _ _).mono ?_
  rintro e w' ⟨rfl, rfl⟩
  go_wp2_with fail
  obtain ⟨W0, hW0⟩ : ∃ W0, W0 = (w.alloc (.cells #[.int .u64 0] 22)).alloc (.cells #[.int .i64 0] 29) := ⟨_, rfl⟩
  have hB0 : Below w.heap.size w W0 := by rw [hW0]; exact ((Below.refl _ _).alloc (Nat.le_refl _) _).alloc (by simp) _
  have ha0 : W0.heap[w.heap.size]? = some (.cells #[.int .u64 0] 22 (0, 0)) := by rw [hW0]; exact (Below.heap_alloc _ _ _ (by simp)).trans (World.alloc_heap_new _ _)
  have hb0 : W0.heap[w.heap.size + 1]? = some (.cells #[.int .i64 0] 29 (0, 0)) := by rw [hW0]; exact heap_alloc2_new w _ _
  have hs0 : W0.heap.size = w.heap.size + 2 := by rw [hW0]; simp
  rw [← hW0, show w.heap.size + 1 + 1 = W0.heap.size by omega]
  obtain ⟨W, hW⟩ : ∃ W, W = W0.alloc (HandB c) := ⟨_, rfl⟩
  have hB : Below w.heap.size w W := by rw [hW]; exact hB0.alloc (by omega) _
  have ha : W.heap[w.heap.size]? = some (.cells #[.int .u64 0] 22 (0, 0)) := by rw [hW]; exact (Below.heap_alloc _ _ _ (by omega)).trans ha0
  have hb : W.heap[w.heap.size + 1]? = some (.cells #[.int .i64 0] 29 (0, 0)) := by rw [hW]; exact (Below.heap_alloc _ _ _ (by omega)).trans hb0
  have hg : W.heap[w.heap.size + 2]? = some (HandB c) := by rw [hW, ← hs0]; exact World.alloc_heap_new _ _
  rw [← hW, hs0]
  clear ha0 hb0 hW hW0 hB0
  have hs0'h := Lib.hid hs0
  clear hs0
  refine (D'h.out _ _ (Nat.le_refl _) hB hg).mono ?_
  rintro e W1 ⟨rfl, hB1⟩
  have ha1 := heap_below hB1 ha (by omega)
  have hb1 := heap_below hB1 hb (by omega)
  have hBB := hB.trans (hB1.mono (by omega))
  clear hB1 hg ha hb hB
  have ha1'h := Lib.hid ha1
  have hb1'h := Lib.hid hb1
  have hBB'h := Lib.hid hBB
  clear ha1 hb1 hBB
  go_wp2
  refine leaves_cons (f := 85) (args := #[.pointer (some ⟨w.heap.size, 0, none⟩), .pointer (some ⟨w.heap.size + 1, 0, none⟩)]) (by simp) (by simp [go_sem]) ?_
  refine (boomU _ _ z 0 (.int .u64 0) W1 (blk_cell ha1'h.out rfl) (blk_free 0 ha1'h.out) (blk_cell hb1'h.out rfl) (blk_free 0 hb1'h.out) (by omega)).mono ?_
  rintro e u' w'' ⟨rfl, rfl, rfl⟩
  have ha2 := (Below.heap_setCell (W1.setCell ⟨w.heap.size, 0, none⟩ (.int .u64 0)) ⟨w.heap.size + 1, 0, none⟩ (.int .i64 z) w.heap.size (by simp)).trans (blk_set (i := 0) (.int .u64 0) ha1'h.out)
  have hb2 := blk_set (i := 0) (.int .i64 z) ((Below.heap_setCell W1 ⟨w.heap.size, 0, none⟩ (.int .u64 0) (w.heap.size + 1) (by simp)).trans hb1'h.out)
  have hB2 : Below w.heap.size w ((W1.setCell ⟨w.heap.size, 0, none⟩ (.int .u64 0)).setCell ⟨w.heap.size + 1, 0, none⟩ (.int .i64 z)) := (hBB'h.out.setCell (by simp) _).setCell (by simp) _
  generalize (W1.setCell ⟨w.heap.size, 0, none⟩ (.int .u64 0)).setCell ⟨w.heap.size + 1, 0, none⟩ (.int .i64 z) = W2 at *
  have d1 : W2.cell? ⟨w.heap.size, 0, none⟩ = some (.int .u64 0) := blk_cell ha2 rfl
  have d2 : W2.cell? ⟨w.heap.size + 1, 0, none⟩ = some (.int .i64 z) := blk_cell hb2 rfl
  simp [Leaves, settle, results, Try.results74, go_sem, d1, d2, hB2]
theorem tries_yesMatch (c : Nat) (p1 : Value) (v : Nat) (w : World) (hc : c < 2 ^ 64) (hr : rightW c = true)
    (D : ∀ (g : Nat) (W : World), w.heap.size + 2 ≤ g → Below w.heap.size w W → W.heap[g]? = some (HandB c) → Calls Try.prog 71 #[.pointer (some ⟨g, 0, none⟩), p1] W fun e W' => e = .returned (.int .u8 v) ∧ Below g W W') :
    Calls Try.prog 70 #[.int .u64 c, .func (.func 71) #[] #[p1]] w fun e w' => e = .returned (.tuple #[.int .u8 v, .int .i64 0]) ∧ Below w.heap.size w w' := by
  have hmf : ∀ (fn : Fn) (first cap : Array Value) (w : World), (Instr.makeFunc fn first cap).run Try.prog w = .ok (.func fn first cap) w := fun _ _ _ _ => rfl
  have C := fun w => check_any c w hc
  rw [if_pos hr] at C
  have C'h := Lib.hid C
  have hc'h := Lib.hid hc
  have hr'h := Lib.hid hr
  have D'h := Lib.hid D
  clear C hc hr D
  go_enter_defers Try.func70, Try.ntmps70
  go_wp2_with fail
  refine (C'h.out _).mono ?_
  rintro e w' ⟨rfl, rfl⟩
  go_wp2_with fail
  refine (need_yes _ _).mono ?_
  rintro e w' ⟨rfl, rfl⟩
  go_wp2_with fail
  obtain ⟨W0, hW0⟩ : ∃ W0, W0 = (w.alloc (.cells #[.int .u8 0] 83)).alloc (.cells #[.int .i64 0] 29) := ⟨_, rfl⟩
  have hB0 : Below w.heap.size w W0 := by rw [hW0]; exact ((Below.refl _ _).alloc (Nat.le_refl _) _).alloc (by simp) _
  have ha0 : W0.heap[w.heap.size]? = some (.cells #[.int .u8 0] 83 (0, 0)) := by rw [hW0]; exact (Below.heap_alloc _ _ _ (by simp)).trans (World.alloc_heap_new _ _)
  have hb0 : W0.heap[w.heap.size + 1]? = some (.cells #[.int .i64 0] 29 (0, 0)) := by rw [hW0]; exact heap_alloc2_new w _ _
  have hs0 : W0.heap.size = w.heap.size + 2 := by rw [hW0]; simp
  rw [← hW0, show w.heap.size + 1 + 1 = W0.heap.size by omega]
  obtain ⟨W, hW⟩ : ∃ W, W = W0.alloc (HandB c) := ⟨_, rfl⟩
  have hB : Below w.heap.size w W := by rw [hW]; exact hB0.alloc (by omega) _
  have ha : W.heap[w.heap.size]? = some (.cells #[.int .u8 0] 83 (0, 0)) := by rw [hW]; exact (Below.heap_alloc _ _ _ (by omega)).trans ha0
  have hb : W.heap[w.heap.size + 1]? = some (.cells #[.int .i64 0] 29 (0, 0)) := by rw [hW]; exact (Below.heap_alloc _ _ _ (by omega)).trans hb0
  have hg : W.heap[w.heap.size + 2]? = some (HandB c) := by rw [hW, ← hs0]; exact World.alloc_heap_new _ _
  rw [← hW, hs0]
  clear ha0 hb0 hW hW0 hB0
  have hs0'h := Lib.hid hs0
  clear hs0
  refine (D'h.out _ _ (Nat.le_refl _) hB hg).mono ?_
  rintro e W1 ⟨rfl, hB1⟩
  have ha1 := heap_below hB1 ha (by omega)
  have hb1 := heap_below hB1 hb (by omega)
  have hBB := hB.trans (hB1.mono (by omega))
  clear hB1 hg ha hb hB
  have c1 : W1.cell? ⟨w.heap.size, 0, none⟩ = some (.int .u8 0) := blk_cell ha1 rfl
  have c2 : W1.cell? ⟨w.heap.size + 1, 0, none⟩ = some (.int .i64 0) := blk_cell hb1 rfl
  have f1 : W1.frozen? ⟨w.heap.size, 0, none⟩ = false := blk_free 0 ha1
  have f2 : W1.frozen? ⟨w.heap.size + 1, 0, none⟩ = false := blk_free 0 hb1
  have n1 : ¬ w.heap.size = w.heap.size + 1 := by omega
  have ha1'h := Lib.hid ha1
  have hb1'h := Lib.hid hb1
  have hBB'h := Lib.hid hBB
  clear ha1 hb1 hBB
  go_wp2
  have ha2 := (Below.heap_setCell (W1.setCell ⟨w.heap.size, 0, none⟩ (.int .u8 v)) ⟨w.heap.size + 1, 0, none⟩ (.int .i64 0) w.heap.size (by simp)).trans (blk_set (i := 0) (.int .u8 v) ha1'h.out)
  have hb2 := blk_set (i := 0) (.int .i64 0) ((Below.heap_setCell W1 ⟨w.heap.size, 0, none⟩ (.int .u8 v) (w.heap.size + 1) (by simp)).trans hb1'h.out)
  have hB2 : Below w.heap.size w ((W1.setCell ⟨w.heap.size, 0, none⟩ (.int .u8 v)).setCell ⟨w.heap.size + 1, 0, none⟩ (.int .i64 0)) := (hBB'h.out.setCell (by simp) _).setCell (by simp) _
  generalize (W1.setCell ⟨w.heap.size, 0, none⟩ (.int .u8 v)).setCell ⟨w.heap.size + 1, 0, none⟩ (.int .i64 0) = W2 at *
  have d1 : W2.cell? ⟨w.heap.size, 0, none⟩ = some (.int .u8 v) := blk_cell ha2 rfl
  have d2 : W2.cell? ⟨w.heap.size + 1, 0, none⟩ = some (.int .i64 0) := blk_cell hb2 rfl
  refine leaves_cons (f := 83) (args := #[.pointer (some ⟨w.heap.size, 0, none⟩), .pointer (some ⟨w.heap.size + 1, 0, none⟩)]) (by simp) (by simp [go_sem]) ?_
  refine (idleM _ _ W2).mono ?_
  rintro e u' w'' ⟨rfl, rfl, rfl⟩
  simp [Leaves, settle, results, Try.results70, go_sem, d1, d2, hB2]
theorem tries_noMatch (c : Nat) (p1 : Value) (z : Int) (w : World) (hc : c < 2 ^ 64) (hr : rightW c = true)
    (D : ∀ (g : Nat) (W : World), w.heap.size + 2 ≤ g → Below w.heap.size w W → W.heap[g]? = some (HandB c) → Calls Try.prog 71 #[.pointer (some ⟨g, 0, none⟩), p1] W fun e W' => e = Boom z ∧ Below g W W') :
    Calls Try.prog 70 #[.int .u64 c, .func (.func 71) #[] #[p1]] w fun e w' => e = .returned (.tuple #[.int .u8 0, .int .i64 z]) ∧ Below w.heap.size w w' := by
  have hmf : ∀ (fn : Fn) (first cap : Array Value) (w : World), (Instr.makeFunc fn first cap).run Try.prog w = .ok (.func fn first cap) w := fun _ _ _ _ => rfl
  have C := fun w => check_any c w hc
  rw [if_pos hr] at C
  have C'h := Lib.hid C
  have hc'h := Lib.hid hc
  have hr'h := Lib.hid hr
  have D'h := Lib.hid D
  clear C hc hr D
  go_enter_defers Try.func70, Try.ntmps70
  go_wp2_with fail
  refine (C'h.out _).mono ?_
  rintro e w' ⟨rfl, rfl⟩
  go_wp2_with fail
  refine (need_yes _ _).mono ?_
  rintro e w' ⟨rfl, rfl⟩
  go_wp2_with fail
  obtain ⟨W0, hW0⟩ : ∃ W0, W0 = (w.alloc (.cells #[.int .u8 0] 83)).alloc (.cells #[.int .i64 0] 29) := ⟨_, rfl⟩
  have hB0 : Below w.heap.size w W0 := by rw [hW0]; exact ((Below.refl _ _).alloc (Nat.le_refl _) _).alloc (by simp) _
  have ha0 : W0.heap[w.heap.size]? = some (.cells #[.int .u8 0] 83 (0, 0)) := by rw [hW0]; exact (Below.heap_alloc _ _ _ (by simp)).trans (World.alloc_heap_new _ _)
  have hb0 : W0.heap[w.heap.size + 1]? = some (.cells #[.int .i64 0] 29 (0, 0)) := by rw [hW0]; exact heap_alloc2_new w _ _
  have hs0 : W0.heap.size = w.heap.size + 2 := by rw [hW0]; simp
  rw [← hW0, show w.heap.size + 1 + 1 = W0.heap.size by omega]
  obtain ⟨W, hW⟩ : ∃ W, W = W0.alloc (HandB c) := ⟨_, rfl⟩
  have hB : Below w.heap.size w W := by rw [hW]; exact hB0.alloc (by omega) _
  have ha : W.heap[w.heap.size]? = some (.cells #[.int .u8 0] 83 (0, 0)) := by rw [hW]; exact (Below.heap_alloc _ _ _ (by omega)).trans ha0
  have hb : W.heap[w.heap.size + 1]? = some (.cells #[.int .i64 0] 29 (0, 0)) := by rw [hW]; exact (Below.heap_alloc _ _ _ (by omega)).trans hb0
  have hg : W.heap[w.heap.size + 2]? = some (HandB c) := by rw [hW, ← hs0]; exact World.alloc_heap_new _ _
  rw [← hW, hs0]
  clear ha0 hb0 hW hW0 hB0
  have hs0'h := Lib.hid hs0
  clear hs0
  refine (D'h.out _ _ (Nat.le_refl _) hB hg).mono ?_
  rintro e W1 ⟨rfl, hB1⟩
  have ha1 := heap_below hB1 ha (by omega)
  have hb1 := heap_below hB1 hb (by omega)
  have hBB := hB.trans (hB1.mono (by omega))
  clear hB1 hg ha hb hB
  have ha1'h := Lib.hid ha1
  have hb1'h := Lib.hid hb1
  have hBB'h := Lib.hid hBB
  clear ha1 hb1 hBB
  go_wp2
  refine leaves_cons (f := 83) (args := #[.pointer (some ⟨w.heap.size, 0, none⟩), .pointer (some ⟨w.heap.size + 1, 0, none⟩)]) (by simp) (by simp [go_sem]) ?_
  refine (boomM _ _ z 0 (.int .u8 0) W1 (blk_cell ha1'h.out rfl) (blk_free 0 ha1'h.out) (blk_cell hb1'h.out rfl) (blk_free 0 hb1'h.out) (by omega)).mono ?_
  rintro e u' w'' ⟨rfl, rfl, rfl⟩
  have ha2 := (Below.heap_setCell (W1.setCell ⟨w.heap.size, 0, none⟩ (.int .u8 0)) ⟨w.heap.size + 1, 0, none⟩ (.int .i64 z) w.heap.size (by simp)).trans (blk_set (i := 0) (.int .u8 0) ha1'h.out)
  have hb2 := blk_set (i := 0) (.int .i64 z) ((Below.heap_setCell W1 ⟨w.heap.size, 0, none⟩ (.int .u8 0) (w.heap.size + 1) (by simp)).trans hb1'h.out)
  have hB2 : Below w.heap.size w ((W1.setCell ⟨w.heap.size, 0, none⟩ (.int .u8 0)).setCell ⟨w.heap.size + 1, 0, none⟩ (.int .i64 z)) := (hBB'h.out.setCell (by simp) _).setCell (by simp) _
  generalize (W1.setCell ⟨w.heap.size, 0, none⟩ (.int .u8 0)).setCell ⟨w.heap.size + 1, 0, none⟩ (.int .i64 z) = W2 at *
  have d1 : W2.cell? ⟨w.heap.size, 0, none⟩ = some (.int .u8 0) := blk_cell ha2 rfl
  have d2 : W2.cell? ⟨w.heap.size + 1, 0, none⟩ = some (.int .i64 z) := blk_cell hb2 rfl
  simp [Leaves, settle, results, Try.results70, go_sem, d1, d2, hB2]
end Go.Proofs.Ytfoohdjgnphdgaa
