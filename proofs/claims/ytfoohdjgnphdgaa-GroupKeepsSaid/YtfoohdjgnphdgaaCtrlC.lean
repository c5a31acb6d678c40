/-
  What is tried with a word, where what comes is a row or a record.
-/
import Derived.Test.YtfoohdjgnphdgaaCtrlB
set_option linter.unusedSimpArgs false
set_option linter.unusedVariables false
set_option maxRecDepth 100000
namespace Go.Proofs.Ytfoohdjgnphdgaa
open Go.RowKit

theorem idleS (p q : Addr) (w : World) :
    CallsD Try.prog 82 #[.pointer (some p), .pointer (some q)] .returning w fun e u' w' => e = .returned (.tuple #[]) ∧ u' = .returning ∧ w' = w := by
  refine callsD_of_wpS Try.func82 rfl fun c₀ cs hu => ?_
  simp only [Try.ntmps82, List.size_toArray, List.length_cons, List.length_nil, Nat.reduceAdd, Nat.reduceSub, Array.replicate_succ, Array.replicate_zero, List.push_toArray, List.append_toArray, List.nil_append, List.cons_append]
  apply wpS_seq
  apply wpS_region
  simp [wpOpsS, go_sem, recoverD, hu, Exit.thenS]
  refine wpS_rest (u' := .returning) (w1 := w) rfl (by cases c₀; simp_all) ?_ ⟨rfl, rfl, rfl⟩
  clear hu
  go_wp2
  exact ⟨.inl rfl, rfl, rfl⟩
theorem infoS : (Try.prog.info? 110).map (·.size) = some 3 := by kernel_rfl
theorem oneS : (#[.int .u8 0, .int .u8 0, .int .u8 0] : Array Value).all (·.oneCell') = true := by kernel_rfl
theorem boomS (a b : Nat) (z z0 : Int) (w : World) (ha : w.heap[a]? = some (.cells #[.int .u8 0, .int .u8 0, .int .u8 0] 110 (0, 0))) (hb : w.heap[b]? = some (.cells #[.int .i64 z0] 29 (0, 0))) (hne : a ≠ b) :
    CallsD Try.prog 82 #[.pointer (some ⟨a, 0, none⟩), .pointer (some ⟨b, 0, none⟩)] (.panicking [{ v := .iface 29 (.int .i64 z), recovered := false }]) w fun e u' w' =>
      e = .returned (.tuple #[]) ∧ u' = .panicking [{ v := .iface 29 (.int .i64 z), recovered := true }] ∧ w'.heap[a]? = some (.cells #[.int .u8 0, .int .u8 0, .int .u8 0] 110 (0, 0)) ∧ w'.heap[b]? = some (.cells #[.int .i64 z] 29 (0, 0)) ∧
        ∀ B, B ≤ a → B ≤ b → Below B w w' := by
  have hta : ∀ (w : World), (Instr.typeAssert (.iface 29 (.int .i64 z)) 20 29 true).run Try.prog w = .ok (.tuple #[.int .i64 z, .bool true]) w := fun _ => by kernel_rfl
  have hal := lt_of_heap ha
  have hbl := lt_of_heap hb
  obtain ⟨W1, hW1⟩ : ∃ W1, W1 = (w.alloc (.cells #[.int .u8 0, .int .u8 0, .int .u8 0] 110)).setRow a #[.int .u8 0, .int .u8 0, .int .u8 0] := ⟨_, rfl⟩
  have ha0 : (w.alloc (.cells #[.int .u8 0, .int .u8 0, .int .u8 0] 110)).heap[a]? = some (.cells #[.int .u8 0, .int .u8 0, .int .u8 0] 110 (0, 0)) := (Below.heap_alloc _ _ _ hal).trans ha
  have ha1 : W1.heap[a]? = some (.cells #[.int .u8 0, .int .u8 0, .int .u8 0] 110 (0, 0)) := by rw [hW1]; exact setRow_heap _ a _ _ _ _ ha0
  have hb1 : W1.heap[b]? = some (.cells #[.int .i64 z0] 29 (0, 0)) := by rw [hW1]; exact (setRow_other _ _ _ _ (fun e => hne e.symm)).trans ((Below.heap_alloc _ _ _ hbl).trans hb)
  have hB1 : ∀ B, B ≤ a → B ≤ b → Below B w W1 := fun B h1 h2 => by rw [hW1]; exact below_setRow' ((Below.refl _ _).alloc (by omega) _) h1 _
  have c3 : W1.cell? ⟨b, 0, none⟩ = some (.int .i64 z0) := blk_cell hb1 rfl
  have f3 : W1.frozen? ⟨b, 0, none⟩ = false := blk_free 0 hb1
  have ha2 : (W1.setCell ⟨b, 0, none⟩ (.int .i64 z)).heap[a]? = some (.cells #[.int .u8 0, .int .u8 0, .int .u8 0] 110 (0, 0)) := (Below.heap_setCell _ _ _ _ (by simpa using hne)).trans ha1
  have hb2 : (W1.setCell ⟨b, 0, none⟩ (.int .i64 z)).heap[b]? = some (.cells #[.int .i64 z] 29 (0, 0)) := blk_set (i := 0) _ hb1
  refine callsD_of_wpS Try.func82 rfl fun c₀ cs hu => ?_
  simp only [Try.ntmps82, List.size_toArray, List.length_cons, List.length_nil, Nat.reduceAdd, Nat.reduceSub, Array.replicate_succ, Array.replicate_zero, List.push_toArray, List.append_toArray, List.nil_append, List.cons_append]
  apply wpS_seq
  apply wpS_region
  simp [wpOpsS, go_sem, recoverD, hu, Exit.thenS]
  refine wpS_rest (u' := .panicking [{ v := .iface 29 (.int .i64 z), recovered := true }]) (w1 := W1.setCell ⟨b, 0, none⟩ (.int .i64 z)) rfl (by cases c₀; simp_all) ?_ ⟨rfl, rfl, ha2, hb2, fun B h1 h2 => (hB1 B h1 h2).setCell h2 _⟩
  clear hu ha hb
  have hW1'h := Lib.hid hW1
  have ha0'h := Lib.hid ha0
  have ha1'h := Lib.hid ha1
  have hb1'h := Lib.hid hb1
  have hB1'h := Lib.hid hB1
  have ha2'h := Lib.hid ha2
  have hb2'h := Lib.hid hb2
  have hal'h := Lib.hid hal
  have hbl'h := Lib.hid hbl
  have hne'h := Lib.hid hne
  clear hW1 ha0 ha1 hb1 hB1 ha2 hb2 hal hbl hne
  go_wp2_with (first | (refine wpList_store_row rfl 110 (.tmp 0) (.tmp 17) rfl a #[.int .u8 0, .int .u8 0, .int .u8 0] rfl rfl 110 #[.int .u8 0, .int .u8 0, .int .u8 0] ha0'h.out infoS rfl oneS ?_; rw [← hW1'h.out]))
  exact ⟨.inl rfl, rfl, rfl⟩
theorem idleL (p q : Addr) (w : World) :
    CallsD Try.prog 98 #[.pointer (some p), .pointer (some q)] .returning w fun e u' w' => e = .returned (.tuple #[]) ∧ u' = .returning ∧ w' = w := by
  refine callsD_of_wpS Try.func98 rfl fun c₀ cs hu => ?_
  simp only [Try.ntmps98, List.size_toArray, List.length_cons, List.length_nil, Nat.reduceAdd, Nat.reduceSub, Array.replicate_succ, Array.replicate_zero, List.push_toArray, List.append_toArray, List.nil_append, List.cons_append]
  apply wpS_seq
  apply wpS_region
  simp [wpOpsS, go_sem, recoverD, hu, Exit.thenS]
  refine wpS_rest (u' := .returning) (w1 := w) rfl (by cases c₀; simp_all) ?_ ⟨rfl, rfl, rfl⟩
  clear hu
  go_wp2
  exact ⟨.inl rfl, rfl, rfl⟩
theorem infoL : (Try.prog.info? 134).map (·.size) = some 2 := by kernel_rfl
theorem oneL : (#[.int .u64 0, .slice none 0 0] : Array Value).all (·.oneCell') = true := by kernel_rfl
theorem boomL (a b : Nat) (z z0 : Int) (w : World) (ha : w.heap[a]? = some (.cells #[.int .u64 0, .slice none 0 0] 134 (0, 0))) (hb : w.heap[b]? = some (.cells #[.int .i64 z0] 29 (0, 0))) (hne : a ≠ b) :
    CallsD Try.prog 98 #[.pointer (some ⟨a, 0, none⟩), .pointer (some ⟨b, 0, none⟩)] (.panicking [{ v := .iface 29 (.int .i64 z), recovered := false }]) w fun e u' w' =>
      e = .returned (.tuple #[]) ∧ u' = .panicking [{ v := .iface 29 (.int .i64 z), recovered := true }] ∧ w'.heap[a]? = some (.cells #[.int .u64 0, .slice none 0 0] 134 (0, 0)) ∧ w'.heap[b]? = some (.cells #[.int .i64 z] 29 (0, 0)) ∧
        ∀ B, B ≤ a → B ≤ b → Below B w w' := by
  have hta : ∀ (w : World), (Instr.typeAssert (.iface 29 (.int .i64 z)) 20 29 true).run Try.prog w = .ok (.tuple #[.int .i64 z, .bool true]) w := fun _ => by kernel_rfl
  have hal := lt_of_heap ha
  have hbl := lt_of_heap hb
  obtain ⟨W1, hW1⟩ : ∃ W1, W1 = (w.alloc (.cells #[.int .u64 0, .slice none 0 0] 134)).setRow a #[.int .u64 0, .slice none 0 0] := ⟨_, rfl⟩
  have ha0 : (w.alloc (.cells #[.int .u64 0, .slice none 0 0] 134)).heap[a]? = some (.cells #[.int .u64 0, .slice none 0 0] 134 (0, 0)) := (Below.heap_alloc _ _ _ hal).trans ha
  have ha1 : W1.heap[a]? = some (.cells #[.int .u64 0, .slice none 0 0] 134 (0, 0)) := by rw [hW1]; exact setRow_heap _ a _ _ _ _ ha0
  have hb1 : W1.heap[b]? = some (.cells #[.int .i64 z0] 29 (0, 0)) := by rw [hW1]; exact (setRow_other _ _ _ _ (fun e => hne e.symm)).trans ((Below.heap_alloc _ _ _ hbl).trans hb)
  have hB1 : ∀ B, B ≤ a → B ≤ b → Below B w W1 := fun B h1 h2 => by rw [hW1]; exact below_setRow' ((Below.refl _ _).alloc (by omega) _) h1 _
  have c3 : W1.cell? ⟨b, 0, none⟩ = some (.int .i64 z0) := blk_cell hb1 rfl
  have f3 : W1.frozen? ⟨b, 0, none⟩ = false := blk_free 0 hb1
  have ha2 : (W1.setCell ⟨b, 0, none⟩ (.int .i64 z)).heap[a]? = some (.cells #[.int .u64 0, .slice none 0 0] 134 (0, 0)) := (Below.heap_setCell _ _ _ _ (by simpa using hne)).trans ha1
  have hb2 : (W1.setCell ⟨b, 0, none⟩ (.int .i64 z)).heap[b]? = some (.cells #[.int .i64 z] 29 (0, 0)) := blk_set (i := 0) _ hb1
  refine callsD_of_wpS Try.func98 rfl fun c₀ cs hu => ?_
  simp only [Try.ntmps98, List.size_toArray, List.length_cons, List.length_nil, Nat.reduceAdd, Nat.reduceSub, Array.replicate_succ, Array.replicate_zero, List.push_toArray, List.append_toArray, List.nil_append, List.cons_append]
  apply wpS_seq
  apply wpS_region
  simp [wpOpsS, go_sem, recoverD, hu, Exit.thenS]
  refine wpS_rest (u' := .panicking [{ v := .iface 29 (.int .i64 z), recovered := true }]) (w1 := W1.setCell ⟨b, 0, none⟩ (.int .i64 z)) rfl (by cases c₀; simp_all) ?_ ⟨rfl, rfl, ha2, hb2, fun B h1 h2 => (hB1 B h1 h2).setCell h2 _⟩
  clear hu ha hb
  have hW1'h := Lib.hid hW1
  have ha0'h := Lib.hid ha0
  have ha1'h := Lib.hid ha1
  have hb1'h := Lib.hid hb1
  have hB1'h := Lib.hid hB1
  have ha2'h := Lib.hid ha2
  have hb2'h := Lib.hid hb2
  have hal'h := Lib.hid hal
  have hbl'h := Lib.hid hbl
  have hne'h := Lib.hid hne
  clear hW1 ha0 ha1 hb1 hB1 ha2 hb2 hal hbl hne
  go_wp2_with (first | (refine wpList_store_row rfl 134 (.tmp 0) (.tmp 17) rfl a #[.int .u64 0, .slice none 0 0] rfl rfl 134 #[.int .u64 0, .slice none 0 0] ha0'h.out infoL rfl oneL ?_; rw [← hW1'h.out]))
  exact ⟨.inl rfl, rfl, rfl⟩
theorem tries_notS (c : Nat) (f : Value) (w : World) (hc : c < 2 ^ 64) (hr : rightW c = false) :
    Calls Try.prog 67 #[.int .u64 c, f] w fun e w' => e = .returned (.tuple #[.agg #[.int .u8 0, .int .u8 0, .int .u8 0], .int .i64 190]) ∧ Below w.heap.size w w' := by
  have hmf : ∀ (fn : Fn) (first cap : Array Value) (w : World), (Instr.makeFunc fn first cap).run Try.prog w = .ok (.func fn first cap) w := fun _ _ _ _ => rfl
  have C := fun w => check_any c w hc
  rw [if_neg (by rw [hr]; simp)] at C
  have C'h := Lib.hid C
  have hc'h := Lib.hid hc
  have hr'h := Lib.hid hr
  clear C hc hr
  go_enter_defers Try.func67, Try.ntmps67
  go_wp2_with fail
  refine (C'h.out _).mono ?_
  rintro e w' ⟨rfl, rfl⟩
  go_wp2_with fail
  refine (need_no _ _).mono ?_
  rintro e w' ⟨rfl, rfl⟩
  go_wp2
  obtain ⟨W, hW⟩ : ∃ W, W = (w.alloc (.cells #[.int .u8 0, .int .u8 0, .int .u8 0] 110)).alloc (.cells #[.int .i64 0] 29) := ⟨_, rfl⟩
  have hB : Below w.heap.size w W := by rw [hW]; exact ((Below.refl _ _).alloc (Nat.le_refl _) _).alloc (by simp) _
  have ha : W.heap[w.heap.size]? = some (.cells #[.int .u8 0, .int .u8 0, .int .u8 0] 110 (0, 0)) := by rw [hW]; exact (Below.heap_alloc _ _ _ (by simp)).trans (World.alloc_heap_new _ _)
  have hb : W.heap[w.heap.size + 1]? = some (.cells #[.int .i64 0] 29 (0, 0)) := by rw [hW]; exact heap_alloc2_new w _ _
  rw [← hW]
  refine leaves_cons (f := 82) (args := #[.pointer (some ⟨w.heap.size, 0, none⟩), .pointer (some ⟨w.heap.size + 1, 0, none⟩)]) (by simp) (by simp [go_sem]) ?_
  refine (boomS _ _ 190 0 W ha hb (by omega)).mono ?_
  rintro e u' W2 ⟨rfl, rfl, ha2, hb2, hB2⟩
  have hB3 := hB.trans (hB2 w.heap.size (Nat.le_refl _) (by omega))
  have d0 : W2.cell? ⟨w.heap.size, 0, none⟩ = some (.int .u8 0) := blk_cell ha2 rfl
  have d1 : W2.cell? ⟨w.heap.size, 1, none⟩ = some (.int .u8 0) := blk_cell ha2 rfl
  have d2 : W2.cell? ⟨w.heap.size, 2, none⟩ = some (.int .u8 0) := blk_cell ha2 rfl
  have d9 : W2.cell? ⟨w.heap.size + 1, 0, none⟩ = some (.int .i64 190) := blk_cell hb2 rfl
  clear ha2 hb2 hB2
  simp [Leaves, settle, results, Try.results67, go_sem, d0, d1, d2, d9, hB3]
theorem tries_noSets (c : Nat)  (z : Int) (w : World) (hc : c < 2 ^ 64) (hr : rightW c = true)
    (D : ∀ (g : Nat) (W : World), w.heap.size + 2 ≤ g → Below w.heap.size w W → W.heap[g]? = some (HandB c) → Calls Try.prog 68 #[.pointer (some ⟨g, 0, none⟩)] W fun e W' => e = Boom z ∧ Below g W W') :
    Calls Try.prog 67 #[.int .u64 c, .func (.func 68) #[] #[]] w fun e w' => e = .returned (.tuple #[.agg #[.int .u8 0, .int .u8 0, .int .u8 0], .int .i64 z]) ∧ Below w.heap.size w w' := by
  have hmf : ∀ (fn : Fn) (first cap : Array Value) (w : World), (Instr.makeFunc fn first cap).run Try.prog w = .ok (.func fn first cap) w := fun _ _ _ _ => rfl
  have C := fun w => check_any c w hc
  rw [if_pos hr] at C
  have C'h := Lib.hid C
  have hc'h := Lib.hid hc
  have hr'h := Lib.hid hr
  have D'h := Lib.hid D
  clear C hc hr D
  go_enter_defers Try.func67, Try.ntmps67
  go_wp2_with fail
  refine (C'h.out _).mono ?_
  rintro e w' ⟨rfl, rfl⟩
  go_wp2_with fail
  refine (need_yes _ _).mono ?_
  rintro e w' ⟨rfl, rfl⟩
  go_wp2_with fail
  obtain ⟨W0, hW0⟩ : ∃ W0, W0 = (w.alloc (.cells #[.int .u8 0, .int .u8 0, .int .u8 0] 110)).alloc (.cells #[.int .i64 0] 29) := ⟨_, rfl⟩
  have hB0 : Below w.heap.size w W0 := by rw [hW0]; exact ((Below.refl _ _).alloc (Nat.le_refl _) _).alloc (by simp) _
  have ha0 : W0.heap[w.heap.size]? = some (.cells #[.int .u8 0, .int .u8 0, .int .u8 0] 110 (0, 0)) := by rw [hW0]; exact (Below.heap_alloc _ _ _ (by simp)).trans (World.alloc_heap_new _ _)
  have hb0 : W0.heap[w.heap.size + 1]? = some (.cells #[.int .i64 0] 29 (0, 0)) := by rw [hW0]; exact heap_alloc2_new w _ _
  have hs0 : W0.heap.size = w.heap.size + 2 := by rw [hW0]; simp
  rw [← hW0, show w.heap.size + 1 + 1 = W0.heap.size by omega]
  obtain ⟨W, hW⟩ : ∃ W, W = W0.alloc (HandB c) := ⟨_, rfl⟩
  have hB : Below w.heap.size w W := by rw [hW]; exact hB0.alloc (by omega) _
  have ha : W.heap[w.heap.size]? = some (.cells #[.int .u8 0, .int .u8 0, .int .u8 0] 110 (0, 0)) := by rw [hW]; exact (Below.heap_alloc _ _ _ (by omega)).trans ha0
  have hb : W.heap[w.heap.size + 1]? = some (.cells #[.int .i64 0] 29 (0, 0)) := by rw [hW]; exact (Below.heap_alloc _ _ _ (by omega)).trans hb0
  have hg : W.heap[w.heap.size + 2]? = some (HandB c) := by rw [hW, ← hs0]; exact World.alloc_heap_new _ _
  rw [← hW, hs0]
  clear ha0 hb0 hW hW0 hB0
  have hs0'h := Lib.hid hs0
  clear hs0
  refine (D'h.out _ _ (Nat.le_refl _) hB hg).mono ?_
  rintro e W1 ⟨rfl, hB1⟩
  have ha1 := heap_below hB1 ha (by omega)
  have hb1 := heap_below hB1 hb (by omega)
  have hBB := hB.trans (hB1.mono (by omega))
  clear hB1 hg ha hb hB
  have ha1'h := Lib.hid ha1
  have hb1'h := Lib.hid hb1
  have hBB'h := Lib.hid hBB
  clear ha1 hb1 hBB
  go_wp2
  refine leaves_cons (f := 82) (args := #[.pointer (some ⟨w.heap.size, 0, none⟩), .pointer (some ⟨w.heap.size + 1, 0, none⟩)]) (by simp) (by simp [go_sem]) ?_
  refine (boomS _ _ z 0 W1 ha1'h.out hb1'h.out (by omega)).mono ?_
  rintro e u' W2 ⟨rfl, rfl, ha2, hb2, hB2⟩
  have hB3 := hBB'h.out.trans (hB2 w.heap.size (Nat.le_refl _) (by omega))
  have d0 : W2.cell? ⟨w.heap.size, 0, none⟩ = some (.int .u8 0) := blk_cell ha2 rfl
  have d1 : W2.cell? ⟨w.heap.size, 1, none⟩ = some (.int .u8 0) := blk_cell ha2 rfl
  have d2 : W2.cell? ⟨w.heap.size, 2, none⟩ = some (.int .u8 0) := blk_cell ha2 rfl
  have d9 : W2.cell? ⟨w.heap.size + 1, 0, none⟩ = some (.int .i64 z) := blk_cell hb2 rfl
  clear ha2 hb2 hB2
  simp [Leaves, settle, results, Try.results67, go_sem, d0, d1, d2, d9, hB3]
theorem tries_notL (c : Nat) (f : Value) (w : World) (hc : c < 2 ^ 64) (hr : rightW c = false) :
    Calls Try.prog 89 #[.int .u64 c, f] w fun e w' => e = .returned (.tuple #[.agg #[.int .u64 0, .slice none 0 0], .int .i64 190]) ∧ Below w.heap.size w w' := by
  have hmf : ∀ (fn : Fn) (first cap : Array Value) (w : World), (Instr.makeFunc fn first cap).run Try.prog w = .ok (.func fn first cap) w := fun _ _ _ _ => rfl
  have C := fun w => check_any c w hc
  rw [if_neg (by rw [hr]; simp)] at C
  have C'h := Lib.hid C
  have hc'h := Lib.hid hc
  have hr'h := Lib.hid hr
  clear C hc hr
  go_enter_defers Try.func89, Try.ntmps89
  go_wp2_with fail
  refine (C'h.out _).mono ?_
  rintro e w' ⟨rfl, rfl⟩
  go_wp2_with fail
  refine (need_no _ _).mono ?_
  rintro e w' ⟨rfl, rfl⟩
  go_wp2
  obtain ⟨W, hW⟩ : ∃ W, W = (w.alloc (.cells #[.int .u64 0, .slice none 0 0] 134)).alloc (.cells #[.int .i64 0] 29) := ⟨_, rfl⟩
  have hB : Below w.heap.size w W := by rw [hW]; exact ((Below.refl _ _).alloc (Nat.le_refl _) _).alloc (by simp) _
  have ha : W.heap[w.heap.size]? = some (.cells #[.int .u64 0, .slice none 0 0] 134 (0, 0)) := by rw [hW]; exact (Below.heap_alloc _ _ _ (by simp)).trans (World.alloc_heap_new _ _)
  have hb : W.heap[w.heap.size + 1]? = some (.cells #[.int .i64 0] 29 (0, 0)) := by rw [hW]; exact heap_alloc2_new w _ _
  rw [← hW]
  refine leaves_cons (f := 98) (args := #[.pointer (some ⟨w.heap.size, 0, none⟩), .pointer (some ⟨w.heap.size + 1, 0, none⟩)]) (by simp) (by simp [go_sem]) ?_
  refine (boomL _ _ 190 0 W ha hb (by omega)).mono ?_
  rintro e u' W2 ⟨rfl, rfl, ha2, hb2, hB2⟩
  have hB3 := hB.trans (hB2 w.heap.size (Nat.le_refl _) (by omega))
  have d0 : W2.cell? ⟨w.heap.size, 0, none⟩ = some (.int .u64 0) := blk_cell ha2 rfl
  have d1 : W2.cell? ⟨w.heap.size, 1, none⟩ = some (.slice none 0 0) := blk_cell ha2 rfl
  have d9 : W2.cell? ⟨w.heap.size + 1, 0, none⟩ = some (.int .i64 190) := blk_cell hb2 rfl
  clear ha2 hb2 hB2
  simp [Leaves, settle, results, Try.results89, go_sem, d0, d1, d9, hB3]
theorem tries_noFills (c : Nat) (p1 : Value) (z : Int) (w : World) (hc : c < 2 ^ 64) (hr : rightW c = true)
    (D : ∀ (g : Nat) (W : World), w.heap.size + 2 ≤ g → Below w.heap.size w W → W.heap[g]? = some (HandB c) → Calls Try.prog 90 #[.pointer (some ⟨g, 0, none⟩), p1] W fun e W' => e = Boom z ∧ Below g W W') :
    Calls Try.prog 89 #[.int .u64 c, .func (.func 90) #[] #[p1]] w fun e w' => e = .returned (.tuple #[.agg #[.int .u64 0, .slice none 0 0], .int .i64 z]) ∧ Below w.heap.size w w' := by
  have hmf : ∀ (fn : Fn) (first cap : Array Value) (w : World), (Instr.makeFunc fn first cap).run Try.prog w = .ok (.func fn first cap) w := fun _ _ _ _ => rfl
  have C := fun w => check_any c w hc
  rw [if_pos hr] at C
  have C'h := Lib.hid C
  have hc'h := Lib.hid hc
  have hr'h := Lib.hid hr
  have D'h := Lib.hid D
  clear C hc hr D
  go_enter_defers Try.func89, Try.ntmps89
  go_wp2_with fail
  refine (C'h.out _).mono ?_
  rintro e w' ⟨rfl, rfl⟩
  go_wp2_with fail
  refine (need_yes _ _).mono ?_
  rintro e w' ⟨rfl, rfl⟩
  go_wp2_with fail
  obtain ⟨W0, hW0⟩ : ∃ W0, W0 = (w.alloc (.cells #[.int .u64 0, .slice none 0 0] 134)).alloc (.cells #[.int .i64 0] 29) := ⟨_, rfl⟩
  have hB0 : Below w.heap.size w W0 := by rw [hW0]; exact ((Below.refl _ _).alloc (Nat.le_refl _) _).alloc (by simp) _
  have ha0 : W0.heap[w.heap.size]? = some (.cells #[.int .u64 0, .slice none 0 0] 134 (0, 0)) := by rw [hW0]; exact (Below.heap_alloc _ _ _ (by simp)).trans (World.alloc_heap_new _ _)
  have hb0 : W0.heap[w.heap.size + 1]? = some (.cells #[.int .i64 0] 29 (0, 0)) := by rw [hW0]; exact heap_alloc2_new w _ _
  have hs0 : W0.heap.size = w.heap.size + 2 := by rw [hW0]; simp
  rw [← hW0, show w.heap.size + 1 + 1 = W0.heap.size by omega]
  obtain ⟨W, hW⟩ : ∃ W, W = W0.alloc (HandB c) := ⟨_, rfl⟩
  have hB : Below w.heap.size w W := by rw [hW]; exact hB0.alloc (by omega) _
  have ha : W.heap[w.heap.size]? = some (.cells #[.int .u64 0, .slice none 0 0] 134 (0, 0)) := by rw [hW]; exact (Below.heap_alloc _ _ _ (by omega)).trans ha0
  have hb : W.heap[w.heap.size + 1]? = some (.cells #[.int .i64 0] 29 (0, 0)) := by rw [hW]; exact (Below.heap_alloc _ _ _ (by omega)).trans hb0
  have hg : W.heap[w.heap.size + 2]? = some (HandB c) := by rw [hW, ← hs0]; exact World.alloc_heap_new _ _
  rw [← hW, hs0]
  clear ha0 hb0 hW hW0 hB0
  have hs0'h := Lib.hid hs0
  clear hs0
  refine (D'h.out _ _ (Nat.le_refl _) hB hg).mono ?_
  rintro e W1 ⟨rfl, hB1⟩
  have ha1 := heap_below hB1 ha (by omega)
  have hb1 := heap_below hB1 hb (by omega)
  have hBB := hB.trans (hB1.mono (by omega))
  clear hB1 hg ha hb hB
  have ha1'h := Lib.hid ha1
  have hb1'h := Lib.hid hb1
  have hBB'h := Lib.hid hBB
  clear ha1 hb1 hBB
  go_wp2
  refine leaves_cons (f := 98) (args := #[.pointer (some ⟨w.heap.size, 0, none⟩), .pointer (some ⟨w.heap.size + 1, 0, none⟩)]) (by simp) (by simp [go_sem]) ?_
  refine (boomL _ _ z 0 W1 ha1'h.out hb1'h.out (by omega)).mono ?_
  rintro e u' W2 ⟨rfl, rfl, ha2, hb2, hB2⟩
  have hB3 := hBB'h.out.trans (hB2 w.heap.size (Nat.le_refl _) (by omega))
  have d0 : W2.cell? ⟨w.heap.size, 0, none⟩ = some (.int .u64 0) := blk_cell ha2 rfl
  have d1 : W2.cell? ⟨w.heap.size, 1, none⟩ = some (.slice none 0 0) := blk_cell ha2 rfl
  have d9 : W2.cell? ⟨w.heap.size + 1, 0, none⟩ = some (.int .i64 z) := blk_cell hb2 rfl
  clear ha2 hb2 hB2
  simp [Leaves, settle, results, Try.results89, go_sem, d0, d1, d9, hB3]
theorem tries_yesSets (c : Nat)  (v0 v1 v2 : Nat) (w : World) (hc : c < 2 ^ 64) (hr : rightW c = true)
    (D : ∀ (g : Nat) (W : World), w.heap.size + 2 ≤ g → Below w.heap.size w W → W.heap[g]? = some (HandB c) → Calls Try.prog 68 #[.pointer (some ⟨g, 0, none⟩)] W fun e W' => e = .returned (.agg #[.int .u8 v0, .int .u8 v1, .int .u8 v2]) ∧ Below g W W') :
    Calls Try.prog 67 #[.int .u64 c, .func (.func 68) #[] #[]] w fun e w' => e = .returned (.tuple #[.agg #[.int .u8 v0, .int .u8 v1, .int .u8 v2], .int .i64 0]) ∧ Below w.heap.size w w' := by
  have hmf : ∀ (fn : Fn) (first cap : Array Value) (w : World), (Instr.makeFunc fn first cap).run Try.prog w = .ok (.func fn first cap) w := fun _ _ _ _ => rfl
  have C := fun w => check_any c w hc
  rw [if_pos hr] at C
  have C'h := Lib.hid C
  have hc'h := Lib.hid hc
  have hr'h := Lib.hid hr
  have D'h := Lib.hid D
  clear C hc hr D
  go_enter_defers Try.func67, Try.ntmps67
  go_wp2_with fail
  refine (C'h.out _).mono ?_
  rintro e w' ⟨rfl, rfl⟩
  go_wp2_with fail
  refine (need_yes _ _).mono ?_
  rintro e w' ⟨rfl, rfl⟩
  go_wp2_with fail
  obtain ⟨W0, hW0⟩ : ∃ W0, W0 = (w.alloc (.cells #[.int .u8 0, .int .u8 0, .int .u8 0] 110)).alloc (.cells #[.int .i64 0] 29) := ⟨_, rfl⟩
  have hB0 : Below w.heap.size w W0 := by rw [hW0]; exact ((Below.refl _ _).alloc (Nat.le_refl _) _).alloc (by simp) _
  have ha0 : W0.heap[w.heap.size]? = some (.cells #[.int .u8 0, .int .u8 0, .int .u8 0] 110 (0, 0)) := by rw [hW0]; exact (Below.heap_alloc _ _ _ (by simp)).trans (World.alloc_heap_new _ _)
  have hb0 : W0.heap[w.heap.size + 1]? = some (.cells #[.int .i64 0] 29 (0, 0)) := by rw [hW0]; exact heap_alloc2_new w _ _
  have hs0 : W0.heap.size = w.heap.size + 2 := by rw [hW0]; simp
  rw [← hW0, show w.heap.size + 1 + 1 = W0.heap.size by omega]
  obtain ⟨W, hW⟩ : ∃ W, W = W0.alloc (HandB c) := ⟨_, rfl⟩
  have hB : Below w.heap.size w W := by rw [hW]; exact hB0.alloc (by omega) _
  have ha : W.heap[w.heap.size]? = some (.cells #[.int .u8 0, .int .u8 0, .int .u8 0] 110 (0, 0)) := by rw [hW]; exact (Below.heap_alloc _ _ _ (by omega)).trans ha0
  have hb : W.heap[w.heap.size + 1]? = some (.cells #[.int .i64 0] 29 (0, 0)) := by rw [hW]; exact (Below.heap_alloc _ _ _ (by omega)).trans hb0
  have hg : W.heap[w.heap.size + 2]? = some (HandB c) := by rw [hW, ← hs0]; exact World.alloc_heap_new _ _
  rw [← hW, hs0]
  clear ha0 hb0 hW hW0 hB0
  have hs0'h := Lib.hid hs0
  clear hs0
  refine (D'h.out _ _ (Nat.le_refl _) hB hg).mono ?_
  rintro e W1 ⟨rfl, hB1⟩
  have ha1 := heap_below hB1 ha (by omega)
  have hb1 := heap_below hB1 hb (by omega)
  have hBB := hB.trans (hB1.mono (by omega))
  clear hB1 hg ha hb hB
  obtain ⟨W2, hW2⟩ : ∃ W2, W2 = W1.setRow w.heap.size #[.int .u8 v0, .int .u8 v1, .int .u8 v2] := ⟨_, rfl⟩
  have ha2 : W2.heap[w.heap.size]? = some (.cells #[.int .u8 v0, .int .u8 v1, .int .u8 v2] 110 (0, 0)) := by rw [hW2]; exact setRow_heap _ _ _ _ _ _ ha1
  have hb2 : W2.heap[w.heap.size + 1]? = some (.cells #[.int .i64 0] 29 (0, 0)) := by rw [hW2]; exact (setRow_other _ _ _ _ (by omega)).trans hb1
  have hB2 : Below w.heap.size w W2 := by rw [hW2]; exact below_setRow' hBB (Nat.le_refl _) _
  have c2 : W2.cell? ⟨w.heap.size + 1, 0, none⟩ = some (.int .i64 0) := blk_cell hb2 rfl
  have f2 : W2.frozen? ⟨w.heap.size + 1, 0, none⟩ = false := blk_free 0 hb2
  have hone : (#[.int .u8 v0, .int .u8 v1, .int .u8 v2] : Array Value).all (·.oneCell') = true := by kernel_rfl
  clear hBB hb1
  have ha1'h := Lib.hid ha1
  have ha2'h := Lib.hid ha2
  have hb2'h := Lib.hid hb2
  have hB2'h := Lib.hid hB2
  have hW2'h := Lib.hid hW2
  have hone'h := Lib.hid hone
  clear ha1 ha2 hb2 hB2 hW2 hone
  go_wp2_with (first | (refine wpList_store_row rfl 110 (.tmp 4) (.tmp 15) rfl w.heap.size #[.int .u8 v0, .int .u8 v1, .int .u8 v2] rfl rfl 110 #[.int .u8 0, .int .u8 0, .int .u8 0] ha1'h.out infoS rfl hone'h.out ?_; rw [← hW2'h.out]))
  have hb3 := blk_set (i := 0) (.int .i64 0) hb2'h.out
  have ha3 := (Below.heap_setCell W2 ⟨w.heap.size + 1, 0, none⟩ (.int .i64 0) w.heap.size (by simp)).trans ha2'h.out
  have hB3 := hB2'h.out.setCell (p := ⟨w.heap.size + 1, 0, none⟩) (by simp) (.int .i64 0)
  generalize W2.setCell ⟨w.heap.size + 1, 0, none⟩ (.int .i64 0) = W3 at *
  have d0 : W3.cell? ⟨w.heap.size, 0, none⟩ = some (.int .u8 v0) := blk_cell ha3 rfl
  have d1 : W3.cell? ⟨w.heap.size, 1, none⟩ = some (.int .u8 v1) := blk_cell ha3 rfl
  have d2 : W3.cell? ⟨w.heap.size, 2, none⟩ = some (.int .u8 v2) := blk_cell ha3 rfl
  have d9 : W3.cell? ⟨w.heap.size + 1, 0, none⟩ = some (.int .i64 0) := blk_cell hb3 rfl
  refine leaves_cons (f := 82) (args := #[.pointer (some ⟨w.heap.size, 0, none⟩), .pointer (some ⟨w.heap.size + 1, 0, none⟩)]) (by simp) (by simp [go_sem]) ?_
  refine (idleS _ _ W3).mono ?_
  rintro e u' w'' ⟨rfl, rfl, rfl⟩
  simp [Leaves, settle, results, Try.results67, go_sem, d0, d1, d2, d9, hB3]
end Go.Proofs.Ytfoohdjgnphdgaa
