/-
  Fills.
-/
import Derived.Test.YtfoohdjgnphdgaaCtrlE
import Derived.Test.YtfoohdjgnphdgaaLanesT
set_option linter.unusedSimpArgs false
set_option linter.unusedVariables false
set_option maxRecDepth 100000
namespace Go.Proofs.Ytfoohdjgnphdgaa
open Go.RowKit

theorem ownsRow_of_heap {w w' : World} {base : Nat} {e : TypeId} {size : Nat} {v : Value} {n : Nat} {xs : List Value} (h : w.ownsRow base e size v n xs) (hh : ∀ b, base ≤ b → b < w.heap.size → w'.heap[b]? = w.heap[b]?) : w'.ownsRow base e size v n xs := by
  refine ⟨h.1, ?_⟩
  rcases h.2 with h0 | ⟨g, cap, cur, h1, hb, hg, hr⟩
  · exact .inl h0
  · exact .inr ⟨g, cap, cur, h1, hb, (hh g hb (lt_of_heap hg)).trans hg, hr⟩
theorem tries_yesFills (c : Nat) (p1 : Value) (v0 : Nat) (l : List Value) (k : Nat) (w : World) (hc : c < 2 ^ 64) (hr : rightW c = true)
    (D : ∀ (g : Nat) (W : World), w.heap.size + 2 ≤ g → Below w.heap.size w W → W.heap[g]? = some (HandB c) → Calls Try.prog 90 #[.pointer (some ⟨g, 0, none⟩), p1] W fun e W' => ∃ sp n cap, e = .returned (.agg #[.int .u64 v0, .slice sp n cap]) ∧ Below g W W' ∧ W'.ownsRow g 3 1 (.slice sp n cap) k l) :
    Calls Try.prog 89 #[.int .u64 c, .func (.func 90) #[] #[p1]] w fun e w' => ∃ sp n cap, e = .returned (.tuple #[.agg #[.int .u64 v0, .slice sp n cap], .int .i64 0]) ∧ Below w.heap.size w w' ∧ w'.ownsRow w.heap.size 3 1 (.slice sp n cap) k l := by
  have hmf : ∀ (fn : Fn) (first cap : Array Value) (w : World), (Instr.makeFunc fn first cap).run Try.prog w = .ok (.func fn first cap) w := fun _ _ _ _ => rfl
  have C := fun w => check_any c w hc
  rw [if_pos hr] at C
  have C'h := Lib.hid C
  have hc'h := Lib.hid hc
  have hr'h := Lib.hid hr
  have D'h := Lib.hid D
  clear C hc hr D
  go_enter_defers Try.func89, Try.ntmps89
  go_wp2_with fail
  refine (C'h.out _).mono ?_
  rintro e w' ⟨rfl, rfl⟩
  go_wp2_with fail
  refine (need_yes _ _).mono ?_
  rintro e w' ⟨rfl, rfl⟩
  go_wp2_with fail
  obtain ⟨W0, hW0⟩ : ∃ W0, W0 = (w.alloc (.cells #[.int .u64 0, .slice none 0 0] 134)).alloc (.cells #[.int .i64 0] 29) := ⟨_, rfl⟩
  have hB0 : Below w.heap.size w W0 := by rw [hW0]; exact ((Below.refl _ _).alloc (Nat.le_refl _) _).alloc (by simp) _
  have ha0 : W0.heap[w.heap.size]? = some (.cells #[.int .u64 0, .slice none 0 0] 134 (0, 0)) := by rw [hW0]; exact (Below.heap_alloc _ _ _ (by simp)).trans (World.alloc_heap_new _ _)
  have hb0 : W0.heap[w.heap.size + 1]? = some (.cells #[.int .i64 0] 29 (0, 0)) := by rw [hW0]; exact heap_alloc2_new w _ _
  have hs0 : W0.heap.size = w.heap.size + 2 := by rw [hW0]; simp
  rw [← hW0, show w.heap.size + 1 + 1 = W0.heap.size by omega]
  obtain ⟨W, hW⟩ : ∃ W, W = W0.alloc (HandB c) := ⟨_, rfl⟩
  have hB : Below w.heap.size w W := by rw [hW]; exact hB0.alloc (by omega) _
  have ha : W.heap[w.heap.size]? = some (.cells #[.int .u64 0, .slice none 0 0] 134 (0, 0)) := by rw [hW]; exact (Below.heap_alloc _ _ _ (by omega)).trans ha0
  have hb : W.heap[w.heap.size + 1]? = some (.cells #[.int .i64 0] 29 (0, 0)) := by rw [hW]; exact (Below.heap_alloc _ _ _ (by omega)).trans hb0
  have hg : W.heap[w.heap.size + 2]? = some (HandB c) := by rw [hW, ← hs0]; exact World.alloc_heap_new _ _
  rw [← hW, hs0]
  clear ha0 hb0 hW hW0 hB0
  have hs0'h := Lib.hid hs0
  clear hs0
  refine (D'h.out _ _ (Nat.le_refl _) hB hg).mono ?_
  rintro e W1 ⟨sp, n, cap, rfl, hB1, hrow1⟩
  have ha1 := heap_below hB1 ha (by omega)
  have hb1 := heap_below hB1 hb (by omega)
  have hBB := hB.trans (hB1.mono (by omega))
  clear hB1 hg ha hb hB
  obtain ⟨W2, hW2⟩ : ∃ W2, W2 = W1.setRow w.heap.size #[.int .u64 v0, .slice sp n cap] := ⟨_, rfl⟩
  have ha2 : W2.heap[w.heap.size]? = some (.cells #[.int .u64 v0, .slice sp n cap] 134 (0, 0)) := by rw [hW2]; exact setRow_heap _ _ _ _ _ _ ha1
  have hb2 : W2.heap[w.heap.size + 1]? = some (.cells #[.int .i64 0] 29 (0, 0)) := by rw [hW2]; exact (setRow_other _ _ _ _ (by omega)).trans hb1
  have hB2 : Below w.heap.size w W2 := by rw [hW2]; exact below_setRow' hBB (Nat.le_refl _) _
  have c2 : W2.cell? ⟨w.heap.size + 1, 0, none⟩ = some (.int .i64 0) := blk_cell hb2 rfl
  have f2 : W2.frozen? ⟨w.heap.size + 1, 0, none⟩ = false := blk_free 0 hb2
  have hone : (#[.int .u64 v0, .slice sp n cap] : Array Value).all (·.oneCell') = true := by kernel_rfl
  have hrow2 : W2.ownsRow (w.heap.size + 2) 3 1 (.slice sp n cap) k l := by rw [hW2]; exact ownsRow_of_heap hrow1 fun b hb _ => setRow_other _ _ _ _ (by omega)
  clear hBB hb1 hrow1
  have ha1'h := Lib.hid ha1
  have ha2'h := Lib.hid ha2
  have hb2'h := Lib.hid hb2
  have hB2'h := Lib.hid hB2
  have hW2'h := Lib.hid hW2
  have hone'h := Lib.hid hone
  have hrow2'h := Lib.hid hrow2
  clear ha1 ha2 hb2 hB2 hW2 hone hrow2
  go_wp2_with (first | (refine wpList_store_row rfl 134 (.tmp 4) (.tmp 15) rfl w.heap.size #[.int .u64 v0, .slice sp n cap] rfl rfl 134 #[.int .u64 0, .slice none 0 0] ha1'h.out infoL rfl hone'h.out ?_; rw [← hW2'h.out]))
  have hb3 := blk_set (i := 0) (.int .i64 0) hb2'h.out
  have ha3 := (Below.heap_setCell W2 ⟨w.heap.size + 1, 0, none⟩ (.int .i64 0) w.heap.size (by simp)).trans ha2'h.out
  have hB3 := hB2'h.out.setCell (p := ⟨w.heap.size + 1, 0, none⟩) (by simp) (.int .i64 0)
  have hrow3 : (W2.setCell ⟨w.heap.size + 1, 0, none⟩ (.int .i64 0)).ownsRow w.heap.size 3 1 (.slice sp n cap) k l := ownsRow_mono (ownsRow_of_heap hrow2'h.out fun b hb _ => Below.heap_setCell _ _ _ _ (by simp; omega)) (by omega)
  generalize W2.setCell ⟨w.heap.size + 1, 0, none⟩ (.int .i64 0) = W3 at *
  have d0 : W3.cell? ⟨w.heap.size, 0, none⟩ = some (.int .u64 v0) := blk_cell ha3 rfl
  have d1 : W3.cell? ⟨w.heap.size, 1, none⟩ = some (.slice sp n cap) := blk_cell ha3 rfl
  have d9 : W3.cell? ⟨w.heap.size + 1, 0, none⟩ = some (.int .i64 0) := blk_cell hb3 rfl
  refine leaves_cons (f := 98) (args := #[.pointer (some ⟨w.heap.size, 0, none⟩), .pointer (some ⟨w.heap.size + 1, 0, none⟩)]) (by simp) (by simp [go_sem]) ?_
  refine (idleL _ _ W3).mono ?_
  rintro e u' w'' ⟨rfl, rfl, rfl⟩
  refine ⟨_, ?_, sp, n, cap, rfl, hB3, hrow3⟩
  simp [results, Try.results89, go_sem, d0, d1, d9]
end Go.Proofs.Ytfoohdjgnphdgaa
