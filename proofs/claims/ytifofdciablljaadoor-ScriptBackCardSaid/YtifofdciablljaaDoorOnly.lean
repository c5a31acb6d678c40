/-
  Of the blocks that were there one alone turned.
-/
import Derived.Test.YtifofdciablljaaDoorKit
set_option linter.unusedSimpArgs false
set_option linter.unusedVariables false
namespace Go.Proofs.YtifofdciablljaaDoor
open Go.RowKit

def OnlyB (g : Nat) (w w' : World) : Prop := (∀ B, B ≤ g → Below B w w') ∧ ∀ b, b ≠ g → b < w.heap.size → w'.heap[b]? = w.heap[b]?
theorem OnlyB.refl (g : Nat) (w : World) : OnlyB g w w := ⟨fun B _ => Below.refl _ _, fun _ _ _ => rfl⟩
theorem OnlyB.old {g : Nat} {w w1 w' : World} (h1 : Below w.heap.size w w1) (h : OnlyB g w1 w') (hg : g < w.heap.size) : OnlyB g w w' :=
  ⟨fun B hB => (h1.mono (by omega)).trans (h.1 B hB), fun b hb hlt => (h.2 b hb (Nat.lt_of_lt_of_le hlt h1.size)).trans (h1.block b hlt)⟩
theorem OnlyB.size {g : Nat} {w w' : World} (h : OnlyB g w w') : w.heap.size ≤ w'.heap.size := (h.1 0 (Nat.zero_le _)).size
theorem OnlyB.new {g : Nat} {w w1 w' : World} (h : OnlyB g w w1) (h1 : Below w1.heap.size w1 w') (hg : g < w.heap.size) : OnlyB g w w' :=
  ⟨fun B hB => (h.1 B hB).trans (h1.mono (by have := h.size; omega)), fun b hb hlt => (h1.block b (by have := h.size; omega)).trans (h.2 b hb hlt)⟩
theorem OnlyB.trans {g : Nat} {w w1 w' : World} (h : OnlyB g w w1) (h1 : OnlyB g w1 w') : OnlyB g w w' :=
  ⟨fun B hB => (h.1 B hB).trans (h1.1 B hB), fun b hb hlt => (h1.2 b hb (by have := h.size; omega)).trans (h.2 b hb hlt)⟩
theorem OnlyB.set {g : Nat} {w w1 : World} (h : OnlyB g w w1) (i : Nat) (v : Value) : OnlyB g w (w1.setCell ⟨g, i, none⟩ v) :=
  ⟨fun B hB => (h.1 B hB).setCell hB _, fun b hb hlt => (Below.heap_setCell _ _ _ _ hb).trans (h.2 b hb hlt)⟩
theorem OnlyB.drewN {g : Nat} {w w1 : World} (h : OnlyB g w w1) (n : Nat) : OnlyB g w (w1.drewN n) :=
  ⟨fun B hB => (h.1 B hB).trans (below_drewN' _ _), h.2⟩
theorem OnlyB.drew {g : Nat} {w w1 : World} (h : OnlyB g w w1) : OnlyB g w w1.drew := ⟨fun B hB => (h.1 B hB).drew, h.2⟩
theorem OnlyB.below {g : Nat} {w w1 : World} (h : OnlyB g w w1) {B : Nat} (hB : B ≤ g) : Below B w w1 := h.1 B hB
theorem OnlyB.heap {g b : Nat} {w w1 : World} {o : Obj} (h : OnlyB g w w1) (hb : b ≠ g) (ho : w.heap[b]? = some o) : w1.heap[b]? = some o := (h.2 b hb (lt_of_heap ho)).trans ho
end Go.Proofs.YtifofdciablljaaDoor
