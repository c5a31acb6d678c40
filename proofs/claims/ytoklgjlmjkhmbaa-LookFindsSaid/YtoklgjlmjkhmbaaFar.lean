/-
  Package probe: Far.
-/
import Derived.Test.YtoklgjlmjkhmbaaProbeC
import Derived.Test.YtoklgjlmjkhmbaaMarks
set_option linter.unusedSimpArgs false
set_option linter.unusedVariables false
namespace Go.Proofs.Ytoklgjlmjkhmbaa
open Go.RowKit

def zA (l : List Nat) : Array Value := (zN l).toArray
theorem zero_row (G : Nat) : madeCells #[Value.int .i64 0] G = zA (farL G []) := by
  unfold madeCells zA zN farL farK
  apply Array.ext (by simp)
  intro i h1 h2
  simp
  rw [Nat.mod_one]; rfl
theorem zN_at' {l : List Nat} {j : Nat} (h : j < l.length) : (zN l)[j]? = some (.int .i64 (nthN l j)) := by
  unfold zN; rw [List.getElem?_map, List.getElem?_map, List.getElem?_eq_getElem h, nthN_eq h]; rfl
/-- Between rounds of Far. -/
structure FarM (G B : Nat) (w : World) (l : List Nat) (bs : List Nat) (W : World) : Prop where
  row : W.heap[B]? = some (.cells (zA l) 3 (0, 0))
  var : W.heap[B + 1]? = some (.cells #[.slice (some ⟨B, 0, none⟩) G G] 64 (0, 0))
  nd : bs.Nodup
  marks : ∀ D ∈ bs, B + 2 ≤ D ∧ W.heap[D]? = some (.deferred (some []))
  size : B + 2 ≤ W.heap.size
  old : Below w.heap.size w W
/-- .. and within one. -/
structure FarR (G B : Nat) (w : World) (hs : List Nat) (h : Nat) (bs : List Nat) (j : Nat) (S : Nat → Prop) (W : World) : Prop where
  row : W.heap[B]? = some (.cells (zA (farP G hs h j)) 3 (0, 0))
  mine : ¬ S B
  var : W.heap[B + 1]? = some (.cells #[.slice (some ⟨B, 0, none⟩) G G] 64 (0, 0))
  mine1 : ¬ S (B + 1)
  nd : bs.Nodup
  marks : ∀ D ∈ bs, B + 2 ≤ D ∧ W.heap[D]? = some (.deferred (some [])) ∧ ¬ S D
  size : B + 2 ≤ W.heap.size
  old : Old w.heap.size w S W
theorem FarR.stable (G B : Nat) (w : World) (hs : List Nat) (h : Nat) (bs : List Nat) (j : Nat) : Stable (FarR G B w hs h bs j) := fun S S' W W' i f =>
  ⟨f.heap' i.mine i.row, f.not (lt_of_heap i.row) i.mine, f.heap' i.mine1 i.var, f.not (lt_of_heap i.var) i.mine1, i.nd,
    fun D hD => ⟨(i.marks D hD).1, f.heap' (i.marks D hD).2.2 (i.marks D hD).2.1, f.not (lt_of_heap (i.marks D hD).2.1) (i.marks D hD).2.2⟩, Nat.le_trans i.size f.size, Old.stable _ _ _ _ _ _ i.old f⟩
def farLe (G : Nat) (hs : List Nat) (m : Nat) : Prop := ∀ g, g < G → farK G hs g ≤ m
theorem zA_at {l : List Nat} {i : Nat} (h : i < l.length) : (zA l)[i]? = some (.int .i64 (nthN l i)) := by
  unfold zA; rw [List.getElem?_toArray]; exact zN_at' h
theorem zA_set {l : List Nat} {i x : Nat} : (zA l).setIfInBounds i (.int .i64 x) = zA (l.set i x) := by
  unfold zA zN; rw [List.setIfInBounds_toArray, List.map_set, List.map_set]; rfl
theorem info_i64' : (Try.prog.info? 3).map (fun i => (i.zero, i.size, i.bytes)) = some (some (.int .i64 0), 1, 8) := by kernel_rfl
end Go.Proofs.Ytoklgjlmjkhmbaa
