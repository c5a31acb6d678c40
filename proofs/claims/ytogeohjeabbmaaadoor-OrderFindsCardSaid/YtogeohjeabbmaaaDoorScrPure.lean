/-
  Layer 3 (script), plain: calls, scripts, what they read as in memory; the table of the words that calls take.
-/
import Derived.Test.YtogeohjeabbmaaaDoorY1
set_option linter.unusedSimpArgs false
set_option linter.unusedVariables false
namespace Go.Proofs.YtogeohjeabbmaaaDoor
open Go.RowKit

/-- The package's table, as its own text lays it. -/
def tkL : List Int := [-1, 1, 2, 1, 3, 2, 0, 0]
def Tks (w : World) : Prop := ∀ i : Nat, i < 8 → w.cell? ⟨0, i, none⟩ = some (.int .i64 (tkL.getD i 0))
theorem Tks.lt {w : World} (h : Tks w) : 0 < w.heap.size := lt_of_cell (h 0 (by omega))
theorem Tks.below {w w' : World} {B : Nat} (h : Tks w) (hb : Below B w w') (hB : 0 < B) : Tks w' := fun i hi => (hb.cell (p := ⟨0, i, none⟩) hB).trans (h i hi)
theorem Tks.next {w w' : World} (h : Tks w) (hb : Below w.heap.size w w') : Tks w' := h.below hb h.lt
def takesI (op : Int) : Int := if op < 0 ∨ 8 ≤ op then -1 else tkL.getD op.toNat 0
theorem takesI_range (op : Int) : -1 ≤ takesI op ∧ takesI op ≤ 3 := by
  unfold takesI
  split
  · omega
  · have : op.toNat < 8 := by omega
    generalize op.toNat = k at *
    match k, this with
    | 0, _ => decide
    | 1, _ => decide
    | 2, _ => decide
    | 3, _ => decide
    | 4, _ => decide
    | 5, _ => decide
    | 6, _ => decide
    | 7, _ => decide
theorem takesI_some {op : Int} (h : 0 ≤ takesI op) : 1 ≤ op ∧ op ≤ 7 := by
  unfold takesI at h
  split at h
  · omega
  · by_cases h0 : op = 0
    · subst h0; exact absurd h (by decide)
    · omega

/-- A call. -/
structure Cal where
  op : Int
  key : Nat
  a : Nat
  b : Nat
deriving DecidableEq
def calA (c : Cal) : Array Value := #[.int .i64 c.op, .int .u64 (c.key : Int), .int .u64 (c.a : Int), .int .u64 (c.b : Int)]
def calL (c : Cal) : List Value := [.int .i64 c.op, .int .u64 (c.key : Int), .int .u64 (c.a : Int), .int .u64 (c.b : Int)]
theorem calL_len (c : Cal) : (calL c).length = 4 := rfl
def cals (l : List Cal) : List Value := l.flatMap calL
def nthCal (l : List Cal) (k : Nat) : Cal := l.getD k ⟨0, 0, 0, 0⟩
theorem cals_length (l : List Cal) : (cals l).length = l.length * 4 := by unfold cals; exact flat_len calL_len l
structure CalOk (c : Cal) : Prop where
  lo : -9223372036854775808 ≤ c.op
  hi : c.op ≤ 9223372036854775807
  key : c.key < 2 ^ 64
  a : c.a < 2 ^ 64
  b : c.b < 2 ^ 64
/-- The words of a call, as many as it takes, the others 0. -/
def wordsC (c : Cal) : List Nat := [c.key, c.a, c.b]
def rightC (c : Cal) : Bool := decide (0 ≤ takesI c.op) && ((wordsC c).drop (takesI c.op).toNat).all (· == 0)

/-! ### The place of the first one of which something holds -/
def idxG {α : Type} (p : α → Bool) (l : List α) : Int := if l.findIdx p < l.length then (l.findIdx p : Int) else -1
theorem idxG_hit {α : Type} {p : α → Bool} {l : List α} {k : Nat} (hk : k < l.length) (hno : ∀ j, (h : j < k) → p (l[j]'(by omega)) = false) (h : p l[k] = true) : idxG p l = (k : Int) := by
  have e : l.findIdx p = k := (List.findIdx_eq hk).2 ⟨h, fun j hj => by have := hno j hj; simpa using this⟩
  unfold idxG; rw [e, if_pos hk]
theorem idxG_none {α : Type} {p : α → Bool} {l : List α} (hno : ∀ j, (h : j < l.length) → p l[j] = false) : idxG p l = -1 := by
  unfold idxG
  rw [if_neg]
  intro h
  have h1 := List.findIdx_getElem (w := h)
  rw [hno _ h] at h1
  cases h1
theorem idxG_any {α : Type} (p : α → Bool) (l : List α) : decide (0 ≤ idxG p l) = l.any p := by
  unfold idxG
  by_cases h : l.findIdx p < l.length
  · rw [if_pos h, decide_eq_true (by omega)]
    exact (List.any_eq_true.2 ⟨_, List.getElem_mem h, List.findIdx_getElem (w := h)⟩).symm
  · rw [if_neg h, decide_eq_false (by omega)]
    symm
    rw [List.any_eq_false]
    intro x hx hp
    exact h (List.findIdx_lt_length_of_exists ⟨x, hx, hp⟩)
end Go.Proofs.YtogeohjeabbmaaaDoor
