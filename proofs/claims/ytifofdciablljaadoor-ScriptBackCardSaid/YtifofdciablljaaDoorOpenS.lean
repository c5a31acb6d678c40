/-
  Structs by value, opened; slices of structs and of arrays, opened.
-/
import Derived.Test.YtifofdciablljaaDoorOpen
import Derived.Test.YtifofdciablljaaDoorSlK
import Derived.Deep.Fields
import Derived.Deep.Slices
set_option linter.unusedSimpArgs false
set_option linter.unusedVariables false
namespace Go.Proofs.YtifofdciablljaaDoor
open Go.ChangeShapes Go.WideShapes Go.RowKit Go.Joins Go.Deep
variable {H : Type} {enc : TypeId × Value → H} {P : Program} {w : World} {base : Nat} {spare : Nat → Bool} {held : Bool}

theorem open_cells {r : Reach} {b0 : Nat} {t : TypeId} {fs : Array Field} {v : Value} {d : DataW H} {p : List MemPlace} (hs : P.underlying t = some (.struct fs)) (hone : oneCellFields P fs = true) (hC : P.cellsOf t = fs.size)
    (hv : Value.okWide P w r b0 t v) (h : DataW.Trod enc P w base spare held t v d p) :
    ∃ cs : List Value, v = .agg cs.toArray ∧ cs.length = fs.size ∧ ∀ (j : Nat) (f : Field), fs[j]? = some f → ∃ (c : Value) (n : Nat) (y : DataW H × List MemPlace), cs[j]? = some c ∧ DataW.trod enc P w base spare held n f.type [c] = some y := by
  obtain ⟨⟨cs⟩, rfl, hsz⟩ := okWide_struct hs hv
  have hsz' : cs.length = fs.size := by have := hsz.trans hC; simpa using this
  obtain ⟨fuel, hf⟩ := h
  obtain ⟨xs, n, _, hx, _, hl, hg⟩ := DataW.trod_struct hs hf
  refine ⟨cs, rfl, hsz', fun j f hj => ?_⟩
  have hjl : j < fs.size := (Array.getElem?_eq_some_iff.1 hj).1
  obtain ⟨ho, hk⟩ := hone_of hone j f hj
  have h1 := hg j f hj
  rw [ho, hk] at h1
  simp only [Value.cells] at h1
  have e : (cs.drop j).take 1 = [cs[j]'(by omega)] := by
    rw [List.drop_eq_getElem_cons (by omega)]; rfl
  rw [e, List.getElem?_eq_getElem (by omega)] at h1
  exact ⟨cs[j]'(by omega), n, _, List.getElem?_eq_getElem (by omega), h1⟩
theorem field_int {fs : Array Field} {cs : List Value} (hf : ∀ (j : Nat) (f : Field), fs[j]? = some f → ∃ (c : Value) (n : Nat) (y : DataW H × List MemPlace), cs[j]? = some c ∧ DataW.trod enc P w base spare held n f.type [c] = some y)
    (j : Nat) (t : TypeId) (k : IntKind) (hj : (fs[j]?).map (·.type) = some t) (ht : P.underlying t = some (.int k)) : ∃ z, cs[j]? = some (.int k z) ∧ (Lit.int k z).wf = true := by
  cases hfj : fs[j]? with
  | none => rw [hfj] at hj; cases hj
  | some f =>
    rw [hfj] at hj
    obtain ⟨c, n, y, hc, ht'⟩ := hf j f hfj
    have ef : f.type = t := by simpa using hj
    rw [ef] at ht'
    obtain ⟨z, hz, _, hw⟩ := DataW.trod_int ht ht'
    obtain rfl : c = .int k z := by simpa using hz
    exact ⟨z, hc, hw⟩
theorem field_bool {fs : Array Field} {cs : List Value} (hf : ∀ (j : Nat) (f : Field), fs[j]? = some f → ∃ (c : Value) (n : Nat) (y : DataW H × List MemPlace), cs[j]? = some c ∧ DataW.trod enc P w base spare held n f.type [c] = some y)
    (j : Nat) (t : TypeId) (hj : (fs[j]?).map (·.type) = some t) (ht : P.underlying t = some .bool) : ∃ z, cs[j]? = some (.bool z) := by
  cases hfj : fs[j]? with
  | none => rw [hfj] at hj; cases hj
  | some f =>
    rw [hfj] at hj
    obtain ⟨c, n, y, hc, ht'⟩ := hf j f hfj
    have ef : f.type = t := by simpa using hj
    rw [ef] at ht'
    obtain ⟨z, hz, _⟩ := DataW.trod_bool ht ht'
    obtain rfl : c = .bool z := by simpa using hz
    exact ⟨z, hc⟩
theorem wf_i64' {x : Int} (h : (Lit.int .i64 x).wf = true) : -9223372036854775808 ≤ x ∧ x ≤ 9223372036854775807 := by
  have h1 : IntKind.i64.min = -9223372036854775808 := rfl
  have h2 : IntKind.i64.max = 9223372036854775807 := rfl
  simp only [Lit.wf, h1, h2, Bool.and_eq_true, decide_eq_true_eq] at h; omega
end Go.Proofs.YtifofdciablljaaDoor
