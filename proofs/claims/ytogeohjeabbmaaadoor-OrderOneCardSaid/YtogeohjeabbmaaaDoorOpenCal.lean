/-
  Arguments of layer 27, opened: rows of calls.
-/
import Derived.Test.YtogeohjeabbmaaaDoorZi
set_option linter.unusedSimpArgs false
set_option linter.unusedVariables false
set_option maxRecDepth 100000
namespace Go.Proofs.YtogeohjeabbmaaaDoor
open Go.ChangeShapes Go.WideShapes Go.RowKit Go.Joins Go.Deep
variable {H : Type} {enc : TypeId × Value → H} {w : World} {base : Nat} {spare : Nat → Bool} {held : Bool}

theorem open_cals {r : Reach} {b0 : Nat} {v : Value} {d : DataW H} {p : List MemPlace} (hv : Value.okWide Tryd.prog w r b0 22 v) (h : DataW.Trod enc Tryd.prog w base spare held 22 v d p) :
    ∃ (sp : Option Addr) (len cap : Nat) (l : List Cal), v = .slice sp len cap ∧ SlK w 4 sp len (cals l) ∧ (∀ c ∈ l, CalOk c) := by
  obtain ⟨a, len, cap, rfl⟩ := okWide_slice Tryd.underlying22 hv
  obtain ⟨fuel, hf⟩ := h
  obtain ⟨sp, ln, cp, xs, hc, hS, hl, hok, hn, hle⟩ := open_slice_c calL 4 CalOk calL_len (by decide) Tryd.underlying22 (by kernel_rfl) (fun n cs y hl hy => calc_cells hl (trod_fields Tryd.underlying31 (by kernel_rfl) hl hy) rfl rfl rfl rfl) hf
  injection hc with e1 e2 e3
  subst e1 e2 e3
  exact ⟨a, len, cap, xs, rfl, hS, hok⟩
end Go.Proofs.YtogeohjeabbmaaaDoor
