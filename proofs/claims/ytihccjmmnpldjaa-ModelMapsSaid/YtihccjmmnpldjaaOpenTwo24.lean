/-
  Two answers by value, opened.
-/
import Derived.Test.YtihccjmmnpldjaaOpenM
import Derived.Test.YtihccjmmnpldjaaLawMapsA24
set_option linter.unusedSimpArgs false
set_option linter.unusedVariables false
set_option maxRecDepth 100000
namespace Go.Proofs.Ytihccjmmnpldjaa
open Go.ChangeShapes Go.WideShapes Go.RowKit Go.Joins Go.Deep
variable {H : Type} {enc : TypeId × Value → H} {w : World} {base : Nat} {spare : Nat → Bool} {held : Bool}

theorem ans_of {n : Nat} {cs : List Value} {y : DataW H × List MemPlace} (hl : cs.length = 4) (h : DataW.trod enc Try.prog w base spare held n 35 cs = some y) :
    ∃ (X : An) (sp : Option Addr) (len cap : Nat) (ps : Ps), cs = [.int .i64 X.err, .int .u64 (X.val : Int), .bool X.done, .slice sp len cap] ∧ RowIn w sp len cap ps := by
  have hf := trod_fields Try.underlying35 (by kernel_rfl) hl h
  obtain ⟨z0, e0, w0⟩ := field_int hf 0 28 .i64 rfl Try.underlying28
  obtain ⟨z1, e1, w1⟩ := field_int hf 1 31 .u64 rfl Try.underlying31
  obtain ⟨z2, e2⟩ := field_bool hf 2 4 rfl Try.underlying4
  obtain ⟨c3, n3, y3, e3, h3⟩ := field_at hf 3 22 rfl
  obtain ⟨sp, len, cap, ps, rfl, hR⟩ := pairs_of h3
  obtain ⟨n1, rfl, b1⟩ := nat_of_u64 w1
  exact ⟨⟨z0, n1, z2⟩, sp, len, cap, ps, list4 hl e0 e1 e2 e3, hR⟩
theorem open_two {r : Reach} {b0 : Nat} {v : Value} {d : DataW H} {p : List MemPlace} (hv : Value.okWide Try.prog w r b0 44 v) (h : DataW.Trod enc Try.prog w base spare held 44 v d p) :
    ∃ (X Y : An) (a : Option Addr) (la ca : Nat) (za : Ps) (b : Option Addr) (lb cb : Nat) (zb : Ps), v = .agg (twoA X Y a la ca b lb cb) ∧ RowIn w a la ca za ∧ RowIn w b lb cb zb := by
  obtain ⟨⟨cs⟩, rfl, hsz⟩ := okWide_struct Try.underlying44 hv
  obtain ⟨fuel, hf⟩ := h
  obtain ⟨y0, y1, n, _, hl, h0, h1⟩ := trod_struct2 Try.underlying44 hf
  have hc : Try.prog.cellsOf 44 = 8 := by kernel_rfl
  have hc4 : Try.prog.cellsOf 35 = 4 := by kernel_rfl
  have hl8 : cs.length = 8 := by rw [hc] at hl; simpa [Value.cells] using hl
  simp only [Value.cells, hc4] at h0 h1
  match cs, hl8 with
  | [c0, c1, c2, c3, c4, c5, c6, c7], _ =>
    have h0' : DataW.trod enc Try.prog w base spare held n 35 [c0, c1, c2, c3] = some y0 := by simpa using h0
    have h1' : DataW.trod enc Try.prog w base spare held n 35 [c4, c5, c6, c7] = some y1 := by simpa using h1
    obtain ⟨X, a, la, ca, za, e0, hA⟩ := ans_of rfl h0'
    obtain ⟨Y, b, lb, cb, zb, e1, hB⟩ := ans_of rfl h1'
    simp only [List.cons.injEq, and_true] at e0 e1
    obtain ⟨rfl, rfl, rfl, rfl⟩ := e0
    obtain ⟨rfl, rfl, rfl, rfl⟩ := e1
    exact ⟨X, Y, a, la, ca, za, b, lb, cb, zb, rfl, hA, hB⟩
end Go.Proofs.Ytihccjmmnpldjaa
