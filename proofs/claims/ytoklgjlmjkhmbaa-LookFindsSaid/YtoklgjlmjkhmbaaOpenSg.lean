/-
  An argument that is a Sight, opened.
-/
import Derived.Test.YtoklgjlmjkhmbaaOpenS
import Derived.Test.YtoklgjlmjkhmbaaLookPure
set_option linter.unusedSimpArgs false
set_option linter.unusedVariables false
set_option maxRecDepth 100000
namespace Go.Proofs.Ytoklgjlmjkhmbaa
open Go.ChangeShapes Go.WideShapes Go.RowKit Go.Joins Go.Deep
variable {H : Type} {enc : TypeId × Value → H} {w : World} {base : Nat} {spare : Nat → Bool} {held : Bool}

theorem list10 {cs : List Value} {c0 c1 c2 c3 c4 c5 c6 c7 c8 c9 : Value} (hl : cs.length = 10) (h0 : cs[0]? = some c0) (h1 : cs[1]? = some c1) (h2 : cs[2]? = some c2) (h3 : cs[3]? = some c3) (h4 : cs[4]? = some c4) (h5 : cs[5]? = some c5) (h6 : cs[6]? = some c6) (h7 : cs[7]? = some c7) (h8 : cs[8]? = some c8) (h9 : cs[9]? = some c9) : cs = [c0, c1, c2, c3, c4, c5, c6, c7, c8, c9] := by
  match cs, hl with
  | [a0, a1, a2, a3, a4, a5, a6, a7, a8, a9], _ => simp at h0 h1 h2 h3 h4 h5 h6 h7 h8 h9; subst_vars; rfl
theorem open_sight {r : Reach} {b0 : Nat} {v : Value} {d : DataW H} {p : List MemPlace} (hv : Value.okWide Try.prog w r b0 33 v) (h : DataW.Trod enc Try.prog w base spare held 33 v d p) : ∃ s : Sg, v = .agg (sgA s) ∧ SgOk s := by
  obtain ⟨cs, rfl, hl, hf⟩ := open_cells Try.underlying33 (by kernel_rfl) (by kernel_rfl) hv h
  have hl10 : cs.length = 10 := hl
  obtain ⟨z0, e0, w0⟩ := field_int hf 0 3 .i64 rfl Try.underlying3
  obtain ⟨z1, e1, w1⟩ := field_int hf 1 3 .i64 rfl Try.underlying3
  obtain ⟨z2, e2, w2⟩ := field_int hf 2 29 .u64 rfl Try.underlying29
  obtain ⟨z3, e3, w3⟩ := field_int hf 3 29 .u64 rfl Try.underlying29
  obtain ⟨z4, e4, w4⟩ := field_int hf 4 29 .u64 rfl Try.underlying29
  obtain ⟨z5, e5, w5⟩ := field_int hf 5 3 .i64 rfl Try.underlying3
  obtain ⟨z6, e6, w6⟩ := field_int hf 6 29 .u64 rfl Try.underlying29
  obtain ⟨z7, e7, w7⟩ := field_int hf 7 31 .u8 rfl Try.underlying31
  obtain ⟨z8, e8, w8⟩ := field_int hf 8 29 .u64 rfl Try.underlying29
  obtain ⟨z9, e9⟩ := field_bool hf 9 4 rfl Try.underlying4
  obtain ⟨n2, rfl, b2⟩ := nat_of_u64 w2
  obtain ⟨n3, rfl, b3⟩ := nat_of_u64 w3
  obtain ⟨n4, rfl, b4⟩ := nat_of_u64 w4
  obtain ⟨n6, rfl, b6⟩ := nat_of_u64 w6
  obtain ⟨n7, rfl, b7⟩ := nat_of_u8 w7
  obtain ⟨n8, rfl, b8⟩ := nat_of_u64 w8
  rw [list10 hl10 e0 e1 e2 e3 e4 e5 e6 e7 e8 e9]
  exact ⟨⟨z0, z1, n2, n3, n4, z5, n6, n7, n8, z9⟩, rfl, wf_i64' w0, wf_i64' w1, b2, b3, b4, wf_i64' w5, b6, b7, b8⟩
end Go.Proofs.Ytoklgjlmjkhmbaa
