/-
  Several texts of mine in one: OpenT OpenMd.
-/
import Derived.Test.YtogeohjeabbmaaaDoorRows
import Derived.Test.YtogeohjeabbmaaaDoorY6
import Derived.WalkKit
import Derived.ProofKit
import Derived.OpenShut
import Derived.Deep.DeepHandedRow
import Derived.Lib.LaidTab
import Derived.Test.YtogeohjeabbmaaaDoorY1
/-
  What the rows of the chapter list: the table of the words that calls take; a world for the witness.
-/
set_option linter.unusedSimpArgs false
set_option linter.unusedVariables false
namespace Go.Proofs.YtogeohjeabbmaaaDoor
open Go.ChangeShapes Go.WideShapes Go.ChangeAt Go.RowKit

theorem gTab : Tryd.prog.globalNamed "honeycomb/script.takes" = some 0 := by kernel_rfl
theorem gTabType : (Tryd.prog.globals[0]?).map (·.type) = some 128 := by kernel_rfl
theorem cellsTab : Tryd.prog.cellsOf 128 = 8 := by kernel_rfl
theorem cellsInt : Tryd.prog.cellsOf 3 = 1 := by kernel_rfl
theorem tableT {W : World} (h : laidMetH Tryd.prog [("honeycomb/script.takes", Rows.laid_honeycomb_script_takes)] W) : Lib.TabIs Tryd.prog W "honeycomb/script.takes" .i64 tkL :=
  Lib.tabIs_of_head (rest := []) gTab gTabType Tryd.underlying128 Tryd.underlying3 cellsInt cellsTab h
theorem tks_of {W : World} (h : laidMetH Tryd.prog [("honeycomb/script.takes", Rows.laid_honeycomb_script_takes)] W) : Tks W := fun i hi => by
  have := (tableT h).cell gTab i (by exact hi)
  rw [this, List.getD_eq_getElem?_getD, List.getElem?_eq_getElem (show i < tkL.length from hi)]
/-- A world for the witness: the settled one, the table holding what its initialiser lays. -/
noncomputable def laidW (os : Os) : World :=
  { World.holding Tryd.prog os ⟨#[], #[], []⟩ with heap := (World.holding Tryd.prog os ⟨#[], #[], []⟩).heap.modify 0 fun
      | .cells _ t frozen => .cells #[.int .i64 (-1), .int .i64 1, .int .i64 2, .int .i64 1, .int .i64 3, .int .i64 2, .int .i64 0, .int .i64 0] t frozen
      | o => o }
end Go.Proofs.YtogeohjeabbmaaaDoor

/-
  Arguments of layer 27, opened: rows of calls that were made.
-/
set_option linter.unusedSimpArgs false
set_option linter.unusedVariables false
set_option maxRecDepth 100000
namespace Go.Proofs.YtogeohjeabbmaaaDoor
open Go.ChangeShapes Go.WideShapes Go.RowKit Go.Joins Go.Deep
variable {H : Type} {enc : TypeId × Value → H} {w : World} {base : Nat} {spare : Nat → Bool} {held : Bool}

section
variable {P : Program}
theorem open_slice_c {α : Type} {t e : TypeId} {c : Value} {n0 : Nat} {y0 : DataW H × List MemPlace} (f : α → List Value) (K : Nat) (ok : α → Prop) (hk : ∀ x, (f x).length = K) (hK : 0 < K) (ht : P.underlying t = some (.slice e)) (hC : P.cellsOf e = K)
    (hE : ∀ (n : Nat) (cs' : List Value) (y : DataW H × List MemPlace), cs'.length = K → DataW.trod enc P w base spare held n e cs' = some y → ∃ x, cs' = f x ∧ ok x)
    (hf : DataW.trod enc P w base spare held n0 t [c] = some y0) :
    ∃ (sp : Option Addr) (len cap : Nat) (xs : List α), c = .slice sp len cap ∧ SlK w K sp len (xs.flatMap f) ∧ len = xs.length ∧ (∀ x ∈ xs, ok x) ∧ (sp = none → cap = 0) ∧ len ≤ cap := by
  rcases open_slice ht hf with ⟨hcs, _⟩ | ⟨a, len, cap, m, n, D, Pl, hcs, _, hl, hm, hmm, _, hx⟩
  · have e : c = .slice none 0 0 := by simpa using hcs
    exact ⟨none, 0, 0, [], e, SlK.nil _ _ _, rfl, fun x hx => (by cases hx), fun _ => rfl, Nat.le_refl _⟩
  · have e : c = .slice (some a) len cap := by simpa using hcs
    have hlm : len ≤ m := by rw [hmm]; split <;> omega
    rw [hC] at hx
    obtain ⟨xs, hxl, hxs⟩ := pick_list (p := fun i x => w.cells? base (a.add (i * K)) K = some (f x) ∧ ok x) len (fun i hi => by
      obtain ⟨cs', h1, h2⟩ := hx i (by omega)
      obtain ⟨_, hlen, _⟩ := World.cells?_some h1
      obtain ⟨x, rfl, hok⟩ := hE n cs' _ hlen h2
      exact ⟨x, h1, hok⟩)
    refine ⟨some a, len, cap, xs, e, ⟨by rw [flatMap_len hk, hxl], Nat.le_trans hl hm, ?_⟩, hxl.symm, fun x hx => ?_, fun h => (by cases h), hl⟩
    · by_cases h0 : len = 0
      · exact .inl h0
      · obtain ⟨b, off, spot⟩ := a
        have h1 := (World.cells?_some (hxs 0 (by omega)).1).2.2 0 hK
        have h2 : (f (xs[0]'(by omega)))[0]? = some ((f (xs[0]'(by omega)))[0]'(by rw [hk]; exact hK)) := List.getElem?_eq_getElem _
        have hspot : spot = none := by
          have := World.cell?_spot (h1.trans h2)
          simpa [Addr.add] using this
        subst hspot
        refine .inr ⟨b, off, rfl, fun j u hu => ?_⟩
        have hadd : ∀ q, (⟨b, off, none⟩ : Addr).add q = ⟨b, off + q, none⟩ := fun q => by unfold Addr.add; split <;> simp_all
        have hadd2 : ∀ q s, (⟨b, q, none⟩ : Addr).add s = ⟨b, q + s, none⟩ := fun q s => by unfold Addr.add; split <;> simp_all
        have hj : j < xs.length * K := by
          have := (List.getElem?_eq_some_iff.1 hu).1
          rwa [flatMap_len hk] at this
        have hq : j / K < xs.length := (Nat.div_lt_iff_lt_mul hK).2 hj
        have hr : j % K < K := Nat.mod_lt _ hK
        have hd : j / K * K + j % K = j := by rw [Nat.mul_comm]; exact Nat.div_add_mod j K
        have h3 := (World.cells?_some (hxs (j / K) hq).1).2.2 (j % K) hr
        rw [hadd, hadd2, Nat.add_assoc, hd] at h3
        rw [h3, ← flatMap_get hk xs (j / K) (j % K) hr hq, hd]
        exact hu
    · obtain ⟨i, hi, rfl⟩ := List.mem_iff_getElem.1 hx
      exact (hxs i hi).2
/-- The fields of a struct that lies in a row. -/
theorem trod_fields {t : TypeId} {fs : Array Field} {cs : List Value} {n0 : Nat} {y0 : DataW H × List MemPlace} (hs : P.underlying t = some (.struct fs)) (hone : oneCellFields P fs = true) (hl : cs.length = fs.size)
    (hf : DataW.trod enc P w base spare held n0 t cs = some y0) :
    ∀ (j : Nat) (f : Field), fs[j]? = some f → ∃ (c : Value) (n : Nat) (y : DataW H × List MemPlace), cs[j]? = some c ∧ DataW.trod enc P w base spare held n f.type [c] = some y := by
  obtain ⟨xs, n, _, hx, _, hl', hg⟩ := DataW.trod_struct hs hf
  intro j f hj
  have hjl : j < fs.size := (Array.getElem?_eq_some_iff.1 hj).1
  obtain ⟨ho, hk⟩ := hone_of hone j f hj
  have h1 := hg j f hj
  rw [ho, hk] at h1
  have e : (cs.drop j).take 1 = [cs[j]'(by omega)] := by
    rw [List.drop_eq_getElem_cons (by omega)]; rfl
  rw [e, List.getElem?_eq_getElem (by omega)] at h1
  exact ⟨cs[j]'(by omega), n, _, List.getElem?_eq_getElem (by omega), h1⟩
theorem field_at {fs : Array Field} {cs : List Value} (hf : ∀ (j : Nat) (f : Field), fs[j]? = some f → ∃ (c : Value) (n : Nat) (y : DataW H × List MemPlace), cs[j]? = some c ∧ DataW.trod enc P w base spare held n f.type [c] = some y)
    (j : Nat) (t : TypeId) (hj : (fs[j]?).map (·.type) = some t) : ∃ (c : Value) (n : Nat) (y : DataW H × List MemPlace), cs[j]? = some c ∧ DataW.trod enc P w base spare held n t [c] = some y := by
  cases hfj : fs[j]? with
  | none => rw [hfj] at hj; cases hj
  | some f =>
    rw [hfj] at hj
    obtain ⟨c, n, y, hc, ht'⟩ := hf j f hfj
    have ef : f.type = t := by simpa using hj
    rw [ef] at ht'
    exact ⟨c, n, y, hc, ht'⟩
end
theorem list4 {cs : List Value} {c0 c1 c2 c3 : Value} (hl : cs.length = 4) (h0 : cs[0]? = some c0) (h1 : cs[1]? = some c1) (h2 : cs[2]? = some c2) (h3 : cs[3]? = some c3) : cs = [c0, c1, c2, c3] := by
  match cs, hl with
  | [a0, a1, a2, a3], _ => simp at h0 h1 h2 h3; rw [h0, h1, h2, h3]
theorem list5 {cs : List Value} {c0 c1 c2 c3 c4 : Value} (hl : cs.length = 5) (h0 : cs[0]? = some c0) (h1 : cs[1]? = some c1) (h2 : cs[2]? = some c2) (h3 : cs[3]? = some c3) (h4 : cs[4]? = some c4) : cs = [c0, c1, c2, c3, c4] := by
  match cs, hl with
  | [a0, a1, a2, a3, a4], _ => simp at h0 h1 h2 h3 h4; rw [h0, h1, h2, h3, h4]
theorem calc_cells {cs : List Value} {fs : Array Field} (hl : cs.length = 4) (hf : ∀ (j : Nat) (f : Field), fs[j]? = some f → ∃ (c : Value) (n : Nat) (y : DataW H × List MemPlace), cs[j]? = some c ∧ DataW.trod enc Tryd.prog w base spare held n f.type [c] = some y)
    (h0 : (fs[0]?).map (·.type) = some 3) (h1 : (fs[1]?).map (·.type) = some 29) (h2 : (fs[2]?).map (·.type) = some 29) (h3 : (fs[3]?).map (·.type) = some 29) : ∃ c : Cal, cs = calL c ∧ CalOk c := by
  obtain ⟨z0, e0, w0⟩ := field_int hf 0 3 .i64 h0 Tryd.underlying3
  obtain ⟨z1, e1, w1⟩ := field_int hf 1 29 .u64 h1 Tryd.underlying29
  obtain ⟨z2, e2, w2⟩ := field_int hf 2 29 .u64 h2 Tryd.underlying29
  obtain ⟨z3, e3, w3⟩ := field_int hf 3 29 .u64 h3 Tryd.underlying29
  obtain ⟨n1, rfl, b1⟩ := nat_of_u64 w1
  obtain ⟨n2, rfl, b2⟩ := nat_of_u64 w2
  obtain ⟨n3, rfl, b3⟩ := nat_of_u64 w3
  have := wf_i64' w0
  exact ⟨⟨z0, n1, n2, n3⟩, list4 hl e0 e1 e2 e3, this.1, this.2, b1, b2, b3⟩
theorem single_of {cs : List Value} (h : cs.length = 1) : ∃ c, cs = [c] := by
  match cs, h with
  | [c], _ => exact ⟨c, rfl⟩
section
variable {P : Program}
/-- A field of a struct: the cells that it has. -/
theorem field_seg {t u : TypeId} {fs : Array Field} {cs : List Value} {n0 : Nat} {y0 : DataW H × List MemPlace} (hs : P.underlying t = some (.struct fs)) (hf : DataW.trod enc P w base spare held n0 t cs = some y0)
    (j off k : Nat) (hj : (fs[j]?).map (fun f => (f.type, f.offset)) = some (u, off)) (hk : P.cellsOf u = k) : ∃ (n : Nat) (y : DataW H × List MemPlace), DataW.trod enc P w base spare held n u ((cs.drop off).take k) = some y := by
  obtain ⟨xs, n, _, hx, _, hl', hg⟩ := DataW.trod_struct hs hf
  cases hfj : fs[j]? with
  | none => rw [hfj] at hj; cases hj
  | some f =>
    rw [hfj] at hj
    have e : (f.type, f.offset) = (u, off) := by simpa using hj
    injection e with e1 e2
    have hjl : j < fs.size := (Array.getElem?_eq_some_iff.1 hfj).1
    have h1 := hg j f hfj
    rw [e1, e2, hk, List.getElem?_eq_getElem (by omega)] at h1
    exact ⟨n, _, h1⟩
end
theorem int_seg {t : TypeId} {k : IntKind} {n : Nat} {c : Value} {y : DataW H × List MemPlace} (hu : Tryd.prog.underlying t = some (.int k)) (h : DataW.trod enc Tryd.prog w base spare held n t [c] = some y) : ∃ z : Int, c = .int k z ∧ (Lit.int k z).wf = true := by
  obtain ⟨z, hc, -, hw⟩ := DataW.trod_int hu h
  injection hc with hc
  exact ⟨z, hc, hw⟩
theorem pairs_row {n : Nat} {c : Value} {y : DataW H × List MemPlace} (h : DataW.trod enc Tryd.prog w base spare held n 26 [c] = some y) :
    ∃ (sp : Option Addr) (len cap : Nat) (ps : Ps), c = .slice sp len cap ∧ SlK w 2 sp len (prs ps) ∧ (∀ p ∈ ps, p.1 < 2 ^ 64 ∧ p.2 < 2 ^ 64) ∧ (sp = none → cap = 0) ∧ len ≤ cap := by
  obtain ⟨sp, len, cap, xs, hc, hS, _, hok, hn, hle⟩ := open_slice_c (fun p : Nat × Nat => [Value.int .u64 (p.1 : Int), Value.int .u64 (p.2 : Int)]) 2 (fun p => p.1 < 2 ^ 64 ∧ p.2 < 2 ^ 64) (fun _ => rfl) (by decide) Tryd.underlying26 (by kernel_rfl) (fun n cs y hl hy => by
    have hf := trod_fields Tryd.underlying72 (by kernel_rfl) hl hy
    obtain ⟨z0, e0, w0⟩ := field_int hf 0 29 .u64 rfl Tryd.underlying29
    obtain ⟨z1, e1, w1⟩ := field_int hf 1 29 .u64 rfl Tryd.underlying29
    obtain ⟨n0, rfl, b0⟩ := nat_of_u64 w0
    obtain ⟨n1, rfl, b1⟩ := nat_of_u64 w1
    refine ⟨(n0, n1), ?_, b0, b1⟩
    match cs, hl with
    | [a0, a1], _ => simp at e0 e1; rw [e0, e1]) h
  exact ⟨sp, len, cap, xs, hc, hS, hok, hn, hle⟩
theorem ints_row {n : Nat} {c : Value} {y : DataW H × List MemPlace} (h : DataW.trod enc Tryd.prog w base spare held n 23 [c] = some y) :
    ∃ (sp : Option Addr) (len cap : Nat) (zs : List Int), c = .slice sp len cap ∧ Sl w sp len (zs.map (Value.int .i64)) ∧ (∀ z ∈ zs, I64 z) ∧ (sp = none → cap = 0) ∧ len ≤ cap := by
  obtain ⟨sp, len, cap, xs, hc, hS, _, hok, hn, hle⟩ := open_slice_c (fun z : Int => [Value.int .i64 z]) 1 I64 (fun _ => rfl) (by decide) Tryd.underlying23 (by kernel_rfl) (fun n cs y hl hy => by
    obtain ⟨c, rfl⟩ := single_of hl
    obtain ⟨z, hc, hw⟩ := int_seg Tryd.underlying3 hy
    exact ⟨z, by rw [hc], wf_i64' hw⟩) h
  exact ⟨sp, len, cap, xs, hc, by rw [List.map_eq_flatMap]; exact hS.sl, hok, hn, hle⟩
theorem answer_seg {n : Nat} {cs : List Value} {y : DataW H × List MemPlace} (hl : cs.length = 4) (h : DataW.trod enc Tryd.prog w base spare held n 34 cs = some y) :
    ∃ (X : An) (sp : Option Addr) (len cap : Nat) (ps : Ps), cs = [.int .i64 X.err, .int .u64 (X.val : Int), .bool X.done, .slice sp len cap] ∧ I64 X.err ∧ X.val < 2 ^ 64 ∧ SlK w 2 sp len (prs ps) ∧ (∀ p ∈ ps, p.1 < 2 ^ 64 ∧ p.2 < 2 ^ 64) ∧ (sp = none → cap = 0) ∧ len ≤ cap := by
  have hf := trod_fields Tryd.underlying34 (by kernel_rfl) hl h
  obtain ⟨z0, e0, w0⟩ := field_int hf 0 32 .i64 rfl Tryd.underlying32
  obtain ⟨z1, e1, w1⟩ := field_int hf 1 29 .u64 rfl Tryd.underlying29
  obtain ⟨z2, e2⟩ := field_bool hf 2 4 rfl Tryd.underlying4
  obtain ⟨c3, n3, y3, e3, h3⟩ := field_at hf 3 26 rfl
  obtain ⟨sp, len, cap, ps, rfl, hR⟩ := pairs_row h3
  obtain ⟨n1, rfl, b1⟩ := nat_of_u64 w1
  exact ⟨⟨z0, n1, z2⟩, sp, len, cap, ps, list4 hl e0 e1 e2 e3, wf_i64' w0, b1, hR⟩
theorem made_of {n : Nat} {cs : List Value} {y : DataW H × List MemPlace} (hl : cs.length = 13) (h : DataW.trod enc Tryd.prog w base spare held n 39 cs = some y) : ∃ m : Mm, cs = mmL m ∧ MmIn w m := by
  obtain ⟨n0, y0, h0⟩ := field_seg Tryd.underlying39 h 0 0 1 (u := 3) rfl (by kernel_rfl)
  obtain ⟨n1, y1, h1⟩ := field_seg Tryd.underlying39 h 1 1 4 (u := 31) rfl (by kernel_rfl)
  obtain ⟨n2, y2, h2⟩ := field_seg Tryd.underlying39 h 2 5 4 (u := 34) rfl (by kernel_rfl)
  obtain ⟨n3, y3, h3⟩ := field_seg Tryd.underlying39 h 3 9 1 (u := 3) rfl (by kernel_rfl)
  obtain ⟨n4, y4, h4⟩ := field_seg Tryd.underlying39 h 4 10 1 (u := 3) rfl (by kernel_rfl)
  obtain ⟨n5, y5, h5⟩ := field_seg Tryd.underlying39 h 5 11 1 (u := 3) rfl (by kernel_rfl)
  obtain ⟨n6, y6, h6⟩ := field_seg Tryd.underlying39 h 6 12 1 (u := 23) rfl (by kernel_rfl)
  match cs, hl with
  | [c0, c1, c2, c3, c4, c5, c6, c7, c8, c9, c10, c11, c12], _ =>
    obtain ⟨g, rfl, wg⟩ := int_seg Tryd.underlying3 (c := c0) h0
    obtain ⟨c, ec, hc⟩ := calc_cells (cs := [c1, c2, c3, c4]) rfl (trod_fields Tryd.underlying31 (by kernel_rfl) rfl h1) rfl rfl rfl rfl
    obtain ⟨X, pp, pn, pc, ps, ea, hX1, hX2, hP, hP2, hP3, hP4⟩ := answer_seg (cs := [c5, c6, c7, c8]) rfl h2
    obtain ⟨b, rfl, wb⟩ := int_seg Tryd.underlying3 (c := c9) h3
    obtain ⟨a, rfl, wa⟩ := int_seg Tryd.underlying3 (c := c10) h4
    obtain ⟨o, rfl, wo⟩ := int_seg Tryd.underlying3 (c := c11) h5
    obtain ⟨tp, tn, tc, ts, rfl, hT, hT2, hT3, hT4⟩ := ints_row (c := c12) h6
    unfold calL at ec
    simp only [List.cons.injEq, and_true] at ec ea
    obtain ⟨rfl, rfl, rfl, rfl⟩ := ec
    obtain ⟨rfl, rfl, rfl, rfl⟩ := ea
    exact ⟨⟨⟨g, c, X, ps, b, a, o, ts⟩, pp, pn, pc, tp, tn, tc⟩, rfl, hP, hT, hP3, hP4, hT3, hT4, wf_i64' wg, hc, hX1, hX2, wf_i64' wb, wf_i64' wa, wf_i64' wo, hT2, hP2⟩
theorem open_mades {r : Reach} {b0 : Nat} {v : Value} {d : DataW H} {p : List MemPlace} (hv : Value.okWide Tryd.prog w r b0 25 v) (h : DataW.Trod enc Tryd.prog w base spare held 25 v d p) :
    ∃ (sp : Option Addr) (len cap : Nat) (l : List Mm), v = .slice sp len cap ∧ MsIn w sp len l ∧ (sp = none → cap = 0) ∧ len ≤ cap ∧ (∀ g, sp.map (·.block) = some g → len ≠ 0 → g < w.heap.size) := by
  obtain ⟨a, len, cap, rfl⟩ := okWide_slice Tryd.underlying25 hv
  obtain ⟨fuel, hf⟩ := h
  obtain ⟨sp, ln, cp, xs, hc, hS, hl, hok, hn, hle⟩ := open_slice_c mmL 13 (MmIn w) mmL_len (by decide) Tryd.underlying25 (by kernel_rfl) (fun n cs y hl hy => made_of hl hy) hf
  injection hc with e1 e2 e3
  subst e1 e2 e3
  refine ⟨a, len, cap, xs, rfl, ⟨hS, hok⟩, hn, hle, fun g hg h0 => ?_⟩
  obtain ⟨b, off, rfl, hcs⟩ := hS.some' (by omega)
  cases hg
  have hx : 0 < xs.length := by omega
  exact lt_of_cell (hcs 0 (.int .i64 (nthM xs 0).md.goer) (by have := flat_at mmL_len (l := xs) (j := 0) (i := 0) (nthM_at hx) (by omega); simp only [Nat.zero_mul, Nat.zero_add] at this; exact this.trans rfl))
end Go.Proofs.YtogeohjeabbmaaaDoor

