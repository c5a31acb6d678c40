/-
  Several texts of mine in one: Open OpenS OpenK Only Scope Marks Maps Once Round RoundF Held RoundT Hask RanPure Ran RanC RanD RanE.
-/
import Derived.Test.YthfeiiibedmkiaaRows
import Derived.Test.YthfeiiibedmkiaaKit
import Derived.Deep.Grids
import Derived.WalkKit
import Derived.ProofKit
import Derived.OpenShut
import Derived.ChangeOld
import Derived.Lib.SmallJoins
import Derived.Test.YthfeiiibedmkiaaSlK
import Derived.Deep.Fields
import Derived.Deep.Slices
import Derived.Test.YthfeiiibedmkiaaPrs
import Derived.Scope
import Derived.ControlIn
import Derived.ScopeJumps
import Derived.Test.YthfeiiibedmkiaaBase
import Derived.Maps.Own
import Derived.Maps.Views
import Derived.Maps.OwnSet
import Derived.Maps.OwnIn
import Derived.StillTailTactics
import Derived.OrdersIn
import Derived.RangeFuncCalls
import Derived.OrdersHeld
import Derived.Deep.RegionHeld
import Derived.Test.YthfeiiibedmkiaaHas
import Derived.Test.YthfeiiibedmkiaaKitH
import Derived.Test.YthfeiiibedmkiaaModelStep
import Derived.Test.YthfeiiibedmkiaaFlat
import Derived.Test.YthfeiiibedmkiaaModelQ
import Derived.Deep.CutRange
import Derived.Laws.EntriesVeiled
import Derived.Sort.LoopGhostIn
import Derived.Sort.BigQuietIn
import Derived.Sort.CutIn
/-
  Arguments that are arrays of two, opened.
-/
namespace Go.Proofs.Ythfeiiibedmkiaa
open Go.ChangeShapes Go.WideShapes Go.RowKit Go.Joins Go.Deep
variable {H : Type} {enc : TypeId × Value → H} {P : Program} {w : World} {base : Nat} {spare : Nat → Bool} {held : Bool}

theorem okWide_arr {r : Reach} {b0 n : Nat} {t e : TypeId} {v : Value} (ht : P.underlying t = some (.array n e)) (h : Value.okWide P w r b0 t v) : ∃ cs, v = .agg cs ∧ cs.size = P.cellsOf t := by
  simp only [Value.okWide, ht] at h
  obtain ⟨cs, h1, h2, _⟩ := h
  exact ⟨cs, h1, h2⟩
theorem open_arr2 {r : Reach} {b0 : Nat} {t e : TypeId} {v : Value} {d : DataW H} {p : List MemPlace} (hs : P.underlying t = some (.array 2 e)) (hC : P.cellsOf t = 2) (hE : P.cellsOf e = 1)
    (hv : Value.okWide P w r b0 t v) (h : DataW.Trod enc P w base spare held t v d p) :
    ∃ (v0 v1 : Value) (y0 y1 : DataW H × List MemPlace) (n : Nat), v = .agg #[v0, v1] ∧ d = .agg [y0.1, y1.1] ∧ p = y0.2 ++ y1.2 ∧
      DataW.trod enc P w base spare held n e [v0] = some y0 ∧ DataW.trod enc P w base spare held n e [v1] = some y1 := by
  obtain ⟨cs, rfl, hsz⟩ := okWide_arr hs hv
  obtain ⟨c0, c1, rfl⟩ := array2 (hsz.trans hC)
  obtain ⟨fuel, hf⟩ := h
  obtain ⟨xs, m, _, hx, _, hl, hg⟩ := DataW.trod_array hs hf
  match xs, hl with
  | [y0, y1], _ =>
    simp only [Prod.mk.injEq] at hx
    have h0 := hg 0 (by decide)
    have h1 := hg 1 (by decide)
    rw [hE] at h0 h1
    exact ⟨c0, c1, y0, y1, m, rfl, by simpa using hx.1, by simpa using hx.2, by simpa [Value.cells] using h0, by simpa [Value.cells] using h1⟩
theorem sl_of_bools {W : World} {x : Addr} {len cap : Nat} {B : Nat → Bool} (hl : len ≤ cap) (hm : cap ≤ maxLen)
    (hcell : ∀ i, i < cap → W.cell? (x.add i) = some (.bool (B i))) : Sl W (some x) len (((List.range len).map B).map Value.bool) := by
  refine ⟨by simp, Nat.le_trans hl hm, ?_⟩
  by_cases h0 : len = 0
  · exact .inl h0
  · obtain ⟨b, off, spot⟩ := x
    have h1 := hcell 0 (by omega)
    have hspot : spot = none := by simpa [Addr.add] using World.cell?_spot h1
    subst hspot
    refine .inr ⟨b, off, rfl, fun j u hu => ?_⟩
    have hj : j < len := by
      have := (List.getElem?_eq_some_iff.1 hu).1
      simpa using this
    have h2 := hcell j (by omega)
    have hadd : (⟨b, off, none⟩ : Addr).add j = ⟨b, off + j, none⟩ := by unfold Addr.add; split <;> simp_all
    rw [hadd] at h2
    rw [h2]
    rw [List.getElem?_map, List.getElem?_map, List.getElem?_range hj] at hu
    exact hu
end Go.Proofs.Ythfeiiibedmkiaa

/-
  Structs by value, opened; slices of structs and of arrays, opened.
-/
set_option linter.unusedSimpArgs false
set_option linter.unusedVariables false
namespace Go.Proofs.Ythfeiiibedmkiaa
open Go.ChangeShapes Go.WideShapes Go.RowKit Go.Joins Go.Deep
variable {H : Type} {enc : TypeId × Value → H} {P : Program} {w : World} {base : Nat} {spare : Nat → Bool} {held : Bool}

theorem open_cells {r : Reach} {b0 : Nat} {t : TypeId} {fs : Array Field} {v : Value} {d : DataW H} {p : List MemPlace} (hs : P.underlying t = some (.struct fs)) (hone : oneCellFields P fs = true) (hC : P.cellsOf t = fs.size)
    (hv : Value.okWide P w r b0 t v) (h : DataW.Trod enc P w base spare held t v d p) :
    ∃ cs : List Value, v = .agg cs.toArray ∧ cs.length = fs.size ∧ ∀ (j : Nat) (f : Field), fs[j]? = some f → ∃ (c : Value) (n : Nat) (y : DataW H × List MemPlace), cs[j]? = some c ∧ DataW.trod enc P w base spare held n f.type [c] = some y := by
  obtain ⟨⟨cs⟩, rfl, hsz⟩ := okWide_struct hs hv
  have hsz' : cs.length = fs.size := by have := hsz.trans hC; simpa using this
  obtain ⟨fuel, hf⟩ := h
  obtain ⟨xs, n, _, hx, _, hl, hg⟩ := DataW.trod_struct hs hf
  refine ⟨cs, rfl, hsz', fun j f hj => ?_⟩
  have hjl : j < fs.size := (Array.getElem?_eq_some_iff.1 hj).1
  obtain ⟨ho, hk⟩ := hone_of hone j f hj
  have h1 := hg j f hj
  rw [ho, hk] at h1
  simp only [Value.cells] at h1
  have e : (cs.drop j).take 1 = [cs[j]'(by omega)] := by
    rw [List.drop_eq_getElem_cons (by omega)]; rfl
  rw [e, List.getElem?_eq_getElem (by omega)] at h1
  exact ⟨cs[j]'(by omega), n, _, List.getElem?_eq_getElem (by omega), h1⟩
theorem field_int {fs : Array Field} {cs : List Value} (hf : ∀ (j : Nat) (f : Field), fs[j]? = some f → ∃ (c : Value) (n : Nat) (y : DataW H × List MemPlace), cs[j]? = some c ∧ DataW.trod enc P w base spare held n f.type [c] = some y)
    (j : Nat) (t : TypeId) (k : IntKind) (hj : (fs[j]?).map (·.type) = some t) (ht : P.underlying t = some (.int k)) : ∃ z, cs[j]? = some (.int k z) ∧ (Lit.int k z).wf = true := by
  cases hfj : fs[j]? with
  | none => rw [hfj] at hj; cases hj
  | some f =>
    rw [hfj] at hj
    obtain ⟨c, n, y, hc, ht'⟩ := hf j f hfj
    have ef : f.type = t := by simpa using hj
    rw [ef] at ht'
    obtain ⟨z, hz, _, hw⟩ := DataW.trod_int ht ht'
    obtain rfl : c = .int k z := by simpa using hz
    exact ⟨z, hc, hw⟩
theorem field_bool {fs : Array Field} {cs : List Value} (hf : ∀ (j : Nat) (f : Field), fs[j]? = some f → ∃ (c : Value) (n : Nat) (y : DataW H × List MemPlace), cs[j]? = some c ∧ DataW.trod enc P w base spare held n f.type [c] = some y)
    (j : Nat) (t : TypeId) (hj : (fs[j]?).map (·.type) = some t) (ht : P.underlying t = some .bool) : ∃ z, cs[j]? = some (.bool z) := by
  cases hfj : fs[j]? with
  | none => rw [hfj] at hj; cases hj
  | some f =>
    rw [hfj] at hj
    obtain ⟨c, n, y, hc, ht'⟩ := hf j f hfj
    have ef : f.type = t := by simpa using hj
    rw [ef] at ht'
    obtain ⟨z, hz, _⟩ := DataW.trod_bool ht ht'
    obtain rfl : c = .bool z := by simpa using hz
    exact ⟨z, hc⟩
theorem wf_i64' {x : Int} (h : (Lit.int .i64 x).wf = true) : -9223372036854775808 ≤ x ∧ x ≤ 9223372036854775807 := by
  have h1 : IntKind.i64.min = -9223372036854775808 := rfl
  have h2 : IntKind.i64.max = 9223372036854775807 := rfl
  simp only [Lit.wf, h1, h2, Bool.and_eq_true, decide_eq_true_eq] at h; omega
end Go.Proofs.Ythfeiiibedmkiaa

/-
  Slices whose elements take several cells, opened.
-/
set_option linter.unusedSimpArgs false
set_option linter.unusedVariables false
set_option maxRecDepth 100000
namespace Go.Proofs.Ythfeiiibedmkiaa
open Go.ChangeShapes Go.WideShapes Go.RowKit Go.Joins Go.Deep
variable {H : Type} {enc : TypeId × Value → H} {P : Program} {w : World} {base : Nat} {spare : Nat → Bool} {held : Bool}

theorem flatMap_len {α β : Type} {f : α → List β} {K : Nat} (hk : ∀ x, (f x).length = K) (l : List α) : (l.flatMap f).length = l.length * K := by
  induction l with
  | nil => simp
  | cons a l ih => rw [List.flatMap_cons, List.length_append, ih, hk, List.length_cons, Nat.add_mul]; omega
theorem flatMap_get {α β : Type} {f : α → List β} {K : Nat} (hk : ∀ x, (f x).length = K) (l : List α) (i r : Nat) (hr : r < K) (hi : i < l.length) : (l.flatMap f)[i * K + r]? = (f l[i])[r]? := by
  induction l generalizing i with
  | nil => simp at hi
  | cons a l ih =>
    rw [List.flatMap_cons]
    cases i with
    | zero => rw [Nat.zero_mul, Nat.zero_add, List.getElem?_append_left (by rw [hk]; exact hr)]; rfl
    | succ i =>
      rw [List.getElem?_append_right (by rw [hk, Nat.add_mul]; omega), hk, show (i + 1) * K + r - K = i * K + r by rw [Nat.add_mul]; omega]
      exact ih i (by simpa using hi)
theorem pick_list {α : Type} {p : Nat → α → Prop} (m : Nat) (h : ∀ i, i < m → ∃ x, p i x) : ∃ xs : List α, xs.length = m ∧ ∀ i (hi : i < xs.length), p i xs[i] := by
  induction m with
  | zero => exact ⟨[], rfl, fun i hi => by simp at hi⟩
  | succ m ih =>
    obtain ⟨xs, hl, hx⟩ := ih fun i hi => h i (by omega)
    obtain ⟨x, hp⟩ := h m (by omega)
    refine ⟨xs ++ [x], by simp [hl], fun i hi => ?_⟩
    by_cases hlt : i < xs.length
    · rw [List.getElem_append_left hlt]; exact hx i hlt
    · have e : i = xs.length := by simp at hi; omega
      subst e
      simp
      rw [hl]; exact hp
theorem open_slice_k {α : Type} {r : Reach} {b0 : Nat} {t e : TypeId} {v : Value} {d : DataW H} {p : List MemPlace} (f : α → List Value) (K : Nat) (ok : α → Prop) (hk : ∀ x, (f x).length = K) (hK : 0 < K) (ht : P.underlying t = some (.slice e)) (hC : P.cellsOf e = K)
    (hE : ∀ (n : Nat) (cs' : List Value) (y : DataW H × List MemPlace), cs'.length = K → DataW.trod enc P w base spare held n e cs' = some y → ∃ x, cs' = f x ∧ ok x)
    (hv : Value.okWide P w r b0 t v) (h : DataW.Trod enc P w base spare held t v d p) :
    ∃ (sp : Option Addr) (len cap : Nat) (xs : List α), v = .slice sp len cap ∧ SlK w K sp len (xs.flatMap f) ∧ len = xs.length ∧ (∀ x ∈ xs, ok x) ∧ (sp = none → cap = 0) ∧ len ≤ cap := by
  obtain ⟨sp, len, cap, rfl⟩ := okWide_slice ht hv
  obtain ⟨fuel, hf⟩ := h
  rcases open_slice ht hf with ⟨hcs, _⟩ | ⟨a, len', cap', m, n, D, Pl, hcs, _, hl, hm, hmm, _, hx⟩
  · simp [Value.cells] at hcs
    obtain ⟨rfl, rfl, rfl⟩ := hcs
    exact ⟨none, 0, 0, [], rfl, SlK.nil _ _ _, rfl, fun x hx => (by cases hx), fun _ => rfl, Nat.le_refl _⟩
  · simp [Value.cells] at hcs
    obtain ⟨rfl, rfl, rfl⟩ := hcs
    have hlm : len ≤ m := by rw [hmm]; split <;> omega
    rw [hC] at hx
    obtain ⟨xs, hxl, hxs⟩ := pick_list (p := fun i x => w.cells? base (a.add (i * K)) K = some (f x) ∧ ok x) len (fun i hi => by
      obtain ⟨cs', h1, h2⟩ := hx i (by omega)
      obtain ⟨_, hlen, _⟩ := World.cells?_some h1
      obtain ⟨x, rfl, hok⟩ := hE n cs' _ hlen h2
      exact ⟨x, h1, hok⟩)
    refine ⟨some a, len, cap, xs, rfl, ⟨by rw [flatMap_len hk, hxl], Nat.le_trans hl hm, ?_⟩, hxl.symm, fun x hx => ?_, fun h => (by cases h), hl⟩
    · by_cases h0 : len = 0
      · exact .inl h0
      · obtain ⟨b, off, spot⟩ := a
        have h1 := (World.cells?_some (hxs 0 (by omega)).1).2.2 0 hK
        have h2 : (f (xs[0]'(by omega)))[0]? = some ((f (xs[0]'(by omega)))[0]'(by rw [hk]; exact hK)) := List.getElem?_eq_getElem _
        have hspot : spot = none := by
          have := World.cell?_spot (h1.trans h2)
          simpa [Addr.add] using this
        subst hspot
        refine .inr ⟨b, off, rfl, fun j u hu => ?_⟩
        have hadd : ∀ q, (⟨b, off, none⟩ : Addr).add q = ⟨b, off + q, none⟩ := fun q => by unfold Addr.add; split <;> simp_all
        have hadd2 : ∀ q s, (⟨b, q, none⟩ : Addr).add s = ⟨b, q + s, none⟩ := fun q s => by unfold Addr.add; split <;> simp_all
        have hj : j < xs.length * K := by
          have := (List.getElem?_eq_some_iff.1 hu).1
          rwa [flatMap_len hk] at this
        have hq : j / K < xs.length := (Nat.div_lt_iff_lt_mul hK).2 hj
        have hr : j % K < K := Nat.mod_lt _ hK
        have hd : j / K * K + j % K = j := by rw [Nat.mul_comm]; exact Nat.div_add_mod j K
        have h3 := (World.cells?_some (hxs (j / K) hq).1).2.2 (j % K) hr
        rw [hadd, hadd2, Nat.add_assoc, hd] at h3
        rw [h3, ← flatMap_get hk xs (j / K) (j % K) hr hq, hd]
        exact hu
    · obtain ⟨i, hi, rfl⟩ := List.mem_iff_getElem.1 hx
      exact (hxs i hi).2
/-- A slice of arrays of two words. -/
theorem open_prs {r : Reach} {b0 : Nat} {t e u : TypeId} {v : Value} {d : DataW H} {p : List MemPlace} (ht : P.underlying t = some (.slice e)) (he : P.underlying e = some (.array 2 u)) (hu : P.underlying u = some (.int .u64)) (hCe : P.cellsOf e = 2) (hCu : P.cellsOf u = 1)
    (hv : Value.okWide P w r b0 t v) (h : DataW.Trod enc P w base spare held t v d p) :
    ∃ (sp : Option Addr) (len cap : Nat) (ks : List (Nat × Nat)), v = .slice sp len cap ∧ SlK w 2 sp len (prs ks) ∧ P64 ks ∧ (sp = none → cap = 0) ∧ len ≤ cap := by
  obtain ⟨sp, len, cap, xs, hv', hS, _, hok, hn, hl⟩ := open_slice_k (fun p : Nat × Nat => [.int .u64 (p.1 : Int), .int .u64 (p.2 : Int)]) 2 (fun p => p.1 < 2 ^ 64 ∧ p.2 < 2 ^ 64) (fun _ => rfl) (by decide) ht hCe (fun n cs' y hl2 hy => by
    obtain ⟨ys, m, _, hx, _, hl', hg⟩ := DataW.trod_array he hy
    match cs', hl2 with
    | [c0, c1], _ =>
      match ys, hl' with
      | [y0, y1], _ =>
        have h0 := hg 0 (by decide)
        have h1 := hg 1 (by decide)
        rw [hCu] at h0 h1
        have h0' : DataW.trod enc P w base spare held m u [c0] = some y0 := by simpa using h0
        have h1' : DataW.trod enc P w base spare held m u [c1] = some y1 := by simpa using h1
        obtain ⟨z0, e0, _, w0⟩ := DataW.trod_int hu h0'
        obtain ⟨z1, e1, _, w1⟩ := DataW.trod_int hu h1'
        obtain ⟨n0, rfl, b0⟩ := nat_of_u64 w0
        obtain ⟨n1, rfl, b1⟩ := nat_of_u64 w1
        simp at e0 e1
        subst e0 e1
        exact ⟨(n0, n1), rfl, b0, b1⟩) hv h
  exact ⟨sp, len, cap, xs, hv', hS, hok, hn, hl⟩
end Go.Proofs.Ythfeiiibedmkiaa

/-
  Of the blocks that were there one alone turned.
-/
set_option linter.unusedSimpArgs false
set_option linter.unusedVariables false
namespace Go.Proofs.Ythfeiiibedmkiaa
open Go.RowKit

def OnlyB (g : Nat) (w w' : World) : Prop := (∀ B, B ≤ g → Below B w w') ∧ ∀ b, b ≠ g → b < w.heap.size → w'.heap[b]? = w.heap[b]?
theorem OnlyB.refl (g : Nat) (w : World) : OnlyB g w w := ⟨fun B _ => Below.refl _ _, fun _ _ _ => rfl⟩
theorem OnlyB.old {g : Nat} {w w1 w' : World} (h1 : Below w.heap.size w w1) (h : OnlyB g w1 w') (hg : g < w.heap.size) : OnlyB g w w' :=
  ⟨fun B hB => (h1.mono (by omega)).trans (h.1 B hB), fun b hb hlt => (h.2 b hb (Nat.lt_of_lt_of_le hlt h1.size)).trans (h1.block b hlt)⟩
theorem OnlyB.size {g : Nat} {w w' : World} (h : OnlyB g w w') : w.heap.size ≤ w'.heap.size := (h.1 0 (Nat.zero_le _)).size
theorem OnlyB.new {g : Nat} {w w1 w' : World} (h : OnlyB g w w1) (h1 : Below w1.heap.size w1 w') (hg : g < w.heap.size) : OnlyB g w w' :=
  ⟨fun B hB => (h.1 B hB).trans (h1.mono (by have := h.size; omega)), fun b hb hlt => (h1.block b (by have := h.size; omega)).trans (h.2 b hb hlt)⟩
theorem OnlyB.trans {g : Nat} {w w1 w' : World} (h : OnlyB g w w1) (h1 : OnlyB g w1 w') : OnlyB g w w' :=
  ⟨fun B hB => (h.1 B hB).trans (h1.1 B hB), fun b hb hlt => (h1.2 b hb (by have := h.size; omega)).trans (h.2 b hb hlt)⟩
theorem OnlyB.set {g : Nat} {w w1 : World} (h : OnlyB g w w1) (i : Nat) (v : Value) : OnlyB g w (w1.setCell ⟨g, i, none⟩ v) :=
  ⟨fun B hB => (h.1 B hB).setCell hB _, fun b hb hlt => (Below.heap_setCell _ _ _ _ hb).trans (h.2 b hb hlt)⟩
theorem OnlyB.drewN {g : Nat} {w w1 : World} (h : OnlyB g w w1) (n : Nat) : OnlyB g w (w1.drewN n) :=
  ⟨fun B hB => (h.1 B hB).trans (below_drewN' _ _), h.2⟩
theorem OnlyB.drew {g : Nat} {w w1 : World} (h : OnlyB g w w1) : OnlyB g w w1.drew := ⟨fun B hB => (h.1 B hB).drew, h.2⟩
theorem OnlyB.below {g : Nat} {w w1 : World} (h : OnlyB g w w1) {B : Nat} (hB : B ≤ g) : Below B w w1 := h.1 B hB
theorem OnlyB.heap {g b : Nat} {w w1 : World} {o : Obj} (h : OnlyB g w w1) (hb : b ≠ g) (ho : w.heap[b]? = some o) : w1.heap[b]? = some o := (h.2 b hb (lt_of_heap ho)).trans ho
end Go.Proofs.Ythfeiiibedmkiaa

/-
  A labelled statement inside a function that an iterator value names: the kit's law for scopes, inside a fence.
-/
namespace Go.Proofs.Ythfeiiibedmkiaa
section
variable {F : Fence} {n : Nat} {P : Program} {b : Frame} {a : Act} {k : List Item} {cs : List Frame} {w : World} {Q : Exit → Act → World → Prop}
theorem stepR_scope {c : Code} : step P (lone (b.atR a (.code (.scope c) :: k)) cs w) = .next (lone (b.atR a (.code c :: .inScope c :: k)) cs w) :=
  step_lone_go (by simp [stepG, stepG.exec, Frame.atR])
theorem stepR_inScope {c : Code} : step P (lone (b.atR a (.inScope c :: k)) cs w) = .next (lone (b.atR a k) cs w) :=
  step_lone_go (by simp [stepG, stepG.exec, Frame.atR])
theorem wpIn_scope_straight {c : Code} (h : c.wpIn F n P (Exit.noGoto Q) a w) : (Code.scope c).wpIn F n P Q a w := by
  intro b k cs hro hb hr
  have h0 : (lone (b.atR a (.code (.scope c) :: k)) cs w).fenced P F := fenced_calm hb hr rfl
  obtain ⟨e, a₁, w₁, hq, harr⟩ := h b (.inScope c :: k) cs hro hb hr
  cases e with
  | normal => exact ⟨.normal, a₁, w₁, hq, .head h0 stepR_scope (StepsIn.trans harr (.one (fenced_calm hb hr rfl) stepR_inScope))⟩
  | exit id =>
    have hx : exitTo id (.inScope c :: k) = exitTo id k := by simp [exitTo]
    exact ⟨.exit id, a₁, w₁, hq, fun k' hk => .head h0 stepR_scope (harr.1 k' (by rw [hx]; exact hk)),
      fun hr' hk => let ⟨k₁, h1, h2⟩ := harr.2 hr' (by rw [hx]; exact hk); ⟨k₁, h1, .head h0 stepR_scope h2⟩⟩
  | goto l => exact hq.elim
  | ret => exact ⟨_, a₁, w₁, hq, .of_steps (.one h0 stepR_scope) harr⟩
  | panic ch => exact ⟨_, a₁, w₁, hq, .of_steps (.one h0 stepR_scope) harr⟩
  | outgrown => exact ⟨_, a₁, w₁, hq, .of_steps (.one h0 stepR_scope) harr⟩
end
end Go.Proofs.Ythfeiiibedmkiaa

/-
  A function's way out behind any number of ranges over functions.
-/
set_option linter.unusedSimpArgs false
set_option linter.unusedVariables false
namespace Go.Proofs.Ythfeiiibedmkiaa
open Go.RowKit

def marksOf (bs : List Nat) : List Deferred := bs.map fun D => { target := .collected D, args := #[] }
def shutAll (bs : List Nat) (W : World) : World := bs.foldl (fun W D => W.putObj D (.deferred none)) W
theorem shutAll_other {b : Nat} : ∀ {bs : List Nat} {W : World}, b ∉ bs → (shutAll bs W).heap[b]? = W.heap[b]?
  | [], _, _ => rfl
  | D :: bs, W, h => by
    have h1 : b ≠ D := fun e => h (by rw [e]; exact List.mem_cons_self ..)
    show (shutAll bs (W.putObj D (.deferred none))).heap[b]? = _
    rw [shutAll_other (fun hb => h (List.mem_cons_of_mem _ hb)), World.putObj_heap_other h1]
theorem below_shutAll {n : Nat} {w : World} : ∀ {bs : List Nat} {W : World}, Below n w W → (∀ D ∈ bs, n ≤ D) → Below n w (shutAll bs W)
  | [], _, h, _ => h
  | D :: bs, W, h, hD => below_shutAll (bs := bs) (below_putObj h (hD D (List.mem_cons_self ..)) _) (fun D' h' => hD D' (List.mem_cons_of_mem _ h'))
theorem leaves_marks {F : Fence} {n : Nat} {P : Program} {fn : Func} {R : Ending → World → Prop} {tmps : Array Value} {v : Value} : ∀ {bs : List Nat} {W : World}, bs.Nodup → (∀ D ∈ bs, W.heap[D]? = some (.deferred (some []))) →
    (results fn tmps).run P (shutAll bs W) = .ok v (shutAll bs W) → R (.returned v) (shutAll bs W) → LeavesInM F n P fn tmps R (marksOf bs) .returning W
  | [], W, _, _, hr, hR => ⟨v, hr, hR⟩
  | D :: bs, W, hnd, hD, hr, hR => by
    obtain ⟨h1, h2⟩ := List.nodup_cons.1 hnd
    refine ⟨by simp, .inl ⟨_, _, rfl, run_takeDeferred (hD D (List.mem_cons_self ..)), leaves_marks (bs := bs) h2 (fun D' h' => ?_) hr hR⟩⟩
    exact (World.putObj_heap_other (fun (e : D' = D) => h1 (by rw [← e]; exact h'))).trans (hD D' (List.mem_cons_of_mem _ h'))
theorem post_marks {F : Fence} {n : Nat} {P : Program} {fn : Func} {R : Ending → World → Prop} {e : Exit} {tmps : Array Value} {bs : List Nat} {W : World} {v : Value} (he : e = .ret ∨ e = .normal) (hnd : bs.Nodup)
    (hD : ∀ D ∈ bs, W.heap[D]? = some (.deferred (some []))) (hr : (results fn tmps).run P (shutAll bs W) = .ok v (shutAll bs W)) (hR : R (.returned v) (shutAll bs W)) :
    bodyPostM F n P fn R e { tmps := tmps, defers := marksOf bs } W := by
  have h := leaves_marks (F := F) (n := n) hnd hD hr hR
  rcases he with rfl | rfl
  · exact h
  · exact h
end Go.Proofs.Ythfeiiibedmkiaa

/-
  Maps from uint64 to int that a call makes: what they hold, as a log of what was put (the newest first).
-/
set_option linter.unusedSimpArgs false
set_option linter.unusedVariables false
set_option maxRecDepth 100000
namespace Go.Proofs.Ythfeiiibedmkiaa
open Go.RowKit Go.Maps

/-! ### Logs -/
def mget : List (Nat × Int) → Nat → Int
  | [], _ => 0
  | (k, v) :: r, x => if k = x then v else mget r x
def mhas : List (Nat × Int) → Nat → Bool
  | [], _ => false
  | (k, _) :: r, x => k == x || mhas r x
def msize : List (Nat × Int) → Nat
  | [] => 0
  | (k, _) :: r => if mhas r k then msize r else msize r + 1
def mapD : List (Nat × Int) → DataW Unit
  | [] => .map []
  | (k, v) :: r => (mapD r).put (.int .u64 k) (.lit (.int .i64 v))
theorem u64_isKey (k : Nat) (h : k < 2 ^ 64) : WideAt.IsKeyLit (.int .u64 k) := trivial
theorem mapD_isMap : ∀ m, IsMap (mapD m)
  | [] => isMap_empty
  | (k, v) :: r => (mapD_isMap r).put _ _
theorem mapD_tidy : ∀ m : List (Nat × Int), (∀ p ∈ m, p.1 < 2 ^ 64) → Tidy (mapD m)
  | [], _ => tidy_empty
  | (k, v) :: r, h => (mapD_tidy r fun p hp => h p (by simp [hp])).put (u64_isKey k (h (k, v) (by simp))) _
theorem lit_ne {k x : Nat} (h : k ≠ x) : Lit.int .u64 (x : Int) ≠ Lit.int .u64 (k : Int) := by
  intro e; injection e with _ e; omega
theorem atKey_mapD : ∀ (m : List (Nat × Int)) (x : Nat), (∀ p ∈ m, p.1 < 2 ^ 64) → (mapD m).atKey (.int .u64 x) (.lit (.int .i64 0)) = .lit (.int .i64 (mget m x))
  | [], _, _ => rfl
  | (k, v) :: r, x, h => by
    unfold mapD mget
    by_cases e : k = x
    · subst e
      rw [if_pos rfl, atKey_put_same (mapD_isMap r) (u64_isKey k (h (k, v) (by simp)))]
    · rw [if_neg e, atKey_put_other (lit_ne e), atKey_mapD r x fun p hp => h p (by simp [hp])]
theorem has_mapD : ∀ (m : List (Nat × Int)) (x : Nat), (∀ p ∈ m, p.1 < 2 ^ 64) → Maps.has (mapD m) (.int .u64 x) = mhas m x
  | [], _, _ => rfl
  | (k, v) :: r, x, h => by
    unfold mapD mhas
    by_cases e : k = x
    · subst e
      rw [has_put_same (mapD_isMap r) (u64_isKey k (h (k, v) (by simp)))]; simp
    · rw [has_put_other (lit_ne e), has_mapD r x fun p hp => h p (by simp [hp])]; simp [e]
theorem size_mapD : ∀ (m : List (Nat × Int)), (∀ p ∈ m, p.1 < 2 ^ 64) → Maps.size (mapD m) = msize m
  | [], _ => rfl
  | (k, v) :: r, h => by
    unfold mapD msize
    have hr : ∀ p ∈ r, p.1 < 2 ^ 64 := fun p hp => h p (by simp [hp])
    rw [size_put (mapD_tidy r hr), has_mapD r k hr, size_mapD r hr]

/-! ### Blocks -/
def MapI (w : World) (b : Nat) (m : List (Nat × Int)) : Prop :=
  w.ownsMap (H := Unit) Try.prog 36 (plainElem Try.prog 3) b m.length (mapD m) ∧ (∀ p ∈ m, p.1 < 2 ^ 64)
theorem mapI_keyed : Keyed Try.prog 36 := int_keyed Try.underlying36
theorem mapI_zero (w : World) : (zeroValue 3).run Try.prog w = .ok (.int .i64 0) w := by kernel_rfl
theorem MapI.made (w : World) : MapI (w.alloc (.map #[] 0)) w.heap.size [] := ⟨World.ownsMap_made _ _ _ _, fun p hp => absurd hp (by simp)⟩
theorem MapI.heap {w w' : World} {b : Nat} {m : List (Nat × Int)} (h : MapI w b m) (e : w'.heap[b]? = w.heap[b]?) : MapI w' b m := by
  obtain ⟨⟨es, clock, hb, F, hs, hD⟩, hk⟩ := h
  exact ⟨⟨es, clock, e.trans hb, F, hs, hD⟩, hk⟩
theorem MapI.lt {w : World} {b : Nat} {m : List (Nat × Int)} (h : MapI w b m) : b < w.heap.size := h.1.lt
theorem MapI.drewN {w : World} {b : Nat} {m : List (Nat × Int)} (h : MapI w b m) (q : Nat) : MapI (w.drewN q) b m := h
theorem wf_u64 {k : Nat} (h : k < 2 ^ 64) : (Lit.int .u64 (k : Int)).wf = true := by
  have h1 : IntKind.u64.min = 0 := rfl
  have h2 : IntKind.u64.max = 18446744073709551615 := rfl
  simp only [Lit.wf, h1, h2, Bool.and_eq_true, decide_eq_true_eq]; omega
theorem MapI.look {w : World} {b : Nat} {m : List (Nat × Int)} (h : MapI w b m) (k : Nat) (hk : k < 2 ^ 64) :
    (Instr.lookup 89 (.map (some b)) (.int .u64 (k : Int)) false).run Try.prog w = .ok (.int .i64 (mget m k)) w := by
  obtain ⟨c, hrun, hat, _⟩ := h.1.lookup_int mapI_keyed Try.underlying89 Try.underlying3 (mapI_zero w) (keyOf_int_mk Try.underlying36 (wf_u64 hk))
  rw [atKey_mapD m k h.2] at hat
  injection hat with hat; injection hat with _ hat
  rw [hrun, hat]
theorem MapI.put {w : World} {b : Nat} {m : List (Nat × Int)} (h : MapI w b m) (k : Nat) (v : Int) (hk : k < 2 ^ 64) (hv : (Lit.int .i64 v).wf = true) (hn : m.length < maxLen) :
    ∃ w', (Instr.mapUpdate 89 (.map (some b)) (.int .u64 (k : Int)) (.int .i64 v)).run Try.prog w = .ok () w' ∧ MapI w' b ((k, v) :: m) ∧ w.grownBy w' (some b) := by
  obtain ⟨w', hrun, h1, h2⟩ := h.1.update mapI_keyed Try.underlying89 hn (keyOf_int_mk Try.underlying36 (wf_u64 hk)) (plainElem_int Try.underlying3 hv)
  exact ⟨w', hrun, ⟨h1, fun p hp => by
    rcases List.mem_cons.1 hp with hp | hp
    · rw [hp]; exact hk
    · exact h.2 p hp⟩, h2⟩
theorem Foreign.of_grown {S : Nat → Prop} {W W' : World} {b : Nat} (h : W.grownBy W' (some b)) (hb : S b) : Foreign S (fun c => S c) W W' :=
  ⟨h.os, h.tape, h.output, h.size, fun _ hc => hc, fun _ hc => .inl hc, fun c hc hn => h.block c hc (by intro e; injection e with e; subst e; exact hn hb)⟩
end Go.Proofs.Ythfeiiibedmkiaa

/-
  Lists, each thing once; logs of counts. No program in sight.
-/
set_option linter.unusedSimpArgs false
set_option linter.unusedVariables false
namespace Go.Proofs.Ythfeiiibedmkiaa

def onceStep (acc : List Nat) (k : Nat) : List Nat := if acc.contains k then acc else acc ++ [k]
def onceL (ks : List Nat) : List Nat := ks.foldl onceStep []
def logOf (ks : List Nat) : List (Nat × Int) := ks.foldl (fun m k => (k, mget m k + 1) :: m) []

theorem take_next {ks : List Nat} {j : Nat} (h : j < ks.length) : ks.take (j + 1) = ks.take j ++ [nthN ks j] := by
  rw [List.take_add_one, List.getElem?_eq_getElem h, nthN_eq h]; rfl
theorem mem_onceFold (x : Nat) : ∀ (ks acc : List Nat), x ∈ ks.foldl onceStep acc ↔ x ∈ acc ∨ x ∈ ks
  | [], acc => by simp
  | k :: r, acc => by
    rw [List.foldl_cons, mem_onceFold x r]
    unfold onceStep
    by_cases h : acc.contains k = true
    · rw [if_pos h]
      have hk : k ∈ acc := by simpa using h
      simp only [List.mem_cons]
      constructor
      · rintro (h | h); exact .inl h; exact .inr (.inr h)
      · rintro (h | rfl | h); exact .inl h; exact .inl hk; exact .inr h
    · rw [if_neg h]
      simp only [List.mem_append, List.mem_cons, List.mem_nil_iff, or_false]
      constructor
      · rintro ((h | rfl) | h); exact .inl h; exact .inr (.inl rfl); exact .inr (.inr h)
      · rintro (h | rfl | h); exact .inl (.inl h); exact .inl (.inr rfl); exact .inr h
theorem mem_onceL {x : Nat} {ks : List Nat} : x ∈ onceL ks ↔ x ∈ ks := by unfold onceL; rw [mem_onceFold]; simp
theorem onceL_snoc (ks : List Nat) (k : Nat) : onceL (ks ++ [k]) = if k ∈ ks then onceL ks else onceL ks ++ [k] := by
  unfold onceL
  rw [List.foldl_append]
  show onceStep (onceL ks) k = _
  unfold onceStep
  have : ((onceL ks).contains k = true) ↔ k ∈ ks := by rw [← mem_onceL]; simp
  by_cases h : k ∈ ks
  · rw [if_pos (this.2 h), if_pos h]; rfl
  · rw [if_neg (fun e => h (this.1 e)), if_neg h]; rfl
theorem onceFold_grows : ∀ (ks acc : List Nat), ∃ t, ks.foldl onceStep acc = acc ++ t
  | [], acc => ⟨[], by simp⟩
  | k :: r, acc => by
    obtain ⟨t, ht⟩ := onceFold_grows r (onceStep acc k)
    rw [List.foldl_cons, ht]
    unfold onceStep
    split
    · exact ⟨t, rfl⟩
    · exact ⟨[k] ++ t, by simp⟩
theorem onceL_take (ks : List Nat) (j : Nat) : ∃ t, onceL ks = onceL (ks.take j) ++ t := by
  have h : onceL ks = (ks.drop j).foldl onceStep (onceL (ks.take j)) := by
    unfold onceL; rw [← List.foldl_append, List.take_append_drop]
  rw [h]; exact onceFold_grows _ _
theorem once_at {ks : List Nat} {j : Nat} (h : j < ks.length) (hn : nthN ks j ∉ ks.take j) : (onceL ks)[(onceL (ks.take j)).length]? = some (nthN ks j) := by
  obtain ⟨t, ht⟩ := onceL_take ks (j + 1)
  rw [ht, take_next h, onceL_snoc, if_neg hn]; simp
theorem once_next_mem {ks : List Nat} {j : Nat} (h : j < ks.length) (hn : nthN ks j ∈ ks.take j) : onceL (ks.take (j + 1)) = onceL (ks.take j) := by
  rw [take_next h, onceL_snoc, if_pos hn]
theorem once_next_new {ks : List Nat} {j : Nat} (h : j < ks.length) (hn : nthN ks j ∉ ks.take j) : onceL (ks.take (j + 1)) = onceL (ks.take j) ++ [nthN ks j] := by
  rw [take_next h, onceL_snoc, if_neg hn]
theorem once_nodup (ks : List Nat) : (onceL ks).Nodup := by
  have : ∀ (ks acc : List Nat), acc.Nodup → (ks.foldl onceStep acc).Nodup := by
    intro ks
    induction ks with
    | nil => intro acc h; exact h
    | cons k r ih =>
      intro acc h
      refine ih _ ?_
      unfold onceStep
      split
      · exact h
      · rename_i hc
        rw [List.nodup_append]
        refine ⟨h, by simp, ?_⟩
        intro a ha b hb e
        have : b = k := by simpa using hb
        subst this; subst e
        exact hc (by simpa using ha)
  exact this ks [] (by simp)

theorem log_snoc (ks : List Nat) (k : Nat) : logOf (ks ++ [k]) = (k, mget (logOf ks) k + 1) :: logOf ks := by
  unfold logOf; rw [List.foldl_append]; rfl
theorem log_next {ks : List Nat} {j : Nat} (h : j < ks.length) : logOf (ks.take (j + 1)) = (nthN ks j, mget (logOf (ks.take j)) (nthN ks j) + 1) :: logOf (ks.take j) := by
  rw [take_next h, log_snoc]
theorem mget_log (x : Nat) : ∀ ks : List Nat, mget (logOf ks) x = (ks.count x : Int) := by
  intro ks
  generalize hn : ks.length = n
  induction n generalizing ks with
  | zero => rw [List.eq_nil_of_length_eq_zero hn]; rfl
  | succ n ih =>
    have hne : ks ≠ [] := by intro e; rw [e] at hn; simp at hn
    have e := List.dropLast_concat_getLast hne
    rw [← e, log_snoc]
    have hl : ks.dropLast.length = n := by simp; omega
    unfold mget
    have ih' := ih _ hl
    generalize ks.getLast hne = y
    generalize ks.dropLast = l at ih' 
    rw [List.count_append]
    by_cases h : y = x
    · subst h; rw [if_pos rfl, ih']; simp
    · rw [if_neg h, ih']; simp [h]
theorem length_log : ∀ ks : List Nat, (logOf ks).length = ks.length := by
  intro ks
  generalize hn : ks.length = n
  induction n generalizing ks with
  | zero => rw [List.eq_nil_of_length_eq_zero hn]; rfl
  | succ n ih =>
    have hne : ks ≠ [] := by intro e; rw [e] at hn; simp at hn
    rw [← List.dropLast_concat_getLast hne, log_snoc, List.length_cons, ih _ (by simp; omega)]
theorem mhas_log (x : Nat) : ∀ ks : List Nat, mhas (logOf ks) x = decide (x ∈ ks) := by
  intro ks
  generalize hn : ks.length = n
  induction n generalizing ks with
  | zero => rw [List.eq_nil_of_length_eq_zero hn]; rfl
  | succ n ih =>
    have hne : ks ≠ [] := by intro e; rw [e] at hn; simp at hn
    have hl : ks.dropLast.length = n := by simp; omega
    have e := List.dropLast_concat_getLast hne
    generalize ks.getLast hne = y at e
    rw [← e, log_snoc]
    unfold mhas
    rw [ih _ hl, Bool.eq_iff_iff]
    rw [Bool.or_eq_true, beq_iff_eq, decide_eq_true_eq, decide_eq_true_eq, List.mem_append, List.mem_singleton]
    constructor
    · rintro (h | h)
      · exact .inr h.symm
      · exact .inl h
    · rintro (h | h)
      · exact .inr h
      · exact .inl h.symm
theorem msize_log : ∀ ks : List Nat, msize (logOf ks) = (onceL ks).length := by
  intro ks
  generalize hn : ks.length = n
  induction n generalizing ks with
  | zero => rw [List.eq_nil_of_length_eq_zero hn]; rfl
  | succ n ih =>
    have hne : ks ≠ [] := by intro e; rw [e] at hn; simp at hn
    have hl : ks.dropLast.length = n := by simp; omega
    rw [← List.dropLast_concat_getLast hne, log_snoc, onceL_snoc]
    unfold msize
    rw [ih _ hl, mhas_log]
    by_cases h : ks.getLast hne ∈ ks.dropLast <;> simp [h]
theorem count_le_take (ks : List Nat) (x j : Nat) : (ks.take j).count x ≤ j :=
  Nat.le_trans List.count_le_length (by rw [List.length_take]; omega)
end Go.Proofs.Ythfeiiibedmkiaa

/-
  A region that draws its order, in the body of a range over a function: quiet reads ahead of one tail.
-/
set_option linter.unusedSimpArgs false
set_option linter.unusedVariables false
namespace Go.Proofs.Ythfeiiibedmkiaa
open Go.RowKit

def noDefer : Op → Bool
  | .defer _ => false
  | _ => true
theorem opIn_of_op {l n : Nat} {P : Program} {o : Oper} {a : Act} {w : World} {K : Act → World → Prop} {Q : Exit → Act → World → Prop} (hd : noDefer o.op = true) (h : o.wp P a w K Q) :
    o.wpIn (Fence.wide.inRound l) n P a w K Q := by
  refine ⟨fun _ _ => trivial, ?_⟩
  rw [Fence.inRound_round, Oper.semAt_eq _ _ _ (fun c hc => by rw [hc] at hd; cases hd)]
  unfold Oper.wp at h
  generalize (execOp a.eval o).run P w = r at *
  have hdep : (Fence.wide.inRound l).depth.isSome = true → 1 ≤ n := fun hh => by simp [Fence.wide] at hh
  cases r with
  | ok x w' =>
    cases x <;> simp only [Oper.upon, Oper.uponIn] at h ⊢ <;>
      first
        | exact h
        | exact ⟨hdep, CallsIn.inRound l (callsIn_wide.2 h)⟩
        | exact ⟨hdep, fun c cs _ => let ⟨v, w', r, s⟩ := h c cs; ⟨v, w', r, stepsIn_wide.2 s⟩⟩
  | halt x w' => cases x <;> simp only [Oper.upon, Oper.uponIn] at h ⊢ <;> exact h
theorem opsIn_of_ops {l n : Nat} {P : Program} {ops : Array Oper} {Q : Exit → Act → World → Prop} {i : Nat} {K K' : Act → World → Prop} {a : Act} {w : World} (hd : ops.all (fun o => noDefer o.op) = true) (hL : ¬ LetsOut Q)
    (hK : ∀ a w, K a w → K' a w) (h : wpOp P ops Q i K a w) : wpOpIn (Fence.wide.inRound l) n P ops Q i K' a w := by
  unfold wpOp at h
  unfold wpOpIn
  cases ho : ops[i]? with
  | none => simp only [ho] at h ⊢; exact hK _ _ h
  | some o =>
    simp only [ho] at h ⊢
    have hdo : noDefer o.op = true := by
      obtain ⟨hi, e⟩ := Array.getElem?_eq_some_iff.1 ho
      have := Array.all_eq_true.1 hd i hi
      rw [e] at this; exact this
    split
    · rename_i hw
      simp only [hw, if_true] at h
      rcases h with h | h
      · exact opIn_of_op hdo (Oper.wp_mono hK h)
      · exact absurd h.2 hL
    · rename_i hw
      simp only [hw] at h
      exact ⟨fun _ _ => trivial, hK _ _ h⟩
theorem anyIn_of_any {l n : Nat} {P : Program} {md : Region.Mode} {ops : Array Oper} {Q : Exit → Act → World → Prop} (hd : ops.all (fun o => noDefer o.op) = true) (hL : ¬ LetsOut Q) :
    ∀ (fuel : Nat) (listed : Array Bool) (a : Act) (w : World), wpAny P md ops Q fuel listed a w → wpAnyIn (Fence.wide.inRound l) n P md ops Q fuel listed a w
  | 0, _, _, _, h => h
  | fuel + 1, listed, a, w, h => ⟨h.1, fun i hi => opsIn_of_ops hd hL (fun a w => anyIn_of_any hd hL fuel _ a w) (h.2 i hi)⟩

/-- Quiet reads and calls, then one tail. -/
theorem wpIn_round_still_tail {l n : Nat} {P : Program} {id : Nat} {Q : Exit → Act → World → Prop} {a : Act} {w : World} {ol : List Oper} (k : Nat) (hm : P.follows .mixedOrders = true) (hB : Region.lexTailB .any ol.toArray k = true)
    (hd : ol.toArray.all (fun o => noDefer o.op) = true) (hL : ¬ LetsOut Q)
    (h : wpStill P ol.toArray { w with drawn := w.drawn + 1 } (fun a' => wpList P ol.toArray Q (ol.drop k) a' { w with drawn := w.drawn + 1 }) (ol.take k) a) :
    (Code.region id ol.toArray true).wpIn (Fence.wide.inRound l) n P Q a w := by
  simp only [Region.lexTailB, Bool.and_eq_true, decide_eq_true_eq] at hB
  obtain ⟨⟨⟨⟨hsel, hn⟩, hs⟩, hc⟩, hlex⟩ := hB
  have hn' : k < ol.length := by simpa using hn
  have htl : (ol.take k).length = k := by simp; omega
  have hdl : (ol.drop k).length = ol.toArray.size - k := by simp
  have inv0 : HeadInv .any ol.toArray k (Array.replicate ol.toArray.size false) :=
    ⟨by simp, fun j oj _ hl => (by rw [getD_replicate_false] at hl; cases hl), fun t _ ht => getD_in (by simpa using ht) (getD_replicate_false _ _)⟩
  have H := wpAnyL_lex (md := .any) (g := ol.toArray.size - k) hsel hs hc hn (ol.take k) 0 _ a (fun j hj => by
    have hj' : j < k := by rw [htl] at hj; exact hj
    simp [hj']) (by simpa using htl) inv0 (by rw [htl]; exact hlex) h
  refine wpIn_region_any hm (anyIn_of_any hd hL _ _ _ _ ?_)
  have := wpAny_of_head (Q' := Q) (g := ol.toArray.size - k) (fun listed a' hLs => by
    have := wpAny_of_seq (md := .any) (Q' := Q) (ol.drop k) k listed a' { w with drawn := w.drawn + 1 } (fun j => by simp [List.getElem?_drop]) (by rw [hdl]; exact hLs.1) hLs.2
    rwa [hdl] at this) _ _ _ H
  rw [htl, show k + (ol.toArray.size - k) = ol.toArray.size by omega] at this
  exact this
theorem rangePost_noLet {Kp : Nat → Prop} {N : (Nat → Prop) → World → Prop} {Ix : Code → (Nat → Prop) → World → Prop} {S : Nat → Prop} {W : World} : ¬ LetsOut (rangePostX Kp N Ix S W) := by
  rintro ⟨_, _, h⟩; exact h
end Go.Proofs.Ythfeiiibedmkiaa

/-
  A region that draws its order and ends by writing a cell that it reads: the condition is held up to its last operation.
-/
set_option linter.unusedSimpArgs false
set_option linter.unusedVariables false
namespace Go.Proofs.Ythfeiiibedmkiaa
open Go.RowKit

section
variable {P : Program} {ops : Array Oper} {Q : Exit → Act → World → Prop} {md : Region.Mode} {S : World → Prop} {L : Nat}

/-- Whatever order is picked, S holds behind every operation but number L. -/
def wpAnyF (P : Program) (md : Region.Mode) (ops : Array Oper) (Q : Exit → Act → World → Prop) (S : World → Prop) (L : Nat) : Nat → Array Bool → Act → World → Prop
  | 0, listed, a, w => Region.ready md ops listed = [] ∧ Q .normal a w
  | fuel + 1, listed, a, w =>
    (Region.ready md ops listed = [] → Q .normal a w) ∧
    ∀ i ∈ Region.ready md ops listed, wpOp P ops Q i (fun a' w' => (i ≠ L → S w') ∧ wpAnyF P md ops Q S L fuel (listed.setIfInBounds i true) a' w') a w
theorem wpAny_of_heldF : ∀ (fuel : Nat) (listed : Array Bool) (a : Act) (w : World), wpAnyF P md ops Q S L fuel listed a w → wpAny P md ops Q fuel listed a w
  | 0, _, _, _, h => h
  | fuel + 1, _, _, _, h => ⟨h.1, fun i hi => wpOp_mono (fun a' w' h' => wpAny_of_heldF fuel _ a' w' h'.2) (h.2 i hi)⟩
theorem wpAnyF_first {i : Nat} {oi : Oper} {v : Value} (hi : ops[i]? = some oi) (hsel : ∀ (j : Nat) (o : Oper) cs b, ops[j]? = some o → o.op ≠ .select cs b)
    (hQ : ∀ c a w, Q (.panic c) (a.put oi.dst v) w → Q (.panic c) a w) (hL : ∀ oL, ops[L]? = some oL → ∃ e ∈ oL.after, Region.binds md e = true ∧ e.on = i) :
    ∀ (fuel : Nat) (listed : Array Bool) (a : Act) (w : World),
      (∀ j oj, ops[j]? = some oj → j ≠ i → listed.getD j true = false → (∀ e ∈ oj.after, Region.binds md e = true → e.on ≠ i) → oi.apart ops oj = true) →
      i ∈ Region.ready md ops listed → YieldsIf P ops S oi v a → S w →
      wpAnyF P md ops Q S L fuel (listed.setIfInBounds i true) (a.put oi.dst v) w → wpAnyF P md ops Q S L (fuel + 1) listed a w := by
  intro fuel
  induction fuel with
  | zero =>
    intro listed a w _ hr hy hS H
    refine ⟨fun h => (by rw [h] at hr; cases hr), fun j hj => ?_⟩
    by_cases hji : j = i
    · subst hji; exact hy.wpOp hi hS ⟨fun _ => hS, H⟩
    · have := ready_mono hj hji
      rw [H.1] at this
      cases this
  | succ fuel ih =>
    intro listed a w hfree hr hy hS H
    refine ⟨fun h => (by rw [h] at hr; cases hr), fun j hj => ?_⟩
    by_cases hji : j = i
    · subst hji; exact hy.wpOp hi hS ⟨fun _ => hS, H⟩
    · have h1 := H.2 j (ready_mono hj hji)
      obtain ⟨hjun, oj, hoj, hall⟩ := mem_ready.1 hj
      have hnot : ∀ e ∈ oj.after, Region.binds md e = true → e.on ≠ i := fun e he hb heq => by
        have h1 := hall e he hb
        have h0 := (mem_ready.1 hr).1
        rw [heq] at h1
        rcases Nat.lt_or_ge i listed.size with h' | h'
        · simp [h'] at h0 h1; rw [h0] at h1; cases h1
        · simp [Array.getElem?_eq_none h'] at h1
      have hjL : j ≠ L := fun e => by
        subst e
        obtain ⟨e1, he, hb, hon⟩ := hL oj hoj
        exact hnot e1 he hb hon
      have h2 := wpOp_putIf hoj (hfree j oj hoj hji hjun hnot) (fun cs b => hsel i oi cs b hi) (fun cs b => hsel j oj cs b hoj) hQ hy h1
      have hfree' : ∀ k ok, ops[k]? = some ok → k ≠ i → (listed.setIfInBounds j true).getD k true = false →
          (∀ e ∈ ok.after, Region.binds md e = true → e.on ≠ i) → oi.apart ops ok = true := fun k ok hk hki hun hno => by
        refine hfree k ok hk hki ?_ hno
        by_cases hjk : j = k
        · subst hjk; exact hjun
        · rw [getD_set_ne true hjk] at hun; exact hun
      refine wpOp_mono (fun a' w' h3 => ⟨fun _ => h3.2.1 hjL, ih (listed.setIfInBounds j true) a' w' hfree' (ready_mono hr (Ne.symm hji)) h3.1 (h3.2.1 hjL) ?_⟩) h2
      rw [Array.setIfInBounds_comm _ _ hji]
      exact h3.2.2
/-- Number L waits for number i. -/
def waitsB (md : Region.Mode) (ops : Array Oper) (L i : Nat) : Bool := match ops[L]? with | some o => o.after.any (fun e => Region.binds md e && e.on == i) | none => true
theorem waits_spec {md : Region.Mode} {ops : Array Oper} {L i : Nat} (h : waitsB md ops L i = true) : ∀ oL, ops[L]? = some oL → ∃ e ∈ oL.after, Region.binds md e = true ∧ e.on = i := by
  intro oL ho
  unfold waitsB at h
  rw [ho] at h
  obtain ⟨k, hk, h2⟩ := Array.any_eq_true.1 h
  simp only [Bool.and_eq_true, beq_iff_eq] at h2
  exact ⟨_, Array.getElem_mem hk, h2.1, h2.2⟩
theorem wpAnyF_take {i : Nat} {oi : Oper} {v : Value} {fuel : Nat} {listed : Array Bool} {a : Act} {w : World} (hi : ops[i]? = some oi)
    (hs : Region.noSelect ops = true) (hf : Region.free md ops listed i = true) (hr : (Region.ready md ops listed).contains i = true) (hL : waitsB md ops L i = true)
    (hQ : ∀ c a w, Q (.panic c) (a.put oi.dst v) w → Q (.panic c) a w) (hy : YieldsIf P ops S oi v a) (hS : S w)
    (h : wpAnyF P md ops Q S L fuel (listed.setIfInBounds i true) (a.put oi.dst v) w) : wpAnyF P md ops Q S L (fuel + 1) listed a w :=
  wpAnyF_first hi (Region.noSelect_spec hs) hQ (waits_spec hL) fuel listed a w (Region.free_spec hi hf) (by simpa using hr) hy hS h
theorem wpAnyF_one {i : Nat} {o : Oper} {fuel : Nat} {listed : Array Bool} {a : Act} {w : World} (hr : Region.ready md ops listed = [i]) (ho : ops[i]? = some o)
    (h : ∀ K' : Act → World → Prop, Shut (∀ a w, (i ≠ L → S w) → wpAnyF P md ops Q S L fuel (listed.setIfInBounds i true) a w → K' a w) → if Region.wanted o (yielded ops a.tmps) = true then Oper.wp P o a w K' Q else K' (a.put o.dst undef) w) :
    wpAnyF P md ops Q S L (fuel + 1) listed a w :=
  ⟨fun h0 => absurd (hr ▸ h0) (by simp), fun j hj => by
    rw [hr] at hj
    have : j = i := by simpa using hj
    subst this
    exact wpOp_step ho (fun K' hK => h K' (fun a w hS hW => hK a w ⟨hS, hW⟩))⟩
theorem wpAnyF_done {listed : Array Bool} {a : Act} {w : World} (hr : Region.ready md ops listed = []) (h : Q .normal a w) :
    ∀ fuel, wpAnyF P md ops Q S L fuel listed a w
  | 0 => ⟨hr, h⟩
  | _ + 1 => ⟨fun _ => h, by rw [hr]; simp⟩
end
/-- In the body of a range over a function. -/
theorem wpIn_round_heldF {l n : Nat} {P : Program} {id : Nat} {Q : Exit → Act → World → Prop} {a : Act} {w : World} {ol : List Oper} (S : World → Prop) (L : Nat) (hm : P.follows .mixedOrders = true)
    (hd : ol.toArray.all (fun o => noDefer o.op) = true) (hL : ¬ LetsOut Q)
    (h : wpAnyF P .any ol.toArray Q S L ol.toArray.size (Array.replicate ol.toArray.size false) a w.drew) :
    (Code.region id ol.toArray true).wpIn (Fence.wide.inRound l) n P Q a w :=
  wpIn_region_any hm (anyIn_of_any hd hL _ _ _ _ (wpAny_of_heldF _ _ _ _ h))
theorem inBlock_noLet {id : Nat} {Q : Exit → Act → World → Prop} (h : ¬ LetsOut Q) : ¬ LetsOut (Exit.inBlock id Q) := by
  rintro ⟨a, w, h'⟩; exact h ⟨a, w, h'⟩
end Go.Proofs.Ythfeiiibedmkiaa

/-
  Drawing regions that hold some memory, walked operation by operation; rows; structs that are built.
-/
set_option linter.unusedSimpArgs false
set_option linter.unusedVariables false
set_option maxRecDepth 100000
namespace Go.Proofs.Ythfeiiibedmkiaa
open Go.RowKit

theorem wpList_build_agg {P : Program} {ops : Array Oper} {rest : List Oper} {o : Oper} {a : Act} {w : World} {Q : Exit → Act → World → Prop} (hgd : o.guard = none) (t : TypeId) (parts : Array (Nat × Operand)) (ho : o.op = .build t parts) (cells : Array Value)
    (vals : List (Nat × Value)) (hv : parts.toList.map (fun (i, x) => (i, a.eval x)) = vals) (hb : P.built t vals = some cells) (h : wpList P ops Q rest (a.put o.dst (.agg cells)) w) : wpList P ops Q (o :: rest) a w :=
  wpList_plain hgd fun _ hK => by
    have hv' : (parts.map fun (i, x) => (i, a.eval x)).toList = vals := by rw [Array.toList_map]; exact hv
    subst hv'
    unfold Oper.wp execOp
    simp only [ho, Sem.run_bind, run_build w t _ cells hb, Result.andThen_ok]
    exact hK _ _ h

theorem wp_region_heldF {P : Program} {id : Nat} {Q : Exit → Act → World → Prop} {a : Act} {w : World} {ol : List Oper} (S : World → Prop) (L : Nat) (hm : P.follows .mixedOrders = true)
    (h : wpAnyF P .any ol.toArray Q S L ol.toArray.size (Array.replicate ol.toArray.size false) a w.drew) :
    (Code.region id ol.toArray true).wp P Q a w := wp_region_any hm (wpAny_of_heldF _ _ _ _ h)
theorem run_load_agg {P : Program} {e : Operand → Value} {o : Oper} {w : World} {ty : TypeId} {x : Operand} (ho : o.op = .load ty x) {g : Nat} (hx : e x = .pointer (some ⟨g, 0, none⟩)) {t : TypeId} {cs : Array Value} {fr : Nat × Nat} {d : TypeDesc}
    (hg : w.heap[g]? = some (.cells cs t fr)) (hu : P.underlying ty = some d) (hd : (match d with | .struct _ | .array _ _ => true | _ => false) = true) (hi : (P.info? ty).map (·.size) = some cs.size) : (execOp e o).run P w = .ok (.value (.agg cs)) w := by
  unfold execOp
  simp only [ho, hx, Instr.loadAt, Instr.sureAddr, Sem.run_bind, Sem.run_pure, Result.andThen_ok, run_loadVar_row w g t ty cs fr d hg hu hd hi]

/-- The same post, but for a panic. -/
def noPanic (Q : Exit → Act → World → Prop) : Exit → Act → World → Prop
  | .panic _, _, _ => False
  | .normal, a, w => Q .normal a w
  | .ret, a, w => Q .ret a w
  | .exit id, a, w => Q (.exit id) a w
  | .goto l, a, w => Q (.goto l) a w
  | .outgrown, a, w => Q .outgrown a w
theorem noPanic_imp {Q : Exit → Act → World → Prop} : ∀ e a w, noPanic Q e a w → Q e a w
  | .panic _, _, _, h => h.elim
  | .normal, _, _, h => h
  | .ret, _, _, h => h
  | .exit _, _, _, h => h
  | .goto _, _, _, h => h
  | .outgrown, _, _, h => h
theorem noPanic_normal {Q : Exit → Act → World → Prop} {a : Act} {w : World} (h : Q .normal a w) : noPanic Q .normal a w := h
theorem wp_region_heldQ {P : Program} {id : Nat} {Q : Exit → Act → World → Prop} {a : Act} {w : World} {ol : List Oper} (S : World → Prop) (L : Nat) (hm : P.follows .mixedOrders = true)
    (h : wpAnyF P .any ol.toArray (noPanic Q) S L ol.toArray.size (Array.replicate ol.toArray.size false) a w.drew) :
    (Code.region id ol.toArray true).wp P Q a w := wp_mono (wp_region_heldF S L hm h) noPanic_imp
section
variable {P : Program} {ops : Array Oper} {Q : Exit → Act → World → Prop} {md : Region.Mode} {S : World → Prop} {L : Nat}
/-- Two are ready: either may be first. -/
theorem wpAnyF_two {i j : Nat} {o o' : Oper} {fuel : Nat} {listed : Array Bool} {a : Act} {w : World} (hr : Region.ready md ops listed = [i, j]) (ho : ops[i]? = some o) (ho' : ops[j]? = some o')
    (h : ∀ K' : Act → World → Prop, Shut (∀ a w, (i ≠ L → S w) → wpAnyF P md ops Q S L fuel (listed.setIfInBounds i true) a w → K' a w) → if Region.wanted o (yielded ops a.tmps) = true then Oper.wp P o a w K' Q else K' (a.put o.dst undef) w)
    (h' : ∀ K' : Act → World → Prop, Shut (∀ a w, (j ≠ L → S w) → wpAnyF P md ops Q S L fuel (listed.setIfInBounds j true) a w → K' a w) → if Region.wanted o' (yielded ops a.tmps) = true then Oper.wp P o' a w K' Q else K' (a.put o'.dst undef) w) :
    wpAnyF P md ops Q S L (fuel + 1) listed a w :=
  ⟨fun h0 => absurd (hr ▸ h0) (by simp), fun k hk => by
    rw [hr] at hk
    rcases List.mem_cons.1 hk with rfl | hk
    · exact wpOp_step ho (fun K' hK => h K' (fun a w hS hW => hK a w ⟨hS, hW⟩))
    · have : k = j := by simpa using hk
      subst this
      exact wpOp_step ho' (fun K' hK => h' K' (fun a w hS hW => hK a w ⟨hS, hW⟩))⟩
end
theorem step_store_row {P : Program} {ops : Array Oper} {o : Oper} {a : Act} {w : World} {K : Act → World → Prop} {Q : Exit → Act → World → Prop} {E : Prop} (hgd : o.guard = none) (ty : TypeId) (x y : Operand) (ho : o.op = .store ty x y)
    (g : Nat) (cells : Array Value) (hx : a.eval x = .pointer (some ⟨g, 0, none⟩)) (hy : a.eval y = .agg cells)
    (t : TypeId) (old : Array Value) (hg : w.heap[g]? = some (.cells old t (0, 0))) (hi : (P.info? ty).map (·.size) = some cells.size)
    (hold : old.size = cells.size) (h1 : cells.all (·.oneCell') = true)
    (h : K (a.put o.dst undef) (w.setRow g cells)) : if Region.wanted o (yielded ops a.tmps) = true then Oper.wp P o a w K Q else E := by
  rw [if_pos (by unfold Region.wanted; rw [hgd])]
  exact wp_store_row ty x y ho g cells hx hy t old hg hi hold h1 h
theorem step_binop {P : Program} {ops : Array Oper} {o : Oper} {a : Act} {w : World} {K : Act → World → Prop} {Q : Exit → Act → World → Prop} {E : Prop} (hgd : o.guard = none) (b : BinOp) (t ty : TypeId) (x y : Operand) (ho : o.op = .binOp b t x y ty)
    {v : Value} (heq : (eqGuard b t x y (a.eval x) (a.eval y)).run P w = .ok () w) (hrun : (binOp b t (a.eval x) (a.eval y)).run P w = .ok v w) (h : K (a.put o.dst v) w) : if Region.wanted o (yielded ops a.tmps) = true then Oper.wp P o a w K Q else E := by
  rw [if_pos (by unfold Region.wanted; rw [hgd])]
  unfold Oper.wp execOp
  simp only [ho, Sem.run_bind, heq, hrun, Result.andThen_ok]
  exact h
theorem run_build_agg {P : Program} {e : Operand → Value} {o : Oper} {w : World} {t : TypeId} {parts : Array (Nat × Operand)} {vals : List (Nat × Value)} {cells : Array Value} (ho : o.op = .build t parts) (hv : parts.toList.map (fun (i, x) => (i, e x)) = vals) (hb : P.built t vals = some cells) :
    (execOp e o).run P w = .ok (.value (.agg cells)) w := by
  have hv' : (parts.map fun (i, x) => (i, e x)).toList = vals := by rw [Array.toList_map]; exact hv
  subst hv'
  unfold execOp
  simp only [ho, Sem.run_bind, run_build w t _ cells hb, Result.andThen_ok]
  rfl
theorem guard_agg {P : Program} {t : TypeId} (e : P.eqGuardType P.depth t = false) (op : BinOp) (x y : Operand) (s u : Array Value) (w : World) : (eqGuard op t x y (.agg s) (.agg u)).run P w = .ok () w := by
  unfold eqGuard
  split <;> simp [Sem.run_bind, e]

theorem wpList_binop {P : Program} {ops : Array Oper} {rest : List Oper} {o : Oper} {a : Act} {w : World} {Q : Exit → Act → World → Prop} (hgd : o.guard = none) (b : BinOp) (t ty : TypeId) (x y : Operand) (ho : o.op = .binOp b t x y ty)
    {v : Value} (heq : (eqGuard b t x y (a.eval x) (a.eval y)).run P w = .ok () w) (hrun : (binOp b t (a.eval x) (a.eval y)).run P w = .ok v w) (h : wpList P ops Q rest (a.put o.dst v) w) : wpList P ops Q (o :: rest) a w :=
  wpList_plain hgd fun K hK => by
    unfold Oper.wp execOp
    simp only [ho, Sem.run_bind, heq, hrun, Result.andThen_ok]
    exact hK _ _ h

theorem row_block {w : World} {base : Nat} {e : TypeId} {size : Nat} {sp : Option Addr} {cap n : Nat} {xs : List Value} (h : w.ownsRow base e size (.slice sp n cap) n xs) (hn : 0 < n) :
    ∃ g cur, sp = some ⟨g, 0, none⟩ ∧ base ≤ g ∧ w.heap[g]? = some (.cells cur e (0, 0)) ∧ n ≤ cap ∧ cap ≤ maxLen ∧ cur.size = cap * size ∧ cur.toList.take (n * size) = xs := by
  rcases h.2 with ⟨hv, h0⟩ | ⟨g, cap', cur, hv, hb, hg, h1, h2, h3, h4⟩
  · omega
  · cases hv
    exact ⟨g, cur, rfl, hb, hg, h1, h2, h3, h4⟩
theorem row_cap {w : World} {base : Nat} {e : TypeId} {size : Nat} {sp : Option Addr} {cap n : Nat} {xs : List Value} (h : w.ownsRow base e size (.slice sp n cap) n xs) : sp = none → cap = 0 := by
  rintro rfl
  rcases h.2 with ⟨hv, h0⟩ | ⟨g, cap', cur, hv, _⟩
  · cases hv; rfl
  · cases hv
end Go.Proofs.Ythfeiiibedmkiaa

/-
  A region that draws its order and writes two cells that it reads: each cell's word is held till its store has come.
-/
set_option linter.unusedSimpArgs false
set_option linter.unusedVariables false
namespace Go.Proofs.Ythfeiiibedmkiaa
open Go.RowKit

/-- What is held: U1 till number d1 has come, U2 till number d2 has, R always. -/
structure Held2 where
  d1 : Nat
  U1 : World → Prop
  d2 : Nat
  U2 : World → Prop
  R : World → Prop
def Held2.at (H : Held2) (listed : Array Bool) (w : World) : Prop := (listed.getD H.d1 true = false → H.U1 w) ∧ (listed.getD H.d2 true = false → H.U2 w) ∧ H.R w
theorem Held2.unset {H : Held2} {listed : Array Bool} {i : Nat} {w : World} (h1 : i ≠ H.d1) (h2 : i ≠ H.d2) (h : H.at (listed.setIfInBounds i true) w) : H.at listed w := by
  obtain ⟨a, b, c⟩ := h
  rw [getD_set_ne true h1] at a
  rw [getD_set_ne true h2] at b
  exact ⟨a, b, c⟩
section
variable {P : Program} {ops : Array Oper} {Q : Exit → Act → World → Prop} {md : Region.Mode} {H : Held2}
def wpAnyT (P : Program) (md : Region.Mode) (ops : Array Oper) (Q : Exit → Act → World → Prop) (H : Held2) : Nat → Array Bool → Act → World → Prop
  | 0, listed, a, w => Region.ready md ops listed = [] ∧ Q .normal a w
  | fuel + 1, listed, a, w =>
    (Region.ready md ops listed = [] → Q .normal a w) ∧
    ∀ i ∈ Region.ready md ops listed, wpOp P ops Q i (fun a' w' => H.at (listed.setIfInBounds i true) w' ∧ wpAnyT P md ops Q H fuel (listed.setIfInBounds i true) a' w') a w
theorem wpAny_of_heldT : ∀ (fuel : Nat) (listed : Array Bool) (a : Act) (w : World), wpAnyT P md ops Q H fuel listed a w → wpAny P md ops Q fuel listed a w
  | 0, _, _, _, h => h
  | fuel + 1, _, _, _, h => ⟨h.1, fun i hi => wpOp_mono (fun a' w' h' => wpAny_of_heldT fuel _ a' w' h'.2) (h.2 i hi)⟩
/-- What number i may lean on. -/
def Held2.use (H : Held2) (b1 b2 : Bool) (w : World) : Prop := (b1 = true → H.U1 w) ∧ (b2 = true → H.U2 w) ∧ H.R w
theorem wpAnyT_first {i : Nat} {oi : Oper} {v : Value} {b1 b2 : Bool} (hi : ops[i]? = some oi) (hsel : ∀ (j : Nat) (o : Oper) cs b, ops[j]? = some o → o.op ≠ .select cs b)
    (hQ : ∀ c a w, Q (.panic c) (a.put oi.dst v) w → Q (.panic c) a w) (hn1 : i ≠ H.d1) (hn2 : i ≠ H.d2)
    (hL1 : b1 = true → ∀ oL, ops[H.d1]? = some oL → ∃ e ∈ oL.after, Region.binds md e = true ∧ e.on = i)
    (hL2 : b2 = true → ∀ oL, ops[H.d2]? = some oL → ∃ e ∈ oL.after, Region.binds md e = true ∧ e.on = i) :
    ∀ (fuel : Nat) (listed : Array Bool) (a : Act) (w : World),
      (∀ j oj, ops[j]? = some oj → j ≠ i → listed.getD j true = false → (∀ e ∈ oj.after, Region.binds md e = true → e.on ≠ i) → oi.apart ops oj = true) →
      i ∈ Region.ready md ops listed → YieldsIf P ops (H.use b1 b2) oi v a → H.at listed w → (b1 = true → listed.getD H.d1 true = false) → (b2 = true → listed.getD H.d2 true = false) →
      wpAnyT P md ops Q H fuel (listed.setIfInBounds i true) (a.put oi.dst v) w → wpAnyT P md ops Q H (fuel + 1) listed a w := by
  intro fuel
  induction fuel with
  | zero =>
    intro listed a w _ hr hy hS l1 l2 Hx
    have hu : H.use b1 b2 w := ⟨fun h => hS.1 (l1 h), fun h => hS.2.1 (l2 h), hS.2.2⟩
    refine ⟨fun h => (by rw [h] at hr; cases hr), fun j hj => ?_⟩
    by_cases hji : j = i
    · subst hji
      refine hy.wpOp hi hu ⟨?_, Hx⟩
      refine ⟨fun h => hS.1 (by rwa [getD_set_ne true hn1] at h), fun h => hS.2.1 (by rwa [getD_set_ne true hn2] at h), hS.2.2⟩
    · have := ready_mono hj hji
      rw [Hx.1] at this
      cases this
  | succ fuel ih =>
    intro listed a w hfree hr hy hS l1 l2 Hx
    have hu : H.use b1 b2 w := ⟨fun h => hS.1 (l1 h), fun h => hS.2.1 (l2 h), hS.2.2⟩
    refine ⟨fun h => (by rw [h] at hr; cases hr), fun j hj => ?_⟩
    by_cases hji : j = i
    · subst hji
      refine hy.wpOp hi hu ⟨?_, Hx⟩
      refine ⟨fun h => hS.1 (by rwa [getD_set_ne true hn1] at h), fun h => hS.2.1 (by rwa [getD_set_ne true hn2] at h), hS.2.2⟩
    · have h1 := Hx.2 j (ready_mono hj hji)
      obtain ⟨hjun, oj, hoj, hall⟩ := mem_ready.1 hj
      have hnot : ∀ e ∈ oj.after, Region.binds md e = true → e.on ≠ i := fun e he hb heq => by
        have h1 := hall e he hb
        have h0 := (mem_ready.1 hr).1
        rw [heq] at h1
        rcases Nat.lt_or_ge i listed.size with h' | h'
        · simp [h'] at h0 h1; rw [h0] at h1; cases h1
        · simp [Array.getElem?_eq_none h'] at h1
      have hj1 : b1 = true → j ≠ H.d1 := fun hb e => by
        obtain ⟨e1, he, hb, hon⟩ := hL1 hb oj (e ▸ hoj)
        exact hnot e1 he hb hon
      have hj2 : b2 = true → j ≠ H.d2 := fun hb e => by
        obtain ⟨e1, he, hb, hon⟩ := hL2 hb oj (e ▸ hoj)
        exact hnot e1 he hb hon
      have h2 := wpOp_putIf hoj (hfree j oj hoj hji hjun hnot) (fun cs b => hsel i oi cs b hi) (fun cs b => hsel j oj cs b hoj) hQ hy h1
      have hfree' : ∀ k ok, ops[k]? = some ok → k ≠ i → (listed.setIfInBounds j true).getD k true = false →
          (∀ e ∈ ok.after, Region.binds md e = true → e.on ≠ i) → oi.apart ops ok = true := fun k ok hk hki hun hno => by
        refine hfree k ok hk hki ?_ hno
        by_cases hjk : j = k
        · subst hjk; exact hjun
        · rw [getD_set_ne true hjk] at hun; exact hun
      refine wpOp_mono (fun a' w' h3 => ?_) h2
      have hAt : H.at (listed.setIfInBounds j true) w' := by
        have := h3.2.1
        rw [Array.setIfInBounds_comm _ _ (Ne.symm hji)] at this
        exact Held2.unset hn1 hn2 this
      refine ⟨hAt, ih (listed.setIfInBounds j true) a' w' hfree' (ready_mono hr (Ne.symm hji)) h3.1 hAt (fun h => by rw [getD_set_ne true (hj1 h)]; exact l1 h) (fun h => by rw [getD_set_ne true (hj2 h)]; exact l2 h) ?_⟩
      rw [Array.setIfInBounds_comm _ _ hji]
      exact h3.2.2
/-- May number i lean on the words? -/
def leans (md : Region.Mode) (ops : Array Oper) (d i : Nat) (listed : Array Bool) (b : Bool) : Bool := !b || (waitsB md ops d i && !listed.getD d true)
theorem wpAnyT_take {i : Nat} {oi : Oper} {v : Value} (b1 b2 : Bool) {fuel : Nat} {listed : Array Bool} {a : Act} {w : World} (hi : ops[i]? = some oi)
    (hs : Region.noSelect ops = true) (hf : Region.free md ops listed i = true) (hr : (Region.ready md ops listed).contains i = true)
    (hb : (i != H.d1 && i != H.d2 && leans md ops H.d1 i listed b1 && leans md ops H.d2 i listed b2) = true)
    (hQ : ∀ c a w, Q (.panic c) (a.put oi.dst v) w → Q (.panic c) a w) (hy : YieldsIf P ops (H.use b1 b2) oi v a) (hS : H.at listed w)
    (h : wpAnyT P md ops Q H fuel (listed.setIfInBounds i true) (a.put oi.dst v) w) : wpAnyT P md ops Q H (fuel + 1) listed a w := by
  simp only [Bool.and_eq_true, bne_iff_ne] at hb
  obtain ⟨⟨⟨h1, h2⟩, h3⟩, h4⟩ := hb
  have k3 : b1 = true → waitsB md ops H.d1 i = true ∧ listed.getD H.d1 true = false := fun e => by subst e; unfold leans at h3; simpa using h3
  have k4 : b2 = true → waitsB md ops H.d2 i = true ∧ listed.getD H.d2 true = false := fun e => by subst e; unfold leans at h4; simpa using h4
  exact wpAnyT_first hi (Region.noSelect_spec hs) hQ h1 h2 (fun e => waits_spec (k3 e).1) (fun e => waits_spec (k4 e).1) fuel listed a w (Region.free_spec hi hf) (by simpa using hr) hy hS (fun e => (k3 e).2) (fun e => (k4 e).2) h
theorem wpAnyT_one {i : Nat} {o : Oper} {fuel : Nat} {listed : Array Bool} {a : Act} {w : World} (hr : Region.ready md ops listed = [i]) (ho : ops[i]? = some o)
    (h : ∀ K' : Act → World → Prop, Shut (∀ a w, H.at (listed.setIfInBounds i true) w → wpAnyT P md ops Q H fuel (listed.setIfInBounds i true) a w → K' a w) → if Region.wanted o (yielded ops a.tmps) = true then Oper.wp P o a w K' Q else K' (a.put o.dst undef) w) :
    wpAnyT P md ops Q H (fuel + 1) listed a w :=
  ⟨fun h0 => absurd (hr ▸ h0) (by simp), fun j hj => by
    rw [hr] at hj
    have : j = i := by simpa using hj
    subst this
    exact wpOp_step ho (fun K' hK => h K' (fun a w hS hW => hK a w ⟨hS, hW⟩))⟩
theorem wpAnyT_done {listed : Array Bool} {a : Act} {w : World} (hr : Region.ready md ops listed = []) (h : Q .normal a w) :
    ∀ fuel, wpAnyT P md ops Q H fuel listed a w
  | 0 => ⟨hr, h⟩
  | _ + 1 => ⟨fun _ => h, by rw [hr]; simp⟩
end
/-- In the body of a range over a function. -/
theorem wpIn_round_heldT {l n : Nat} {P : Program} {id : Nat} {Q : Exit → Act → World → Prop} {a : Act} {w : World} {ol : List Oper} (H : Held2) (hm : P.follows .mixedOrders = true)
    (hd : ol.toArray.all (fun o => noDefer o.op) = true) (hL : ¬ LetsOut Q)
    (h : wpAnyT P .any ol.toArray Q H ol.toArray.size (Array.replicate ol.toArray.size false) a w.drew) :
    (Code.region id ol.toArray true).wpIn (Fence.wide.inRound l) n P Q a w :=
  wpIn_region_any hm (anyIn_of_any hd hL _ _ _ _ (wpAny_of_heldT _ _ _ _ h))
end Go.Proofs.Ythfeiiibedmkiaa

/-
  Blocks of one's own beside an iterator that tells out of memory of its own.
-/
set_option linter.unusedSimpArgs false
set_option linter.unusedVariables false
set_option maxRecDepth 100000
namespace Go.Proofs.Ythfeiiibedmkiaa
open Go.RowKit

theorem HasL.foreign' {S S' : Nat → Prop} {W W' : World} {L : List Blk3} (h : HasL W L) (hm : ∀ x ∈ L, ¬ S x.1) (hf : Foreign S S' W W') : HasL W' L ∧ ∀ x ∈ L, ¬ S' x.1 :=
  ⟨HasL.of fun x hx => hf.heap' (hm x hx) (h.mem x hx), fun x hx => hf.not (lt_of_heap (h.mem x hx)) (hm x hx)⟩
/-- Between rounds: the blocks L are the function's own, S the iterator's, RO is read. -/
structure HsS (w0 : World) (RO : Nat → Prop) (B : Nat) (L : List Blk3) (S : Nat → Prop) (W : World) : Prop where
  hs : Hs w0 L W
  sz : B ≤ W.heap.size
  mine : ∀ x ∈ L, ¬ S x.1
  ro : ∀ x ∈ L, ¬ RO x.1
  old : ∀ b, S b → w0.heap.size ≤ b
theorem HsS.stable (w0 : World) (RO : Nat → Prop) (B : Nat) (L : List Blk3) : Stable (HsS w0 RO B L) := by
  rintro S S' W W' ⟨h, hsz, h1, h2, h3⟩ hf
  obtain ⟨g1, g2⟩ := h.rows.foreign' h1 hf
  have hz := h.old.size
  have hb : Below w0.heap.size w0 W' := hf.below h.old (Nat.le_refl _) fun b hb hs => by have := h3 b hs; omega
  refine ⟨⟨g1, hb, h.low, h.desc⟩, Nat.le_trans hsz hf.size, g2, h2, fun b hb => ?_⟩
  rcases hf.fresh b hb with h | h
  · exact h3 b h
  · omega
/-- Within a round: the same, since the round began in Wb. -/
structure HsK (w0 : World) (X : Nat → Prop) (L : List Blk3) (Wb W : World) : Prop where
  hs : Hs w0 L W
  mine : ∀ x ∈ L, ¬ X x.1
  kept : Kept X Wb W
  lim : ∀ b, X b → b < Wb.heap.size
theorem HsS.start {w0 : World} {RO S : Nat → Prop} {B : Nat} {L : List Blk3} {W : World} (h : HsS w0 RO B L S W) (hS : ∀ b, S b → b < W.heap.size) (hR : ∀ b, RO b → b < B) : HsK w0 (fun b => RO b ∨ S b) L W W :=
  ⟨h.hs, fun x hx e => e.elim (h.ro x hx) (h.mine x hx), Kept.refl _ _, fun b hb => hb.elim (fun h' => Nat.lt_of_lt_of_le (hR b h') h.sz) (hS b)⟩
theorem HsK.back {w0 : World} {RO S : Nat → Prop} {B : Nat} {L L0 : List Blk3} {Wb W : World} (h : HsK w0 (fun b => RO b ∨ S b) L Wb W) (h0 : HsS w0 RO B L0 S Wb) : HsS w0 RO B L S W :=
  ⟨h.hs, Nat.le_trans h0.sz h.kept.size, fun x hx e => h.mine x hx (.inr e), fun x hx e => h.mine x hx (.inl e), h0.old⟩
section
variable {w0 : World} {X : Nat → Prop} {L : List Blk3} {Wb W W' : World}
theorem HsK.next (h : HsK w0 X L Wb W) (hb : Below W.heap.size W W') : HsK w0 X L Wb W' := ⟨h.hs.next hb, h.mine, h.kept.trans (Kept.of_below hb), h.lim⟩
theorem HsK.drewN (h : HsK w0 X L Wb W) (n : Nat) : HsK w0 X L Wb (W.drewN n) := h.next (below_drewN' _ _)
theorem HsK.drew (h : HsK w0 X L Wb W) : HsK w0 X L Wb W.drew := h.next (Below.drew (Below.refl _ _))
theorem HsK.new (h : HsK w0 X L Wb W) (cs : Array Value) (t : TypeId) : HsK w0 X ((W.heap.size, cs, t) :: L) Wb (W.alloc (.cells cs t)) :=
  ⟨h.hs.new cs t, fun x hx => by
    rcases List.mem_cons.1 hx with rfl | hx
    · intro e; have := h.lim _ e; have := h.kept.size; simp only at *; omega
    · exact h.mine x hx, h.kept.trans (Kept.alloc _ _ _), h.lim⟩
theorem HsK.mem_set (h : ∀ x ∈ L, ¬ X x.1) {i b : Nat} {old new : Array Value} {t : TypeId} (hi : L[i]? = some (b, old, t)) : ∀ x ∈ L.set i (b, new, t), ¬ X x.1 := fun x hx => by
  rcases List.mem_or_eq_of_mem_set hx with hx | rfl
  · exact h x hx
  · exact (h _ (List.mem_of_getElem? hi) : ¬ X b)
theorem HsK.put (h : HsK w0 X L Wb W) (i : Nat) {b : Nat} {old : Array Value} {t : TypeId} (hi : L[i]? = some (b, old, t)) (j : Nat) (v : Value) : HsK w0 X (L.set i (b, old.setIfInBounds j v, t)) Wb (W.setCell ⟨b, j, none⟩ v) :=
  ⟨h.hs.put i hi j v, HsK.mem_set h.mine hi, h.kept.trans (Kept.setCell _ _ _ _ (h.mine _ (List.mem_of_getElem? hi))), h.lim⟩
theorem HsK.tail {x : Blk3} (h : HsK w0 X (x :: L) Wb W) : HsK w0 X L Wb W := ⟨h.hs.tail, fun y hy => h.mine y (List.mem_cons_of_mem _ hy), h.kept, h.lim⟩
theorem Kept.setRow' (S : Nat → Prop) (W : World) (b : Nat) (cs : Array Value) (h : ¬ S b) : Kept S W (W.setRow b cs) :=
  ⟨rfl, rfl, rfl, by simp, fun k _ hk => setRow_other _ _ _ _ (fun e => h (e ▸ hk))⟩
theorem HsK.set (h : HsK w0 X L Wb W) (i : Nat) {b : Nat} {old : Array Value} {t : TypeId} (hi : L[i]? = some (b, old, t)) (new : Array Value) : HsK w0 X (L.set i (b, new, t)) Wb (W.setRow b new) :=
  ⟨h.hs.set i hi new, HsK.mem_set h.mine hi, h.kept.trans (Kept.setRow' _ _ _ _ (h.mine _ (List.mem_of_getElem? hi))), h.lim⟩
theorem Hs.grown' {w0 : World} {l : List Blk3} {W W' : World} (h : Hs w0 l W) {row : Option Nat} (hg : W.grownBy W' row) (hr : ∀ k, row = some k → w0.heap.size ≤ k ∧ ∀ x ∈ l, x.1 ≠ k) : Hs w0 l W' :=
  ⟨HasL.of fun x hx => (hg.block x.1 (lt_of_heap (h.rows.mem x hx)) (fun e => (hr x.1 e.symm).2 x hx rfl)).trans (h.rows.mem x hx), h.old.grown hg h.old.size (fun k hk => (hr k hk).1), h.low, h.desc⟩
theorem HsK.grown (h : HsK w0 X L Wb W) {row : Option Nat} (hg : W.grownBy W' row) (hr : ∀ k, row = some k → w0.heap.size ≤ k ∧ (∀ x ∈ L, x.1 ≠ k) ∧ ¬ X k) : HsK w0 X L Wb W' :=
  ⟨h.hs.grown' hg fun k hk => ⟨(hr k hk).1, (hr k hk).2.1⟩, h.mine, h.kept.trans (Kept.grown hg fun k hk => (hr k hk).2.2), h.lim⟩
end
end Go.Proofs.Ythfeiiibedmkiaa

/-
  Lines of changes, in plain Lean: the map behind a change, the map at a step.
-/
set_option linter.unusedSimpArgs false
set_option linter.unusedVariables false
set_option maxRecDepth 100000
namespace Go.Proofs.Ythfeiiibedmkiaa
open Go.RowKit

structure Ch where
  stp : Int
  key : Nat
  has : Bool
  val : Nat
deriving DecidableEq
structure ChOk (c : Ch) : Prop where
  lo : -9223372036854775808 ≤ c.stp
  hi : c.stp ≤ 9223372036854775807
  key : c.key < 2 ^ 64
  val : c.val < 2 ^ 64
def chL (c : Ch) : List Value := [.int .i64 c.stp, .int .u64 (c.key : Int), .bool c.has, .int .u64 (c.val : Int)]
def chA (c : Ch) : Array Value := #[.int .i64 c.stp, .int .u64 (c.key : Int), .bool c.has, .int .u64 (c.val : Int)]
theorem chL_len (c : Ch) : (chL c).length = 4 := rfl
theorem chA_one (c : Ch) : (chA c).all (·.oneCell') = true := by unfold chA; kernel_rfl
theorem chL_one (c : Ch) : ∀ v ∈ chL c, v.oneCell' = true := by
  intro v hv
  simp [chL] at hv
  rcases hv with rfl | rfl | rfl | rfl <;> rfl
def chs (l : List Ch) : List Value := l.flatMap chL
theorem chs_length (l : List Ch) : (chs l).length = l.length * 4 := flat_len chL_len l
def nthC (l : List Ch) (k : Nat) : Ch := l.getD k ⟨0, 0, false, 0⟩
theorem nthC_eq {l : List Ch} {k : Nat} (h : k < l.length) : l[k] = nthC l k := by unfold nthC; rw [List.getD_eq_getElem?_getD, List.getElem?_eq_getElem h]; rfl
theorem nthC_at {l : List Ch} {k : Nat} (h : k < l.length) : l[k]? = some (nthC l k) := by rw [List.getElem?_eq_getElem h, nthC_eq h]
theorem nthC_mem {l : List Ch} {k : Nat} (h : k < l.length) : nthC l k ∈ l := by rw [← nthC_eq h]; exact List.getElem_mem h
theorem chs_len {w : World} {sp : Option Addr} {n : Nat} {l : List Ch} (h : SlK w 4 sp n (chs l)) : n = l.length := slk_len chL_len (by decide) h
theorem chs_cells {w : World} {b off n : Nat} {l : List Ch} (h : SlK w 4 (some ⟨b, off, none⟩) n (chs l)) {k : Nat} (hk : k < l.length) :
    w.cell? ⟨b, off + k * 4, none⟩ = some (.int .i64 (nthC l k).stp) ∧ w.cell? ⟨b, off + k * 4 + 1, none⟩ = some (.int .u64 ((nthC l k).key : Int)) ∧ w.cell? ⟨b, off + k * 4 + 2, none⟩ = some (.bool (nthC l k).has) ∧ w.cell? ⟨b, off + k * 4 + 3, none⟩ = some (.int .u64 ((nthC l k).val : Int)) :=
  ⟨slk_cell0 chL_len h (nthC_at hk) (by decide) rfl, slk_cell (i := 1) chL_len h (nthC_at hk) (by decide) rfl, slk_cell (i := 2) chL_len h (nthC_at hk) (by decide) rfl, slk_cell (i := 3) chL_len h (nthC_at hk) (by decide) rfl⟩

/-- The map behind a change. -/
def behP (ps : Ps) (c : Ch) : Ps := if c.has = true then insP ps c.key c.val else delP ps c.key
/-- Does it change something, as it says? -/
def okC (ps : Ps) (c : Ch) : Bool := if c.has = true then !decide (getS ps c.key = some c.val) else (hasP ps c.key && decide (c.val = 0))
theorem up_behP {ps : Ps} (h : upB ps = true) (c : Ch) : upB (behP ps c) = true := by
  unfold behP; split
  · exact up_ins h _ _
  · exact up_del h _
theorem get_behP {ps : Ps} (h : upB ps = true) (c : Ch) (q : Nat) : getS (behP ps c) q = if q = c.key then (if c.has = true then some c.val else none) else getS ps q := by
  unfold behP
  by_cases e : c.has = true
  · rw [if_pos e, get_ins h]
    by_cases e2 : q = c.key
    · rw [if_pos e2, if_pos e2, if_pos e]
    · rw [if_neg e2, if_neg e2]
  · rw [if_neg e, get_del h]
    by_cases e2 : q = c.key
    · rw [if_pos e2, if_pos e2, if_neg e]
    · rw [if_neg e2, if_neg e2]
theorem len_behP (ps : Ps) (c : Ch) : (behP ps c).length ≤ ps.length + 1 := by
  unfold behP; split
  · rw [len_ins]; split <;> omega
  · rw [len_del]; omega
def callC (c : Ch) : Cl := ⟨if c.has = true then 2 else 3, c.key, c.val, 0⟩
theorem next_callC (ps : Ps) (c : Ch) : nextP (callC c) ps = behP ps c := by
  unfold nextP callC behP
  by_cases e : c.has = true
  · simp [e]
  · simp [e]
theorem isOp_callC (c : Ch) : isOp (callC c) = true := by unfold isOp callC; cases c.has <;> rfl
def mapL (l : List Ch) : Nat → Ps
  | 0 => []
  | k + 1 => match l[k]? with
    | some c => behP (mapL l k) c
    | none => mapL l k
theorem mapL_succ {l : List Ch} {k : Nat} (h : k < l.length) : mapL l (k + 1) = behP (mapL l k) (nthC l k) := by rw [mapL, nthC_at h]
theorem up_mapL (l : List Ch) : ∀ k, upB (mapL l k) = true
  | 0 => rfl
  | k + 1 => by
    rw [mapL]
    split
    · exact up_behP (up_mapL l k) _
    · exact up_mapL l k
theorem len_mapL (l : List Ch) : ∀ k, (mapL l k).length ≤ k
  | 0 => Nat.le_refl _
  | k + 1 => by
    rw [mapL]
    have := len_mapL l k
    split
    · rename_i c _; have := len_behP (mapL l k) c; omega
    · omega
/-- The step of the change ahead of the k-th. -/
def stpL (l : List Ch) (k : Nat) : Int := if k = 0 then 0 else (nthC l (k - 1)).stp
theorem stpL_succ (l : List Ch) (k : Nat) : stpL l (k + 1) = (nthC l k).stp := by unfold stpL; rw [if_neg (by omega)]; rfl
def stepOk (l : List Ch) (k : Nat) : Bool := okC (mapL l k) (nthC l k) && decide (stpL l k < (nthC l k).stp)
def rightL (l : List Ch) : Bool := (List.range l.length).all (stepOk l)
theorem right_at {l : List Ch} (h : rightL l = true) {k : Nat} (hk : k < l.length) : stepOk l k = true := by
  unfold rightL at h; rw [List.all_eq_true] at h; exact h k (List.mem_range.2 hk)
theorem right_yes {l : List Ch} (h : ∀ k, k < l.length → stepOk l k = true) : rightL l = true := by
  unfold rightL; rw [List.all_eq_true]; exact fun k hk => h k (List.mem_range.1 hk)
theorem right_no {l : List Ch} {k : Nat} (hk : k < l.length) (h : stepOk l k = false) : rightL l = false := by
  cases e : rightL l with
  | false => rfl
  | true => rw [right_at e hk] at h; cases h
theorem right_step {l : List Ch} (h : rightL l = true) {k : Nat} (hk : k < l.length) : okC (mapL l k) (nthC l k) = true ∧ stpL l k < (nthC l k).stp := by
  have := right_at h hk
  unfold stepOk at this
  simpa using this
theorem right_rise {l : List Ch} (h : rightL l = true) {i : Nat} : ∀ {j : Nat}, i < j → j < l.length → (nthC l i).stp < (nthC l j).stp
  | 0, hi, _ => by omega
  | j + 1, hi, hj => by
    have h1 := (right_step h hj).2
    rw [stpL_succ] at h1
    by_cases e : i = j
    · rw [e]; exact h1
    · have := right_rise h (i := i) (j := j) (by omega) (by omega); omega
theorem right_pos {l : List Ch} (h : rightL l = true) {i : Nat} (hi : i < l.length) : 0 < (nthC l i).stp := by
  by_cases e : i = 0
  · have := (right_step h hi).2; unfold stpL at this; rwa [if_pos e] at this
  · have h0 := (right_step h (k := 0) (by omega)).2
    have h1 := right_rise h (i := 0) (j := i) (by omega) hi
    unfold stpL at h0; rw [if_pos rfl] at h0; omega
/-- How many changes there were at a step. -/
def cntL (l : List Ch) (t : Int) : Nat := (l.takeWhile fun c => decide (c.stp ≤ t)).length
theorem cntL_le (l : List Ch) (t : Int) : cntL l t ≤ l.length := (List.takeWhile_sublist _).length_le
theorem cntL_eq {l : List Ch} {t : Int} {k : Nat} (hk : k ≤ l.length) (h1 : ∀ j, j < k → (nthC l j).stp ≤ t) (h2 : k < l.length → t < (nthC l k).stp) : cntL l t = k := by
  unfold cntL
  induction l generalizing k with
  | nil => simp at hk; simp [hk]
  | cons c l ih =>
    cases k with
    | zero =>
      have : t < c.stp := h2 (by simp)
      rw [List.takeWhile_cons, if_neg (by simp; omega)]; rfl
    | succ k =>
      have : c.stp ≤ t := h1 0 (by omega)
      rw [List.takeWhile_cons, if_pos (by simpa using this), List.length_cons]
      have := ih (k := k) (by simpa using hk) (fun j hj => h1 (j + 1) (by omega)) (fun hk' => h2 (by simpa using hk'))
      omega
theorem cntL_in {l : List Ch} {t : Int} : ∀ {j : Nat}, j < cntL l t → (nthC l j).stp ≤ t := by
  unfold cntL
  induction l with
  | nil => intro j hj; simp at hj
  | cons c l ih =>
    intro j hj
    rw [List.takeWhile_cons] at hj
    split at hj
    · rename_i hc
      cases j with
      | zero => show c.stp ≤ t; simpa using hc
      | succ j => exact ih (by simpa using hj)
    · simp at hj
theorem cntL_out {l : List Ch} {t : Int} (h : cntL l t < l.length) : t < (nthC l (cntL l t)).stp := by
  unfold cntL at h ⊢
  induction l with
  | nil => simp at h
  | cons c l ih =>
    rw [List.takeWhile_cons] at h ⊢
    split at h
    · rename_i hc
      rw [if_pos hc, List.length_cons]
      have h' : (List.takeWhile (fun c => decide (c.stp ≤ t)) l).length < l.length := by simpa using h
      exact ih h'
    · rename_i hc
      rw [if_neg hc]
      show t < c.stp
      simp at hc; omega
theorem cntL_iff {l : List Ch} (h : rightL l = true) {t : Int} {j : Nat} (hj : j < l.length) : j < cntL l t ↔ (nthC l j).stp ≤ t := by
  constructor
  · exact cntL_in
  · intro h1
    refine Classical.byContradiction fun hn => ?_
    have h2 := cntL_out (l := l) (t := t) (by omega)
    by_cases e : cntL l t = j
    · rw [e] at h2; omega
    · have := right_rise h (i := cntL l t) (j := j) (by omega) hj; omega
theorem cntL_mono (l : List Ch) {s t : Int} (h : s ≤ t) : cntL l s ≤ cntL l t := by
  refine Classical.byContradiction fun hn => ?_
  have h2 := cntL_out (l := l) (t := t) (by have := cntL_le l s; omega)
  have := cntL_in (l := l) (t := s) (j := cntL l t) (by omega)
  omega
end Go.Proofs.Ythfeiiibedmkiaa

/-
  The line that is gone along: next.
-/
set_option linter.unusedSimpArgs false
set_option linter.unusedVariables false
set_option maxRecDepth 100000
namespace Go.Proofs.Ythfeiiibedmkiaa
open Go.RowKit

theorem info_ch : (Try.prog.info? 46).map (·.size) = some 4 := by kernel_rfl
def lnA (sp : Option Addr) (n cap : Nat) (a : Int) : Array Value := #[.slice sp n cap, .int .i64 a]
/-- A line behind a change. -/
def LineTo (lb : Nat) (ps : Ps) (a : Int) (w w' : World) : Prop :=
  ∃ sp n cap, w'.heap[lb]? = some (.cells (lnA sp n cap a) 82 (0, 0)) ∧ OnlyB lb w w' ∧ RowP w' w.heap.size sp n cap ps
theorem okC_yes {ps : Ps} {c : Ch} (hc : c.has = true) : okC ps c = (!hasP ps c.key || ((((getS ps c.key).getD 0 : Nat) : Int) != (c.val : Int))) := by
  unfold okC hasP
  rw [if_pos hc]
  cases h : getS ps c.key with
  | none => simp
  | some v => simp; rw [Bool.eq_iff_iff]; simp; omega
theorem okC_no {ps : Ps} {c : Ch} (hc : c.has = false) : okC ps c = (hasP ps c.key && ((c.val : Int) == 0)) := by
  unfold okC
  rw [if_neg (by rw [hc]; decide)]
  congr 1
  rw [Bool.eq_iff_iff]; simp
set_option maxHeartbeats 4000000 in
theorem next_no (lb : Nat) (sp : Option Addr) (n cap : Nat) (ps : Ps) (a : Int) (c : Ch) (w : World) (hL : w.heap[lb]? = some (.cells (lnA sp n cap a) 82 (0, 0))) (hR : SlK w 2 sp n (prs ps)) (hup : upB ps = true) (hn : n ≤ 4096) (hno : (okC ps c && decide (a < c.stp)) = false) :
    Calls Try.prog 42 #[.pointer (some ⟨lb, 0, none⟩), .agg (chA c)] w fun e w' => e = .returned (.bool false) ∧ Below w.heap.size w w' := by
  have H1 := (Hs.nil w).new (chA c) 46
  obtain ⟨W, hW⟩ : ∃ W, W = w.alloc (.cells (chA c) 46) := ⟨_, rfl⟩
  rw [← hW] at H1
  have G := fun w h => mGet_yes sp n cap ps c.key w h hup hn
  obtain ⟨okb, hokb⟩ : ∃ okb, okC ps c = okb := ⟨_, rfl⟩
  have y1 := okC_yes (ps := ps) (c := c)
  have y2 := okC_no (ps := ps) (c := c)
  rw [hokb] at y1 y2
  generalize (getS ps c.key).getD 0 = v at *
  generalize hasP ps c.key = d at *
  have H1'h := Lib.hid H1
  have hL'h := Lib.hid hL
  have hR'h := Lib.hid hR
  have hup'h := Lib.hid hup
  have hno'h := Lib.hid hno
  have G'h := Lib.hid G
  have hokb'h := Lib.hid hokb
  have y1'h := Lib.hid y1
  have y2'h := Lib.hid y2
  clear H1 hL hR hup hno G hokb y1 y2
  go_enter Try.func42, Try.ntmps42
  go_upto_region 1 with fail
  rw [← hW]
  clear hW
  have H2 := H1'h.out.drew
  have L2 := heap_below H2.old hL'h.out (lt_of_heap hL'h.out)
  have R2 := hR'h.out.below H2.old
  refine wp_region_heldQ (fun w' => w'.cell? ⟨lb, 0, none⟩ = some (.slice sp n cap) ∧ w'.cell? ⟨w.heap.size, 1, none⟩ = some (.int .u64 (c.key : Int))) 99 (by kernel_rfl) ?_
  generalize W.drew = V at H2 L2 R2 ⊢
  have q2 : V.cell? ⟨lb, 0, none⟩ = some (.slice sp n cap) ∧ V.cell? ⟨w.heap.size, 1, none⟩ = some (.int .u64 (c.key : Int)) := ⟨blk_cell L2 rfl, blk_cell H2.rows.1 rfl⟩
  refine wpAnyF_take (i := 0) (v := .pointer (some ⟨lb, 0, none⟩)) rfl (by kernel_rfl) (by kernel_rfl) (by kernel_rfl) (by kernel_rfl) (fun _ _ _ h => h) (Or.inl ⟨by kernel_rfl, fun w hSw => by (try dsimp only at hSw); go_simp⟩) q2 ?_; try simp only [Act.put, List.getElem_toArray, List.getElem_cons_succ, List.getElem_cons_zero, List.setIfInBounds_toArray, List.set_cons_zero, List.set_cons_succ]
  refine wpAnyF_take (i := 1) (v := .pointer (some ⟨lb, 0, none⟩)) rfl (by kernel_rfl) (by kernel_rfl) (by kernel_rfl) (by kernel_rfl) (fun _ _ _ h => h) (Or.inl ⟨by kernel_rfl, fun w hSw => by (try dsimp only at hSw); go_simp⟩) q2 ?_; try simp only [Act.put, List.getElem_toArray, List.getElem_cons_succ, List.getElem_cons_zero, List.setIfInBounds_toArray, List.set_cons_zero, List.set_cons_succ]
  refine wpAnyF_take (i := 2) (v := .pointer (some ⟨lb, 0, none⟩)) rfl (by kernel_rfl) (by kernel_rfl) (by kernel_rfl) (by kernel_rfl) (fun _ _ _ h => h) (Or.inl ⟨by kernel_rfl, fun w hSw => by (try dsimp only at hSw); go_simp⟩) q2 ?_; try simp only [Act.put, List.getElem_toArray, List.getElem_cons_succ, List.getElem_cons_zero, List.setIfInBounds_toArray, List.set_cons_zero, List.set_cons_succ]
  refine wpAnyF_take (i := 3) (v := .agg #[.slice sp n cap]) rfl (by kernel_rfl) (by kernel_rfl) (by kernel_rfl) (by kernel_rfl) (fun _ _ _ h => h) (Or.inl ⟨by kernel_rfl, fun w hSw => by have hcc := hSw.1; (try dsimp only at hSw); go_simp⟩) q2 ?_; try simp only [Act.put, List.getElem_toArray, List.getElem_cons_succ, List.getElem_cons_zero, List.setIfInBounds_toArray, List.set_cons_zero, List.set_cons_succ]
  refine wpAnyF_take (i := 4) (v := .pointer (some ⟨w.heap.size, 1, none⟩)) rfl (by kernel_rfl) (by kernel_rfl) (by kernel_rfl) (by kernel_rfl) (fun _ _ _ h => h) (Or.inl ⟨by kernel_rfl, fun w hSw => by (try dsimp only at hSw); go_simp⟩) q2 ?_; try simp only [Act.put, List.getElem_toArray, List.getElem_cons_succ, List.getElem_cons_zero, List.setIfInBounds_toArray, List.set_cons_zero, List.set_cons_succ]
  refine wpAnyF_take (i := 5) (v := .int .u64 (c.key : Int)) rfl (by kernel_rfl) (by kernel_rfl) (by kernel_rfl) (by kernel_rfl) (fun _ _ _ h => h) (Or.inl ⟨by kernel_rfl, fun w hSw => by have hcc := hSw.2; (try dsimp only at hSw); go_simp⟩) q2 ?_; try simp only [Act.put, List.getElem_toArray, List.getElem_cons_succ, List.getElem_cons_zero, List.setIfInBounds_toArray, List.set_cons_zero, List.set_cons_succ]
  refine wpAnyF_one (i := 6) (by kernel_rfl) rfl (fun K hK => ?_); go_simp
  refine (G'h.out _ R2).mono ?_
  rintro e V1 ⟨rfl, hv1⟩
  dsimp only
  have H3 := H2.next hv1
  have L3 := heap_below hv1 L2 (lt_of_heap L2)
  have q3 : V1.cell? ⟨lb, 0, none⟩ = some (.slice sp n cap) ∧ V1.cell? ⟨w.heap.size, 1, none⟩ = some (.int .u64 (c.key : Int)) := ⟨blk_cell L3 rfl, blk_cell H3.rows.1 rfl⟩
  refine hK.out _ _ (fun _ => q3) ?_; clear hK K; try simp only [Act.put, List.getElem_toArray, List.getElem_cons_succ, List.getElem_cons_zero, List.setIfInBounds_toArray, List.set_cons_zero, List.set_cons_succ]
  refine wpAnyF_take (i := 7) (v := .tuple #[.int .u64 (v : Int), .bool d]) rfl (by kernel_rfl) (by kernel_rfl) (by kernel_rfl) (by kernel_rfl) (fun _ _ _ h => h) (Or.inl ⟨by kernel_rfl, fun w hSw => by (try dsimp only at hSw); go_simp⟩) q3 ?_; try simp only [Act.put, List.getElem_toArray, List.getElem_cons_succ, List.getElem_cons_zero, List.setIfInBounds_toArray, List.set_cons_zero, List.set_cons_succ]
  refine wpAnyF_take (i := 8) (v := .int .u64 (v : Int)) rfl (by kernel_rfl) (by kernel_rfl) (by kernel_rfl) (by kernel_rfl) (fun _ _ _ h => h) (Or.inl ⟨by kernel_rfl, fun w hSw => by (try dsimp only at hSw); go_simp⟩) q3 ?_; try simp only [Act.put, List.getElem_toArray, List.getElem_cons_succ, List.getElem_cons_zero, List.setIfInBounds_toArray, List.set_cons_zero, List.set_cons_succ]
  refine wpAnyF_take (i := 9) (v := .bool d) rfl (by kernel_rfl) (by kernel_rfl) (by kernel_rfl) (by kernel_rfl) (fun _ _ _ h => h) (Or.inl ⟨by kernel_rfl, fun w hSw => by (try dsimp only at hSw); go_simp⟩) q3 ?_; try simp only [Act.put, List.getElem_toArray, List.getElem_cons_succ, List.getElem_cons_zero, List.setIfInBounds_toArray, List.set_cons_zero, List.set_cons_succ]
  refine wpAnyF_take (i := 10) (v := .int .u64 (v : Int)) rfl (by kernel_rfl) (by kernel_rfl) (by kernel_rfl) (by kernel_rfl) (fun _ _ _ h => h) (Or.inl ⟨by kernel_rfl, fun w hSw => by (try dsimp only at hSw); go_simp⟩) q3 ?_; try simp only [Act.put, List.getElem_toArray, List.getElem_cons_succ, List.getElem_cons_zero, List.setIfInBounds_toArray, List.set_cons_zero, List.set_cons_succ]
  refine wpAnyF_take (i := 11) (v := .bool d) rfl (by kernel_rfl) (by kernel_rfl) (by kernel_rfl) (by kernel_rfl) (fun _ _ _ h => h) (Or.inl ⟨by kernel_rfl, fun w hSw => by (try dsimp only at hSw); go_simp⟩) q3 ?_; try simp only [Act.put, List.getElem_toArray, List.getElem_cons_succ, List.getElem_cons_zero, List.setIfInBounds_toArray, List.set_cons_zero, List.set_cons_succ]
  refine wpAnyF_done (by kernel_rfl) ?_ _
  refine noPanic_normal ?_
  clear H2 L2 R2 q2 q3 hv1 L3
  have q1 : V1.cell? ⟨w.heap.size, 1, none⟩ = some (.int .u64 (c.key : Int)) := blk_cell H3.rows.1 rfl
  have q3 : V1.cell? ⟨w.heap.size, 3, none⟩ = some (.int .u64 (c.val : Int)) := blk_cell H3.rows.1 rfl
  have H4 := H3.new (clA ⟨2, c.key, c.val, 0⟩) 108
  have H3'h := Lib.hid H3
  have H4'h := Lib.hid H4
  clear H3 H4
  go_upto_region 3 with fail
  change Code.wp _ _ _ _ (V1.alloc (.cells (clA ⟨2, c.key, c.val, 0⟩) 108))
  have H4 := H4'h.out
  clear H4'h q1 q3
  generalize V1.alloc _ = W4 at H4 ⊢
  obtain ⟨kb, hkb⟩ : ∃ kb, kb = V1.heap.size := ⟨_, rfl⟩
  rw [← hkb] at H4 ⊢
  clear hkb
  have q2 : W4.cell? ⟨w.heap.size, 2, none⟩ = some (.bool c.has) := blk_cell H4.rows.2.1 rfl
  have q3 : W4.cell? ⟨w.heap.size, 3, none⟩ = some (.int .u64 (c.val : Int)) := blk_cell H4.rows.2.1 rfl
  have H4'h := Lib.hid H4
  clear H4
  go_cut [8] from 24 to 31 (fun v8 W' => v8 = .bool (!d || ((v : Int) != (c.val : Int))) ∧ W' = W4)
  case first =>
    cases d with
    | false =>
      go_wp2
      go_meet
      exact ⟨rfl, rfl⟩
    | true =>
      go_wp2
      go_meet
      exact ⟨by simp, rfl⟩
  obtain ⟨rfl, rfl⟩ := hcut
  obtain ⟨hb, hhb⟩ : ∃ hb, c.has = hb := ⟨_, rfl⟩
  rw [hhb] at q2
  have hhb'h := Lib.hid hhb
  clear hhb
  go_upto_if 34 with fail
  go_cut [8] from 35 to 41 (fun v8 W' => v8 = .bool okb ∧ Hs w [(kb, clA (callC c), 108), (w.heap.size, chA c, 46)] W')
  case first =>
    cases hb with
    | true =>
      have y := y1'h.out hhb'h.out
      have hcc : callC c = ⟨2, c.key, c.val, 0⟩ := by unfold callC; rw [if_pos hhb'h.out]
      have y'h := Lib.hid y
      have hcc'h := Lib.hid hcc
      clear y hcc
      go_wp2
      go_meet
      exact ⟨by rw [y'h.out], by rw [hcc'h.out]; exact H4'h.out⟩
    | false =>
      have y := y2'h.out hhb'h.out
      have hcc : callC c = ⟨3, c.key, c.val, 0⟩ := by unfold callC; rw [if_neg (by rw [hhb'h.out]; decide)]
      have y'h := Lib.hid y
      have hcc'h := Lib.hid hcc
      clear y hcc
      go_wp2_with fail
      have H5 := H4'h.out.drew
      refine wp_region_heldQ (fun w' => w'.cell? ⟨w.heap.size, 3, none⟩ = some (.int .u64 (c.val : Int))) 99 (by kernel_rfl) ?_
      generalize wc.drew = V5 at H5 ⊢
      have q5 : V5.cell? ⟨w.heap.size, 3, none⟩ = some (.int .u64 (c.val : Int)) := blk_cell H5.rows.2.1 rfl
      have k5 : V5.cell? ⟨kb, 0, none⟩ = some (.int .i64 2) := blk_cell H5.rows.1 rfl
      have k5f := blk_free 0 H5.rows.1
      have H6 := H5.put 0 rfl 0 (.int .i64 3)
      have q6 : (V5.setCell ⟨kb, 0, none⟩ (.int .i64 3)).cell? ⟨w.heap.size, 3, none⟩ = some (.int .u64 (c.val : Int)) := blk_cell H6.rows.2.1 rfl
      cases d with
      | true =>
        have y3 : ((c.val : Int) == 0) = okb := y'h.out.symm
        refine wpAnyF_take (i := 0) (v := .bool true) rfl (by kernel_rfl) (by kernel_rfl) (by kernel_rfl) (by kernel_rfl) (fun _ _ _ h => h) (Or.inl ⟨by kernel_rfl, fun w hSw => by (try dsimp only at hSw); go_simp⟩) q5 ?_; try simp only [Act.put, List.getElem_toArray, List.getElem_cons_succ, List.getElem_cons_zero, List.setIfInBounds_toArray, List.set_cons_zero, List.set_cons_succ]
        refine wpAnyF_take (i := 1) (v := .bool true) rfl (by kernel_rfl) (by kernel_rfl) (by kernel_rfl) (by kernel_rfl) (fun _ _ _ h => h) (Or.inl ⟨by kernel_rfl, fun w hSw => by (try dsimp only at hSw); go_simp⟩) q5 ?_; try simp only [Act.put, List.getElem_toArray, List.getElem_cons_succ, List.getElem_cons_zero, List.setIfInBounds_toArray, List.set_cons_zero, List.set_cons_succ]
        refine wpAnyF_take (i := 2) (v := .pointer (some ⟨w.heap.size, 3, none⟩)) rfl (by kernel_rfl) (by kernel_rfl) (by kernel_rfl) (by kernel_rfl) (fun _ _ _ h => h) (Or.inl ⟨by kernel_rfl, fun w hSw => by (try dsimp only at hSw); go_simp⟩) q5 ?_; try simp only [Act.put, List.getElem_toArray, List.getElem_cons_succ, List.getElem_cons_zero, List.setIfInBounds_toArray, List.set_cons_zero, List.set_cons_succ]
        refine wpAnyF_take (i := 3) (v := .int .u64 (c.val : Int)) rfl (by kernel_rfl) (by kernel_rfl) (by kernel_rfl) (by kernel_rfl) (fun _ _ _ h => h) (Or.inl ⟨by kernel_rfl, fun w hSw => by have hcc := hSw; (try dsimp only at hSw); go_simp⟩) q5 ?_; try simp only [Act.put, List.getElem_toArray, List.getElem_cons_succ, List.getElem_cons_zero, List.setIfInBounds_toArray, List.set_cons_zero, List.set_cons_succ]
        refine wpAnyF_take (i := 4) (v := .bool okb) rfl (by kernel_rfl) (by kernel_rfl) (by kernel_rfl) (by kernel_rfl) (fun _ _ _ h => h) (Or.inl ⟨by kernel_rfl, fun w hSw => by (try dsimp only at hSw); go_simp⟩) q5 ?_; try simp only [Act.put, List.getElem_toArray, List.getElem_cons_succ, List.getElem_cons_zero, List.setIfInBounds_toArray, List.set_cons_zero, List.set_cons_succ]
        refine wpAnyF_take (i := 5) (v := .bool okb) rfl (by kernel_rfl) (by kernel_rfl) (by kernel_rfl) (by kernel_rfl) (fun _ _ _ h => h) (Or.inl ⟨by kernel_rfl, fun w hSw => by (try dsimp only at hSw); go_simp⟩) q5 ?_; try simp only [Act.put, List.getElem_toArray, List.getElem_cons_succ, List.getElem_cons_zero, List.setIfInBounds_toArray, List.set_cons_zero, List.set_cons_succ]
        refine wpAnyF_take (i := 6) (v := .pointer (some ⟨kb, 0, none⟩)) rfl (by kernel_rfl) (by kernel_rfl) (by kernel_rfl) (by kernel_rfl) (fun _ _ _ h => h) (Or.inl ⟨by kernel_rfl, fun w hSw => by (try dsimp only at hSw); go_simp⟩) q5 ?_; try simp only [Act.put, List.getElem_toArray, List.getElem_cons_succ, List.getElem_cons_zero, List.setIfInBounds_toArray, List.set_cons_zero, List.set_cons_succ]
        refine wpAnyF_one (i := 7) (by kernel_rfl) rfl (fun K hK => ?_); go_simp
        refine hK.out _ _ (fun _ => q6) ?_; clear hK K; try simp only [Act.put, List.getElem_toArray, List.getElem_cons_succ, List.getElem_cons_zero, List.setIfInBounds_toArray, List.set_cons_zero, List.set_cons_succ]
        refine wpAnyF_take (i := 8) (v := .bool okb) rfl (by kernel_rfl) (by kernel_rfl) (by kernel_rfl) (by kernel_rfl) (fun _ _ _ h => h) (Or.inl ⟨by kernel_rfl, fun w hSw => by (try dsimp only at hSw); go_simp⟩) q6 ?_; try simp only [Act.put, List.getElem_toArray, List.getElem_cons_succ, List.getElem_cons_zero, List.setIfInBounds_toArray, List.set_cons_zero, List.set_cons_succ]
        refine wpAnyF_done (by kernel_rfl) ?_ _
        refine noPanic_normal ?_
        go_wp2
        go_meet
        refine ⟨rfl, ?_⟩
        rw [hcc'h.out]
        exact H6
      | false =>
        have y3 : okb = false := y'h.out
        subst y3
        refine wpAnyF_take (i := 0) (v := .bool false) rfl (by kernel_rfl) (by kernel_rfl) (by kernel_rfl) (by kernel_rfl) (fun _ _ _ h => h) (Or.inl ⟨by kernel_rfl, fun w hSw => by (try dsimp only at hSw); go_simp⟩) q5 ?_; try simp only [Act.put, List.getElem_toArray, List.getElem_cons_succ, List.getElem_cons_zero, List.setIfInBounds_toArray, List.set_cons_zero, List.set_cons_succ]
        refine wpAnyF_take (i := 1) (v := .bool false) rfl (by kernel_rfl) (by kernel_rfl) (by kernel_rfl) (by kernel_rfl) (fun _ _ _ h => h) (Or.inl ⟨by kernel_rfl, fun w hSw => by (try dsimp only at hSw); go_simp⟩) q5 ?_; try simp only [Act.put, List.getElem_toArray, List.getElem_cons_succ, List.getElem_cons_zero, List.setIfInBounds_toArray, List.set_cons_zero, List.set_cons_succ]
        refine wpAnyF_take (i := 2) (v := undef) rfl (by kernel_rfl) (by kernel_rfl) (by kernel_rfl) (by kernel_rfl) (fun _ _ _ h => h) (Or.inr ⟨by kernel_rfl, rfl⟩) q5 ?_; try simp only [Act.put, List.getElem_toArray, List.getElem_cons_succ, List.getElem_cons_zero, List.setIfInBounds_toArray, List.set_cons_zero, List.set_cons_succ]
        refine wpAnyF_take (i := 3) (v := undef) rfl (by kernel_rfl) (by kernel_rfl) (by kernel_rfl) (by kernel_rfl) (fun _ _ _ h => h) (Or.inr ⟨by kernel_rfl, rfl⟩) q5 ?_; try simp only [Act.put, List.getElem_toArray, List.getElem_cons_succ, List.getElem_cons_zero, List.setIfInBounds_toArray, List.set_cons_zero, List.set_cons_succ]
        refine wpAnyF_take (i := 4) (v := undef) rfl (by kernel_rfl) (by kernel_rfl) (by kernel_rfl) (by kernel_rfl) (fun _ _ _ h => h) (Or.inr ⟨by kernel_rfl, rfl⟩) q5 ?_; try simp only [Act.put, List.getElem_toArray, List.getElem_cons_succ, List.getElem_cons_zero, List.setIfInBounds_toArray, List.set_cons_zero, List.set_cons_succ]
        refine wpAnyF_take (i := 5) (v := .bool false) rfl (by kernel_rfl) (by kernel_rfl) (by kernel_rfl) (by kernel_rfl) (fun _ _ _ h => h) (Or.inl ⟨by kernel_rfl, fun w hSw => by (try dsimp only at hSw); go_simp⟩) q5 ?_; try simp only [Act.put, List.getElem_toArray, List.getElem_cons_succ, List.getElem_cons_zero, List.setIfInBounds_toArray, List.set_cons_zero, List.set_cons_succ]
        refine wpAnyF_take (i := 6) (v := .pointer (some ⟨kb, 0, none⟩)) rfl (by kernel_rfl) (by kernel_rfl) (by kernel_rfl) (by kernel_rfl) (fun _ _ _ h => h) (Or.inl ⟨by kernel_rfl, fun w hSw => by (try dsimp only at hSw); go_simp⟩) q5 ?_; try simp only [Act.put, List.getElem_toArray, List.getElem_cons_succ, List.getElem_cons_zero, List.setIfInBounds_toArray, List.set_cons_zero, List.set_cons_succ]
        refine wpAnyF_one (i := 7) (by kernel_rfl) rfl (fun K hK => ?_); go_simp
        refine hK.out _ _ (fun _ => q6) ?_; clear hK K; try simp only [Act.put, List.getElem_toArray, List.getElem_cons_succ, List.getElem_cons_zero, List.setIfInBounds_toArray, List.set_cons_zero, List.set_cons_succ]
        refine wpAnyF_take (i := 8) (v := .bool false) rfl (by kernel_rfl) (by kernel_rfl) (by kernel_rfl) (by kernel_rfl) (fun _ _ _ h => h) (Or.inl ⟨by kernel_rfl, fun w hSw => by (try dsimp only at hSw); go_simp⟩) q6 ?_; try simp only [Act.put, List.getElem_toArray, List.getElem_cons_succ, List.getElem_cons_zero, List.setIfInBounds_toArray, List.set_cons_zero, List.set_cons_succ]
        refine wpAnyF_done (by kernel_rfl) ?_ _
        refine noPanic_normal ?_
        go_wp2
        go_meet
        refine ⟨rfl, ?_⟩
        rw [hcc'h.out]
        exact H6
  case rest =>
    obtain ⟨rfl, H6⟩ := hcut
    have L6 := heap_below H6.old hL'h.out (lt_of_heap hL'h.out)
    have q0 : ∀ d, (wc.drewN d).cell? ⟨w.heap.size, 0, none⟩ = some (.int .i64 c.stp) := fun d => blk_cell (W := wc) H6.rows.2.1 rfl
    have q1 : ∀ d, (wc.drewN d).cell? ⟨lb, 1, none⟩ = some (.int .i64 a) := fun d => blk_cell (W := wc) L6 rfl
    have hno := hno'h.out
    rw [hokb'h.out] at hno
    cases okb with
    | false =>
      have H6'h := Lib.hid H6
      clear H6
      go_upto_region 6 with fail
      go_quiet (fail)
      go_wp2
      go_ret
      exact ⟨rfl, H6'h.out.old.trans (below_drewN' _ _)⟩
    | true =>
      have hd : decide (c.stp ≤ a) = true := by simp at hno ⊢; omega
      have hd2 : c.stp ≤ a := by simpa using hd
      have H6'h := Lib.hid H6
      clear H6
      go_upto_region 6 with fail
      go_quiet (fail)
      go_wp2
      go_ret
      exact ⟨rfl, H6'h.out.old.trans (below_drewN' _ _)⟩
set_option maxHeartbeats 4000000 in
theorem next_yes (lb : Nat) (sp : Option Addr) (n cap : Nat) (ps : Ps) (a : Int) (c : Ch) (w : World) (hL : w.heap[lb]? = some (.cells (lnA sp n cap a) 82 (0, 0))) (hR : SlK w 2 sp n (prs ps)) (hup : upB ps = true) (hn : n ≤ 4096) (hno : (okC ps c && decide (a < c.stp)) = true) :
    Calls Try.prog 42 #[.pointer (some ⟨lb, 0, none⟩), .agg (chA c)] w fun e w' => e = .returned (.bool true) ∧ LineTo lb (behP ps c) c.stp w w' := by
  have DO := fun w h => mDo_yes sp n cap ps (callC c) w h hup hn (isOp_callC c)
  rw [next_callC] at DO
  generalize tellA (callC c) ps = an at *
  generalize tellQ (callC c) ps = qs at *
  generalize decide ((callC c).op = 6) = six at *
  have hlb := lt_of_heap hL
  have DO'h := Lib.hid DO
  clear DO
  have H1 := (Hs.nil w).new (chA c) 46
  obtain ⟨W, hW⟩ : ∃ W, W = w.alloc (.cells (chA c) 46) := ⟨_, rfl⟩
  rw [← hW] at H1
  have G := fun w h => mGet_yes sp n cap ps c.key w h hup hn
  obtain ⟨okb, hokb⟩ : ∃ okb, okC ps c = okb := ⟨_, rfl⟩
  have y1 := okC_yes (ps := ps) (c := c)
  have y2 := okC_no (ps := ps) (c := c)
  rw [hokb] at y1 y2
  generalize (getS ps c.key).getD 0 = v at *
  generalize hasP ps c.key = d at *
  have H1'h := Lib.hid H1
  have hL'h := Lib.hid hL
  have hR'h := Lib.hid hR
  have hup'h := Lib.hid hup
  have hno'h := Lib.hid hno
  have G'h := Lib.hid G
  have hokb'h := Lib.hid hokb
  have y1'h := Lib.hid y1
  have y2'h := Lib.hid y2
  clear H1 hL hR hup hno G hokb y1 y2
  go_enter Try.func42, Try.ntmps42
  go_upto_region 1 with fail
  rw [← hW]
  clear hW
  have H2 := H1'h.out.drew
  have L2 := heap_below H2.old hL'h.out (lt_of_heap hL'h.out)
  have R2 := hR'h.out.below H2.old
  refine wp_region_heldQ (fun w' => w'.cell? ⟨lb, 0, none⟩ = some (.slice sp n cap) ∧ w'.cell? ⟨w.heap.size, 1, none⟩ = some (.int .u64 (c.key : Int))) 99 (by kernel_rfl) ?_
  generalize W.drew = V at H2 L2 R2 ⊢
  have q2 : V.cell? ⟨lb, 0, none⟩ = some (.slice sp n cap) ∧ V.cell? ⟨w.heap.size, 1, none⟩ = some (.int .u64 (c.key : Int)) := ⟨blk_cell L2 rfl, blk_cell H2.rows.1 rfl⟩
  refine wpAnyF_take (i := 0) (v := .pointer (some ⟨lb, 0, none⟩)) rfl (by kernel_rfl) (by kernel_rfl) (by kernel_rfl) (by kernel_rfl) (fun _ _ _ h => h) (Or.inl ⟨by kernel_rfl, fun w hSw => by (try dsimp only at hSw); go_simp⟩) q2 ?_; try simp only [Act.put, List.getElem_toArray, List.getElem_cons_succ, List.getElem_cons_zero, List.setIfInBounds_toArray, List.set_cons_zero, List.set_cons_succ]
  refine wpAnyF_take (i := 1) (v := .pointer (some ⟨lb, 0, none⟩)) rfl (by kernel_rfl) (by kernel_rfl) (by kernel_rfl) (by kernel_rfl) (fun _ _ _ h => h) (Or.inl ⟨by kernel_rfl, fun w hSw => by (try dsimp only at hSw); go_simp⟩) q2 ?_; try simp only [Act.put, List.getElem_toArray, List.getElem_cons_succ, List.getElem_cons_zero, List.setIfInBounds_toArray, List.set_cons_zero, List.set_cons_succ]
  refine wpAnyF_take (i := 2) (v := .pointer (some ⟨lb, 0, none⟩)) rfl (by kernel_rfl) (by kernel_rfl) (by kernel_rfl) (by kernel_rfl) (fun _ _ _ h => h) (Or.inl ⟨by kernel_rfl, fun w hSw => by (try dsimp only at hSw); go_simp⟩) q2 ?_; try simp only [Act.put, List.getElem_toArray, List.getElem_cons_succ, List.getElem_cons_zero, List.setIfInBounds_toArray, List.set_cons_zero, List.set_cons_succ]
  refine wpAnyF_take (i := 3) (v := .agg #[.slice sp n cap]) rfl (by kernel_rfl) (by kernel_rfl) (by kernel_rfl) (by kernel_rfl) (fun _ _ _ h => h) (Or.inl ⟨by kernel_rfl, fun w hSw => by have hcc := hSw.1; (try dsimp only at hSw); go_simp⟩) q2 ?_; try simp only [Act.put, List.getElem_toArray, List.getElem_cons_succ, List.getElem_cons_zero, List.setIfInBounds_toArray, List.set_cons_zero, List.set_cons_succ]
  refine wpAnyF_take (i := 4) (v := .pointer (some ⟨w.heap.size, 1, none⟩)) rfl (by kernel_rfl) (by kernel_rfl) (by kernel_rfl) (by kernel_rfl) (fun _ _ _ h => h) (Or.inl ⟨by kernel_rfl, fun w hSw => by (try dsimp only at hSw); go_simp⟩) q2 ?_; try simp only [Act.put, List.getElem_toArray, List.getElem_cons_succ, List.getElem_cons_zero, List.setIfInBounds_toArray, List.set_cons_zero, List.set_cons_succ]
  refine wpAnyF_take (i := 5) (v := .int .u64 (c.key : Int)) rfl (by kernel_rfl) (by kernel_rfl) (by kernel_rfl) (by kernel_rfl) (fun _ _ _ h => h) (Or.inl ⟨by kernel_rfl, fun w hSw => by have hcc := hSw.2; (try dsimp only at hSw); go_simp⟩) q2 ?_; try simp only [Act.put, List.getElem_toArray, List.getElem_cons_succ, List.getElem_cons_zero, List.setIfInBounds_toArray, List.set_cons_zero, List.set_cons_succ]
  refine wpAnyF_one (i := 6) (by kernel_rfl) rfl (fun K hK => ?_); go_simp
  refine (G'h.out _ R2).mono ?_
  rintro e V1 ⟨rfl, hv1⟩
  dsimp only
  have H3 := H2.next hv1
  have L3 := heap_below hv1 L2 (lt_of_heap L2)
  have q3 : V1.cell? ⟨lb, 0, none⟩ = some (.slice sp n cap) ∧ V1.cell? ⟨w.heap.size, 1, none⟩ = some (.int .u64 (c.key : Int)) := ⟨blk_cell L3 rfl, blk_cell H3.rows.1 rfl⟩
  refine hK.out _ _ (fun _ => q3) ?_; clear hK K; try simp only [Act.put, List.getElem_toArray, List.getElem_cons_succ, List.getElem_cons_zero, List.setIfInBounds_toArray, List.set_cons_zero, List.set_cons_succ]
  refine wpAnyF_take (i := 7) (v := .tuple #[.int .u64 (v : Int), .bool d]) rfl (by kernel_rfl) (by kernel_rfl) (by kernel_rfl) (by kernel_rfl) (fun _ _ _ h => h) (Or.inl ⟨by kernel_rfl, fun w hSw => by (try dsimp only at hSw); go_simp⟩) q3 ?_; try simp only [Act.put, List.getElem_toArray, List.getElem_cons_succ, List.getElem_cons_zero, List.setIfInBounds_toArray, List.set_cons_zero, List.set_cons_succ]
  refine wpAnyF_take (i := 8) (v := .int .u64 (v : Int)) rfl (by kernel_rfl) (by kernel_rfl) (by kernel_rfl) (by kernel_rfl) (fun _ _ _ h => h) (Or.inl ⟨by kernel_rfl, fun w hSw => by (try dsimp only at hSw); go_simp⟩) q3 ?_; try simp only [Act.put, List.getElem_toArray, List.getElem_cons_succ, List.getElem_cons_zero, List.setIfInBounds_toArray, List.set_cons_zero, List.set_cons_succ]
  refine wpAnyF_take (i := 9) (v := .bool d) rfl (by kernel_rfl) (by kernel_rfl) (by kernel_rfl) (by kernel_rfl) (fun _ _ _ h => h) (Or.inl ⟨by kernel_rfl, fun w hSw => by (try dsimp only at hSw); go_simp⟩) q3 ?_; try simp only [Act.put, List.getElem_toArray, List.getElem_cons_succ, List.getElem_cons_zero, List.setIfInBounds_toArray, List.set_cons_zero, List.set_cons_succ]
  refine wpAnyF_take (i := 10) (v := .int .u64 (v : Int)) rfl (by kernel_rfl) (by kernel_rfl) (by kernel_rfl) (by kernel_rfl) (fun _ _ _ h => h) (Or.inl ⟨by kernel_rfl, fun w hSw => by (try dsimp only at hSw); go_simp⟩) q3 ?_; try simp only [Act.put, List.getElem_toArray, List.getElem_cons_succ, List.getElem_cons_zero, List.setIfInBounds_toArray, List.set_cons_zero, List.set_cons_succ]
  refine wpAnyF_take (i := 11) (v := .bool d) rfl (by kernel_rfl) (by kernel_rfl) (by kernel_rfl) (by kernel_rfl) (fun _ _ _ h => h) (Or.inl ⟨by kernel_rfl, fun w hSw => by (try dsimp only at hSw); go_simp⟩) q3 ?_; try simp only [Act.put, List.getElem_toArray, List.getElem_cons_succ, List.getElem_cons_zero, List.setIfInBounds_toArray, List.set_cons_zero, List.set_cons_succ]
  refine wpAnyF_done (by kernel_rfl) ?_ _
  refine noPanic_normal ?_
  clear H2 L2 R2 q2 q3 hv1 L3
  have q1 : V1.cell? ⟨w.heap.size, 1, none⟩ = some (.int .u64 (c.key : Int)) := blk_cell H3.rows.1 rfl
  have q3 : V1.cell? ⟨w.heap.size, 3, none⟩ = some (.int .u64 (c.val : Int)) := blk_cell H3.rows.1 rfl
  have H4 := H3.new (clA ⟨2, c.key, c.val, 0⟩) 108
  have H3'h := Lib.hid H3
  have H4'h := Lib.hid H4
  clear H3 H4
  go_upto_region 3 with fail
  change Code.wp _ _ _ _ (V1.alloc (.cells (clA ⟨2, c.key, c.val, 0⟩) 108))
  have H4 := H4'h.out
  clear H4'h q1 q3
  generalize V1.alloc _ = W4 at H4 ⊢
  obtain ⟨kb, hkb⟩ : ∃ kb, kb = V1.heap.size := ⟨_, rfl⟩
  rw [← hkb] at H4 ⊢
  clear hkb
  have q2 : W4.cell? ⟨w.heap.size, 2, none⟩ = some (.bool c.has) := blk_cell H4.rows.2.1 rfl
  have q3 : W4.cell? ⟨w.heap.size, 3, none⟩ = some (.int .u64 (c.val : Int)) := blk_cell H4.rows.2.1 rfl
  have H4'h := Lib.hid H4
  clear H4
  go_cut [8] from 24 to 31 (fun v8 W' => v8 = .bool (!d || ((v : Int) != (c.val : Int))) ∧ W' = W4)
  case first =>
    cases d with
    | false =>
      go_wp2
      go_meet
      exact ⟨rfl, rfl⟩
    | true =>
      go_wp2
      go_meet
      exact ⟨by simp, rfl⟩
  obtain ⟨rfl, rfl⟩ := hcut
  obtain ⟨hb, hhb⟩ : ∃ hb, c.has = hb := ⟨_, rfl⟩
  rw [hhb] at q2
  have hhb'h := Lib.hid hhb
  clear hhb
  go_upto_if 34 with fail
  go_cut [8] from 35 to 41 (fun v8 W' => v8 = .bool okb ∧ Hs w [(kb, clA (callC c), 108), (w.heap.size, chA c, 46)] W')
  case first =>
    cases hb with
    | true =>
      have y := y1'h.out hhb'h.out
      have hcc : callC c = ⟨2, c.key, c.val, 0⟩ := by unfold callC; rw [if_pos hhb'h.out]
      have y'h := Lib.hid y
      have hcc'h := Lib.hid hcc
      clear y hcc
      go_wp2
      go_meet
      exact ⟨by rw [y'h.out], by rw [hcc'h.out]; exact H4'h.out⟩
    | false =>
      have y := y2'h.out hhb'h.out
      have hcc : callC c = ⟨3, c.key, c.val, 0⟩ := by unfold callC; rw [if_neg (by rw [hhb'h.out]; decide)]
      have y'h := Lib.hid y
      have hcc'h := Lib.hid hcc
      clear y hcc
      go_wp2_with fail
      have H5 := H4'h.out.drew
      refine wp_region_heldQ (fun w' => w'.cell? ⟨w.heap.size, 3, none⟩ = some (.int .u64 (c.val : Int))) 99 (by kernel_rfl) ?_
      generalize wc.drew = V5 at H5 ⊢
      have q5 : V5.cell? ⟨w.heap.size, 3, none⟩ = some (.int .u64 (c.val : Int)) := blk_cell H5.rows.2.1 rfl
      have k5 : V5.cell? ⟨kb, 0, none⟩ = some (.int .i64 2) := blk_cell H5.rows.1 rfl
      have k5f := blk_free 0 H5.rows.1
      have H6 := H5.put 0 rfl 0 (.int .i64 3)
      have q6 : (V5.setCell ⟨kb, 0, none⟩ (.int .i64 3)).cell? ⟨w.heap.size, 3, none⟩ = some (.int .u64 (c.val : Int)) := blk_cell H6.rows.2.1 rfl
      cases d with
      | true =>
        have y3 : ((c.val : Int) == 0) = okb := y'h.out.symm
        refine wpAnyF_take (i := 0) (v := .bool true) rfl (by kernel_rfl) (by kernel_rfl) (by kernel_rfl) (by kernel_rfl) (fun _ _ _ h => h) (Or.inl ⟨by kernel_rfl, fun w hSw => by (try dsimp only at hSw); go_simp⟩) q5 ?_; try simp only [Act.put, List.getElem_toArray, List.getElem_cons_succ, List.getElem_cons_zero, List.setIfInBounds_toArray, List.set_cons_zero, List.set_cons_succ]
        refine wpAnyF_take (i := 1) (v := .bool true) rfl (by kernel_rfl) (by kernel_rfl) (by kernel_rfl) (by kernel_rfl) (fun _ _ _ h => h) (Or.inl ⟨by kernel_rfl, fun w hSw => by (try dsimp only at hSw); go_simp⟩) q5 ?_; try simp only [Act.put, List.getElem_toArray, List.getElem_cons_succ, List.getElem_cons_zero, List.setIfInBounds_toArray, List.set_cons_zero, List.set_cons_succ]
        refine wpAnyF_take (i := 2) (v := .pointer (some ⟨w.heap.size, 3, none⟩)) rfl (by kernel_rfl) (by kernel_rfl) (by kernel_rfl) (by kernel_rfl) (fun _ _ _ h => h) (Or.inl ⟨by kernel_rfl, fun w hSw => by (try dsimp only at hSw); go_simp⟩) q5 ?_; try simp only [Act.put, List.getElem_toArray, List.getElem_cons_succ, List.getElem_cons_zero, List.setIfInBounds_toArray, List.set_cons_zero, List.set_cons_succ]
        refine wpAnyF_take (i := 3) (v := .int .u64 (c.val : Int)) rfl (by kernel_rfl) (by kernel_rfl) (by kernel_rfl) (by kernel_rfl) (fun _ _ _ h => h) (Or.inl ⟨by kernel_rfl, fun w hSw => by have hcc := hSw; (try dsimp only at hSw); go_simp⟩) q5 ?_; try simp only [Act.put, List.getElem_toArray, List.getElem_cons_succ, List.getElem_cons_zero, List.setIfInBounds_toArray, List.set_cons_zero, List.set_cons_succ]
        refine wpAnyF_take (i := 4) (v := .bool okb) rfl (by kernel_rfl) (by kernel_rfl) (by kernel_rfl) (by kernel_rfl) (fun _ _ _ h => h) (Or.inl ⟨by kernel_rfl, fun w hSw => by (try dsimp only at hSw); go_simp⟩) q5 ?_; try simp only [Act.put, List.getElem_toArray, List.getElem_cons_succ, List.getElem_cons_zero, List.setIfInBounds_toArray, List.set_cons_zero, List.set_cons_succ]
        refine wpAnyF_take (i := 5) (v := .bool okb) rfl (by kernel_rfl) (by kernel_rfl) (by kernel_rfl) (by kernel_rfl) (fun _ _ _ h => h) (Or.inl ⟨by kernel_rfl, fun w hSw => by (try dsimp only at hSw); go_simp⟩) q5 ?_; try simp only [Act.put, List.getElem_toArray, List.getElem_cons_succ, List.getElem_cons_zero, List.setIfInBounds_toArray, List.set_cons_zero, List.set_cons_succ]
        refine wpAnyF_take (i := 6) (v := .pointer (some ⟨kb, 0, none⟩)) rfl (by kernel_rfl) (by kernel_rfl) (by kernel_rfl) (by kernel_rfl) (fun _ _ _ h => h) (Or.inl ⟨by kernel_rfl, fun w hSw => by (try dsimp only at hSw); go_simp⟩) q5 ?_; try simp only [Act.put, List.getElem_toArray, List.getElem_cons_succ, List.getElem_cons_zero, List.setIfInBounds_toArray, List.set_cons_zero, List.set_cons_succ]
        refine wpAnyF_one (i := 7) (by kernel_rfl) rfl (fun K hK => ?_); go_simp
        refine hK.out _ _ (fun _ => q6) ?_; clear hK K; try simp only [Act.put, List.getElem_toArray, List.getElem_cons_succ, List.getElem_cons_zero, List.setIfInBounds_toArray, List.set_cons_zero, List.set_cons_succ]
        refine wpAnyF_take (i := 8) (v := .bool okb) rfl (by kernel_rfl) (by kernel_rfl) (by kernel_rfl) (by kernel_rfl) (fun _ _ _ h => h) (Or.inl ⟨by kernel_rfl, fun w hSw => by (try dsimp only at hSw); go_simp⟩) q6 ?_; try simp only [Act.put, List.getElem_toArray, List.getElem_cons_succ, List.getElem_cons_zero, List.setIfInBounds_toArray, List.set_cons_zero, List.set_cons_succ]
        refine wpAnyF_done (by kernel_rfl) ?_ _
        refine noPanic_normal ?_
        go_wp2
        go_meet
        refine ⟨rfl, ?_⟩
        rw [hcc'h.out]
        exact H6
      | false =>
        have y3 : okb = false := y'h.out
        subst y3
        refine wpAnyF_take (i := 0) (v := .bool false) rfl (by kernel_rfl) (by kernel_rfl) (by kernel_rfl) (by kernel_rfl) (fun _ _ _ h => h) (Or.inl ⟨by kernel_rfl, fun w hSw => by (try dsimp only at hSw); go_simp⟩) q5 ?_; try simp only [Act.put, List.getElem_toArray, List.getElem_cons_succ, List.getElem_cons_zero, List.setIfInBounds_toArray, List.set_cons_zero, List.set_cons_succ]
        refine wpAnyF_take (i := 1) (v := .bool false) rfl (by kernel_rfl) (by kernel_rfl) (by kernel_rfl) (by kernel_rfl) (fun _ _ _ h => h) (Or.inl ⟨by kernel_rfl, fun w hSw => by (try dsimp only at hSw); go_simp⟩) q5 ?_; try simp only [Act.put, List.getElem_toArray, List.getElem_cons_succ, List.getElem_cons_zero, List.setIfInBounds_toArray, List.set_cons_zero, List.set_cons_succ]
        refine wpAnyF_take (i := 2) (v := undef) rfl (by kernel_rfl) (by kernel_rfl) (by kernel_rfl) (by kernel_rfl) (fun _ _ _ h => h) (Or.inr ⟨by kernel_rfl, rfl⟩) q5 ?_; try simp only [Act.put, List.getElem_toArray, List.getElem_cons_succ, List.getElem_cons_zero, List.setIfInBounds_toArray, List.set_cons_zero, List.set_cons_succ]
        refine wpAnyF_take (i := 3) (v := undef) rfl (by kernel_rfl) (by kernel_rfl) (by kernel_rfl) (by kernel_rfl) (fun _ _ _ h => h) (Or.inr ⟨by kernel_rfl, rfl⟩) q5 ?_; try simp only [Act.put, List.getElem_toArray, List.getElem_cons_succ, List.getElem_cons_zero, List.setIfInBounds_toArray, List.set_cons_zero, List.set_cons_succ]
        refine wpAnyF_take (i := 4) (v := undef) rfl (by kernel_rfl) (by kernel_rfl) (by kernel_rfl) (by kernel_rfl) (fun _ _ _ h => h) (Or.inr ⟨by kernel_rfl, rfl⟩) q5 ?_; try simp only [Act.put, List.getElem_toArray, List.getElem_cons_succ, List.getElem_cons_zero, List.setIfInBounds_toArray, List.set_cons_zero, List.set_cons_succ]
        refine wpAnyF_take (i := 5) (v := .bool false) rfl (by kernel_rfl) (by kernel_rfl) (by kernel_rfl) (by kernel_rfl) (fun _ _ _ h => h) (Or.inl ⟨by kernel_rfl, fun w hSw => by (try dsimp only at hSw); go_simp⟩) q5 ?_; try simp only [Act.put, List.getElem_toArray, List.getElem_cons_succ, List.getElem_cons_zero, List.setIfInBounds_toArray, List.set_cons_zero, List.set_cons_succ]
        refine wpAnyF_take (i := 6) (v := .pointer (some ⟨kb, 0, none⟩)) rfl (by kernel_rfl) (by kernel_rfl) (by kernel_rfl) (by kernel_rfl) (fun _ _ _ h => h) (Or.inl ⟨by kernel_rfl, fun w hSw => by (try dsimp only at hSw); go_simp⟩) q5 ?_; try simp only [Act.put, List.getElem_toArray, List.getElem_cons_succ, List.getElem_cons_zero, List.setIfInBounds_toArray, List.set_cons_zero, List.set_cons_succ]
        refine wpAnyF_one (i := 7) (by kernel_rfl) rfl (fun K hK => ?_); go_simp
        refine hK.out _ _ (fun _ => q6) ?_; clear hK K; try simp only [Act.put, List.getElem_toArray, List.getElem_cons_succ, List.getElem_cons_zero, List.setIfInBounds_toArray, List.set_cons_zero, List.set_cons_succ]
        refine wpAnyF_take (i := 8) (v := .bool false) rfl (by kernel_rfl) (by kernel_rfl) (by kernel_rfl) (by kernel_rfl) (fun _ _ _ h => h) (Or.inl ⟨by kernel_rfl, fun w hSw => by (try dsimp only at hSw); go_simp⟩) q6 ?_; try simp only [Act.put, List.getElem_toArray, List.getElem_cons_succ, List.getElem_cons_zero, List.setIfInBounds_toArray, List.set_cons_zero, List.set_cons_succ]
        refine wpAnyF_done (by kernel_rfl) ?_ _
        refine noPanic_normal ?_
        go_wp2
        go_meet
        refine ⟨rfl, ?_⟩
        rw [hcc'h.out]
        exact H6
  case rest =>
    obtain ⟨rfl, H6⟩ := hcut
    have L6 := heap_below H6.old hL'h.out (lt_of_heap hL'h.out)
    have q0 : ∀ d, (wc.drewN d).cell? ⟨w.heap.size, 0, none⟩ = some (.int .i64 c.stp) := fun d => blk_cell (W := wc) H6.rows.2.1 rfl
    have q1 : ∀ d, (wc.drewN d).cell? ⟨lb, 1, none⟩ = some (.int .i64 a) := fun d => blk_cell (W := wc) L6 rfl
    have hno := hno'h.out
    rw [hokb'h.out] at hno
    cases okb with
    | false => cases hno
    | true =>
      have hd : decide (c.stp ≤ a) = false := by simp at hno ⊢; omega
      have hd2 : ¬ c.stp ≤ a := by simpa using hd
      have H6'h := Lib.hid H6
      clear H6
      go_upto_region 6 with fail
      go_quiet (fail)
      clear q0 q1 hd hd2 hno
      go_upto_region 8 with fail
      have H7 := (H6'h.out.drewN nq).drew
      have L7 : (wc.drewN nq).drew.heap[lb]? = some (.cells (lnA sp n cap a) 82 (0, 0)) := L6
      have R7 : SlK (wc.drewN nq).drew 2 sp n (prs ps) := hR'h.out.below H7.old
      refine wp_region_heldQ (fun w' => w'.heap[kb]? = some (.cells (clA (callC c)) 108 (0, 0))) 99 (by kernel_rfl) ?_
      generalize (wc.drewN nq).drew = V at H7 L7 R7 ⊢
      have q7 := H7.rows.1
      refine wpAnyF_take (i := 0) (v := .pointer (some ⟨lb, 0, none⟩)) rfl (by kernel_rfl) (by kernel_rfl) (by kernel_rfl) (by kernel_rfl) (fun _ _ _ h => h) (Or.inl ⟨by kernel_rfl, fun w hSw => by (try dsimp only at hSw); go_simp⟩) q7 ?_; try simp only [Act.put, List.getElem_toArray, List.getElem_cons_succ, List.getElem_cons_zero, List.setIfInBounds_toArray, List.set_cons_zero, List.set_cons_succ]
      refine wpAnyF_take (i := 1) (v := .pointer (some ⟨lb, 0, none⟩)) rfl (by kernel_rfl) (by kernel_rfl) (by kernel_rfl) (by kernel_rfl) (fun _ _ _ h => h) (Or.inl ⟨by kernel_rfl, fun w hSw => by (try dsimp only at hSw); go_simp⟩) q7 ?_; try simp only [Act.put, List.getElem_toArray, List.getElem_cons_succ, List.getElem_cons_zero, List.setIfInBounds_toArray, List.set_cons_zero, List.set_cons_succ]
      refine wpAnyF_take (i := 2) (v := .pointer (some ⟨lb, 0, none⟩)) rfl (by kernel_rfl) (by kernel_rfl) (by kernel_rfl) (by kernel_rfl) (fun _ _ _ h => h) (Or.inl ⟨by kernel_rfl, fun w hSw => by (try dsimp only at hSw); go_simp⟩) q7 ?_; try simp only [Act.put, List.getElem_toArray, List.getElem_cons_succ, List.getElem_cons_zero, List.setIfInBounds_toArray, List.set_cons_zero, List.set_cons_succ]
      refine wpAnyF_take (i := 3) (v := .pointer (some ⟨lb, 0, none⟩)) rfl (by kernel_rfl) (by kernel_rfl) (by kernel_rfl) (by kernel_rfl) (fun _ _ _ h => h) (Or.inl ⟨by kernel_rfl, fun w hSw => by (try dsimp only at hSw); go_simp⟩) q7 ?_; try simp only [Act.put, List.getElem_toArray, List.getElem_cons_succ, List.getElem_cons_zero, List.setIfInBounds_toArray, List.set_cons_zero, List.set_cons_succ]
      refine wpAnyF_take (i := 5) (v := .agg (clA (callC c))) rfl (by kernel_rfl) (by kernel_rfl) (by kernel_rfl) (by kernel_rfl) (fun _ _ _ h => h) (Or.inl ⟨by kernel_rfl, fun w hSw => run_load_agg (by rfl) (by rfl) hSw Try.underlying108 rfl info_cl⟩) q7 ?_; try simp only [Act.put, List.getElem_toArray, List.getElem_cons_succ, List.getElem_cons_zero, List.setIfInBounds_toArray, List.set_cons_zero, List.set_cons_succ]
      have k7 : V.cell? ⟨lb, 0, none⟩ = some (.slice sp n cap) := blk_cell L7 rfl
      refine wpAnyF_one (i := 4) (by kernel_rfl) rfl (fun K hK => ?_); go_simp
      refine hK.out _ _ (fun _ => q7) ?_; clear hK K; try simp only [Act.put, List.getElem_toArray, List.getElem_cons_succ, List.getElem_cons_zero, List.setIfInBounds_toArray, List.set_cons_zero, List.set_cons_succ]
      refine wpAnyF_one (i := 6) (by kernel_rfl) rfl (fun K hK => ?_); go_simp
      refine (DO'h.out _ R7).mono ?_
      rintro e V1 ⟨sp', n', cap', sq, nq', cq, rfl, hv1, hrow1, -⟩
      dsimp only
      have H8 := H7.next hv1
      have L8 := heap_below hv1 L7 (lt_of_heap L7)
      have q8 := H8.rows.1
      refine hK.out _ _ (fun _ => q8) ?_; clear hK K; try simp only [Act.put, List.getElem_toArray, List.getElem_cons_succ, List.getElem_cons_zero, List.setIfInBounds_toArray, List.set_cons_zero, List.set_cons_succ]
      refine wpAnyF_take (i := 7) (v := .tuple #[.agg #[.slice sp' n' cap'], .agg (anA an sq nq' cq), .int .i64 0]) rfl (by kernel_rfl) (by kernel_rfl) (by kernel_rfl) (by kernel_rfl) (fun _ _ _ h => h) (Or.inl ⟨by kernel_rfl, fun w hSw => by (try dsimp only at hSw); go_simp⟩) q8 ?_; try simp only [Act.put, List.getElem_toArray, List.getElem_cons_succ, List.getElem_cons_zero, List.setIfInBounds_toArray, List.set_cons_zero, List.set_cons_succ]
      refine wpAnyF_take (i := 8) (v := .agg #[.slice sp' n' cap']) rfl (by kernel_rfl) (by kernel_rfl) (by kernel_rfl) (by kernel_rfl) (fun _ _ _ h => h) (Or.inl ⟨by kernel_rfl, fun w hSw => by (try dsimp only at hSw); go_simp⟩) q8 ?_; try simp only [Act.put, List.getElem_toArray, List.getElem_cons_succ, List.getElem_cons_zero, List.setIfInBounds_toArray, List.set_cons_zero, List.set_cons_succ]
      refine wpAnyF_take (i := 9) (v := .agg (anA an sq nq' cq)) rfl (by kernel_rfl) (by kernel_rfl) (by kernel_rfl) (by kernel_rfl) (fun _ _ _ h => h) (Or.inl ⟨by kernel_rfl, fun w hSw => by (try dsimp only at hSw); go_simp⟩) q8 ?_; try simp only [Act.put, List.getElem_toArray, List.getElem_cons_succ, List.getElem_cons_zero, List.setIfInBounds_toArray, List.set_cons_zero, List.set_cons_succ]
      refine wpAnyF_take (i := 10) (v := .int .i64 0) rfl (by kernel_rfl) (by kernel_rfl) (by kernel_rfl) (by kernel_rfl) (fun _ _ _ h => h) (Or.inl ⟨by kernel_rfl, fun w hSw => by (try dsimp only at hSw); go_simp⟩) q8 ?_; try simp only [Act.put, List.getElem_toArray, List.getElem_cons_succ, List.getElem_cons_zero, List.setIfInBounds_toArray, List.set_cons_zero, List.set_cons_succ]
      refine wpAnyF_take (i := 11) (v := .pointer (some ⟨lb, 0, none⟩)) rfl (by kernel_rfl) (by kernel_rfl) (by kernel_rfl) (by kernel_rfl) (fun _ _ _ h => h) (Or.inl ⟨by kernel_rfl, fun w hSw => by (try dsimp only at hSw); go_simp⟩) q8 ?_; try simp only [Act.put, List.getElem_toArray, List.getElem_cons_succ, List.getElem_cons_zero, List.setIfInBounds_toArray, List.set_cons_zero, List.set_cons_succ]
      refine wpAnyF_take (i := 12) (v := .pointer (some ⟨lb, 0, none⟩)) rfl (by kernel_rfl) (by kernel_rfl) (by kernel_rfl) (by kernel_rfl) (fun _ _ _ h => h) (Or.inl ⟨by kernel_rfl, fun w hSw => by (try dsimp only at hSw); go_simp⟩) q8 ?_; try simp only [Act.put, List.getElem_toArray, List.getElem_cons_succ, List.getElem_cons_zero, List.setIfInBounds_toArray, List.set_cons_zero, List.set_cons_succ]
      have k8 : V1.cell? ⟨lb, 0, none⟩ = some (.slice sp n cap) := blk_cell L8 rfl
      have k8f := blk_free 0 L8
      have hlk : lb ≠ kb := by have := H6'h.out.low _ (List.mem_cons_self ..); simp only at this; omega
      have q9 : (V1.setCell ⟨lb, 0, none⟩ (.slice sp' n' cap')).heap[kb]? = some (.cells (clA (callC c)) 108 (0, 0)) := (Below.heap_setCell V1 ⟨lb, 0, none⟩ _ kb (Ne.symm hlk)).trans q8
      refine wpAnyF_one (i := 13) (by kernel_rfl) rfl (fun K hK => ?_); go_simp
      refine hK.out _ _ (fun _ => q9) ?_; clear hK K; try simp only [Act.put, List.getElem_toArray, List.getElem_cons_succ, List.getElem_cons_zero, List.setIfInBounds_toArray, List.set_cons_zero, List.set_cons_succ]
      refine wpAnyF_done (by kernel_rfl) ?_ _
      refine noPanic_normal ?_
      have hVs := H7.old.size
      have O8 : OnlyB lb w V1 := (OnlyB.refl lb w).new H8.old hlb
      have O9 := O8.set 0 (.slice sp' n' cap')
      have hkept : ∀ (W' : World) (i : Nat) (u : Value), RowP W' w.heap.size sp' n' cap' (behP ps c) → RowP (W'.setCell ⟨lb, i, none⟩ u) w.heap.size sp' n' cap' (behP ps c) := fun W' i u h => by
        rcases h.row with ⟨e, hc0⟩ | ⟨g, cur, e, hlo, _⟩
        · exact h.keep fun g' e' => by rw [e] at e'; cases e'
        · exact h.keep fun g' e' _ => by rw [e] at e'; cases e'; exact Below.heap_setCell _ ⟨lb, i, none⟩ u _ (show g ≠ lb by omega)
      have R9 := hkept _ 0 (.slice sp' n' cap') (hrow1.low hVs)
      have L9 : (V1.setCell ⟨lb, 0, none⟩ (.slice sp' n' cap')).heap[lb]? = some (.cells (lnA sp' n' cap' a) 82 (0, 0)) := by
        have := blk_set (i := 0) (.slice sp' n' cap') L8; exact this
      have b9 : (V1.setCell ⟨lb, 0, none⟩ (.slice sp' n' cap')).cell? ⟨w.heap.size, 0, none⟩ = some (.int .i64 c.stp) := by
        exact blk_cell ((Below.heap_setCell V1 ⟨lb, 0, none⟩ _ w.heap.size (show w.heap.size ≠ lb by omega)).trans H8.rows.2.1) rfl
      generalize World.setCell _ _ _ = W9 at O9 R9 L9 b9 ⊢
      have b9f := blk_free 1 L9
      have b91 : W9.cell? ⟨lb, 1, none⟩ = some (.int .i64 a) := blk_cell L9 rfl
      have O10 := O9.set 1 (.int .i64 c.stp)
      have R10 := hkept _ 1 (.int .i64 c.stp) R9
      have L10 : (W9.setCell ⟨lb, 1, none⟩ (.int .i64 c.stp)).heap[lb]? = some (.cells (lnA sp' n' cap' c.stp) 82 (0, 0)) := by
        have := blk_set (i := 1) (.int .i64 c.stp) L9; exact this
      clear q7 q8 q9 k7 k8 k8f hv1 hrow1 hkept H7 H8 L6 L7 L8 R7
      have O10'h := Lib.hid O10
      have R10'h := Lib.hid R10
      have L10'h := Lib.hid L10
      clear O10 R10 L10
      go_wp2
      go_ret
      exact ⟨rfl, sp', n', cap', L10'h.out, O10'h.out, R10'h.out⟩
end Go.Proofs.Ythfeiiibedmkiaa

/-
  Is it a line: Check.
-/
set_option linter.unusedSimpArgs false
set_option linter.unusedVariables false
set_option maxRecDepth 100000
namespace Go.Proofs.Ythfeiiibedmkiaa
open Go.RowKit

theorem SlK.only {lb : Nat} {w w' : World} {k : Nat} {sp : Option Addr} {n : Nat} {vals : List Value} (h : SlK w k sp n vals) (ho : OnlyB lb w w') (hne : ∀ a, sp = some a → a.block ≠ lb) : SlK w' k sp n vals :=
  h.keep fun b o hb hs hg => by
    obtain ⟨a, ha, rfl⟩ := Option.map_eq_some_iff.1 hs
    exact (ho.2 _ (hne a ha) hb).trans hg
theorem check1_no (lb nb : Nat) (sp : Option Addr) (n cap : Nat) (ps : Ps) (a : Int) (c : Ch) (w : World) (hL : w.heap[lb]? = some (.cells (lnA sp n cap a) 82 (0, 0))) (hN : w.cell? ⟨nb, 0, none⟩ = some (.func (.func 42) #[.pointer (some ⟨lb, 0, none⟩)] #[])) (hR : SlK w 2 sp n (prs ps)) (hup : upB ps = true) (hn : n ≤ 4096) (hno : (okC ps c && decide (a < c.stp)) = false) :
    Calls Try.prog 44 #[.agg (chA c), .pointer (some ⟨nb, 0, none⟩)] w fun e w' => e = .returned (.bool true) ∧ Below w.heap.size w w' := by
  have H1 := (Hs.nil w).new (chA c) 46
  obtain ⟨W, hW⟩ : ∃ W, W = w.alloc (.cells (chA c) 46) := ⟨_, rfl⟩
  rw [← hW] at H1
  have NX := next_no lb sp n cap ps a c W (heap_below H1.old hL (lt_of_heap hL)) (hR.below H1.old) hup hn hno
  have q0 : W.cell? ⟨nb, 0, none⟩ = some (.func (.func 42) #[.pointer (some ⟨lb, 0, none⟩)] #[]) := (H1.old.cell (lt_of_cell hN)).trans hN
  clear hN
  have H1'h := Lib.hid H1
  have hL'h := Lib.hid hL
  have hR'h := Lib.hid hR
  have hup'h := Lib.hid hup
  have hno'h := Lib.hid hno
  have NX'h := Lib.hid NX
  clear H1 hL hR hup hno NX
  go_enter Try.func44, Try.ntmps44
  go_upto_region 1 with fail
  rw [← hW]
  clear hW
  go_wp2_with (first | guard_target = wpList _ _ _ (Oper.mk _ (.load _ (.tmp 2)) _ _ _ _ :: _) _ _; refine wpList_load_row rfl 46 (.tmp 2) rfl (w.heap.size) rfl 46 (chA c) (0, 0) _ H1'h.out.rows.1 Try.underlying46 rfl info_ch ?_ | (go_at_call 42; refine NX'h.out.mono ?_; rintro e w2 ⟨rfl, hb2⟩))
  go_ret
  exact ⟨rfl, below_next H1'h.out.old hb2⟩
theorem check1_yes (lb nb : Nat) (sp : Option Addr) (n cap : Nat) (ps : Ps) (a : Int) (c : Ch) (w : World) (hL : w.heap[lb]? = some (.cells (lnA sp n cap a) 82 (0, 0))) (hN : w.cell? ⟨nb, 0, none⟩ = some (.func (.func 42) #[.pointer (some ⟨lb, 0, none⟩)] #[])) (hR : SlK w 2 sp n (prs ps)) (hup : upB ps = true) (hn : n ≤ 4096) (hno : (okC ps c && decide (a < c.stp)) = true) :
    Calls Try.prog 44 #[.agg (chA c), .pointer (some ⟨nb, 0, none⟩)] w fun e w' => e = .returned (.bool false) ∧ LineTo lb (behP ps c) c.stp w w' := by
  have H1 := (Hs.nil w).new (chA c) 46
  obtain ⟨W, hW⟩ : ∃ W, W = w.alloc (.cells (chA c) 46) := ⟨_, rfl⟩
  rw [← hW] at H1
  have hlb := lt_of_heap hL
  have NX := next_yes lb sp n cap ps a c W (heap_below H1.old hL (lt_of_heap hL)) (hR.below H1.old) hup hn hno
  have q0 : W.cell? ⟨nb, 0, none⟩ = some (.func (.func 42) #[.pointer (some ⟨lb, 0, none⟩)] #[]) := (H1.old.cell (lt_of_cell hN)).trans hN
  clear hN
  have H1'h := Lib.hid H1
  have hL'h := Lib.hid hL
  have hR'h := Lib.hid hR
  have hup'h := Lib.hid hup
  have hno'h := Lib.hid hno
  have NX'h := Lib.hid NX
  clear H1 hL hR hup hno NX
  go_enter Try.func44, Try.ntmps44
  go_upto_region 1 with fail
  rw [← hW]
  clear hW
  go_wp2_with (first | guard_target = wpList _ _ _ (Oper.mk _ (.load _ (.tmp 2)) _ _ _ _ :: _) _ _; refine wpList_load_row rfl 46 (.tmp 2) rfl (w.heap.size) rfl 46 (chA c) (0, 0) _ H1'h.out.rows.1 Try.underlying46 rfl info_ch ?_ | (go_at_call 42; refine NX'h.out.mono ?_; rintro e w2 ⟨rfl, sp2, n2, cap2, hL2, hO2, hR2⟩))
  go_ret
  exact ⟨rfl, sp2, n2, cap2, hL2, OnlyB.old H1'h.out.old hO2 hlb, hR2.low H1'h.out.old.size⟩
set_option maxHeartbeats 1000000 in
theorem idxCheck_any (lb nb : Nat) (sp : Option Addr) (n cap : Nat) (l : List Ch) (w : World) (h : SlK w 4 sp n (chs l)) (hne : ∀ a, sp = some a → a.block ≠ lb) (hnn : nb ≠ lb) (hn : n ≤ 4000)
    (hL : w.heap[lb]? = some (.cells (lnA none 0 0 0) 82 (0, 0))) (hN : w.cell? ⟨nb, 0, none⟩ = some (.func (.func 42) #[.pointer (some ⟨lb, 0, none⟩)] #[])) :
    Calls Try.prog 65 #[.slice sp n cap, .func (.func 44) #[] #[.pointer (some ⟨nb, 0, none⟩)]] w fun e w' => (∃ z : Int, e = .returned (.int .i64 z) ∧ decide (0 ≤ z) = !rightL l) ∧ OnlyB lb w w' := by
  have hlen := chs_len h
  have hlb := lt_of_heap hL
  have hlen'h := Lib.hid hlen
  have h'h := Lib.hid h
  have hne'h := Lib.hid hne
  have hnn'h := Lib.hid hnn
  have hL'h := Lib.hid hL
  have hN'h := Lib.hid hN
  have hlb'h := Lib.hid hlb
  clear hlen h hne hnn hL hN hlb
  go_enter Try.func65, Try.ntmps65
  go_wp2
  go_loopg [8] n (fun q i wr => ∃ (k : Nat) (s2 : Option Addr) (n2 cap2 : Nat), k + q = n ∧ i = .int .i64 k ∧ (∀ j, j < k → stepOk l j = true) ∧ wr.heap[lb]? = some (.cells (lnA s2 n2 cap2 (stpL l k)) 82 (0, 0)) ∧ SlK wr 2 s2 n2 (prs (mapL l k)) ∧ OnlyB lb w wr)
  case atStart => exact ⟨0, none, 0, 0, by omega, rfl, fun j hj => by omega, hL'h.out, SlK.nil _ _ _, OnlyB.refl _ _⟩
  case round =>
    obtain ⟨k, s2, n2, cap2, hk, rfl, hall, hL2, hR2, hO2⟩ := hrel
    have hkn : k ≤ n := by omega
    by_cases hlt : k < n
    · have hkl : k < l.length := by have := hlen'h.out; omega
      obtain ⟨b, off, rfl⟩ := slk_some h'h.out (by omega)
      obtain ⟨c1, c2, c3, c4⟩ := chs_cells (h'h.out.only hO2 hne'h.out) hkl
      have hN2 : wr.cell? ⟨nb, 0, none⟩ = some (.func (.func 42) #[.pointer (some ⟨lb, 0, none⟩)] #[]) := by
        exact cell_of_heap (p := ⟨nb, 0, none⟩) (hO2.2 nb hnn'h.out (lt_of_cell hN'h.out)) hN'h.out
      have hn2 : n2 ≤ 4096 := by have h1 := prs_len hR2; have h2 := len_mapL l k; omega
      have hi1 : (k : Int) < (n : Int) := by omega
      have h0k : (0 : Int) ≤ (k : Int) := by omega
      cases hv : stepOk l k with
      | false =>
        have hr := right_no hkl hv
        have C := check1_no lb nb s2 n2 cap2 (mapL l k) (stpL l k) (nthC l k) wr hL2 hN2 hR2 (up_mapL l k) hn2 hv
        unfold chA at C
        generalize (nthC l k).stp = x0 at *
        generalize (nthC l k).key = x1 at *
        generalize (nthC l k).has = x2 at *
        generalize (nthC l k).val = x3 at *
        have hk'h := Lib.hid hk
        have hall'h := Lib.hid hall
        have C'h := Lib.hid C
        have hr'h := Lib.hid hr
        have hv'h := Lib.hid hv
        have hkl'h := Lib.hid hkl
        have hL2'h := Lib.hid hL2
        have hR2'h := Lib.hid hR2
        have hO2'h := Lib.hid hO2
        have hN2'h := Lib.hid hN2
        clear hk hall C hr hv hkl hL2 hR2 hO2 hN2
        go_wp2_with (first | (go_at_call 44; refine C'h.out.mono ?_; rintro e w5 ⟨rfl, hb5⟩))
        go_ret
        exact ⟨⟨k, rfl, by rw [hr'h.out]; simp⟩, hO2'h.out.new hb5 hlb'h.out⟩
      | true =>
        have hall' : ∀ j, j < k + 1 → stepOk l j = true := fun j hj => by
          by_cases e : j = k
          · rw [e]; exact hv
          · exact hall j (by omega)
        have C := check1_yes lb nb s2 n2 cap2 (mapL l k) (stpL l k) (nthC l k) wr hL2 hN2 hR2 (up_mapL l k) hn2 hv
        unfold chA at C
        rw [← mapL_succ hkl] at C
        have hs' := stpL_succ l k
        generalize (nthC l k).stp = x0 at *
        generalize (nthC l k).key = x1 at *
        generalize (nthC l k).has = x2 at *
        generalize (nthC l k).val = x3 at *
        have hk'h := Lib.hid hk
        have hall'h := Lib.hid hall
        have C'h := Lib.hid C
        have hv'h := Lib.hid hv
        have hkl'h := Lib.hid hkl
        have hall''h := Lib.hid hall'
        have hL2'h := Lib.hid hL2
        have hR2'h := Lib.hid hR2
        have hO2'h := Lib.hid hO2
        have hN2'h := Lib.hid hN2
        have hs''h := Lib.hid hs'
        clear hk hall C hv hkl hall' hL2 hR2 hO2 hN2 hs'
        go_wp2_with (first | (go_at_call 44; refine C'h.out.mono ?_; rintro e w5 ⟨rfl, s5, n5, cap5, hL5, hO5, hR5⟩))
        go_roundg (gk - 1)
        case measure => have := hk'h.out; omega
        case rel => exact ⟨k + 1, s5, n5, cap5, by have := hk'h.out; omega, by go_num, hall''h.out, by rw [hs''h.out]; exact hL5, hR5.sl, hO2'h.out.trans hO5⟩
    · have hr := right_yes (l := l) (fun j hj => hall j (by have := hlen'h.out; omega))
      have hd : ¬ ((k : Int) < (n : Int)) := by omega
      have hk'h := Lib.hid hk
      have hall'h := Lib.hid hall
      have hr'h := Lib.hid hr
      have hO2'h := Lib.hid hO2
      have hL2'h := Lib.hid hL2
      have hR2'h := Lib.hid hR2
      clear hk hall hr hO2 hL2 hR2
      go_wp2
      go_ret
      exact ⟨⟨-1, rfl, by rw [hr'h.out]; decide⟩, hO2'h.out⟩
theorem contCheck_any (lb nb : Nat) (sp : Option Addr) (n cap : Nat) (l : List Ch) (w : World) (h : SlK w 4 sp n (chs l)) (hne : ∀ a, sp = some a → a.block ≠ lb) (hnn : nb ≠ lb) (hn : n ≤ 4000)
    (hL : w.heap[lb]? = some (.cells (lnA none 0 0 0) 82 (0, 0))) (hN : w.cell? ⟨nb, 0, none⟩ = some (.func (.func 42) #[.pointer (some ⟨lb, 0, none⟩)] #[])) :
    Calls Try.prog 43 #[.slice sp n cap, .func (.func 44) #[] #[.pointer (some ⟨nb, 0, none⟩)]] w fun e w' => e = .returned (.bool (!rightL l)) ∧ OnlyB lb w w' := by
  have I := idxCheck_any lb nb sp n cap l w h hne hnn hn hL hN
  generalize rightL l = r at *
  have I'h := Lib.hid I
  have h'h := Lib.hid h
  have hne'h := Lib.hid hne
  have hnn'h := Lib.hid hnn
  have hL'h := Lib.hid hL
  have hN'h := Lib.hid hN
  clear I h hne hnn hL hN
  go_enter Try.func43, Try.ntmps43
  go_wp2_with (first | (go_at_call 65; refine I'h.out.mono ?_; rintro e w2 ⟨⟨z, rfl, hz⟩, hO2⟩))
  go_ret
  exact ⟨rfl, hO2⟩
def chkE (l : List Ch) : Nat := if rightL l = true then 0 else 380
theorem rcheck_any (sp : Option Addr) (n cap : Nat) (l : List Ch) (w : World) (h : SlK w 4 sp n (chs l)) (hs : ∀ a, sp = some a → a.block < w.heap.size) (hn : n ≤ 4000) :
    Calls Try.prog 12 #[.slice sp n cap] w fun e w' => e = .returned (.int .i64 (chkE l)) ∧ Below w.heap.size w w' := by
  have H1 := ((Hs.nil w).new (lnA none 0 0 0) 82).new #[.func (.func 42) #[.pointer (some ⟨w.heap.size, 0, none⟩)] #[]] 79
  rw [World.size_alloc] at H1
  obtain ⟨W, hW⟩ : ∃ W, W = (w.alloc (.cells (lnA none 0 0 0) 82)).alloc (.cells #[.func (.func 42) #[.pointer (some ⟨w.heap.size, 0, none⟩)] #[]] 79) := ⟨_, rfl⟩
  rw [← hW] at H1
  have C := contCheck_any w.heap.size (w.heap.size + 1) sp n cap l W (h.below H1.old) (fun a ha => by have := hs a ha; omega) (by omega) hn H1.rows.2.1 (blk_cell H1.rows.1 rfl)
  have e : chkE l = if rightL l = true then 0 else 380 := rfl
  generalize chkE l = z at *
  cases hr : rightL l with
  | true =>
    rw [hr] at C e
    obtain rfl : z = 0 := e
    have H1'h := Lib.hid H1
    have C'h := Lib.hid C
    have h'h := Lib.hid h
    have hs'h := Lib.hid hs
    have hr'h := Lib.hid hr
    have hW'h := Lib.hid hW
    clear H1 C h hs hr hW
    go_enter Try.func12, Try.ntmps12
    go_upto_region 2 with fail
    change Code.wp _ _ _ _ ((w.alloc (.cells (lnA none 0 0 0) 82)).alloc (.cells #[.func (.func 42) #[.pointer (some ⟨w.heap.size, 0, none⟩)] #[]] 79))
    rw [← hW'h.out]
    go_wp2_with (first | (go_at_call 43; refine C'h.out.mono ?_; rintro e w2 ⟨rfl, hO2⟩))
    go_ret
    exact ⟨rfl, H1'h.out.old.trans (hO2.1 _ (Nat.le_refl _))⟩
  | false =>
    rw [hr] at C e
    obtain rfl : z = 380 := e
    have H1'h := Lib.hid H1
    have C'h := Lib.hid C
    have h'h := Lib.hid h
    have hs'h := Lib.hid hs
    have hr'h := Lib.hid hr
    have hW'h := Lib.hid hW
    clear H1 C h hs hr hW
    go_enter Try.func12, Try.ntmps12
    go_upto_region 2 with fail
    change Code.wp _ _ _ _ ((w.alloc (.cells (lnA none 0 0 0) 82)).alloc (.cells #[.func (.func 42) #[.pointer (some ⟨w.heap.size, 0, none⟩)] #[]] 79))
    rw [← hW'h.out]
    go_wp2_with (first | (go_at_call 43; refine C'h.out.mono ?_; rintro e w2 ⟨rfl, hO2⟩))
    go_ret
    exact ⟨rfl, H1'h.out.old.trans (hO2.1 _ (Nat.le_refl _))⟩
end Go.Proofs.Ythfeiiibedmkiaa

/-
  Times; why a line, or a time, is none.
-/
set_option linter.unusedSimpArgs false
set_option linter.unusedVariables false
set_option maxRecDepth 100000
namespace Go.Proofs.Ythfeiiibedmkiaa
open Go.RowKit

theorem info_tm : (Try.prog.info? 43).map (·.size) = some 2 := by kernel_rfl
def tmA (f t : Int) : Array Value := #[.int .i64 f, .int .i64 t]
def spanB (f t : Int) : Bool := decide (0 ≤ f) && decide (f ≤ t)
theorem rtime_any (f t : Int) (w : World) : Calls Try.prog 66 #[.agg (tmA f t)] w fun e w' => e = .returned (.bool (spanB f t)) ∧ Below w.heap.size w w' := by
  have H1 := (Hs.nil w).new (tmA f t) 43
  obtain ⟨W, hW⟩ : ∃ W, W = w.alloc (.cells (tmA f t) 43) := ⟨_, rfl⟩
  rw [← hW] at H1
  have q0 : W.cell? ⟨w.heap.size, 0, none⟩ = some (.int .i64 f) := blk_cell H1.rows.1 rfl
  have q1 : W.cell? ⟨w.heap.size, 1, none⟩ = some (.int .i64 t) := blk_cell H1.rows.1 rfl
  have e : spanB f t = (decide (0 ≤ f) && decide (f ≤ t)) := rfl
  by_cases h0 : 0 ≤ f
  · by_cases h1 : f ≤ t
    · have e : spanB f t = true := by rw [e]; simp [h0, h1]
      rw [e]
      have H1'h := Lib.hid H1
      have e'h := Lib.hid e
      clear H1 e
      go_enter Try.func66, Try.ntmps66
      go_upto_region 1 with fail
      rw [← hW]
      clear hW
      go_wp2
      go_ret
      exact ⟨rfl, H1'h.out.old⟩
    · have e : spanB f t = false := by rw [e]; simp [h1]
      rw [e]
      have H1'h := Lib.hid H1
      have e'h := Lib.hid e
      clear H1 e
      go_enter Try.func66, Try.ntmps66
      go_upto_region 1 with fail
      rw [← hW]
      clear hW
      go_wp2
      go_ret
      exact ⟨rfl, H1'h.out.old⟩
  · have e : spanB f t = false := by rw [e]; simp [h0]
    rw [e]
    have H1'h := Lib.hid H1
    have e'h := Lib.hid e
    clear H1 e
    go_enter Try.func66, Try.ntmps66
    go_upto_region 1 with fail
    rw [← hW]
    clear hW
    go_wp2
    go_ret
    exact ⟨rfl, H1'h.out.old⟩
def failE (l : List Ch) (f t : Int) : Nat := if rightL l = true then (if spanB f t = true then 0 else 2) else 380
theorem rfails_any (sp : Option Addr) (n cap : Nat) (l : List Ch) (f t : Int) (w : World) (h : SlK w 4 sp n (chs l)) (hs : ∀ a, sp = some a → a.block < w.heap.size) (hn : n ≤ 4000) :
    Calls Try.prog 45 #[.slice sp n cap, .agg (tmA f t)] w fun e w' => e = .returned (.int .i64 (failE l f t)) ∧ Below w.heap.size w w' := by
  have H1 := (Hs.nil w).new (tmA f t) 43
  obtain ⟨W, hW⟩ : ∃ W, W = w.alloc (.cells (tmA f t) 43) := ⟨_, rfl⟩
  rw [← hW] at H1
  have C := rcheck_any sp n cap l W (h.below H1.old) (fun a ha => by have := hs a ha; have := H1.old.size; omega) hn
  have T := fun w => rtime_any f t w
  have ec : chkE l = if rightL l = true then 0 else 380 := rfl
  have ef : failE l f t = if rightL l = true then (if spanB f t = true then 0 else 2) else 380 := rfl
  generalize chkE l = z at *
  generalize failE l f t = y at *
  cases hr : rightL l with
  | false =>
    rw [hr] at ec ef
    obtain rfl : z = 380 := ec
    obtain rfl : y = 380 := ef
    have H1'h := Lib.hid H1
    have C'h := Lib.hid C
    have T'h := Lib.hid T
    have h'h := Lib.hid h
    have hs'h := Lib.hid hs
    have hr'h := Lib.hid hr
    clear H1 C T h hs hr
    go_enter Try.func45, Try.ntmps45
    go_upto_region 1 with fail
    rw [← hW]
    clear hW
    go_wp2_with (first | (go_at_call 12; refine C'h.out.mono ?_; rintro e w2 ⟨rfl, hb2⟩))
    go_ret
    exact ⟨rfl, below_next H1'h.out.old hb2⟩
  | true =>
    rw [hr] at ec ef
    obtain rfl : z = 0 := ec
    cases hsp : spanB f t with
    | true =>
      rw [hsp] at ef T
      obtain rfl : y = 0 := ef
      have H1'h := Lib.hid H1
      have C'h := Lib.hid C
      have T'h := Lib.hid T
      have h'h := Lib.hid h
      have hs'h := Lib.hid hs
      have hr'h := Lib.hid hr
      have hsp'h := Lib.hid hsp
      clear H1 C T h hs hr hsp
      go_enter Try.func45, Try.ntmps45
      go_upto_region 1 with fail
      rw [← hW]
      clear hW
      go_upto_region 3 with (first | (go_at_call 12; refine C'h.out.mono ?_; rintro e w2 ⟨rfl, hb2⟩))
      have H2 := H1'h.out.next hb2
      have H2'h := Lib.hid H2
      clear H2
      go_wp2_with (first | (guard_target = wpList _ _ _ (Oper.mk _ (.load _ (.tmp 3)) _ _ _ _ :: _) _ _; refine wpList_load_row rfl 43 (.tmp 3) rfl w.heap.size rfl 43 (tmA f t) (0, 0) _ H2'h.out.rows.1 Try.underlying43 rfl info_tm ?_) | (go_at_call 66; refine (T'h.out _).mono ?_; rintro e w3 ⟨rfl, hb3⟩))
      go_ret
      exact ⟨rfl, (H2'h.out.next hb3).old⟩
    | false =>
      rw [hsp] at ef T
      obtain rfl : y = 2 := ef
      have H1'h := Lib.hid H1
      have C'h := Lib.hid C
      have T'h := Lib.hid T
      have h'h := Lib.hid h
      have hs'h := Lib.hid hs
      have hr'h := Lib.hid hr
      have hsp'h := Lib.hid hsp
      clear H1 C T h hs hr hsp
      go_enter Try.func45, Try.ntmps45
      go_upto_region 1 with fail
      rw [← hW]
      clear hW
      go_upto_region 3 with (first | (go_at_call 12; refine C'h.out.mono ?_; rintro e w2 ⟨rfl, hb2⟩))
      have H2 := H1'h.out.next hb2
      have H2'h := Lib.hid H2
      clear H2
      go_wp2_with (first | (guard_target = wpList _ _ _ (Oper.mk _ (.load _ (.tmp 3)) _ _ _ _ :: _) _ _; refine wpList_load_row rfl 43 (.tmp 3) rfl w.heap.size rfl 43 (tmA f t) (0, 0) _ H2'h.out.rows.1 Try.underlying43 rfl info_tm ?_) | (go_at_call 66; refine (T'h.out _).mono ?_; rintro e w3 ⟨rfl, hb3⟩))
      go_ret
      exact ⟨rfl, (H2'h.out.next hb3).old⟩
end Go.Proofs.Ythfeiiibedmkiaa

/-
  The maps of a line, in a time: an iterator.
-/
set_option linter.unusedSimpArgs false
set_option linter.unusedVariables false
set_option maxRecDepth 100000
namespace Go.Proofs.Ythfeiiibedmkiaa
open Go.RowKit

/-- A map that is told: it reads as ps, in memory of the iterator. -/
def MapV (ps : Ps) (v : Array Value) (S : Nat → Prop) (W : World) : Prop :=
  ∃ sp n cap, v = #[.agg #[.slice sp n cap]] ∧ SlK W 2 sp n (prs ps) ∧ (sp = none → cap = 0) ∧ n ≤ cap ∧ (∀ b, sp.map (·.block) = some b → S b)
theorem MapV.keep {ps : Ps} {v : Array Value} {S S' : Nat → Prop} {W W' : World} (h : MapV ps v S W) (hS : ∀ b, S b → S' b) (hk : ∀ b, b < W.heap.size → S b → W'.heap[b]? = W.heap[b]?) : MapV ps v S' W' := by
  obtain ⟨sp, n, cap, e, hs, h0, hle, hb⟩ := h
  exact ⟨sp, n, cap, e, hs.keep fun b o hlt hsp ho => (hk b hlt (hb b hsp)).trans ho, h0, hle, fun b h => hS b (hb b h)⟩
def MapsY (l : List Ch) (k0 : Nat) (vs : Vs) (S : Nat → Prop) (W : World) : Prop := ∀ j v, vs[j]? = some v → MapV (mapL l (k0 + j)) v S W
theorem MapsY.keeps (l : List Ch) (k0 : Nat) (RO : Nat → Prop) : KeepsY RO (MapsY l k0) := fun vs S W W' h hk j v hv => (h j v hv).keep (fun _ h => h) fun b hb hS => hk.block b hb (.inr hS)
theorem MapsY.snoc {l : List Ch} {k0 : Nat} {vs : Vs} {v : Array Value} {S S' : Nat → Prop} {W W' : World} (h : MapsY l k0 vs S W) (hS : ∀ b, S b → S' b) (hk : ∀ b, b < W.heap.size → S b → W'.heap[b]? = W.heap[b]?) (hv : MapV (mapL l (k0 + vs.length)) v S' W') : MapsY l k0 (vs ++ [v]) S' W' := by
  intro j u hu
  rcases Nat.lt_trichotomy j vs.length with hlt | e | hlt
  · rw [List.getElem?_append_left hlt] at hu; exact (h j u hu).keep hS hk
  · subst e; rw [List.getElem?_append_right (Nat.le_refl _), Nat.sub_self] at hu; simp at hu; rw [← hu]; exact hv
  · rw [List.getElem?_append_right (by omega)] at hu
    have : j - vs.length = (j - vs.length - 1) + 1 := by omega
    rw [this] at hu; simp at hu
theorem MapsY.weak {l : List Ch} {k0 : Nat} {vs : Vs} {S S' : Nat → Prop} {W : World} (h : MapsY l k0 vs S W) (hS : ∀ b, S b → S' b) : MapsY l k0 vs S' W := fun j v hv => (h j v hv).keep hS fun _ _ _ => rfl
theorem MapsY.keep' {l : List Ch} {k0 : Nat} {vs : Vs} {S : Nat → Prop} {W W' : World} (h : MapsY l k0 vs S W) (hk : ∀ b, b < W.heap.size → S b → W'.heap[b]? = W.heap[b]?) : MapsY l k0 vs S W' := fun j v hv => (h j v hv).keep (fun _ h => h) hk
/-- What the iterator reads, and leaves alone. -/
def mapsRO (bl bt : Nat) (sp : Option Addr) (n : Nat) : Nat → Prop := fun b => b = bl ∨ b = bt ∨ (0 < n ∧ sp.map (·.block) = some b)
structure MapsR (bl bt : Nat) (sp : Option Addr) (n cap : Nat) (l : List Ch) (f t : Int) (W : World) : Prop where
  s : W.heap[bl]? = some (.cells #[.slice sp n cap] 22 (0, 0))
  t : W.heap[bt]? = some (.cells (tmA f t) 43 (0, 0))
  c : SlK W 4 sp n (chs l)
theorem MapsR.keep {bl bt : Nat} {sp : Option Addr} {n cap : Nat} {l : List Ch} {f t : Int} {W W' : World} (h : MapsR bl bt sp n cap l f t W) (hk : ∀ b, b < W.heap.size → mapsRO bl bt sp n b → W'.heap[b]? = W.heap[b]?) : MapsR bl bt sp n cap l f t W' := by
  refine ⟨(hk bl (lt_of_heap h.s) (.inl rfl)).trans h.s, (hk bt (lt_of_heap h.t) (.inr (.inl rfl))).trans h.t, ?_⟩
  by_cases h0 : n = 0
  · exact ⟨h.c.1, h.c.2.1, .inl h0⟩
  · exact h.c.keep fun b o hb e ho => (hk b hb (.inr (.inr ⟨by omega, e⟩))).trans ho
theorem MapsR.lt {bl bt : Nat} {sp : Option Addr} {n cap : Nat} {l : List Ch} {f t : Int} {W : World} (h : MapsR bl bt sp n cap l f t W) : ∀ b, mapsRO bl bt sp n b → b < W.heap.size := by
  rintro b (rfl | rfl | ⟨h0, e⟩)
  · exact lt_of_heap h.s
  · exact lt_of_heap h.t
  · obtain ⟨b', off, rfl, hc⟩ := h.c.some' h0
    cases e
    have h1 := h.c.1
    have hne : chs l ≠ [] := fun e => by rw [e] at h1; simp at h1; omega
    obtain ⟨u, us, hu⟩ := List.exists_cons_of_ne_nil hne
    have := lt_of_cell (hc 0 u (by rw [hu]; rfl))
    exact this
/-- The line that is gone along, behind k changes. -/
structure LineS (lb : Nat) (l : List Ch) (k : Nat) (S : Nat → Prop) (W : World) : Prop where
  mine : S lb
  row : ∃ sp n cap, W.heap[lb]? = some (.cells (lnA sp n cap (stpL l k)) 82 (0, 0)) ∧ SlK W 2 sp n (prs (mapL l k)) ∧ (sp = none → cap = 0) ∧ n ≤ cap ∧ (∀ b, sp.map (·.block) = some b → S b ∧ b ≠ lb)
theorem LineS.lt {lb : Nat} {l : List Ch} {k : Nat} {S : Nat → Prop} {W : World} (h : LineS lb l k S W) : lb < W.heap.size := by
  obtain ⟨sp, n, cap, h1, _⟩ := h.row; exact lt_of_heap h1
theorem LineS.keep {lb : Nat} {l : List Ch} {k : Nat} {S : Nat → Prop} {W W' : World} (h : LineS lb l k S W) (hk : ∀ b, b < W.heap.size → S b → W'.heap[b]? = W.heap[b]?) : LineS lb l k S W' := by
  obtain ⟨h1, sp, n, cap, h2, h3, h4, h5, h6⟩ := h
  exact ⟨h1, sp, n, cap, (hk lb (lt_of_heap h2) h1).trans h2, h3.keep fun b o hlt hsp ho => (hk b hlt (h6 b hsp).1).trans ho, h4, h5, h6⟩
/-- One step of next: what it does to others. -/
theorem foreign_next {lb : Nat} {ps : Ps} {a : Int} {S : Nat → Prop} {wr w w' : World} (hb : Below wr.heap.size wr w) (h : LineTo lb ps a w w') (hS : S lb) (hl : lb < wr.heap.size) : ∃ sp n cap, w'.heap[lb]? = some (.cells (lnA sp n cap a) 82 (0, 0)) ∧ RowP w' w.heap.size sp n cap ps ∧ Foreign S (fun b => S b ∨ sp.map (·.block) = some b) wr w' ∧ (∀ b, b ≠ lb → b < wr.heap.size → w'.heap[b]? = wr.heap[b]?) ∧ (∀ b, sp.map (·.block) = some b → b ≠ lb) := by
  obtain ⟨sp, n, cap, h1, h2, h3⟩ := h
  have hb0 := h2.1 0 (Nat.zero_le _)
  have hz := hb.size
  have hne : ∀ b, sp.map (·.block) = some b → b ≠ lb := fun b hb => by
    rcases h3.row with ⟨e, _⟩ | ⟨g, cur, e, hlo, _⟩
    · rw [e] at hb; cases hb
    · rw [e] at hb; cases hb; simp only; omega
  refine ⟨sp, n, cap, h1, h3, ?_, fun b hne hlt => (h2.2 b hne (by omega)).trans (hb.block b hlt), hne⟩
  refine ⟨hb0.os.trans hb.os, hb0.tape.trans hb.tape, hb0.output.trans hb.output, Nat.le_trans hz hb0.size, fun b hb => .inl hb, ?_, fun b hlt hn => (h2.2 b (fun e => hn (e ▸ hS)) (by omega)).trans (hb.block b hlt)⟩
  rintro b (hb | hb)
  · exact .inl hb
  · rcases h3.row with ⟨e, _⟩ | ⟨g, cur, e, hlo, hg, _⟩
    · rw [e] at hb; cases hb
    · rw [e] at hb; cases hb
      exact .inr ⟨Nat.le_trans hz hlo, lt_of_heap hg⟩
theorem LineS.of_row {lb : Nat} {l : List Ch} {k : Nat} {S : Nat → Prop} {B : Nat} {sp : Option Addr} {n cap : Nat} {W : World} (h1 : W.heap[lb]? = some (.cells (lnA sp n cap (stpL l k)) 82 (0, 0))) (h2 : RowP W B sp n cap (mapL l k)) (hS : S lb) (hne : ∀ b, sp.map (·.block) = some b → b ≠ lb) : LineS lb l k (fun b => S b ∨ sp.map (·.block) = some b) W :=
  ⟨.inl hS, sp, n, cap, h1, h2.sl, h2.nil0, h2.le, fun b h => ⟨.inr h, hne b h⟩⟩
theorem foreign_alloc {S : Nat → Prop} (w : World) (o : Obj) : Foreign S (fun b => S b ∨ b = w.heap.size) w (w.alloc o) := by
  have hb := (Below.refl w.heap.size w).alloc (Nat.le_refl _) o
  refine ⟨hb.os, hb.tape, hb.output, hb.size, fun b h => .inl h, fun b h => ?_, fun b hlt _ => hb.block b hlt⟩
  rcases h with h | rfl
  · exact .inl h
  · exact .inr ⟨Nat.le_refl _, by rw [World.size_alloc]; omega⟩
/-- Where the changes from k on stand. -/
def ElemAt (bl bt : Nat) (sp : Option Addr) (n cap : Nat) (l : List Ch) (f t : Int) (k : Nat) (A : Option Addr) : Prop :=
  ∀ W', MapsR bl bt sp n cap l f t W' → ∀ j, j < n - k → ∃ b off, A = some ⟨b, off, none⟩ ∧ W'.cell? ⟨b, off + j * 4, none⟩ = some (.int .i64 (nthC l (k + j)).stp) ∧ W'.cell? ⟨b, off + j * 4 + 1, none⟩ = some (.int .u64 ((nthC l (k + j)).key : Int)) ∧
    W'.cell? ⟨b, off + j * 4 + 2, none⟩ = some (.bool (nthC l (k + j)).has) ∧ W'.cell? ⟨b, off + j * 4 + 3, none⟩ = some (.int .u64 ((nthC l (k + j)).val : Int))
set_option maxHeartbeats 4000000 in
theorem maps_it (bl bt : Nat) (sp : Option Addr) (n cap : Nat) (l : List Ch) (f t : Int) (w : World) (hR : MapsR bl bt sp n cap l f t w) (hr : rightL l = true) (hft : f ≤ t) (hn : n ≤ 4000) (hnl : sp = none → cap = 0) (hle : n ≤ cap) :
    SeqItH Fence.wide 0 Try.prog 67 #[.pointer (some ⟨bl, 0, none⟩), .pointer (some ⟨bt, 0, none⟩)] (cntL l t - cntL l f + 1) (MapsY l (cntL l f)) (fun _ => False) (mapsRO bl bt sp n) w := by
  intro ly J Jx W hJ hJx hW hY h0
  have hRW : MapsR bl bt sp n cap l f t W := hR.keep fun b hb _ => hW.block b hb
  have hlen : n = l.length := chs_len hR.c
  have hk0 := cntL_le l f
  have hk1 := cntL_le l t
  have hk01 := cntL_mono l hft
  have hf1 := foreign_alloc (S := fun _ => False) W (.cells (lnA none 0 0 0) 82)
  obtain ⟨S1, hS1⟩ : ∃ S1 : Nat → Prop, S1 = fun b => False ∨ b = W.heap.size := ⟨_, rfl⟩
  have hJ1 : J [] S1 (W.alloc (.cells (lnA none 0 0 0) 82)) := by rw [hS1]; exact hJ [] _ _ _ _ h0 hf1
  have hb1 : Below W.heap.size W (W.alloc (.cells (lnA none 0 0 0) 82)) := (Below.refl _ _).alloc (Nat.le_refl _) _
  have hR1 : MapsR bl bt sp n cap l f t (W.alloc (.cells (lnA none 0 0 0) 82)) := hRW.keep fun b hb _ => hb1.block b hb
  have hro1 : ∀ b, mapsRO bl bt sp n b → ¬ S1 b := by
    rw [hS1]
    intro b hb h
    rcases h with h | h
    · exact h
    · have := hRW.lt b hb; omega
  have hL1 : LineS W.heap.size l 0 S1 (W.alloc (.cells (lnA none 0 0 0) 82)) := by
    rw [hS1]
    exact ⟨.inr rfl, none, 0, 0, World.alloc_heap_new _ _, SlK.nil _ _ _, fun _ => rfl, Nat.le_refl _, fun b h => by cases h⟩
  clear hS1
  clear h0 hf1 hb1
  have hR'h := Lib.hid hR
  have hW'h := Lib.hid hW
  have hRW'h := Lib.hid hRW
  have hlen'h := Lib.hid hlen
  have hk0'h := Lib.hid hk0
  have hk1'h := Lib.hid hk1
  have hk01'h := Lib.hid hk01
  have hJ1'h := Lib.hid hJ1
  have hR1'h := Lib.hid hR1
  have hro1'h := Lib.hid hro1
  have hL1'h := Lib.hid hL1
  have hr'h := Lib.hid hr
  have hft'h := Lib.hid hft
  have hJ'h := Lib.hid hJ
  have hJx'h := Lib.hid hJx
  have hnl'h := Lib.hid hnl
  clear hR hW hRW hlen hk0 hk1 hk01 hJ1 hR1 hro1 hL1 hr hft hJ hJx hnl
  refine callsIn_of_wp Try.func67 rfl trivial ?_ rfl
  simp only [Try.ntmps67, List.size_toArray, List.length_cons, List.length_nil, Nat.reduceAdd, Nat.reduceSub, Array.replicate_succ, Array.replicate_zero, List.push_toArray, List.append_toArray, List.nil_append, List.cons_append]
  gi_wp2
  refine wpIn_scope_straight ?_
  gi_wp2
  change Code.wpIn _ _ _ _ _ _ (W.alloc (.cells (lnA none 0 0 0) 82))
  have hJ1 := hJ1'h.out
  have hR1 := hR1'h.out
  have hro1 := hro1'h.out
  have hL1 := hL1'h.out
  obtain ⟨lb, hlb⟩ : ∃ lb, lb = W.heap.size := ⟨_, rfl⟩
  rw [← hlb] at hL1 ⊢
  generalize W.alloc _ = W1 at hJ1 hR1 hL1 ⊢
  clear hJ1'h hR1'h hro1'h hL1'h hlb hR'h hW'h hRW'h
  have hJ1'h := Lib.hid hJ1
  have hR1'h := Lib.hid hR1
  have hro1'h := Lib.hid hro1
  have hL1'h := Lib.hid hL1
  clear hJ1 hR1 hro1 hL1
  gi_loopg [5] (cntL l f) (fun q i wr => ∃ (k : Nat) (S : Nat → Prop), k + q = cntL l f ∧ i = .int .i64 k ∧ LineS lb l k S wr ∧ J [] S wr ∧ MapsR bl bt sp n cap l f t wr ∧ (∀ b, mapsRO bl bt sp n b → ¬ S b))
  case atStart => exact ⟨0, S1, by omega, rfl, hL1'h.out, hJ1'h.out, hR1'h.out, hro1'h.out⟩
  case round =>
    obtain ⟨k, S, hk, rfl, hL, hJr, hRr, hro⟩ := hrel
    obtain ⟨s2, n2, cap2, hL2, hR2, hc2, hle2, hs2⟩ := hL.row
    have hn2 : n2 ≤ 4096 := by have h1 := prs_len hR2; have h2 := len_mapL l k; have := hlen'h.out; have := hk0'h.out; omega
    have x1 : ∀ d, (wr.drewN d).cell? ⟨bl, 0, none⟩ = some (.slice sp n cap) := fun d => blk_cell (W := wr) hRr.s rfl
    have x2 : ∀ d, (wr.drewN d).cell? ⟨bt, 0, none⟩ = some (.int .i64 f) := fun d => blk_cell (W := wr) hRr.t rfl
    have h0k : (0 : Int) ≤ (k : Int) := by omega
    by_cases hkf : k < cntL l f
    · have hkl : k < l.length := by have := hk0'h.out; omega
      have hin := cntL_in hkf
      obtain ⟨b, off, rfl⟩ := slk_some hRr.c (by have := hlen'h.out; omega)
      obtain ⟨c1, c2, c3, c4⟩ := chs_cells hRr.c hkl
      have NX := fun d => next_yes lb s2 n2 cap2 (mapL l k) (stpL l k) (nthC l k) (wr.drewN d) hL2 hR2 (up_mapL l k) hn2 (right_at hr'h.out hkl)
      unfold chA at NX
      rw [← mapL_succ hkl] at NX
      have hs' := stpL_succ l k
      generalize (nthC l k).stp = y0 at *
      generalize (nthC l k).key = y1 at *
      generalize (nthC l k).has = y2 at *
      generalize (nthC l k).val = y3 at *
      have d1 : ∀ d, (wr.drewN d).cell? ⟨b, off + k * 4, none⟩ = some (.int .i64 y0) := fun d => c1
      have d2 : ∀ d, (wr.drewN d).cell? ⟨b, off + k * 4 + 1, none⟩ = some (.int .u64 (y1 : Int)) := fun d => c2
      have d3 : ∀ d, (wr.drewN d).cell? ⟨b, off + k * 4 + 2, none⟩ = some (.bool y2) := fun d => c3
      have d4 : ∀ d, (wr.drewN d).cell? ⟨b, off + k * 4 + 3, none⟩ = some (.int .u64 (y3 : Int)) := fun d => c4
      have hi1 : (k : Int) < (n : Int) := by have := hlen'h.out; omega
      have hi2 : decide ((k : Int) < (n : Int)) = true := by simpa using hi1
      have hi3 : decide (y0 ≤ f) = true := by simpa using hin
      clear c1 c2 c3 c4
      have hL'h := Lib.hid hL
      have hJr'h := Lib.hid hJr
      have hRr'h := Lib.hid hRr
      have hro'h := Lib.hid hro
      have hL2'h := Lib.hid hL2
      have hR2'h := Lib.hid hR2
      have hs2'h := Lib.hid hs2
      have NX'h := Lib.hid NX
      have hs''h := Lib.hid hs'
      have hk'h := Lib.hid hk
      clear hL hJr hRr hro hL2 hR2 hs2 NX hs' hk
      gi_upto_region 2 with fail
      gi_quiet (fail)
      gi_wp2_with (first | (gi_at_call 42; refine (callsIn_wide.2 (NX'h.out _)).mono ?_; rintro e w3 ⟨rfl, hT3⟩))
      obtain ⟨s3, n3, cap3, hL3, hRw3, hf3, -, hne3⟩ := foreign_next (below_drewN' wr nq) hT3 hL'h.out.mine hL'h.out.lt
      rw [← hs''h.out] at hL3
      have hLn := LineS.of_row hL3 hRw3 hL'h.out.mine hne3
      have hJ3 := hJ'h.out [] _ _ _ _ hJr'h.out hf3
      have hR3 := hRr'h.out.keep fun b hb hbr => hf3.block b hb (hro'h.out b hbr)
      have hro3 := fun q hq => hf3.not (hRr'h.out.lt q hq) (hro'h.out q hq)
      clear d1 d2 d3 d4 x1 x2 hT3 hL3 hRw3 hf3
      have hLn'h := Lib.hid hLn
      have hJ3'h := Lib.hid hJ3
      have hR3'h := Lib.hid hR3
      have hro3'h := Lib.hid hro3
      clear hLn hJ3 hR3 hro3
      gi_wp2
      gi_roundg (gk - 1)
      case measure => have := hk'h.out; omega
      case rel => exact ⟨k + 1, _, by have := hk'h.out; omega, by go_num, hLn'h.out, hJ3'h.out, hR3'h.out, hro3'h.out⟩
    · have hkk : k = cntL l f := by omega
      have hnl' := hlen'h.out
      have hk0' := hk0'h.out
      have hL'h := Lib.hid hL
      have hJr'h := Lib.hid hJr
      have hRr'h := Lib.hid hRr
      have hro'h := Lib.hid hro
      have hL2'h := Lib.hid hL2
      have hR2'h := Lib.hid hR2
      have hs2'h := Lib.hid hs2
      have hk'h := Lib.hid hk
      clear hL hJr hRr hro hL2 hR2 hs2 hk
      gi_upto_region 2 with fail
      gi_cut [23] from 10 (fun v23 W' => v23 = .bool false ∧ ∃ d, W' = wr.drewN d)
      case first =>
        by_cases hkl : k < n
        · obtain ⟨b, off, rfl⟩ := slk_some hRr'h.out.c (by omega)
          obtain ⟨c1, -, -, -⟩ := chs_cells hRr'h.out.c (show k < l.length by omega)
          have hout := cntL_out (l := l) (t := f) (by omega)
          rw [← hkk] at hout
          generalize (nthC l k).stp = y0 at *
          have d1 : ∀ d, (wr.drewN d).cell? ⟨b, off + k * 4, none⟩ = some (.int .i64 y0) := fun d => c1
          have hi1 : (k : Int) < (n : Int) := by omega
          have hi2 : decide ((k : Int) < (n : Int)) = true := by simpa using hi1
          have hi3 : decide (y0 ≤ f) = false := by simpa using hout
          clear c1 hnl' hkk hk0' hkf hout hkl
          gi_quiet (fail)
          gi_wp2
          gi_meet
          exact ⟨rfl, nq, rfl⟩
        · have hi2 : decide ((k : Int) < (n : Int)) = false := by simp; omega
          have hi4 : decide (k < n) = false := by simp; omega
          clear hnl' hkk hk0' hkf hkl
          gi_quiet (fail)
          gi_wp2
          gi_meet
          exact ⟨rfl, nq, rfl⟩
      case rest =>
        obtain ⟨rfl, d, rfl⟩ := hcut
        have hL := hL'h.out.keep (W' := wr.drewN d) fun b _ _ => rfl
        have hf := Foreign.of_below (S := S) (below_drewN' wr d)
        have hJr := hJ'h.out [] _ _ _ _ hJr'h.out hf
        have hRr := hRr'h.out.keep (W' := wr.drewN d) fun b _ _ => rfl
        have hro := hro'h.out
        have hR2 : SlK (wr.drewN d) 2 s2 n2 (prs (mapL l k)) := hR2'h.out
        have hL2 : (wr.drewN d).heap[lb]? = some (.cells (lnA s2 n2 cap2 (stpL l k)) 82 (0, 0)) := hL2'h.out
        have hs2 := hs2'h.out
        generalize wr.drewN d = V at hL hJr hRr hR2 hL2 ⊢
        clear x1 x2 hL'h hJr'h hRr'h hro'h hR2'h hL2'h hs2'h hk'h hf
        have y1 : V.cell? ⟨lb, 0, none⟩ = some (.slice s2 n2 cap2) := blk_cell hL2 rfl
        have hYs : MapsY l (cntL l f) ([] ++ [#[.agg #[.slice s2 n2 cap2]]]) (fun b => S b ∧ b ≠ lb) V := by
          intro j v hv
          cases j with
          | zero => simp at hv; rw [← hv, Nat.add_zero, ← hkk]; exact ⟨s2, n2, cap2, rfl, hR2, hc2, hle2, hs2⟩
          | succ j => simp at hv
        have hYv := hYs.weak (S' := S) fun b h => h.1
        obtain ⟨fn, tmps, assign, body, hy, hR⟩ := hY [] #[.agg #[.slice s2 n2 cap2]] S V hJr (by simp) hYv
        have hL'h := Lib.hid hL
        have hJr'h := Lib.hid hJr
        have hRr'h := Lib.hid hRr
        have hro'h := Lib.hid hro
        have hR2'h := Lib.hid hR2
        have hL2'h := Lib.hid hL2
        have hs2'h := Lib.hid hs2
        have hYs'h := Lib.hid hYs
        have hYv'h := Lib.hid hYv
        have hR'h := Lib.hid hR
        have hc2'h := Lib.hid hc2
        clear hL hJr hRr hro hR2 hL2 hs2 hYs hYv hR hc2
        gi_wp2_with fail
        refine hR'h.out.mono ?_
        clear hy y1 hR'h
        rintro e V2 (⟨rfl, hJ4, hk4⟩ | ⟨rfl, hJ4, hk4⟩)
        · have hY4 := MapsY.keeps l (cntL l f) _ _ _ _ _ hYv'h.out hk4
          have hYs4 := hYs'h.out.keep' fun b hb hS => hk4.block b hb (.inr hS.1)
          have hR4 := hRr'h.out.keep (W' := V2) fun q hq hqr => hk4.block q hq (.inl hqr)
          have hL4 := hL'h.out.keep (W' := V2) fun q hq hqS => hk4.block q hq (.inr hqS)
          have z1 : V2.cell? ⟨bl, 0, none⟩ = some (.slice sp n cap) := blk_cell hR4.s rfl
          have hcap : k ≤ cap := by omega
          have hkn : (k : Int) ≤ (n : Int) := by omega
          have hlen2 : ∀ j, j < n - k → ∃ b off, sp = some ⟨b, off, none⟩ := fun j hj => slk_some hR4.c (by omega)
          obtain ⟨vs, hvs⟩ : ∃ vs : Vs, vs = [] ++ [#[.agg #[.slice s2 n2 cap2]]] := ⟨_, rfl⟩
          have hvl : vs.length = 1 := by rw [hvs]; rfl
          rw [← hvs] at hJ4 hY4 hYs4
          clear hvs hYv'h hYs'h hL'h hJr'h hRr'h hR2'h hL2'h hs2'h
          have hJ4'h := Lib.hid hJ4
          have hk4'h := Lib.hid hk4
          have hY4'h := Lib.hid hY4
          have hYs4'h := Lib.hid hYs4
          have hR4'h := Lib.hid hR4
          have hL4'h := Lib.hid hL4
          have hlen2'h := Lib.hid hlen2
          have hvl'h := Lib.hid hvl
          have hkk'h := Lib.hid hkk
          have hnl''h := Lib.hid hnl'
          have hk0''h := Lib.hid hk0'
          clear hJ4 hk4 hY4 hYs4 hR4 hL4 hlen2 hvl hkk hnl' hk0'
          cases sp with
          | none =>
            obtain rfl : cap = 0 := hnl'h.out rfl
            obtain rfl : k = 0 := by omega
            obtain rfl : n = 0 := by omega
            gi_wp2
            refine wpIn_label ?_
            gi_wp2
            have hz : ((0 : Nat) : Int) ≤ 0 := by omega
            have hkt : cntL l t = 0 := by have := hk1'h.out; have := hlen'h.out; omega
            have hkf0 : cntL l f = 0 := by have := hkk'h.out; omega
            have hkt'h := Lib.hid hkt
            have hkf0'h := Lib.hid hkf0
            clear hkt hkf0
            gi_loopg [43] 0 (fun q i wr => ∃ (S : Nat → Prop) (vs : Vs), i = .int .i64 0 ∧ vs.length = 1 ∧ MapsY l (cntL l f) vs S wr ∧ J vs S wr)
            case atStart => exact ⟨S, vs, rfl, hvl'h.out, hY4'h.out, hJ4'h.out⟩
            case round =>
              obtain ⟨S, vs, rfl, hvs, hYr, hJr⟩ := hrel
              have hvs'h := Lib.hid hvs
              have hYr'h := Lib.hid hYr
              have hJr'h := Lib.hid hJr
              clear hvs hYr hJr
              gi_wp2
              try rw [Exit.noGoto_normal]
              refine bodyPost_end (results_none rfl _ _ _) rfl ?_
              exact ⟨⟨_, rfl⟩, .inl ⟨S, vs, by rw [hvs'h.out, hkt'h.out, hkf0'h.out, Nat.sub_self], hYr'h.out, hJr'h.out⟩⟩
          | some ad =>
            by_cases hck : cap = k
            · have hnk : n - k = 0 := by omega
              gi_wp2
              refine wpIn_label ?_
              gi_wp2
              have hkt : cntL l t = k := by have := hk1'h.out; have := hlen'h.out; have := hk01'h.out; have := hkk'h.out; omega
              have hkf0 : cntL l f = k := hkk'h.out.symm
              have hz : ¬ (0 : Int) < ((n - k : Nat) : Int) := by omega
              have hz2 : ¬ 0 < n - k := by omega
              have hkt'h := Lib.hid hkt
              have hkf0'h := Lib.hid hkf0
              have hck'h := Lib.hid hck
              clear hkt hkf0 hck
              clear hcap hkn hle hnk
              gi_loopg [43] 0 (fun q i wr => ∃ (S : Nat → Prop) (vs : Vs), i = .int .i64 0 ∧ vs.length = 1 ∧ MapsY l (cntL l f) vs S wr ∧ J vs S wr)
              case atStart => exact ⟨S, vs, rfl, hvl'h.out, hY4'h.out, hJ4'h.out⟩
              case round =>
                obtain ⟨S, vs, rfl, hvs, hYr, hJr⟩ := hrel
                have hvs'h := Lib.hid hvs
                have hYr'h := Lib.hid hYr
                have hJr'h := Lib.hid hJr
                clear hvs hYr hJr
                gi_wp2
                try rw [Exit.noGoto_normal]
                refine bodyPost_end (results_none rfl _ _ _) rfl ?_
                exact ⟨⟨_, rfl⟩, .inl ⟨S, vs, by rw [hvs'h.out, hkt'h.out, hkf0'h.out, Nat.sub_self], hYr'h.out, hJr'h.out⟩⟩
            · gi_wp2
              refine wpIn_label ?_
              gi_wp2
              obtain ⟨A, hAd⟩ : ∃ A : Option Addr, A = some (ad.add (k * 4)) := ⟨_, rfl⟩
              have hA : ElemAt bl bt (some ad) n cap l f t k A := fun W' hW' j hj => by
                obtain ⟨b, off, e⟩ := slk_some hW'.c (by omega)
                cases e
                obtain ⟨c1, c2, c3, c4⟩ := chs_cells hW'.c (k := k + j) (by have := hlen'h.out; omega)
                have e2 : off + (k + j) * 4 = off + k * 4 + j * 4 := by omega
                rw [e2] at c1 c2 c3 c4
                exact ⟨b, off + k * 4, by rw [hAd]; unfold Addr.add; simp, c1, c2, c3, c4⟩
              rw [← hAd]
              clear hAd
              have hA'h := Lib.hid hA
              clear hA
              gi_loopg [43] (n - k) (fun q i wr => ∃ (j : Nat) (S : Nat → Prop) (vs : Vs), j + q = n - k ∧ i = .int .i64 j ∧ vs.length = j + 1 ∧ k + j ≤ cntL l t ∧ MapsY l (cntL l f) vs (fun b => S b ∧ b ≠ lb) wr ∧ J vs S wr ∧ LineS lb l (k + j) S wr ∧ MapsR bl bt (some ad) n cap l f t wr ∧ (∀ b, mapsRO bl bt (some ad) n b → ¬ S b))
              case atStart => exact ⟨0, S, vs, by omega, rfl, by rw [hvl'h.out], by have := hkk'h.out; have := hk01'h.out; omega, hYs4'h.out, hJ4'h.out, hL4'h.out, hR4'h.out, hro'h.out⟩
              case round =>
                obtain ⟨j, S, vs, hj, rfl, hvs, hjt, hYr, hJr, hL, hRr, hro⟩ := hrel
                have hkk := hkk'h.out
                have hnl := hlen'h.out
                have hk1 := hk1'h.out
                by_cases hlt : j < n - k
                · obtain ⟨b, off, hAe, c1, c2, c3, c4⟩ := hA'h.out wr hRr j hlt
                  subst hAe
                  obtain ⟨kj, hkj⟩ : ∃ kj, kj = k + j := ⟨_, rfl⟩
                  rw [← hkj] at c1 c2 c3 c4 hL hjt
                  have hkl : kj < l.length := by omega
                  obtain ⟨s3, n3, cap3, hL3, hR3, hc3, hle3, hs3⟩ := hL.row
                  have hn3 : n3 ≤ 4096 := by have h1 := prs_len hR3; have h2 := len_mapL l kj; omega
                  have hb7 : ∀ o, Below wr.heap.size wr (wr.alloc o) := fun o => (Below.refl _ wr).alloc (Nat.le_refl _) o
                  have NX := fun o => next_yes lb s3 n3 cap3 (mapL l kj) (stpL l kj) (nthC l kj) (wr.alloc o) (heap_below (hb7 o) hL3 (lt_of_heap hL3)) (hR3.below (hb7 o)) (up_mapL l kj) hn3 (right_at hr'h.out hkl)
                  unfold chA at NX
                  rw [← mapL_succ hkl] at NX
                  have hs' := stpL_succ l kj
                  have hci := cntL_iff hr'h.out (t := t) hkl
                  generalize (nthC l kj).stp = y0 at *
                  generalize (nthC l kj).key = y1 at *
                  generalize (nthC l kj).has = y2 at *
                  generalize (nthC l kj).val = y3 at *
                  have x2 : ∀ o, (wr.alloc o).cell? ⟨bt, 1, none⟩ = some (.int .i64 t) := fun o => keep_alloc _ _ _ _ (blk_cell hRr.t rfl)
                  have hi1 : (j : Int) < ((n - k : Nat) : Int) := by omega
                  have h0j : (0 : Int) ≤ (j : Int) := by omega
                  by_cases hin : y0 ≤ t
                  · have hkt : kj < cntL l t := hci.2 hin
                    clear hci
                    have hj'h := Lib.hid hj
                    have hvs'h := Lib.hid hvs
                    have hjt'h := Lib.hid hjt
                    have hYr'h := Lib.hid hYr
                    have hJr'h := Lib.hid hJr
                    have hL'h := Lib.hid hL
                    have hRr'h := Lib.hid hRr
                    have hro'h := Lib.hid hro
                    have hkk'h := Lib.hid hkk
                    have hnl'h := Lib.hid hnl
                    have hk1'h := Lib.hid hk1
                    have hlt'h := Lib.hid hlt
                    have hkj'h := Lib.hid hkj
                    have hkl'h := Lib.hid hkl
                    have hL3'h := Lib.hid hL3
                    have hR3'h := Lib.hid hR3
                    have hc3'h := Lib.hid hc3
                    have hs3'h := Lib.hid hs3
                    have hb7'h := Lib.hid hb7
                    have NX'h := Lib.hid NX
                    have hs''h := Lib.hid hs'
                    have hkt'h := Lib.hid hkt
                    have hle3'h := Lib.hid hle3
                    clear hj hvs hjt hYr hJr hL hRr hro hkk hnl hk1 hlt hkj hkl hL3 hR3 hc3 hs3 hb7 NX hs' hkt hle3
                    gi_upto_region 11 with (first | (gi_at_call 42; refine (callsIn_wide.2 (NX'h.out _)).mono ?_; rintro e w3 ⟨rfl, hT3⟩))
                    obtain ⟨s4, n4, cap4, hL4, hRw4, hf4, hel4, hne4⟩ := foreign_next (hb7'h.out _) hT3 hL'h.out.mine hL'h.out.lt
                    rw [← hs''h.out] at hL4
                    have hLn := LineS.of_row hL4 hRw4 hL'h.out.mine hne4
                    have hJ3 := hJ'h.out vs _ _ _ _ hJr'h.out hf4
                    have hRr3 := hRr'h.out.keep fun b hb hbr => hf4.block b hb (hro'h.out b hbr)
                    have hro3 := fun q hq => hf4.not (hRr'h.out.lt q hq) (hro'h.out q hq)
                    have hYs3 := MapsY.snoc (v := #[.agg #[.slice s4 n4 cap4]]) (S' := fun b => (S b ∨ s4.map (·.block) = some b) ∧ b ≠ lb) hYr'h.out (fun b h => ⟨.inl h.1, h.2⟩) (fun b hb h => hel4 b h.2 hb) ⟨s4, n4, cap4, rfl, by rw [hvs'h.out, show cntL l f + (j + 1) = kj + 1 by have := hkk'h.out; have := hkj'h.out; omega]; exact hRw4.sl, hRw4.nil0, hRw4.le, fun b h => ⟨.inr h, hne4 b h⟩⟩
                    have hYv := hYs3.weak (S' := fun b => S b ∨ s4.map (·.block) = some b) fun b h => h.1
                    have y4 : w3.cell? ⟨lb, 0, none⟩ = some (.slice s4 n4 cap4) := blk_cell hL4 rfl
                    obtain ⟨fn, tmps, assign, body, hy, hR⟩ := hY vs #[.agg #[.slice s4 n4 cap4]] _ w3 hJ3 (by rw [hvs'h.out]; have := hkk'h.out; have := hkj'h.out; have := hkt'h.out; omega) hYv
                    clear x2 hT3 hL4 hRw4 hf4 hel4 hne4 c1 c2 c3 c4
                    have hLn'h := Lib.hid hLn
                    have hJ3'h := Lib.hid hJ3
                    have hRr3'h := Lib.hid hRr3
                    have hro3'h := Lib.hid hro3
                    have hYs3'h := Lib.hid hYs3
                    have hYv'h := Lib.hid hYv
                    have hR'h := Lib.hid hR
                    clear hLn hJ3 hRr3 hro3 hYs3 hYv hR
                    gi_wp2_with fail
                    refine hR'h.out.mono ?_
                    clear hy y4 hR'h
                    rintro e V3 (⟨rfl, hJ5, hk5⟩ | ⟨rfl, hJ5, hk5⟩)
                    · have hYs5 := hYs3'h.out.keep' (W' := V3) fun b hb hS => hk5.block b hb (.inr hS.1)
                      have hR5 := hRr3'h.out.keep (W' := V3) fun q hq hqr => hk5.block q hq (.inl hqr)
                      have hL5 := hLn'h.out.keep (W' := V3) fun q hq hqS => hk5.block q hq (.inr hqS)
                      have hYs5'h := Lib.hid hYs5
                      have hR5'h := Lib.hid hR5
                      have hL5'h := Lib.hid hL5
                      have hJ5'h := Lib.hid hJ5
                      have hk5'h := Lib.hid hk5
                      clear hYs5 hR5 hL5 hJ5 hk5
                      gi_wp2
                      gi_roundg (gk - 1)
                      case measure => have := hj'h.out; have := hlt'h.out; omega
                      case rel => exact ⟨j + 1, _, vs ++ [#[.agg #[.slice s4 n4 cap4]]], by have := hj'h.out; have := hlt'h.out; omega, by go_num, by rw [List.length_append, hvs'h.out]; rfl, by have := hkj'h.out; have := hkt'h.out; omega, hYs5'h.out, hJ5'h.out, by rw [show k + (j + 1) = kj + 1 by have := hkj'h.out; omega]; exact hL5'h.out, hR5'h.out, hro3'h.out⟩
                    · have hY5 := MapsY.keeps l (cntL l f) _ _ _ _ _ hYv'h.out hk5
                      have hJ5'h := Lib.hid hJ5
                      have hk5'h := Lib.hid hk5
                      have hY5'h := Lib.hid hY5
                      clear hJ5 hk5 hY5
                      gi_wp2
                      try rw [Exit.noGoto_normal]
                      refine bodyPost_end (results_none rfl _ _ _) rfl ?_
                      exact ⟨⟨_, rfl⟩, .inr ⟨_, _, hY5'h.out, hJ5'h.out⟩⟩
                  · have hkt : kj = cntL l t := by have : ¬ kj < cntL l t := fun h => hin (hci.1 h); omega
                    have hN : vs.length = cntL l t - cntL l f + 1 := by omega
                    have hYe := hYr.weak (S' := S) fun b h => h.1
                    clear hci
                    have hj'h := Lib.hid hj
                    have hvs'h := Lib.hid hvs
                    have hjt'h := Lib.hid hjt
                    have hYr'h := Lib.hid hYr
                    have hJr'h := Lib.hid hJr
                    have hL'h := Lib.hid hL
                    have hRr'h := Lib.hid hRr
                    have hro'h := Lib.hid hro
                    have hkk'h := Lib.hid hkk
                    have hnl'h := Lib.hid hnl
                    have hk1'h := Lib.hid hk1
                    have hlt'h := Lib.hid hlt
                    have hkj'h := Lib.hid hkj
                    have hkl'h := Lib.hid hkl
                    have hL3'h := Lib.hid hL3
                    have hR3'h := Lib.hid hR3
                    have hc3'h := Lib.hid hc3
                    have hs3'h := Lib.hid hs3
                    have hb7'h := Lib.hid hb7
                    have NX'h := Lib.hid NX
                    have hs''h := Lib.hid hs'
                    have hkt'h := Lib.hid hkt
                    have hle3'h := Lib.hid hle3
                    have hN'h := Lib.hid hN
                    have hYe'h := Lib.hid hYe
                    clear hj hvs hjt hYr hJr hL hRr hro hkk hnl hk1 hlt hkj hkl hL3 hR3 hc3 hs3 hb7 NX hs' hkt hle3 hN hYe
                    gi_wp2
                    try rw [Exit.noGoto_normal]
                    refine bodyPost_end (results_none rfl _ _ _) rfl ?_
                    exact ⟨⟨_, rfl⟩, .inl ⟨S, vs, hN'h.out, hYe'h.out.keep' fun b hb _ => (hb7'h.out _).block b hb, hJ'h.out vs _ _ _ _ hJr'h.out (Foreign.of_below (hb7'h.out _))⟩⟩
                · have hN : vs.length = cntL l t - cntL l f + 1 := by omega
                  have hYe := hYr.weak (S' := S) fun b h => h.1
                  have hi1 : ¬ (j : Int) < ((n - k : Nat) : Int) := by omega
                  have hj'h := Lib.hid hj
                  have hvs'h := Lib.hid hvs
                  have hjt'h := Lib.hid hjt
                  have hYr'h := Lib.hid hYr
                  have hJr'h := Lib.hid hJr
                  have hL'h := Lib.hid hL
                  have hRr'h := Lib.hid hRr
                  have hro'h := Lib.hid hro
                  have hkk'h := Lib.hid hkk
                  have hnl'h := Lib.hid hnl
                  have hk1'h := Lib.hid hk1
                  have hN'h := Lib.hid hN
                  have hYe'h := Lib.hid hYe
                  clear hj hvs hjt hYr hJr hL hRr hro hkk hnl hk1 hN hYe
                  clear hlt
                  gi_wp2
                  try rw [Exit.noGoto_normal]
                  refine bodyPost_end (results_none rfl _ _ _) rfl ?_
                  exact ⟨⟨_, rfl⟩, .inl ⟨S, vs, hN'h.out, hYe'h.out, hJr'h.out⟩⟩
        · have hY4 := MapsY.keeps l (cntL l f) _ _ _ _ _ hYv'h.out hk4
          have hJ4'h := Lib.hid hJ4
          have hk4'h := Lib.hid hk4
          have hY4'h := Lib.hid hY4
          clear hJ4 hk4 hY4
          gi_wp2
          rw [Exit.noGoto_ret]
          refine bodyPost_ret (results_none rfl _ _ _) rfl ?_
          exact ⟨⟨_, rfl⟩, .inr ⟨_, _, hY4'h.out, hJ4'h.out⟩⟩
end Go.Proofs.Ythfeiiibedmkiaa

