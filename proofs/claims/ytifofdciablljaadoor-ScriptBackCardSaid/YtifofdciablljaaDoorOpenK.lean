/-
  Slices whose elements take several cells, opened.
-/
import Derived.Test.YtifofdciablljaaDoorOpenS
import Derived.Test.YtifofdciablljaaDoorPrs
import Derived.Deep.Slices
set_option linter.unusedSimpArgs false
set_option linter.unusedVariables false
set_option maxRecDepth 100000
namespace Go.Proofs.YtifofdciablljaaDoor
open Go.ChangeShapes Go.WideShapes Go.RowKit Go.Joins Go.Deep
variable {H : Type} {enc : TypeId × Value → H} {P : Program} {w : World} {base : Nat} {spare : Nat → Bool} {held : Bool}

theorem flatMap_len {α β : Type} {f : α → List β} {K : Nat} (hk : ∀ x, (f x).length = K) (l : List α) : (l.flatMap f).length = l.length * K := by
  induction l with
  | nil => simp
  | cons a l ih => rw [List.flatMap_cons, List.length_append, ih, hk, List.length_cons, Nat.add_mul]; omega
theorem flatMap_get {α β : Type} {f : α → List β} {K : Nat} (hk : ∀ x, (f x).length = K) (l : List α) (i r : Nat) (hr : r < K) (hi : i < l.length) : (l.flatMap f)[i * K + r]? = (f l[i])[r]? := by
  induction l generalizing i with
  | nil => simp at hi
  | cons a l ih =>
    rw [List.flatMap_cons]
    cases i with
    | zero => rw [Nat.zero_mul, Nat.zero_add, List.getElem?_append_left (by rw [hk]; exact hr)]; rfl
    | succ i =>
      rw [List.getElem?_append_right (by rw [hk, Nat.add_mul]; omega), hk, show (i + 1) * K + r - K = i * K + r by rw [Nat.add_mul]; omega]
      exact ih i (by simpa using hi)
theorem pick_list {α : Type} {p : Nat → α → Prop} (m : Nat) (h : ∀ i, i < m → ∃ x, p i x) : ∃ xs : List α, xs.length = m ∧ ∀ i (hi : i < xs.length), p i xs[i] := by
  induction m with
  | zero => exact ⟨[], rfl, fun i hi => by simp at hi⟩
  | succ m ih =>
    obtain ⟨xs, hl, hx⟩ := ih fun i hi => h i (by omega)
    obtain ⟨x, hp⟩ := h m (by omega)
    refine ⟨xs ++ [x], by simp [hl], fun i hi => ?_⟩
    by_cases hlt : i < xs.length
    · rw [List.getElem_append_left hlt]; exact hx i hlt
    · have e : i = xs.length := by simp at hi; omega
      subst e
      simp
      rw [hl]; exact hp
theorem open_slice_k {α : Type} {r : Reach} {b0 : Nat} {t e : TypeId} {v : Value} {d : DataW H} {p : List MemPlace} (f : α → List Value) (K : Nat) (ok : α → Prop) (hk : ∀ x, (f x).length = K) (hK : 0 < K) (ht : P.underlying t = some (.slice e)) (hC : P.cellsOf e = K)
    (hE : ∀ (n : Nat) (cs' : List Value) (y : DataW H × List MemPlace), cs'.length = K → DataW.trod enc P w base spare held n e cs' = some y → ∃ x, cs' = f x ∧ ok x)
    (hv : Value.okWide P w r b0 t v) (h : DataW.Trod enc P w base spare held t v d p) :
    ∃ (sp : Option Addr) (len cap : Nat) (xs : List α), v = .slice sp len cap ∧ SlK w K sp len (xs.flatMap f) ∧ len = xs.length ∧ (∀ x ∈ xs, ok x) ∧ (sp = none → cap = 0) ∧ len ≤ cap := by
  obtain ⟨sp, len, cap, rfl⟩ := okWide_slice ht hv
  obtain ⟨fuel, hf⟩ := h
  rcases open_slice ht hf with ⟨hcs, _⟩ | ⟨a, len', cap', m, n, D, Pl, hcs, _, hl, hm, hmm, _, hx⟩
  · simp [Value.cells] at hcs
    obtain ⟨rfl, rfl, rfl⟩ := hcs
    exact ⟨none, 0, 0, [], rfl, SlK.nil _ _ _, rfl, fun x hx => (by cases hx), fun _ => rfl, Nat.le_refl _⟩
  · simp [Value.cells] at hcs
    obtain ⟨rfl, rfl, rfl⟩ := hcs
    have hlm : len ≤ m := by rw [hmm]; split <;> omega
    rw [hC] at hx
    obtain ⟨xs, hxl, hxs⟩ := pick_list (p := fun i x => w.cells? base (a.add (i * K)) K = some (f x) ∧ ok x) len (fun i hi => by
      obtain ⟨cs', h1, h2⟩ := hx i (by omega)
      obtain ⟨_, hlen, _⟩ := World.cells?_some h1
      obtain ⟨x, rfl, hok⟩ := hE n cs' _ hlen h2
      exact ⟨x, h1, hok⟩)
    refine ⟨some a, len, cap, xs, rfl, ⟨by rw [flatMap_len hk, hxl], Nat.le_trans hl hm, ?_⟩, hxl.symm, fun x hx => ?_, fun h => (by cases h), hl⟩
    · by_cases h0 : len = 0
      · exact .inl h0
      · obtain ⟨b, off, spot⟩ := a
        have h1 := (World.cells?_some (hxs 0 (by omega)).1).2.2 0 hK
        have h2 : (f (xs[0]'(by omega)))[0]? = some ((f (xs[0]'(by omega)))[0]'(by rw [hk]; exact hK)) := List.getElem?_eq_getElem _
        have hspot : spot = none := by
          have := World.cell?_spot (h1.trans h2)
          simpa [Addr.add] using this
        subst hspot
        refine .inr ⟨b, off, rfl, fun j u hu => ?_⟩
        have hadd : ∀ q, (⟨b, off, none⟩ : Addr).add q = ⟨b, off + q, none⟩ := fun q => by unfold Addr.add; split <;> simp_all
        have hadd2 : ∀ q s, (⟨b, q, none⟩ : Addr).add s = ⟨b, q + s, none⟩ := fun q s => by unfold Addr.add; split <;> simp_all
        have hj : j < xs.length * K := by
          have := (List.getElem?_eq_some_iff.1 hu).1
          rwa [flatMap_len hk] at this
        have hq : j / K < xs.length := (Nat.div_lt_iff_lt_mul hK).2 hj
        have hr : j % K < K := Nat.mod_lt _ hK
        have hd : j / K * K + j % K = j := by rw [Nat.mul_comm]; exact Nat.div_add_mod j K
        have h3 := (World.cells?_some (hxs (j / K) hq).1).2.2 (j % K) hr
        rw [hadd, hadd2, Nat.add_assoc, hd] at h3
        rw [h3, ← flatMap_get hk xs (j / K) (j % K) hr hq, hd]
        exact hu
    · obtain ⟨i, hi, rfl⟩ := List.mem_iff_getElem.1 hx
      exact (hxs i hi).2
/-- A slice of arrays of two words. -/
theorem open_prs {r : Reach} {b0 : Nat} {t e u : TypeId} {v : Value} {d : DataW H} {p : List MemPlace} (ht : P.underlying t = some (.slice e)) (he : P.underlying e = some (.array 2 u)) (hu : P.underlying u = some (.int .u64)) (hCe : P.cellsOf e = 2) (hCu : P.cellsOf u = 1)
    (hv : Value.okWide P w r b0 t v) (h : DataW.Trod enc P w base spare held t v d p) :
    ∃ (sp : Option Addr) (len cap : Nat) (ks : List (Nat × Nat)), v = .slice sp len cap ∧ SlK w 2 sp len (prs ks) ∧ P64 ks ∧ (sp = none → cap = 0) ∧ len ≤ cap := by
  obtain ⟨sp, len, cap, xs, hv', hS, _, hok, hn, hl⟩ := open_slice_k (fun p : Nat × Nat => [.int .u64 (p.1 : Int), .int .u64 (p.2 : Int)]) 2 (fun p => p.1 < 2 ^ 64 ∧ p.2 < 2 ^ 64) (fun _ => rfl) (by decide) ht hCe (fun n cs' y hl2 hy => by
    obtain ⟨ys, m, _, hx, _, hl', hg⟩ := DataW.trod_array he hy
    match cs', hl2 with
    | [c0, c1], _ =>
      match ys, hl' with
      | [y0, y1], _ =>
        have h0 := hg 0 (by decide)
        have h1 := hg 1 (by decide)
        rw [hCu] at h0 h1
        have h0' : DataW.trod enc P w base spare held m u [c0] = some y0 := by simpa using h0
        have h1' : DataW.trod enc P w base spare held m u [c1] = some y1 := by simpa using h1
        obtain ⟨z0, e0, _, w0⟩ := DataW.trod_int hu h0'
        obtain ⟨z1, e1, _, w1⟩ := DataW.trod_int hu h1'
        obtain ⟨n0, rfl, b0⟩ := nat_of_u64 w0
        obtain ⟨n1, rfl, b1⟩ := nat_of_u64 w1
        simp at e0 e1
        subst e0 e1
        exact ⟨(n0, n1), rfl, b0, b1⟩) hv h
  exact ⟨sp, len, cap, xs, hv', hS, hok, hn, hl⟩
end Go.Proofs.YtifofdciablljaaDoor
