/-
  Arguments of layer 3, opened: scripts.
-/
import Derived.Test.YtifofdciablljaaDoorOpenK
import Derived.Test.YtifofdciablljaaDoorScrR
set_option linter.unusedSimpArgs false
set_option linter.unusedVariables false
set_option maxRecDepth 100000
namespace Go.Proofs.YtifofdciablljaaDoor
open Go.ChangeShapes Go.WideShapes Go.RowKit Go.Joins Go.Deep
variable {H : Type} {enc : TypeId × Value → H} {w : World} {base : Nat} {spare : Nat → Bool} {held : Bool}

section
variable {P : Program}
theorem open_slice_c {α : Type} {t e : TypeId} {c : Value} {n0 : Nat} {y0 : DataW H × List MemPlace} (f : α → List Value) (K : Nat) (ok : α → Prop) (hk : ∀ x, (f x).length = K) (hK : 0 < K) (ht : P.underlying t = some (.slice e)) (hC : P.cellsOf e = K)
    (hE : ∀ (n : Nat) (cs' : List Value) (y : DataW H × List MemPlace), cs'.length = K → DataW.trod enc P w base spare held n e cs' = some y → ∃ x, cs' = f x ∧ ok x)
    (hf : DataW.trod enc P w base spare held n0 t [c] = some y0) :
    ∃ (sp : Option Addr) (len cap : Nat) (xs : List α), c = .slice sp len cap ∧ SlK w K sp len (xs.flatMap f) ∧ len = xs.length ∧ (∀ x ∈ xs, ok x) ∧ (sp = none → cap = 0) ∧ len ≤ cap := by
  rcases open_slice ht hf with ⟨hcs, _⟩ | ⟨a, len, cap, m, n, D, Pl, hcs, _, hl, hm, hmm, _, hx⟩
  · have e : c = .slice none 0 0 := by simpa using hcs
    exact ⟨none, 0, 0, [], e, SlK.nil _ _ _, rfl, fun x hx => (by cases hx), fun _ => rfl, Nat.le_refl _⟩
  · have e : c = .slice (some a) len cap := by simpa using hcs
    have hlm : len ≤ m := by rw [hmm]; split <;> omega
    rw [hC] at hx
    obtain ⟨xs, hxl, hxs⟩ := pick_list (p := fun i x => w.cells? base (a.add (i * K)) K = some (f x) ∧ ok x) len (fun i hi => by
      obtain ⟨cs', h1, h2⟩ := hx i (by omega)
      obtain ⟨_, hlen, _⟩ := World.cells?_some h1
      obtain ⟨x, rfl, hok⟩ := hE n cs' _ hlen h2
      exact ⟨x, h1, hok⟩)
    refine ⟨some a, len, cap, xs, e, ⟨by rw [flatMap_len hk, hxl], Nat.le_trans hl hm, ?_⟩, hxl.symm, fun x hx => ?_, fun h => (by cases h), hl⟩
    · by_cases h0 : len = 0
      · exact .inl h0
      · obtain ⟨b, off, spot⟩ := a
        have h1 := (World.cells?_some (hxs 0 (by omega)).1).2.2 0 hK
        have h2 : (f (xs[0]'(by omega)))[0]? = some ((f (xs[0]'(by omega)))[0]'(by rw [hk]; exact hK)) := List.getElem?_eq_getElem _
        have hspot : spot = none := by
          have := World.cell?_spot (h1.trans h2)
          simpa [Addr.add] using this
        subst hspot
        refine .inr ⟨b, off, rfl, fun j u hu => ?_⟩
        have hadd : ∀ q, (⟨b, off, none⟩ : Addr).add q = ⟨b, off + q, none⟩ := fun q => by unfold Addr.add; split <;> simp_all
        have hadd2 : ∀ q s, (⟨b, q, none⟩ : Addr).add s = ⟨b, q + s, none⟩ := fun q s => by unfold Addr.add; split <;> simp_all
        have hj : j < xs.length * K := by
          have := (List.getElem?_eq_some_iff.1 hu).1
          rwa [flatMap_len hk] at this
        have hq : j / K < xs.length := (Nat.div_lt_iff_lt_mul hK).2 hj
        have hr : j % K < K := Nat.mod_lt _ hK
        have hd : j / K * K + j % K = j := by rw [Nat.mul_comm]; exact Nat.div_add_mod j K
        have h3 := (World.cells?_some (hxs (j / K) hq).1).2.2 (j % K) hr
        rw [hadd, hadd2, Nat.add_assoc, hd] at h3
        rw [h3, ← flatMap_get hk xs (j / K) (j % K) hr hq, hd]
        exact hu
    · obtain ⟨i, hi, rfl⟩ := List.mem_iff_getElem.1 hx
      exact (hxs i hi).2
/-- The fields of a struct that lies in a row. -/
theorem trod_fields {t : TypeId} {fs : Array Field} {cs : List Value} {n0 : Nat} {y0 : DataW H × List MemPlace} (hs : P.underlying t = some (.struct fs)) (hone : oneCellFields P fs = true) (hl : cs.length = fs.size)
    (hf : DataW.trod enc P w base spare held n0 t cs = some y0) :
    ∀ (j : Nat) (f : Field), fs[j]? = some f → ∃ (c : Value) (n : Nat) (y : DataW H × List MemPlace), cs[j]? = some c ∧ DataW.trod enc P w base spare held n f.type [c] = some y := by
  obtain ⟨xs, n, _, hx, _, hl', hg⟩ := DataW.trod_struct hs hf
  intro j f hj
  have hjl : j < fs.size := (Array.getElem?_eq_some_iff.1 hj).1
  obtain ⟨ho, hk⟩ := hone_of hone j f hj
  have h1 := hg j f hj
  rw [ho, hk] at h1
  have e : (cs.drop j).take 1 = [cs[j]'(by omega)] := by
    rw [List.drop_eq_getElem_cons (by omega)]; rfl
  rw [e, List.getElem?_eq_getElem (by omega)] at h1
  exact ⟨cs[j]'(by omega), n, _, List.getElem?_eq_getElem (by omega), h1⟩
theorem field_at {fs : Array Field} {cs : List Value} (hf : ∀ (j : Nat) (f : Field), fs[j]? = some f → ∃ (c : Value) (n : Nat) (y : DataW H × List MemPlace), cs[j]? = some c ∧ DataW.trod enc P w base spare held n f.type [c] = some y)
    (j : Nat) (t : TypeId) (hj : (fs[j]?).map (·.type) = some t) : ∃ (c : Value) (n : Nat) (y : DataW H × List MemPlace), cs[j]? = some c ∧ DataW.trod enc P w base spare held n t [c] = some y := by
  cases hfj : fs[j]? with
  | none => rw [hfj] at hj; cases hj
  | some f =>
    rw [hfj] at hj
    obtain ⟨c, n, y, hc, ht'⟩ := hf j f hfj
    have ef : f.type = t := by simpa using hj
    rw [ef] at ht'
    exact ⟨c, n, y, hc, ht'⟩
end
theorem list4 {cs : List Value} {c0 c1 c2 c3 : Value} (hl : cs.length = 4) (h0 : cs[0]? = some c0) (h1 : cs[1]? = some c1) (h2 : cs[2]? = some c2) (h3 : cs[3]? = some c3) : cs = [c0, c1, c2, c3] := by
  match cs, hl with
  | [a0, a1, a2, a3], _ => simp at h0 h1 h2 h3; rw [h0, h1, h2, h3]
theorem list5 {cs : List Value} {c0 c1 c2 c3 c4 : Value} (hl : cs.length = 5) (h0 : cs[0]? = some c0) (h1 : cs[1]? = some c1) (h2 : cs[2]? = some c2) (h3 : cs[3]? = some c3) (h4 : cs[4]? = some c4) : cs = [c0, c1, c2, c3, c4] := by
  match cs, hl with
  | [a0, a1, a2, a3, a4], _ => simp at h0 h1 h2 h3 h4; rw [h0, h1, h2, h3, h4]
theorem calc_cells {cs : List Value} {fs : Array Field} (hl : cs.length = 4) (hf : ∀ (j : Nat) (f : Field), fs[j]? = some f → ∃ (c : Value) (n : Nat) (y : DataW H × List MemPlace), cs[j]? = some c ∧ DataW.trod enc Tryd.prog w base spare held n f.type [c] = some y)
    (h0 : (fs[0]?).map (·.type) = some 3) (h1 : (fs[1]?).map (·.type) = some 22) (h2 : (fs[2]?).map (·.type) = some 22) (h3 : (fs[3]?).map (·.type) = some 22) : ∃ c : Cal, cs = calL c ∧ CalOk c := by
  obtain ⟨z0, e0, w0⟩ := field_int hf 0 3 .i64 h0 Tryd.underlying3
  obtain ⟨z1, e1, w1⟩ := field_int hf 1 22 .u64 h1 Tryd.underlying22
  obtain ⟨z2, e2, w2⟩ := field_int hf 2 22 .u64 h2 Tryd.underlying22
  obtain ⟨z3, e3, w3⟩ := field_int hf 3 22 .u64 h3 Tryd.underlying22
  obtain ⟨n1, rfl, b1⟩ := nat_of_u64 w1
  obtain ⟨n2, rfl, b2⟩ := nat_of_u64 w2
  obtain ⟨n3, rfl, b3⟩ := nat_of_u64 w3
  have := wf_i64' w0
  exact ⟨⟨z0, n1, n2, n3⟩, list4 hl e0 e1 e2 e3, this.1, this.2, b1, b2, b3⟩
theorem calls_row {n : Nat} {c : Value} {y : DataW H × List MemPlace} (h : DataW.trod enc Tryd.prog w base spare held n 55 [c] = some y) : ∃ r : CRow, c = crV r ∧ SlK w 4 r.sp r.len (cals r.cs) ∧ (r.sp = none → r.cap = 0) ∧ r.len ≤ r.cap ∧ ∀ c ∈ r.cs, CalOk c := by
  obtain ⟨sp, len, cap, xs, hc, hS, _, hok, hn, hle⟩ := open_slice_c calL 4 CalOk calL_len (by decide) Tryd.underlying55 (by kernel_rfl) (fun n cs y hl hy => calc_cells hl (trod_fields Tryd.underlying57 (by kernel_rfl) hl hy) rfl rfl rfl rfl) h
  exact ⟨⟨sp, len, cap, xs⟩, hc, hS, hn, hle, hok⟩
theorem single_of {cs : List Value} (h : cs.length = 1) : ∃ c, cs = [c] := by
  match cs, h with
  | [c], _ => exact ⟨c, rfl⟩
theorem open_script {r : Reach} {b0 : Nat} {v : Value} {d : DataW H} {p : List MemPlace} (hv : Value.okWide Tryd.prog w r b0 26 v) (h : DataW.Trod enc Tryd.prog w base spare held 26 v d p) : ∃ s : Sm, v = .agg (smA s) ∧ SmArg w s := by
  obtain ⟨cs, rfl, hl, hf⟩ := open_cells Tryd.underlying26 (by kernel_rfl) (by kernel_rfl) hv h
  obtain ⟨z0, e0, w0⟩ := field_int hf 0 3 .i64 rfl Tryd.underlying3
  obtain ⟨z1, e1, w1⟩ := field_int hf 1 3 .i64 rfl Tryd.underlying3
  obtain ⟨z2, e2, w2⟩ := field_int hf 2 22 .u64 rfl Tryd.underlying22
  obtain ⟨seed, rfl, b2⟩ := nat_of_u64 w2
  obtain ⟨c3, n3, y3, e3, t3⟩ := field_at hf 3 23 rfl
  obtain ⟨lp, ln, lc, rows, rfl, hS, _, hok, hn, hle⟩ := open_slice_c (fun r : CRow => [crV r]) 1 (fun r => SlK w 4 r.sp r.len (cals r.cs) ∧ (r.sp = none → r.cap = 0) ∧ r.len ≤ r.cap ∧ ∀ c ∈ r.cs, CalOk c) (fun _ => rfl) (by decide) Tryd.underlying23 (by kernel_rfl) (fun n cs y hl hy => by
    obtain ⟨c, rfl⟩ := single_of hl
    obtain ⟨r, rfl, hr⟩ := calls_row hy
    exact ⟨r, rfl, hr⟩) t3
  obtain ⟨c4, n4, y4, e4, t4⟩ := field_at hf 4 24 rfl
  obtain ⟨pp, pn, pc, ps, rfl, hP, _, hpok, hpn, hple⟩ := open_slice_c (fun n : Nat => [Value.int .u64 (n : Int)]) 1 (fun n => n < 2 ^ 64) (fun _ => rfl) (by decide) Tryd.underlying24 (by kernel_rfl) (fun n cs y hl hy => by
    obtain ⟨c, rfl⟩ := single_of hl
    obtain ⟨z, hc, -, hw⟩ := DataW.trod_int Tryd.underlying22 hy
    obtain ⟨k, rfl, hk⟩ := nat_of_u64 hw
    injection hc with hc
    subst hc
    exact ⟨k, rfl, hk⟩) t4
  have hS' : SlK w 1 lp ln (rows.map crV) := by rw [List.map_eq_flatMap]; exact hS
  have hP' : Sl w pp pn (u64s ps) := by
    have : u64s ps = ps.flatMap fun n : Nat => [Value.int .u64 (n : Int)] := by unfold u64s; rw [List.map_eq_flatMap]
    rw [this]; exact hP.sl
  rw [list5 hl e0 e1 e2 e3 e4]
  exact ⟨⟨z0, z1, seed, lp, ln, lc, rows, pp, pn, pc, ps⟩, rfl, hS', fun r hr => (hok r hr).1, fun r hr => (hok r hr).2.1, fun r hr => (hok r hr).2.2.1, fun r hr => (hok r hr).2.2.2, hP', hpok, b2, wf_i64' w0, wf_i64' w1, hn, hle, hpn, hple⟩
end Go.Proofs.YtifofdciablljaaDoor
