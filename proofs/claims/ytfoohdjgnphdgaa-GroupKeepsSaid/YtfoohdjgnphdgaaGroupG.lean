/-
  Package group: the same groups.
-/
import Derived.Test.YtfoohdjgnphdgaaGroupF
set_option linter.unusedSimpArgs false
set_option linter.unusedVariables false
set_option maxRecDepth 100000
namespace Go.Proofs.Ytfoohdjgnphdgaa
open Go.RowKit

/-- The same post, but for a panic. -/
def noPanic (Q : Exit → Act → World → Prop) : Exit → Act → World → Prop
  | .panic _, _, _ => False
  | .normal, a, w => Q .normal a w
  | .ret, a, w => Q .ret a w
  | .exit id, a, w => Q (.exit id) a w
  | .goto l, a, w => Q (.goto l) a w
  | .outgrown, a, w => Q .outgrown a w
theorem noPanic_imp {Q : Exit → Act → World → Prop} : ∀ e a w, noPanic Q e a w → Q e a w
  | .panic _, _, _, h => h.elim
  | .normal, _, _, h => h
  | .ret, _, _, h => h
  | .exit _, _, _, h => h
  | .goto _, _, _, h => h
  | .outgrown, _, _, h => h
theorem noPanic_normal {Q : Exit → Act → World → Prop} {a : Act} {w : World} (h : Q .normal a w) : noPanic Q .normal a w := h
theorem wp_region_heldQ {P : Program} {id : Nat} {Q : Exit → Act → World → Prop} {a : Act} {w : World} {ol : List Oper} (S : World → Prop) (L : Nat) (hm : P.follows .mixedOrders = true)
    (h : wpAnyF P .any ol.toArray (noPanic Q) S L ol.toArray.size (Array.replicate ol.toArray.size false) a w.drew) :
    (Code.region id ol.toArray true).wp P Q a w := wp_mono (wp_region_heldF S L hm h) noPanic_imp
section
variable {P : Program} {ops : Array Oper} {Q : Exit → Act → World → Prop} {md : Region.Mode} {S : World → Prop} {L : Nat}
/-- Two are ready: either may be first. -/
theorem wpAnyF_two {i j : Nat} {o o' : Oper} {fuel : Nat} {listed : Array Bool} {a : Act} {w : World} (hr : Region.ready md ops listed = [i, j]) (ho : ops[i]? = some o) (ho' : ops[j]? = some o')
    (h : ∀ K' : Act → World → Prop, Shut (∀ a w, (i ≠ L → S w) → wpAnyF P md ops Q S L fuel (listed.setIfInBounds i true) a w → K' a w) → if Region.wanted o (yielded ops a.tmps) = true then Oper.wp P o a w K' Q else K' (a.put o.dst undef) w)
    (h' : ∀ K' : Act → World → Prop, Shut (∀ a w, (j ≠ L → S w) → wpAnyF P md ops Q S L fuel (listed.setIfInBounds j true) a w → K' a w) → if Region.wanted o' (yielded ops a.tmps) = true then Oper.wp P o' a w K' Q else K' (a.put o'.dst undef) w) :
    wpAnyF P md ops Q S L (fuel + 1) listed a w :=
  ⟨fun h0 => absurd (hr ▸ h0) (by simp), fun k hk => by
    rw [hr] at hk
    rcases List.mem_cons.1 hk with rfl | hk
    · exact wpOp_step ho (fun K' hK => h K' (fun a w hS hW => hK a w ⟨hS, hW⟩))
    · have : k = j := by simpa using hk
      subst this
      exact wpOp_step ho' (fun K' hK => h' K' (fun a w hS hW => hK a w ⟨hS, hW⟩))⟩
end
theorem step_store_row {P : Program} {ops : Array Oper} {o : Oper} {a : Act} {w : World} {K : Act → World → Prop} {Q : Exit → Act → World → Prop} {E : Prop} (hgd : o.guard = none) (ty : TypeId) (x y : Operand) (ho : o.op = .store ty x y)
    (g : Nat) (cells : Array Value) (hx : a.eval x = .pointer (some ⟨g, 0, none⟩)) (hy : a.eval y = .agg cells)
    (t : TypeId) (old : Array Value) (hg : w.heap[g]? = some (.cells old t (0, 0))) (hi : (P.info? ty).map (·.size) = some cells.size)
    (hold : old.size = cells.size) (h1 : cells.all (·.oneCell') = true)
    (h : K (a.put o.dst undef) (w.setRow g cells)) : if Region.wanted o (yielded ops a.tmps) = true then Oper.wp P o a w K Q else E := by
  rw [if_pos (by unfold Region.wanted; rw [hgd])]
  exact wp_store_row ty x y ho g cells hx hy t old hg hi hold h1 h
theorem step_binop {P : Program} {ops : Array Oper} {o : Oper} {a : Act} {w : World} {K : Act → World → Prop} {Q : Exit → Act → World → Prop} {E : Prop} (hgd : o.guard = none) (b : BinOp) (t ty : TypeId) (x y : Operand) (ho : o.op = .binOp b t x y ty)
    {v : Value} (heq : (eqGuard b t x y (a.eval x) (a.eval y)).run P w = .ok () w) (hrun : (binOp b t (a.eval x) (a.eval y)).run P w = .ok v w) (h : K (a.put o.dst v) w) : if Region.wanted o (yielded ops a.tmps) = true then Oper.wp P o a w K Q else E := by
  rw [if_pos (by unfold Region.wanted; rw [hgd])]
  unfold Oper.wp execOp
  simp only [ho, Sem.run_bind, heq, hrun, Result.andThen_ok]
  exact h
theorem run_build_agg {P : Program} {e : Operand → Value} {o : Oper} {w : World} {t : TypeId} {parts : Array (Nat × Operand)} {vals : List (Nat × Value)} {cells : Array Value} (ho : o.op = .build t parts) (hv : parts.toList.map (fun (i, x) => (i, e x)) = vals) (hb : P.built t vals = some cells) :
    (execOp e o).run P w = .ok (.value (.agg cells)) w := by
  have hv' : (parts.map fun (i, x) => (i, e x)).toList = vals := by rw [Array.toList_map]; exact hv
  subst hv'
  unfold execOp
  simp only [ho, Sem.run_bind, run_build w t _ cells hb, Result.andThen_ok]
  rfl
theorem guard_agg {P : Program} {t : TypeId} (e : P.eqGuardType P.depth t = false) (op : BinOp) (x y : Operand) (s u : Array Value) (w : World) : (eqGuard op t x y (.agg s) (.agg u)).run P w = .ok () w := by
  unfold eqGuard
  split <;> simp [Sem.run_bind, e]
theorem neq_sl3 (s t : Sl3) (w : World) : (binOp .neq 38 (.agg (slA s)) (.agg (slA t))).run Try.prog w = .ok (.bool (!decide (s = t))) w := by
  rw [run_neq_struct]
  have e : (Op.equalIn 10000 38 (.agg (slA s)) (.agg (slA t))).run Try.prog w = .ok (decide (s = t)) w := by
    have u3 := Try.underlying22
    have a3 := Try.isAgg22
    have z3 := Try.sizeOf22
    have u4 := Try.underlying5
    have a4 := Try.isAgg5
    have z4 := Try.sizeOf5
    rw [show (10000 : Nat) = 9999 + 1 from rfl, run_equalIn_struct w 9999 38 _ _ (by kernel_rfl) (by kernel_rfl)]
    simp only [Program.fieldsOf, Try.underlying38, slA]
    go_simp
    obtain ⟨a, b, c⟩ := s
    obtain ⟨a', b', c'⟩ := t
    by_cases h1 : a = a' <;> by_cases h2 : b = b' <;> by_cases h3 : c = c' <;> simp [h1, h2, h3] <;> omega
  rw [e]; rfl
/-- Where the two boxes lie. -/
structure SameB (a b : Gp) (p q : Nat) (w : World) (W : World) : Prop where
  pa : W.heap[p]? = some (.cells (gpA a) 77 (0, 0))
  qb : W.heap[q]? = some (.cells (gpA b) 77 (0, 0))
  hs : Hs w [(w.heap.size + 2, #[.bool false], 4), (w.heap.size + 1, gpA b, 25), (w.heap.size, gpA a, 25)] W
  lp : w.heap.size + 3 ≤ p
  lq : w.heap.size + 3 ≤ q
def SameC (a b : Gp) (w : World) (v5 v6 : Value) (W : World) : Prop := ∃ p q, v5 = .pointer (some ⟨p, 0, none⟩) ∧ v6 = .pointer (some ⟨q, 0, none⟩) ∧ SameB a b p q w W
structure GSameI (a b : Gp) (p q : Nat) (l : List Nat) (w : World) (k : Nat) (S : Nat → Prop) (W : World) : Prop where
  pa : W.heap[p]? = some (.cells (gpA a) 77 (0, 0))
  qb : W.heap[q]? = some (.cells (gpA b) 77 (0, 0))
  ga : W.heap[w.heap.size]? = some (.cells (gpA a) 25 (0, 0))
  gb : W.heap[w.heap.size + 1]? = some (.cells (gpA b) 25 (0, 0))
  mine : ¬ S p ∧ ¬ S q ∧ ¬ S w.heap.size ∧ ¬ S (w.heap.size + 1)
  res : Own1 ⟨w.heap.size + 2, 0, none⟩ (.bool false) S W
  old : Old w.heap.size w S W
  same : ∀ j, j < k → slotAt a (nthN l j) = slotAt b (nthN l j)
theorem GSameI.stable (a b : Gp) (p q : Nat) (l : List Nat) (w : World) (k : Nat) : Stable (GSameI a b p q l w k) := fun S S' W W' i f =>
  ⟨f.heap' i.mine.1 i.pa, f.heap' i.mine.2.1 i.qb, f.heap' i.mine.2.2.1 i.ga, f.heap' i.mine.2.2.2 i.gb, ⟨f.not (lt_of_heap i.pa) i.mine.1, f.not (lt_of_heap i.qb) i.mine.2.1, f.not (lt_of_heap i.ga) i.mine.2.2.1, f.not (lt_of_heap i.gb) i.mine.2.2.2⟩,
    Own1.stable _ _ _ _ _ _ i.res f, Old.stable _ _ _ _ _ _ i.old f, i.same⟩
def GSameX (a b : Gp) (l : List Nat) (w : World) (c : Code) (k : Nat) (S : Nat → Prop) (W : World) : Prop :=
  (c = .ret ∧ slotAt a (nthN l k) ≠ slotAt b (nthN l k)) ∧ Own1 ⟨w.heap.size + 2, 0, none⟩ (.bool false) S W ∧ Old w.heap.size w S W
theorem GSameX.stable (a b : Gp) (l : List Nat) (w : World) (c : Code) (k : Nat) : Stable (GSameX a b l w c k) := (Stable.pure _).and ((Own1.stable _ _).and (Old.stable _ _))
theorem sameG_no {a b : Gp} {i : Nat} (hi : i < 8) (hf : fullAt a.c i = true) (h : slotAt a i ≠ slotAt b i) : sameG a b = false := by
  rw [← Bool.not_eq_true]
  unfold sameG
  rw [Bool.and_eq_true, List.all_eq_true, beq_iff_eq]
  rintro ⟨h1, h2⟩
  have := h1 i (List.mem_range.2 hi)
  rw [hf] at this
  simp at this
  apply h
  unfold slotAt
  rw [this.1, this.2, h2]
theorem sameG_yes {a b : Gp} (h : ∀ i, i < 8 → fullAt a.c i = true → slotAt a i = slotAt b i) : sameG a b = (a.c == b.c) := by
  unfold sameG
  have : ((List.range 8).all fun i => !(fullAt a.c i && (a.k i != b.k i || a.v i != b.v i))) = true := by
    rw [List.all_eq_true]
    intro i hi
    cases hf : fullAt a.c i with
    | false => rfl
    | true =>
      have := h i (List.mem_range.1 hi) hf
      unfold slotAt at this
      injection this with h1 h2 h3
      simp [h1, h2]
  rw [this, Bool.true_and]
theorem gsame_any (a b : Gp) (w : World) (ha : GpOk a) (hb : GpOk b) (hr : rightW a.c = true) : Calls Try.prog 13 #[.agg (gpA a), .agg (gpA b)] w fun e w' => e = .returned (.bool (sameG a b)) ∧ Below w.heap.size w w' := by
  obtain ⟨l, hl⟩ : ∃ l, l = fullL a.c := ⟨_, rfl⟩
  have hset : setM a.c 0 = belowM a.c 128 := by unfold setM; rw [if_pos hr, if_pos rfl]
  have hlm : lanesOf (setM a.c 0) = l := by rw [hset, fullL_eq, hl]
  have hm8 : setM a.c 0 < 256 := by rw [hset]; exact belowM_lt' _ _
  have F := fun w => gfull_any a w ha
  have hno : ∀ k, k < l.length → slotAt a (nthN l k) ≠ slotAt b (nthN l k) → sameG a b = false := fun k hk h => by
    have := fullL_mem.1 (by rw [← hl]; exact nthN_mem hk)
    exact sameG_no this.1 this.2 h
  have hyes : (∀ k, k < l.length → slotAt a (nthN l k) = slotAt b (nthN l k)) → sameG a b = ((a.c : Int) == (b.c : Int)) := fun h => by
    rw [sameG_yes, Bool.eq_iff_iff]
    · simp; omega
    · intro i hi hf
      obtain ⟨k, hk, h1⟩ := List.mem_iff_getElem.1 (fullL_mem.2 ⟨hi, hf⟩)
      rw [← hl] at hk
      have h2 := h k hk
      simp only [← hl] at h1
      rw [nthN_eq hk] at h1
      rwa [h1] at h2
  have hmem : ∀ k, k < l.length → nthN l k < 8 := fun k hk => (fullL_mem.1 (by rw [← hl]; exact nthN_mem hk)).1
  generalize sameG a b = z at *
  generalize setM a.c 0 = m at *
  obtain ⟨W, hW⟩ : ∃ W, W = ((w.alloc (.cells (gpA a) 25)).alloc (.cells (gpA b) 25)).alloc (.cells #[.bool false] 4) := ⟨_, rfl⟩
  have hO := ((Hs.nil w).new2 (gpA a) (gpA b) 25 25).new #[.bool false] 4
  simp only [World.size_alloc] at hO
  rw [← hW] at hO
  have hO'h := Lib.hid hO
  have ha'h := Lib.hid ha
  have hb'h := Lib.hid hb
  have hr'h := Lib.hid hr
  have hl'h := Lib.hid hl
  have hset'h := Lib.hid hset
  have hlm'h := Lib.hid hlm
  have hm8'h := Lib.hid hm8
  have F'h := Lib.hid F
  have hno'h := Lib.hid hno
  have hyes'h := Lib.hid hyes
  have hmem'h := Lib.hid hmem
  clear hO ha hb hr hl hset hlm hm8 F hno hyes hmem
  refine (callsIn_wide (n := 0)).1 ?_
  refine callsIn_of_wp_marks Try.func13 rfl trivial ?_
  simp only [Try.ntmps13, List.size_toArray, List.length_cons, List.length_nil, Nat.reduceAdd, Nat.reduceSub, Array.replicate_succ, Array.replicate_zero, List.push_toArray, List.append_toArray, List.nil_append, List.cons_append]
  refine wpIn_wide.2 ?_
  go_upto_region 1 with fail
  rw [← hW]
  clear hW
  have hO1 := hO'h.out.drew
  have hAB : W.drew.heap[w.heap.size]? = some (.cells (gpA a) 25 (0, 0)) ∧ W.drew.heap[w.heap.size + 1]? = some (.cells (gpA b) 25 (0, 0)) := ⟨hO1.rows.2.2.1, hO1.rows.2.1⟩
  go_cut [5, 6] from 8 (fun v5 v6 wr => SameC a b w v5 v6 wr)
  case first =>
    refine wp_region_heldQ (fun w' => w'.heap[w.heap.size]? = some (.cells (gpA a) 25 (0, 0)) ∧ w'.heap[w.heap.size + 1]? = some (.cells (gpA b) 25 (0, 0))) 99 (by kernel_rfl) ?_
    generalize W.drew = V at hO1 hAB ⊢
    refine wpAnyF_take (i := 0) (v := .agg (gpA a)) rfl (by kernel_rfl) (by kernel_rfl) (by kernel_rfl) (by kernel_rfl) (fun _ _ _ h => h) (Or.inl ⟨by rfl, ?_⟩) hAB ?_
    · intro w hSw
      exact run_load_agg (by rfl) (by rfl) hSw.1 Try.underlying25 rfl infoGp
    simp only [Act.put, List.setIfInBounds_toArray, List.set_cons_zero, List.set_cons_succ]
    refine wpAnyF_take (i := 1) (v := .agg (gpA a)) rfl (by kernel_rfl) (by kernel_rfl) (by kernel_rfl) (by kernel_rfl) (fun _ _ _ h => h) (Or.inl ⟨by rfl, ?_⟩) hAB ?_
    · intro w hSw
      exact run_build_agg (by rfl) (by rfl) (built_ss a)
    simp only [Act.put, List.setIfInBounds_toArray, List.set_cons_zero, List.set_cons_succ]
    refine wpAnyF_take (i := 2) (v := .agg (gpA b)) rfl (by kernel_rfl) (by kernel_rfl) (by kernel_rfl) (by kernel_rfl) (fun _ _ _ h => h) (Or.inl ⟨by rfl, ?_⟩) hAB ?_
    · intro w hSw
      exact run_load_agg (by rfl) (by rfl) hSw.2 Try.underlying25 rfl infoGp
    simp only [Act.put, List.setIfInBounds_toArray, List.set_cons_zero, List.set_cons_succ]
    refine wpAnyF_take (i := 3) (v := .agg (gpA b)) rfl (by kernel_rfl) (by kernel_rfl) (by kernel_rfl) (by kernel_rfl) (fun _ _ _ h => h) (Or.inl ⟨by rfl, ?_⟩) hAB ?_
    · intro w hSw
      exact run_build_agg (by rfl) (by rfl) (built_ss b)
    simp only [Act.put, List.setIfInBounds_toArray, List.set_cons_zero, List.set_cons_succ]
    refine wpAnyF_two (i := 4) (j := 5) (by kernel_rfl) rfl rfl (fun K hK => ?_) (fun K hK => ?_)
    · go_simp
      have H1 := hO1.new (gpA gpZ) 77
      have H2 := H1.new (gpA gpZ) 77
      simp only [World.size_alloc] at H2
      refine hK.out _ _ (fun _ => ⟨H1.rows.2.2.2.1, H1.rows.2.2.1⟩) ?_
      clear hK K
      refine wpAnyF_one (i := 5) (by kernel_rfl) rfl (fun K hK => ?_)
      go_simp
      refine hK.out _ _ (fun _ => ⟨H2.rows.2.2.2.2.1, H2.rows.2.2.2.1⟩) ?_
      clear hK K
      have hz := hO1.lt _ (List.mem_cons_self ..)
      simp only at hz
      change wpAnyF _ _ _ _ _ _ _ _ _ ((V.alloc (.cells (gpA gpZ) 77)).alloc (.cells (gpA gpZ) 77))
      generalize World.alloc _ _ = V2 at H2 ⊢
      refine wpAnyF_one (i := 6) (by kernel_rfl) rfl (fun K hK => ?_)
      refine step_store_row rfl _ _ _ rfl (V.heap.size) (gpA a) rfl rfl 77 _ (H2.rows.2.1) infoSs rfl (gpA_one _) ?_
      have H3 := H2.set 1 rfl (gpA a)
      generalize World.setRow _ _ _ = V3 at H3 ⊢
      refine hK.out _ _ (fun _ => ⟨H3.rows.2.2.2.2.1, H3.rows.2.2.2.1⟩) ?_
      clear hK K
      refine wpAnyF_one (i := 7) (by kernel_rfl) rfl (fun K hK => ?_)
      refine step_store_row rfl _ _ _ rfl (V.heap.size + 1) (gpA b) rfl rfl 77 _ (H3.rows.1) infoSs rfl (gpA_one _) ?_
      have H4 := H3.set 0 rfl (gpA b)
      generalize World.setRow _ _ _ = V4 at H4 ⊢
      refine hK.out _ _ (fun _ => ⟨H4.rows.2.2.2.2.1, H4.rows.2.2.2.1⟩) ?_
      clear hK K
      refine wpAnyF_done (by kernel_rfl) ?_ _
      have H4'h := Lib.hid H4
      have hz'h := Lib.hid hz
      clear H4 hz
      refine noPanic_normal ?_
      go_wp2
      go_meet
      case rel => exact ⟨V.heap.size, V.heap.size + 1, rfl, rfl, H4'h.out.rows.2.1, H4'h.out.rows.1, H4'h.out.tail.tail, by have := hz'h.out; omega, by have := hz'h.out; omega⟩
    · go_simp
      have H1 := hO1.new (gpA gpZ) 77
      have H2 := H1.new (gpA gpZ) 77
      simp only [World.size_alloc] at H2
      refine hK.out _ _ (fun _ => ⟨H1.rows.2.2.2.1, H1.rows.2.2.1⟩) ?_
      clear hK K
      refine wpAnyF_one (i := 4) (by kernel_rfl) rfl (fun K hK => ?_)
      go_simp
      refine hK.out _ _ (fun _ => ⟨H2.rows.2.2.2.2.1, H2.rows.2.2.2.1⟩) ?_
      clear hK K
      have hz := hO1.lt _ (List.mem_cons_self ..)
      simp only at hz
      change wpAnyF _ _ _ _ _ _ _ _ _ ((V.alloc (.cells (gpA gpZ) 77)).alloc (.cells (gpA gpZ) 77))
      generalize World.alloc _ _ = V2 at H2 ⊢
      refine wpAnyF_one (i := 6) (by kernel_rfl) rfl (fun K hK => ?_)
      refine step_store_row rfl _ _ _ rfl (V.heap.size + 1) (gpA a) rfl rfl 77 _ (H2.rows.1) infoSs rfl (gpA_one _) ?_
      have H3 := H2.set 0 rfl (gpA a)
      generalize World.setRow _ _ _ = V3 at H3 ⊢
      refine hK.out _ _ (fun _ => ⟨H3.rows.2.2.2.2.1, H3.rows.2.2.2.1⟩) ?_
      clear hK K
      refine wpAnyF_one (i := 7) (by kernel_rfl) rfl (fun K hK => ?_)
      refine step_store_row rfl _ _ _ rfl (V.heap.size) (gpA b) rfl rfl 77 _ (H3.rows.2.1) infoSs rfl (gpA_one _) ?_
      have H4 := H3.set 1 rfl (gpA b)
      generalize World.setRow _ _ _ = V4 at H4 ⊢
      refine hK.out _ _ (fun _ => ⟨H4.rows.2.2.2.2.1, H4.rows.2.2.2.1⟩) ?_
      clear hK K
      refine wpAnyF_done (by kernel_rfl) ?_ _
      have H4'h := Lib.hid H4
      have hz'h := Lib.hid hz
      clear H4 hz
      refine noPanic_normal ?_
      go_wp2
      go_meet
      case rel => exact ⟨V.heap.size + 1, V.heap.size, rfl, rfl, H4'h.out.rows.1, H4'h.out.rows.2.1, H4'h.out.tail.tail, by have := hz'h.out; omega, by have := hz'h.out; omega⟩
  case rest =>
    obtain ⟨p, q, rfl, rfl, hB⟩ := hcut
    have hB'h := Lib.hid hB
    clear hB
    clear hO1 hAB
    go_wp2_with (first | (refine wpList_load_row rfl _ _ rfl p rfl 77 (gpA a) (0, 0) _ hB'h.out.pa Try.underlying77 rfl infoSs ?_) | (go_at_call 41; refine (F'h.out _).mono ?_; rintro e w3 ⟨b', hbb, rfl, hb3, hmb⟩))
    simp only [Nat.add_assoc, Nat.reduceAdd]
    have hB := hB'h.out
    have hsz := lt_of_heap hB.pa
    have hlp := hB.lp
    have hbb3 : w.heap.size + 4 ≤ b' := by omega
    have hI0 : GSameI a b p q l w 0 (fun _ => False) w3 := by
      have hO3 := hB.hs.next hb3
      exact ⟨heap_below hb3 hB.pa (lt_of_heap hB.pa), heap_below hb3 hB.qb (lt_of_heap hB.qb), hO3.rows.2.2.1, hO3.rows.2.1, ⟨fun h => h, fun h => h, fun h => h, fun h => h⟩, ⟨blk_cell hO3.rows.1 rfl, blk_free 0 hO3.rows.1, fun h => h⟩, ⟨hO3.old, Nat.le_refl _, fun _ _ h => h⟩, fun j hj => absurd hj (by omega)⟩
    have hit := geach_it m b' hm8'h.out w3 hmb
    rw [hlm'h.out] at hit
    have hbl := lt_of_heap hmb
    clear hB hsz hlp hbb
    have hbb := hbb3
    clear hbb3
    have hI0'h := Lib.hid hI0
    have hit'h := Lib.hid hit
    have hbl'h := Lib.hid hbl
    have hbb'h := Lib.hid hbb
    have hmb'h := Lib.hid hmb
    have hb3'h := Lib.hid hb3
    clear hI0 hit hbl hbb hmb hb3
    refine (wpIn_wide (n := 0)).1 ?_
    refine' wpIn_range rfl (fun h => by cases h) rfl trivial enters_geach hit'h.out (fun b hb => False.elim hb) (fun _ => rfl) (fun c hc => ⟨by rw [hc]; exact hbl'h.out, fun h => h⟩)
      (GSameI a b p q l w) (GSameX a b l w) (GSameI.stable a b p q l w) (GSameX.stable a b l w) hI0'h.out
      (AxOf _ (GSameI a b p q l w)) (AxOf.stable (GSameI.stable a b p q l w)) ?assign ?body ?done ?stop
    case assign =>
      intro l1 k S W hk hSl hr hSb hI
      rw [nthN_eq hk]
      clear hr
      gi_wp2
      exact ⟨⟨rfl, hI⟩, Kept.refl _ _⟩
    case body =>
      rintro l1 k S A W r hk hSl hlr hr hSb ⟨rfl, hI⟩
      have hn := hmem'h.out k hk
      have hPQ : W.drew.heap[p]? = some (.cells (gpA a) 77 (0, 0)) ∧ W.drew.heap[q]? = some (.cells (gpA b) 77 (0, 0)) := ⟨hI.pa, hI.qb⟩
      refine wpIn_block ?_
      gi_wp2
      refine wpIn_round_heldF (fun w' => w'.heap[p]? = some (.cells (gpA a) 77 (0, 0)) ∧ w'.heap[q]? = some (.cells (gpA b) 77 (0, 0))) 99 (by kernel_rfl) (by kernel_rfl) (by rintro ⟨_, _, h⟩; exact h) ?_
      refine wpAnyF_take (i := 0) (v := .agg (gpA a)) rfl (by kernel_rfl) (by kernel_rfl) (by kernel_rfl) (by kernel_rfl) (fun _ _ _ h => h) (Or.inl ⟨by rfl, ?_⟩) hPQ ?_
      · intro w hSw
        exact run_load_agg (by rfl) (by rfl) hSw.1 Try.underlying77 rfl infoSs
      simp only [Act.put, List.setIfInBounds_toArray, List.set_cons_zero, List.set_cons_succ]
      refine wpAnyF_take (i := 1) (v := .int .i64 (nthN l k)) rfl (by kernel_rfl) (by kernel_rfl) (by kernel_rfl) (by kernel_rfl) (fun _ _ _ h => h) (Or.inl ⟨by rfl, ?_⟩) hPQ ?_
      · intro w hSw
        (try dsimp only at hSw); go_simp
      simp only [Act.put, List.setIfInBounds_toArray, List.set_cons_zero, List.set_cons_succ]
      refine wpAnyF_take (i := 3) (v := .agg (gpA b)) rfl (by kernel_rfl) (by kernel_rfl) (by kernel_rfl) (by kernel_rfl) (fun _ _ _ h => h) (Or.inl ⟨by rfl, ?_⟩) hPQ ?_
      · intro w hSw
        exact run_load_agg (by rfl) (by rfl) hSw.2 Try.underlying77 rfl infoSs
      simp only [Act.put, List.setIfInBounds_toArray, List.set_cons_zero, List.set_cons_succ]
      refine wpAnyF_take (i := 4) (v := .int .i64 (nthN l k)) rfl (by kernel_rfl) (by kernel_rfl) (by kernel_rfl) (by kernel_rfl) (fun _ _ _ h => h) (Or.inl ⟨by rfl, ?_⟩) hPQ ?_
      · intro w hSw
        (try dsimp only at hSw); go_simp
      simp only [Act.put, List.setIfInBounds_toArray, List.set_cons_zero, List.set_cons_succ]
      refine wpAnyF_one (i := 2) (by kernel_rfl) rfl (fun K hK => ?_)
      go_simp
      refine (gat_any a (nthN l k) _ hn).mono ?_
      rintro e w5 ⟨rfl, hb5⟩
      dsimp only
      refine hK.out _ _ (fun _ => ⟨heap_below hb5 hPQ.1 (lt_of_heap hPQ.1), heap_below hb5 hPQ.2 (lt_of_heap hPQ.2)⟩) ?_
      clear hK K
      try simp only [Act.put, List.setIfInBounds_toArray, List.set_cons_zero, List.set_cons_succ]
      refine wpAnyF_one (i := 5) (by kernel_rfl) rfl (fun K hK => ?_)
      go_simp
      refine (gat_any b (nthN l k) _ hn).mono ?_
      rintro e w6 ⟨rfl, hb6⟩
      dsimp only
      have hb7 := below_next hb5 hb6
      refine hK.out _ _ (fun _ => ⟨heap_below hb7 hPQ.1 (lt_of_heap hPQ.1), heap_below hb7 hPQ.2 (lt_of_heap hPQ.2)⟩) ?_
      clear hK K
      try simp only [Act.put, List.setIfInBounds_toArray, List.set_cons_zero, List.set_cons_succ]
      have hneq := neq_sl3 (slotAt a (nthN l k)) (slotAt b (nthN l k)) w6
      obtain ⟨d, hd⟩ : ∃ d, d = decide (slotAt a (nthN l k) = slotAt b (nthN l k)) := ⟨_, rfl⟩
      rw [← hd] at hneq
      refine wpAnyF_one (i := 6) (by kernel_rfl) rfl (fun K hK => ?_)
      refine step_binop rfl .neq 38 _ _ _ rfl (guard_agg (by kernel_rfl) _ _ _ _ _ _) hneq ?_
      refine hK.out _ _ (fun _ => ⟨heap_below hb7 hPQ.1 (lt_of_heap hPQ.1), heap_below hb7 hPQ.2 (lt_of_heap hPQ.2)⟩) ?_
      clear hK K hneq
      refine wpAnyF_done (by kernel_rfl) ?_ _
      have hb8 := (Below.drew (Below.refl W.heap.size W)).trans hb7
      have hK8 : Kept (fun c => c = b' ∨ S c) W w6 := Kept.of_below hb8
      have hI8 := hI.res.below hb8
      have hO8 := hI.old.next hb8
      have hpq8 : GSameI a b p q l w k S w6 := ⟨heap_below hb8 hI.pa (lt_of_heap hI.pa), heap_below hb8 hI.qb (lt_of_heap hI.qb), heap_below hb8 hI.ga (lt_of_heap hI.ga), heap_below hb8 hI.gb (lt_of_heap hI.gb), hI.mine, hI8, hO8, hI.same⟩
      have hbb := hbb'h.out
      clear hPQ hb5 hb6 hb7 hb8
      cases d
      rotate_left
      · have hK8'h := Lib.hid hK8
        have hI8'h := Lib.hid hI8
        have hO8'h := Lib.hid hO8
        have hpq8'h := Lib.hid hpq8
        have hI'h := Lib.hid hI
        have hbb'h := Lib.hid hbb
        have hd'h := Lib.hid hd
        clear hK8 hI8 hO8 hpq8 hI hbb hd
        gi_wp2
        have hp := hpq8'h.out
        refine ⟨hK8'h.out, ⟨hp.pa, hp.qb, hp.ga, hp.gb, hp.mine, hp.res, hp.old, fun j hj => ?_⟩⟩
        by_cases e : j = k
        · subst e; simpa using hd'h.out.symm
        · exact hp.same j (by omega)
      · have r1 := hI8.cell
        have r2 := hI8.free
        have hK8'h := Lib.hid hK8
        have hI8'h := Lib.hid hI8
        have hO8'h := Lib.hid hO8
        have hpq8'h := Lib.hid hpq8
        have hI'h := Lib.hid hI
        have hbb'h := Lib.hid hbb
        have hd'h := Lib.hid hd
        clear hK8 hI8 hO8 hpq8 hI hbb hd
        gi_wp2
        refine ⟨hK8'h.out.trans (Kept.setCell _ _ _ _ ?_), ⟨rfl, by simpa using hd'h.out.symm⟩, hI8'h.out.set _, hO8'h.out.set (p := ⟨w.heap.size + 2, 0, none⟩) (by simp) _⟩
        rintro (h | h)
        · have h1 := hbb'h.out; simp at h; omega
        · exact hI8'h.out.mine h
    case done =>
      rintro D S W hD hSD hr hI hK
      have hne : D ≠ w.heap.size + 2 := fun e => hI.res.mine (by show S (w.heap.size + 2); rw [← e]; exact hSD)
      have x0 := gp_ctrl hI.ga
      have x1 := gp_ctrl hI.gb
      have r1 := hI.res.cell
      have r2 := hI.res.free
      have hwD : w.heap.size ≤ D := by
        have h1 := hbb'h.out
        have h2 := hbl'h.out
        omega
      clear hr
      have hz := hyes'h.out hI.same
      have d9 : (W.setCell ⟨w.heap.size + 2, 0, none⟩ (.bool z)).heap[D]? = some (.deferred (some [])) := (Below.heap_setCell _ _ _ _ hne).trans hK
      have hx := (hI.res.set (.bool z)).put (D := D) (fun e => hne e.symm) (.deferred none)
      have hold := (hI.old.set (p := ⟨w.heap.size + 2, 0, none⟩) (by simp) (.bool z)).below
      rw [hz] at d9 hx hold
      have d := hx.cell
      have hI'h := Lib.hid hI
      have hK'h := Lib.hid hK
      have hD'h := Lib.hid hD
      have hSD'h := Lib.hid hSD
      have hne'h := Lib.hid hne
      have hwD'h := Lib.hid hwD
      have d9'h := Lib.hid d9
      have hold'h := Lib.hid hold
      have hz'h := Lib.hid hz
      have hx'h := Lib.hid hx
      clear hI hK hD hSD hne hwD d9 hold hz hx
      go_wp2
      refine post_mark (.inl rfl) d9'h.out (v := .bool ((a.c : Int) == (b.c : Int))) (by simp [results, Try.results13, go_sem, d]) ⟨by rw [hz'h.out], below_putObj hold'h.out hwD'h.out _⟩
    case stop =>
      rintro D c k S W hD hSD hr hk ⟨⟨rfl, hne⟩, hx, hold⟩ hK
      have hn2 : D ≠ w.heap.size + 2 := fun e => hx.mine (by show S (w.heap.size + 2); rw [← e]; exact hSD)
      have d := (hx.put (D := D) (fun e => hn2 e.symm) (.deferred none)).cell
      have hwD : w.heap.size ≤ D := by
        have h1 := hbb'h.out
        have h2 := hbl'h.out
        omega
      have hz := hno'h.out k hk hne
      have hx'h := Lib.hid hx
      have hold'h := Lib.hid hold
      have hK'h := Lib.hid hK
      have hne'h := Lib.hid hne
      have hSD'h := Lib.hid hSD
      have hr'h := Lib.hid hr
      have hD'h := Lib.hid hD
      have hwD'h := Lib.hid hwD
      have hz'h := Lib.hid hz
      have hk'h := Lib.hid hk
      clear hx hold hK hne hSD hr hD hwD hz hk
      gi_wp2
      refine post_mark (.inl rfl) hK'h.out (v := .bool false) (by simp [results, Try.results13, go_sem, d]) ⟨by rw [hz'h.out], below_putObj hold'h.out.below hwD'h.out _⟩
end Go.Proofs.Ytfoohdjgnphdgaa
