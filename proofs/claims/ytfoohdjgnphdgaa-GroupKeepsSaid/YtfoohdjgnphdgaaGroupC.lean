/-
  Package group: New; which groups may be.
-/
import Derived.Test.YtfoohdjgnphdgaaGroupB
import Derived.Test.YtfoohdjgnphdgaaMaps
import Derived.Test.YtfoohdjgnphdgaaMarks
import Derived.Laws.Tables
import Derived.Test.YtfoohdjgnphdgaaCtrlD
set_option linter.unusedSimpArgs false
set_option linter.unusedVariables false
set_option maxRecDepth 100000
namespace Go.Proofs.Ytfoohdjgnphdgaa
open Go.RowKit

theorem wpList_build_agg {P : Program} {ops : Array Oper} {rest : List Oper} {o : Oper} {a : Act} {w : World} {Q : Exit → Act → World → Prop} (hgd : o.guard = none) (t : TypeId) (parts : Array (Nat × Operand)) (ho : o.op = .build t parts) (cells : Array Value)
    (vals : List (Nat × Value)) (hv : parts.toList.map (fun (i, x) => (i, a.eval x)) = vals) (hb : P.built t vals = some cells) (h : wpList P ops Q rest (a.put o.dst (.agg cells)) w) : wpList P ops Q (o :: rest) a w :=
  wpList_plain hgd fun _ hK => by
    have hv' : (parts.map fun (i, x) => (i, a.eval x)).toList = vals := by rw [Array.toList_map]; exact hv
    subst hv'
    unfold Oper.wp execOp
    simp only [ho, Sem.run_bind, run_build w t _ cells hb, Result.andThen_ok]
    exact hK _ _ h
theorem built_ss (g : Gp) : Try.prog.built 77 [(0, .agg (gpA g))] = some (gpA g) := by kernel_rfl
theorem gnew_any (w : World) : Calls Try.prog 11 #[] w fun e w' => e = .returned (.agg (gpA gpNew)) ∧ Below w.heap.size w w' := by
  have N := fun w => new_any w
  have hO := (Hs.nil w).new (gpA gpZ) 25
  obtain ⟨W, hW⟩ : ∃ W, W = w.alloc (.cells (gpA gpZ) 25) := ⟨_, rfl⟩
  rw [← hW] at hO
  have hO2 := hO.set 0 rfl (gpA gpNew)
  have hx := fillW_lt 128 (by decide)
  obtain ⟨x, hxx⟩ : ∃ x, x = fillW 128 := ⟨_, rfl⟩
  rw [← hxx] at N
  have hg : gpNew = ⟨x, fun _ => 0, fun _ => 0⟩ := by rw [hxx]; rfl
  have N'h := Lib.hid N
  have hO'h := Lib.hid hO
  have hO2'h := Lib.hid hO2
  have hx'h := Lib.hid hx
  have hxx'h := Lib.hid hxx
  have hW'h := Lib.hid hW
  have hg'h := Lib.hid hg
  clear N hO hO2 hx hxx hW hg
  go_enter Try.func11, Try.ntmps11
  go_upto_region 1 with fail
  change Code.wp _ _ _ _ (w.alloc (.cells (gpA gpZ) 25))
  rw [← hW'h.out]
  go_wp2_with (first | (go_at_call 42; refine (N'h.out _).mono ?_; rintro e w2 ⟨rfl, hw2⟩; obtain rfl := hw2.symm) | (refine wpList_store_row rfl _ _ _ rfl w.heap.size (gpA gpNew) rfl (by rw [hg'h.out]; rfl) 25 _ hO'h.out.rows.1 infoGp rfl (gpA_one _) ?_))
  have hO3 := hO2'h.out
  generalize World.setRow _ _ _ = W3 at hO3 ⊢
  have c := hO3.rows.1
  have hO3'h := Lib.hid hO3
  clear hO3
  go_wp2
  refine bodyPost_ret (results_cell_row rfl _ _ w.heap.size 25 (gpA gpNew) (0, 0) _ rfl c Try.underlying25 rfl infoGp) rfl ⟨rfl, hO3'h.out.old⟩

/-! ### Which groups may be -/
def metL (g : Gp) (l : List Nat) : List (Nat × Int) := l.reverse.map fun i => (g.k i, 1)
theorem mget_map (f : Nat → Nat) (x : Nat) : ∀ l : List Nat, mget (l.map fun i => (f i, 1)) x = if l.any (fun i => f i == x) = true then 1 else 0
  | [] => rfl
  | i :: l => by
    rw [List.map_cons, mget, mget_map f x l, List.any_cons]
    by_cases e : f i = x
    · simp [e]
    · rw [if_neg e]
      have : (f i == x) = false := by simp [e]
      rw [this, Bool.false_or]
theorem mget_metL (g : Gp) (l : List Nat) (x : Nat) : mget (metL g l) x = if l.any (fun i => g.k i == x) = true then 1 else 0 := by
  unfold metL
  rw [mget_map, List.any_reverse]
theorem metL_snoc (g : Gp) (l : List Nat) (i : Nat) : metL g (l ++ [i]) = (g.k i, 1) :: metL g l := by unfold metL; simp
theorem metL_length (g : Gp) (l : List Nat) : (metL g l).length = l.length := by unfold metL; simp
/-- Was the key of the k-th one met ahead of it? -/
def metB (g : Gp) (l : List Nat) (k : Nat) : Bool := (l.take k).any fun i => g.k i == g.k (nthN l k)
theorem fullL_mem {x i : Nat} : i ∈ fullL x ↔ i < 8 ∧ fullAt x i = true := by unfold fullL; simp
theorem fullL_lt {x : Nat} {j k : Nat} (hjk : j < k) (hk : k < (fullL x).length) : nthN (fullL x) j < nthN (fullL x) k := by
  have hp : (fullL x).Pairwise (· < ·) := (List.pairwise_lt_range (n := 8)).filter _
  have := List.pairwise_iff_getElem.1 hp j k (by omega) hk hjk
  rwa [nthN_eq, nthN_eq] at this
theorem distinct_no {g : Gp} {k : Nat} (hk : k < (fullL g.c).length) (h : metB g (fullL g.c) k = true) : distinctG g = false := by
  rw [← Bool.not_eq_true, distinctG_iff]
  intro hd
  unfold metB at h
  obtain ⟨i, hi, he⟩ := List.any_eq_true.1 h
  obtain ⟨j, hj, rfl⟩ := List.mem_iff_getElem.1 hi
  rw [List.length_take] at hj
  rw [List.getElem_take] at he
  rw [nthN_eq (by omega)] at he
  have h1 := fullL_mem.1 (nthN_mem hk)
  have h2 := fullL_mem.1 (nthN_mem (l := fullL g.c) (k := j) (by omega))
  exact hd _ h1.1 _ (fullL_lt (by omega) hk) h1.2 h2.2 (by simpa using (beq_iff_eq.1 he).symm)
theorem distinct_yes {g : Gp} (h : ∀ k, k < (fullL g.c).length → metB g (fullL g.c) k = false) : distinctG g = true := by
  rw [distinctG_iff]
  intro i hi j hj f1 f2 e
  obtain ⟨k, hk, h1⟩ := List.mem_iff_getElem.1 (fullL_mem.2 ⟨hi, f1⟩)
  obtain ⟨q, hq, h2⟩ := List.mem_iff_getElem.1 (fullL_mem.2 ⟨show j < 8 by omega, f2⟩)
  rw [nthN_eq hk] at h1
  rw [nthN_eq hq] at h2
  have hqk : q < k := by
    rcases Nat.lt_trichotomy q k with h | h | h
    · exact h
    · subst h; omega
    · have := fullL_lt h hq; omega
  have := h k hk
  unfold metB at this
  rw [← Bool.not_eq_true] at this
  apply this
  rw [List.any_eq_true]
  refine ⟨j, ?_, by rw [h1, e]; simp⟩
  rw [List.mem_iff_getElem]
  refine ⟨q, by rw [List.length_take]; omega, ?_⟩
  rw [List.getElem_take, nthN_eq hq]; exact h2
structure GChkI (g : Gp) (l : List Nat) (w : World) (k : Nat) (S : Nat → Prop) (W : World) : Prop where
  grp : W.heap[w.heap.size]? = some (.cells (gpA g) 25 (0, 0))
  ming : ¬ S w.heap.size
  res : Own1 ⟨w.heap.size + 1, 0, none⟩ (.int .i64 0) S W
  mp : MapI W (w.heap.size + 2) (metL g (l.take k))
  minm : ¬ S (w.heap.size + 2)
  var : Own1 ⟨w.heap.size + 3, 0, none⟩ (.map (some (w.heap.size + 2))) S W
  old : Old w.heap.size w S W
  no : ∀ j, j < k → metB g l j = false
theorem GChkI.stable (g : Gp) (l : List Nat) (w : World) (k : Nat) : Stable (GChkI g l w k) := fun S S' W W' i hf =>
  ⟨hf.heap' i.ming i.grp, hf.not (lt_of_heap i.grp) i.ming, Own1.stable _ _ _ _ _ _ i.res hf, i.mp.heap (hf.block _ i.mp.lt i.minm), hf.not i.mp.lt i.minm, Own1.stable _ _ _ _ _ _ i.var hf, Old.stable _ _ _ _ _ _ i.old hf, i.no⟩
def GChkX (g : Gp) (l : List Nat) (w : World) (c : Code) (k : Nat) (S : Nat → Prop) (W : World) : Prop := (c = .ret ∧ metB g l k = true) ∧ Own1 ⟨w.heap.size + 1, 0, none⟩ (.int .i64 200) S W ∧ Old w.heap.size w S W
theorem GChkX.stable (g : Gp) (l : List Nat) (w : World) (c : Code) (k : Nat) : Stable (GChkX g l w c k) := (Stable.pure _).and ((Own1.stable _ _).and (Old.stable _ _))
def gchkE (g : Gp) : Nat := if rightG g = true then 0 else 200
theorem gcheck_no (g : Gp) (w : World) (hg : GpOk g) (hr : rightW g.c = false) : Calls Try.prog 10 #[.agg (gpA g)] w fun e w' => e = .returned (.int .i64 200) ∧ Below w.heap.size w w' := by
  have C := fun w => check_any g.c w hg.c
  rw [hr] at C
  simp only [Bool.false_eq_true, if_false] at C
  obtain ⟨W, hW⟩ : ∃ W, W = (w.alloc (.cells (gpA g) 25)).alloc (.cells #[.int .i64 0] 29) := ⟨_, rfl⟩
  have hO := (Hs.nil w).new2 (gpA g) #[.int .i64 0] 25 29
  rw [← hW] at hO
  have c0 := gp_ctrl hO.rows.2.1
  have c1 := blk_cell (i := 0) hO.rows.1 rfl
  have f1 := blk_free 0 hO.rows.1
  have C'h := Lib.hid C
  have hO'h := Lib.hid hO
  clear C hO
  clear hr hg
  refine (callsIn_wide (n := 0)).1 ?_
  refine callsIn_of_wp_marks Try.func10 rfl trivial ?_
  simp only [Try.ntmps10, List.size_toArray, List.length_cons, List.length_nil, Nat.reduceAdd, Nat.reduceSub, Array.replicate_succ, Array.replicate_zero, List.push_toArray, List.append_toArray, List.nil_append, List.cons_append]
  refine wpIn_wide.2 ?_
  go_upto_region 1 with fail
  rw [← hW]
  clear hW
  go_wp2_with (first | (go_at_call 40; refine (C'h.out _).mono ?_; rintro e w2 ⟨rfl, hw2⟩; obtain rfl := hw2.symm))
  have hO2 := hO'h.out.put 0 rfl 0 (.int .i64 200)
  generalize World.setCell _ _ _ = W3 at hO2 ⊢
  have d := blk_cell (i := 0) hO2.rows.1 rfl
  refine post_marks (bs := []) (.inl rfl) List.nodup_nil (fun D hD => (by cases hD)) (v := .int .i64 200) (by simp [results, Try.results10, go_sem, d, shutAll]) ⟨rfl, hO2.old⟩
set_option maxHeartbeats 1000000 in
theorem gcheck_yes (g : Gp) (w : World) (hg : GpOk g) (hr : rightW g.c = true) : Calls Try.prog 10 #[.agg (gpA g)] w fun e w' => e = .returned (.int .i64 (if distinctG g = true then 0 else 200 : Nat)) ∧ Below w.heap.size w w' := by
  obtain ⟨z, hz⟩ : ∃ z : Nat, z = if distinctG g = true then 0 else 200 := ⟨_, rfl⟩
  rw [← hz]
  have C := fun w => check_any g.c w hg.c
  rw [hr] at C
  simp only [if_true] at C
  obtain ⟨l, hl⟩ : ∃ l, l = fullL g.c := ⟨_, rfl⟩
  have hset : setM g.c 0 = belowM g.c 128 := by unfold setM; rw [if_pos hr, if_pos rfl]
  have hlm : lanesOf (setM g.c 0) = l := by rw [hset, fullL_eq, hl]
  have hm8 : setM g.c 0 < 256 := by rw [hset]; exact belowM_lt' _ _
  have F := fun w => gfull_any g w hg
  generalize setM g.c 0 = m at *
  obtain ⟨W, hW⟩ : ∃ W, W = (w.alloc (.cells (gpA g) 25)).alloc (.cells #[.int .i64 0] 29) := ⟨_, rfl⟩
  have hO := (Hs.nil w).new2 (gpA g) #[.int .i64 0] 25 29
  rw [← hW] at hO
  have hzW : W.heap.size = w.heap.size + 2 := by rw [hW]; simp
  have c0 := gp_ctrl hO.rows.2.1
  have hyes : (∀ k, k < l.length → metB g l k = false) → distinctG g = true := fun h => distinct_yes (by rw [← hl]; exact h)
  have hno : ∀ k, k < l.length → metB g l k = true → distinctG g = false := fun k hk h => distinct_no (by rw [← hl]; exact hk) (by rw [← hl]; exact h)
  have hmem : ∀ k, k < l.length → nthN l k < 8 := fun k hk => (fullL_mem.1 (by rw [← hl]; exact nthN_mem hk)).1
  have hl8 : l.length ≤ 8 := by rw [← hlm]; exact length_lanesOf m
  have hmm := @run_makeMap Try.prog
  obtain ⟨V, hV⟩ : ∃ V, V = (W.alloc (.map #[] 0)).alloc (.cells #[.map (some (w.heap.size + 2))] 73) := ⟨_, rfl⟩
  have hbV : Below W.heap.size W V := by rw [hV]; exact ((Below.refl _ _).alloc (Nat.le_refl _) _).alloc (by simp) _
  have hzV : V.heap.size = w.heap.size + 4 := by rw [hV]; simp; omega
  have hOV := hO.next hbV
  have hmV : MapI V (w.heap.size + 2) [] := by
    rw [hV, ← hzW]
    exact (MapI.made W).heap (Below.heap_alloc _ _ _ (by simp))
  have hvV : V.heap[w.heap.size + 3]? = some (.cells #[.map (some (w.heap.size + 2))] 73 (0, 0)) := by
    rw [hV, show w.heap.size + 3 = W.heap.size + 1 by omega]; exact heap_alloc2_new W _ _
  have hz'h := Lib.hid hz
  have C'h := Lib.hid C
  have hO'h := Lib.hid hO
  have hyes'h := Lib.hid hyes
  have hno'h := Lib.hid hno
  have hmem'h := Lib.hid hmem
  have hbV'h := Lib.hid hbV
  have hOV'h := Lib.hid hOV
  have hmV'h := Lib.hid hmV
  have hvV'h := Lib.hid hvV
  have hlm'h := Lib.hid hlm
  have hm8'h := Lib.hid hm8
  have F'h := Lib.hid F
  have hl8'h := Lib.hid hl8
  have hl'h := Lib.hid hl
  have hr'h := Lib.hid hr
  have hg'h := Lib.hid hg
  have hset'h := Lib.hid hset
  clear hz C hO hyes hno hmem hbV hOV hmV hvV hlm hm8 F hl8 hl hr hg hset
  refine (callsIn_wide (n := 0)).1 ?_
  refine callsIn_of_wp_marks Try.func10 rfl trivial ?_
  simp only [Try.ntmps10, List.size_toArray, List.length_cons, List.length_nil, Nat.reduceAdd, Nat.reduceSub, Array.replicate_succ, Array.replicate_zero, List.push_toArray, List.append_toArray, List.nil_append, List.cons_append]
  refine wpIn_wide.2 ?_
  go_upto_region 1 with fail
  rw [← hW]
  clear hW
  have hV'h := Lib.hid hV
  clear hV
  go_upto_region 4 with (first | (go_at_call 40; refine (C'h.out _).mono ?_; rintro e w2 ⟨rfl, hw2⟩; obtain rfl := hw2.symm))
  simp only [Nat.add_assoc, Nat.reduceAdd]
  rw [← hV'h.out]
  clear c0 hmm hzW
  have hzV'h := Lib.hid hzV
  clear hzV
  go_wp2_with (first | (refine wpList_load_row rfl _ _ rfl w.heap.size rfl 25 (gpA g) (0, 0) _ hOV'h.out.rows.2.1 Try.underlying25 rfl infoGp ?_) | (refine wpList_build_agg rfl 77 #[(0, .tmp 10)] (by rfl) (gpA g) [(0, .agg (gpA g))] (by rfl) (built_ss g) ?_) | (go_at_call 41; refine (F'h.out _).mono ?_; rintro e w3 ⟨b, hbb, rfl, hb3, hmb⟩))
  have hzV := hzV'h.out
  have hO3 := hOV'h.out.next hb3
  have hbb : w.heap.size + 4 ≤ b := by omega
  have hbl : b < w3.heap.size := lt_of_heap hmb
  have hv3 := heap_below hb3 hvV'h.out (lt_of_heap hvV'h.out)
  have hI0 : GChkI g l w 0 (fun _ => False) w3 := by
    refine ⟨hO3.rows.2.1, fun h => h, ⟨blk_cell hO3.rows.1 rfl, blk_free 0 hO3.rows.1, fun h => h⟩, ?_, fun h => h, ⟨blk_cell hv3 rfl, blk_free 0 hv3, fun h => h⟩, ⟨hO3.old, Nat.le_refl _, fun b hb h => h⟩, fun j hj => absurd hj (by omega)⟩
    exact hmV'h.out.heap (hb3.block _ (by omega))
  have hit := geach_it m b hm8'h.out w3 hmb
  rw [hlm'h.out] at hit
  clear hv3 hO3 hzV
  have hI0'h := Lib.hid hI0
  have hit'h := Lib.hid hit
  have hbl'h := Lib.hid hbl
  have hb3'h := Lib.hid hb3
  have hmb'h := Lib.hid hmb
  have hbb'h := Lib.hid hbb
  clear hI0 hit hbl hb3 hmb hbb
  refine (wpIn_wide (n := 0)).1 ?_
  refine' wpIn_range rfl (fun h => by cases h) rfl trivial enters_geach hit'h.out (fun b hb => False.elim hb) (fun _ => rfl) (fun c hc => ⟨by rw [hc]; exact hbl'h.out, fun h => h⟩)
    (GChkI g l w) (GChkX g l w) (GChkI.stable g l w) (GChkX.stable g l w) hI0'h.out
    (AxOf _ (GChkI g l w)) (AxOf.stable (GChkI.stable g l w)) ?assign ?body ?done ?stop
  case assign =>
    intro l1 k S W hk hSl hr hSb hI
    rw [nthN_eq hk]
    clear hr
    gi_wp2
    exact ⟨⟨rfl, hI⟩, Kept.refl _ _⟩
  case body =>
    rintro l1 k S a W r hk hSl hlr hr hSb ⟨rfl, hI⟩
    have hn := hmem'h.out k hk
    have e0 : W.drew.cell? ⟨w.heap.size + 3, 0, none⟩ = some (.map (some (w.heap.size + 2))) := hI.var.cell
    have e1 : W.drew.cell? ⟨w.heap.size, 1 + nthN l k, none⟩ = some (.int .u64 (g.k (nthN l k))) := gp_key (W := W.drew) hI.grp hn
    have hk64 := hg'h.out.k (nthN l k)
    have hM : MapI W.drew (w.heap.size + 2) (metL g (l.take k)) := hI.mp
    have hlook := hM.look (g.k (nthN l k)) hk64
    rw [mget_metL] at hlook
    change (Instr.lookup 73 (.map (some (w.heap.size + 2))) (.int .u64 (g.k (nthN l k) : Int)) false).run Try.prog W.drew = .ok (.int .i64 (if metB g l k = true then 1 else 0)) W.drew at hlook
    have h0n : (0 : Int) ≤ (nthN l k : Int) := by omega
    have hn8 : (nthN l k : Int) < 8 := by omega
    refine wpIn_block ?_
    cases hmet : metB g l k with
    | true =>
      rw [hmet] at hlook
      simp only [if_true] at hlook
      have hI'h := Lib.hid hI
      have hM'h := Lib.hid hM
      have hk64'h := Lib.hid hk64
      have hmet'h := Lib.hid hmet
      have hr'h := Lib.hid hr
      have hSb'h := Lib.hid hSb
      have hSl'h := Lib.hid hSl
      have hlr'h := Lib.hid hlr
      have hn'h := Lib.hid hn
      have hk'h := Lib.hid hk
      clear hI hM hk64 hmet hr hSb hSl hlr hn hk
      gi_wp2
      refine wpIn_round_still_tail 6 (by kernel_rfl) (by kernel_rfl) (by kernel_rfl) (by rintro ⟨_, _, h⟩; exact h) ?_
      simp only [List.take_succ_cons, List.take_zero, List.drop_succ_cons, List.drop_zero]
      change wpStill _ _ W.drew (fun a' => wpList _ _ _ _ a' W.drew) _ _
      repeat still_step
      refine wpStill_nil ?_
      go_wp2
      have r1 : W.drew.cell? ⟨w.heap.size + 1, 0, none⟩ = some (.int .i64 0) := hI'h.out.res.cell
      have r2 : W.drew.frozen? ⟨w.heap.size + 1, 0, none⟩ = false := hI'h.out.res.free
      clear e0 e1 hlook
      have hWd : ∃ V, V = W.drew := ⟨_, rfl⟩
      obtain ⟨V1, hV1⟩ := hWd
      rw [← hV1] at r1 r2 ⊢
      have hV1'h := Lib.hid hV1
      clear hV1
      gi_wp2
      have hx : Own1 ⟨w.heap.size + 1, 0, none⟩ (.int .i64 200) S (V1.setCell ⟨w.heap.size + 1, 0, none⟩ (.int .i64 200)) := by rw [hV1'h.out]; exact hI'h.out.res.drew.set _
      have hbb := hbb'h.out
      have hold := hI'h.out.old
      refine ⟨?_, ⟨rfl, hmet'h.out⟩, hx, by rw [hV1'h.out]; exact hold.drew.set (p := ⟨w.heap.size + 1, 0, none⟩) (by simp) _⟩
      rw [hV1'h.out]
      refine (Kept.drew _ _).trans (Kept.setCell _ _ _ _ ?_)
      rintro (h | h)
      · simp at h; omega
      · exact hI'h.out.res.mine h
    | false =>
      rw [hmet] at hlook
      simp only [Bool.false_eq_true, if_false] at hlook
      obtain ⟨w6, hput, hM6, hg6⟩ := (show MapI W.drew.drew (w.heap.size + 2) (metL g (l.take k)) from hM).put (g.k (nthN l k)) 1 hk64 (by decide) (by rw [metL_length, List.length_take]; have := hl8'h.out; unfold maxLen; omega)
      have e2 : W.drew.drew.cell? ⟨w.heap.size + 3, 0, none⟩ = some (.map (some (w.heap.size + 2))) := hI.var.cell
      have e3 : W.drew.drew.cell? ⟨w.heap.size, 1 + nthN l k, none⟩ = some (.int .u64 (g.k (nthN l k))) := gp_key (W := W.drew) hI.grp hn
      have hI'h := Lib.hid hI
      have hM'h := Lib.hid hM
      have hk64'h := Lib.hid hk64
      have hmet'h := Lib.hid hmet
      have hr'h := Lib.hid hr
      have hSb'h := Lib.hid hSb
      have hSl'h := Lib.hid hSl
      have hlr'h := Lib.hid hlr
      have hn'h := Lib.hid hn
      have hk'h := Lib.hid hk
      have hM6'h := Lib.hid hM6
      have hg6'h := Lib.hid hg6
      clear hI hM hk64 hmet hr hSb hSl hlr hn hk hM6 hg6
      gi_wp2
      refine wpIn_round_still_tail 6 (by kernel_rfl) (by kernel_rfl) (by kernel_rfl) (by rintro ⟨_, _, h⟩; exact h) ?_
      simp only [List.take_succ_cons, List.take_zero, List.drop_succ_cons, List.drop_zero]
      change wpStill _ _ W.drew (fun a' => wpList _ _ _ _ a' W.drew) _ _
      repeat still_step
      refine wpStill_nil ?_
      go_wp2
      clear e0 e1 hlook
      gi_wp2
      refine wpIn_round_still_tail 5 (by kernel_rfl) (by kernel_rfl) (by kernel_rfl) (by rintro ⟨_, _, h⟩; exact h) ?_
      simp only [List.take_succ_cons, List.take_zero, List.drop_succ_cons, List.drop_zero]
      change wpStill _ _ W.drew.drew (fun a' => wpList _ _ _ _ a' W.drew.drew) _ _
      repeat still_step
      refine wpStill_nil ?_
      obtain ⟨V2, hV2⟩ : ∃ V, V = W.drew.drew := ⟨_, rfl⟩
      rw [← hV2] at e2 e3 hput ⊢
      have hV2'h := Lib.hid hV2
      clear hV2
      go_wp2
      have hI := hI'h.out
      have hg6 := hg6'h.out
      rw [← hV2'h.out] at hg6
      have hId : GChkI g l w k S W.drew.drew := (GChkI.stable g l w k _ _ _ _ (GChkI.stable g l w k _ _ _ _ hI (Foreign.drew W)) (Foreign.drew _))
      rw [← hV2'h.out] at hId
      have hWV : Kept (fun _ => True) W V2 := by rw [hV2'h.out]; exact (Kept.drew _ _).trans (Kept.drew _ _)
      have hkk : ∀ c, c < V2.heap.size → c ≠ w.heap.size + 2 → w6.heap[c]? = V2.heap[c]? := fun c hc hne => hg6.block c hc (fun e => by injection e with e; omega)
      have hbb := hbb'h.out
      have hbl := hbl'h.out
      refine ⟨(hWV.mono fun _ _ => trivial).trans (Kept.grown hg6 (fun q hq => ?_)), ⟨?_, hI.ming, hId.res.grown hg6 (fun e => by injection e with e; simp at e), ?_, hI.minm, hId.var.grown hg6 (fun e => by injection e with e; simp at e), hId.old.grown hg6 (fun q hq => by injection hq with hq; omega), ?_⟩⟩
      · injection hq with hq
        subst hq
        rintro (h | h)
        · omega
        · exact hI.minm h
      · exact (hkk _ (lt_of_heap hId.grp) (by omega)).trans hId.grp
      · have := hM6'h.out
        rw [List.take_succ_eq_append_getElem hk'h.out, nthN_eq hk'h.out, metL_snoc]
        exact this
      · intro j hj
        by_cases e : j = k
        · subst e; exact hmet'h.out
        · exact hI.no j (by omega)
  case done =>
    rintro D S W hD hSD hr hI hK
    have c1 := hI.res.cell
    have f1 := hI.res.free
    clear hr
    have hI'h := Lib.hid hI
    have hK'h := Lib.hid hK
    have hD'h := Lib.hid hD
    have hSD'h := Lib.hid hSD
    clear hI hK hD hSD
    go_wp2
    have hI := hI'h.out
    have hx := hI.res.set (.int .i64 0)
    have hold := hI.old.set (p := ⟨w.heap.size + 1, 0, none⟩) (by simp) (.int .i64 0)
    have hKs : (W.setCell ⟨w.heap.size + 1, 0, none⟩ (.int .i64 0)).heap[D]? = some (.deferred (some [])) := (Below.heap_setCell _ _ _ _ (by have := hI.res.lt; rintro e; have h1 := hK'h.out; have h2 := hI.res.cell; subst e; unfold World.cell? at h2; simp [h1] at h2)).trans hK'h.out
    generalize World.setCell _ _ _ = W9 at hx hold hKs ⊢
    have hne : D ≠ w.heap.size + 1 := fun e => hI.res.mine (by show S (w.heap.size + 1); rw [← e]; exact hSD'h.out)
    have d := (hx.put (D := D) (fun e => hne e.symm) (.deferred none)).cell
    refine post_mark (.inl rfl) hKs (v := .int .i64 0) (by simp [results, Try.results10, go_sem, d]) ⟨?_, below_putObj hold.below (by have := hD'h.out; have := hb3'h.out.size; have := hbb'h.out; have := hzV'h.out; omega) _⟩
    rw [hz'h.out, if_pos (hyes'h.out fun k hk => hI.no k hk)]; rfl
  case stop =>
    rintro D c k S W hD hSD hr hk ⟨⟨rfl, hmet⟩, hx, hold⟩ hK
    have hne : D ≠ w.heap.size + 1 := fun e => hx.mine (by show S (w.heap.size + 1); rw [← e]; exact hSD)
    have d := (hx.put (D := D) (fun e => hne e.symm) (.deferred none)).cell
    have hwD : w.heap.size ≤ D := by have := hb3'h.out.size; have := hbb'h.out; have := hzV'h.out; omega
    have hx'h := Lib.hid hx
    have hold'h := Lib.hid hold
    have hK'h := Lib.hid hK
    have hmet'h := Lib.hid hmet
    have hSD'h := Lib.hid hSD
    have hr'h := Lib.hid hr
    have hD'h := Lib.hid hD
    have hwD'h := Lib.hid hwD
    clear hx hold hK hmet hSD hr hD hwD
    gi_wp2
    refine post_mark (.inl rfl) hK'h.out (v := .int .i64 200) (by simp [results, Try.results10, go_sem, d]) ⟨?_, below_putObj hold'h.out.below hwD'h.out _⟩
    rw [hz'h.out, hno'h.out k hk hmet'h.out]; rfl
theorem gcheck_any (g : Gp) (w : World) (hg : GpOk g) : Calls Try.prog 10 #[.agg (gpA g)] w fun e w' => e = .returned (.int .i64 (gchkE g)) ∧ Below w.heap.size w w' := by
  unfold gchkE rightG
  cases hr : rightW g.c with
  | false => simpa using gcheck_no g w hg hr
  | true => simpa using gcheck_yes g w hg hr
end Go.Proofs.Ytfoohdjgnphdgaa
