/-
  Several texts of mine in one: OrdR OrdS.
-/
import Derived.Test.YtogeohjeabbmaaaDoorZe
import Derived.Test.YtogeohjeabbmaaaDoorY1
import Derived.Sort.LoopGhostIn
import Derived.Sort.CutIn
/-
  Layer 27 (order): the iterator over the orders that bear calls out: what it promises.
-/
set_option linter.unusedSimpArgs false
set_option linter.unusedVariables false
set_option maxRecDepth 100000
namespace Go.Proofs.YtogeohjeabbmaaaDoor
open Go.RowKit

def cntO {α : Type} (o : Option α) : Nat := if o.isSome then 1 else 0
/-- What was told: nothing yet, or the first order. -/
def SeekY (o : Option (List Nat)) (vs : Vs) (S : Nat → Prop) (W : World) : Prop :=
  vs = [] ∨ ∃ r rp rc, o = some r ∧ vs = [#[.slice rp r.length rc]] ∧ Sl W rp r.length (ints r) ∧ r.length ≤ rc ∧ ∀ b, rp.map (·.block) = some b → S b
theorem SeekY.keeps (o : Option (List Nat)) : KeepsY (fun _ => False) (SeekY o) := by
  rintro vs S W W' (h | ⟨r, rp, rc, h1, h2, h3, h4, h5⟩) hk
  · exact .inl h
  · exact .inr ⟨r, rp, rc, h1, h2, h3.kept hk (fun c hc => .inr (h5 c hc)), h4, h5⟩
theorem SeekY.last {o : Option (List Nat)} {vs : Vs} {v : Array Value} {S : Nat → Prop} {W : World} (h : SeekY o (vs ++ [v]) S W) : vs = [] ∧ ∃ r rp rc, o = some r ∧ v = #[.slice rp r.length rc] ∧ Sl W rp r.length (ints r) ∧ r.length ≤ rc ∧ ∀ b, rp.map (·.block) = some b → S b := by
  rcases h with h | ⟨r, rp, rc, h1, h2, h3⟩
  · simp at h
  · cases vs with
    | nil =>
      have : v = #[.slice rp r.length rc] := by simpa using h2
      exact ⟨rfl, r, rp, rc, h1, this, h3⟩
    | cons x xs => simp at h2
theorem SeekY.size {o : Option (List Nat)} {vs : Vs} {v : Array Value} {S : Nat → Prop} {W : World} (h : SeekY o (vs ++ [v]) S W) : v.size = 1 := by
  obtain ⟨_, r, rp, rc, _, rfl, _⟩ := h.last
  rfl
/-- What an iterator reads. -/
structure OrdR (bx br xb : Nat) (mp : Option Addr) (mn mc : Nat) (ps : Ps) (sp : Option Addr) (n cap : Nat) (l : List Mm) (met : Nat → Bool) (rp : Option Addr) (rc : Nat) (row : List Nat) (W : World) : Prop where
  bx : W.heap[bx]? = some (.cells #[.pointer (some ⟨xb, 0, none⟩)] 75 (0, 0))
  br : W.heap[br]? = some (.cells #[.slice rp row.length rc] 23 (0, 0))
  ln : LnAt W xb mp mn mc sp n cap met
  sl : SlK W 2 mp mn (prs ps)
  up : upB ps = true
  ms : MsIn W sp n l
  ro : Sl W rp row.length (ints row)
  rl : row.length ≤ rc
  rn : rp = none → rc = 0
  r0 : row = [] → rp = none
  mpl : ∀ b, mp.map (·.block) = some b → b < W.heap.size
theorem OrdR.below {bx br xb : Nat} {mp : Option Addr} {mn mc : Nat} {ps : Ps} {sp : Option Addr} {n cap : Nat} {l : List Mm} {met : Nat → Bool} {rp : Option Addr} {rc : Nat} {row : List Nat} {W W' : World} (h : OrdR bx br xb mp mn mc ps sp n cap l met rp rc row W) (hb : Below W.heap.size W W') :
    OrdR bx br xb mp mn mc ps sp n cap l met rp rc row W' :=
  ⟨heap_below hb h.bx (lt_of_heap h.bx), heap_below hb h.br (lt_of_heap h.br), h.ln.below hb, h.sl.below hb, h.up, h.ms.below hb, h.ro.below hb, h.rl, h.rn, h.r0, fun b e => Nat.lt_of_lt_of_le (h.mpl b e) hb.size⟩
theorem enters_orders (args : Array Value) (w : World) : (callFunc 63 args).run Tryd.prog w = .ok (.enter 63 args) w := by
  exact enters_of Tryd.func63 (by kernel_rfl) rfl args w
theorem orders_any (xb : Nat) (rp : Option Addr) (rn rc : Nat) (w : World) :
    Calls Tryd.prog 34 #[.pointer (some ⟨xb, 0, none⟩), .slice rp rn rc] w fun e w' => e = .returned (.func (.func 63) #[] #[.pointer (some ⟨w.heap.size, 0, none⟩), .pointer (some ⟨w.heap.size + 1, 0, none⟩)]) ∧
      w' = (w.alloc (.cells #[.pointer (some ⟨xb, 0, none⟩)] 75)).alloc (.cells #[.slice rp rn rc] 23) := by
  go_enter Tryd.func34, Tryd.ntmps34
  go_wp2
  go_ret
  exact ⟨rfl, rfl⟩
/-- What the iterator promises a body that never goes on. -/
def OrdIt (l : List Mm) (sp : Option Addr) (n cap f : Nat) : Prop :=
  ∀ (bx br xb : Nat) (mp : Option Addr) (mn mc : Nat) (ps : Ps) (met : Nat → Bool) (rp : Option Addr) (rc : Nat) (row : List Nat) (w : World), OrdR bx br xb mp mn mc ps sp n cap l met rp rc row w → unmetK l met ≤ f → ps.length + f ≤ 200 → row.length + f ≤ 200 →
    SeqItS Fence.wide 0 Tryd.prog 63 #[.pointer (some ⟨bx, 0, none⟩), .pointer (some ⟨br, 0, none⟩)] (cntO (seekF l f met ps row)) (SeekY (seekF l f met ps row)) (fun b => rp.map (·.block) = some b) (fun _ => False) w
theorem lnA_size (mp : Option Addr) (mn mc : Nat) (sp : Option Addr) (n cap : Nat) (met : Nat → Bool) : (lnL mp mn mc sp n cap met).toArray.size = 82 := by simp [lnL]
theorem info_ln82 : (Tryd.prog.info? 78).map (·.size) = some 82 := by kernel_rfl
theorem info_ln (mp : Option Addr) (mn mc : Nat) (sp : Option Addr) (n cap : Nat) (met : Nat → Bool) : (Tryd.prog.info? 78).map (·.size) = some (lnL mp mn mc sp n cap met).toArray.size := by rw [lnA_size]; exact info_ln82
theorem lnA_one (mp : Option Addr) (mn mc : Nat) (sp : Option Addr) (n cap : Nat) (met : Nat → Bool) : (lnL mp mn mc sp n cap met).toArray.all (·.oneCell') = true := by
  rw [Array.all_eq_true]
  intro i hi
  have : (lnL mp mn mc sp n cap met).toArray[i] ∈ lnL mp mn mc sp n cap met := by simp
  generalize (lnL mp mn mc sp n cap met).toArray[i] = v at this
  unfold lnL at this
  rcases List.mem_cons.1 this with rfl | this
  · rfl
  · rcases List.mem_cons.1 this with rfl | this
    · rfl
    · obtain ⟨j, _, rfl⟩ := List.mem_map.1 this; rfl
theorem cells_take {W : World} {b : Nat} {cs zs : List Value} {t : TypeId} (h : W.heap[b]? = some (.cells (cs.toArray ++ zs.toArray) t (0, 0))) (hn : cs.length ≤ maxLen) : Sl W (some ⟨b, 0, none⟩) cs.length cs := by
  refine ⟨rfl, hn, .inr ⟨b, 0, rfl, fun j u hu => ?_⟩⟩
  rw [Nat.zero_add]
  refine blk_cell h ?_
  rw [Array.getElem?_append_left (by simpa using (List.getElem?_eq_some_iff.1 hu).1), List.getElem?_toArray]
  exact hu
/-- A number appended to a row that has no room. -/
theorem append_full (rp : Option Addr) (row : List Nat) (k : Nat) (V : World) (g : Nat) (t : TypeId) (hro : Sl V rp row.length (ints row)) (hr : row.length ≤ 4000) (hr0 : row = [] → rp = none) (hg : V.heap[g]? = some (.cells #[.int .i64 (k : Int)] t (0, 0))) :
    ∃ cap' W', (∀ ty, (Builtin.append_ #[23, 23] ty #[.slice rp row.length row.length, .slice (some ⟨g, 0, none⟩) 1 1]).run Tryd.prog V = .ok (.slice (some ⟨V.heap.size, 0, none⟩) (row.length + 1) cap') W') ∧
      Below V.heap.size V W' ∧ V.heap.size < W'.heap.size ∧ Sl W' (some ⟨V.heap.size, 0, none⟩) (row.length + 1) (ints (row ++ [k])) ∧ row.length + 1 ≤ cap' := by
  obtain ⟨i0, hi, hz0, hz1, hz2⟩ := info_parts infoI
  have hnews : ∀ j u, ([.int .i64 (k : Int)] : List Value)[j]? = some u → V.cell? ((⟨g, 0, none⟩ : Addr).add j) = some u := fun j u hu => by
    rw [add_lit', Nat.zero_add]
    exact blk_cell hg (by simpa using hu)
  have hnl : ([.int .i64 (k : Int)] : List Value).length = 1 * i0.size := by rw [hz1]; rfl
  have hrl : (ints (row ++ [k])).length = row.length + 1 := by rw [ints_length, List.length_append]; rfl
  cases row with
  | nil =>
    obtain rfl := hr0 rfl
    refine ⟨_, _, fun ty => run_append_nil V _ ty _ i0 _ Tryd.underlying23 hi hz0 _ 1 1 _ hnl hnews Nat.zero_lt_one (by omega) (by rw [hz2]; omega), (Below.drew (Below.refl _ _)).alloc (Nat.le_refl _) _, ?_, ?_, grownCap_ge _ _ _ _⟩
    · rw [World.size_alloc]; exact Nat.lt_succ_self _
    · have := cells_take (cs := ints ([] ++ [k])) (zs := (Builtin.zeroCells (Value.int .i64 0).cells (grownCap V 1 0 3 - 1)).toList) (World.alloc_heap_new V.drew (.cells ((ints ([] ++ [k])).toArray ++ (Builtin.zeroCells (Value.int .i64 0).cells (grownCap V 1 0 3 - 1)).toList.toArray) 3)) (by rw [hrl]; unfold maxLen; simp)
      rw [hrl] at this
      simpa [ints, ei] using this
  | cons x r =>
    obtain ⟨b, off, rfl, hcs⟩ := hro.some' (by simp)
    have holds : ∀ j v, (ints (x :: r))[j]? = some v → V.cell? ((⟨b, off, none⟩ : Addr).add j) = some v := fun j v hv => by rw [add_lit']; exact hcs j v hv
    have hol : (ints (x :: r)).length = (x :: r).length * i0.size := by rw [ints_length, hz1, Nat.mul_one]
    generalize hrow : x :: r = row at *
    refine ⟨_, _, fun ty => run_append_grow V _ ty _ i0 _ Tryd.underlying23 hi hz0 _ row.length row.length _ hol holds _ 1 1 _ hnl hnews (by omega) (by omega) (growslice_fits (by omega) (by rw [hz2]; omega)), (Below.drew (Below.refl _ _)).alloc (Nat.le_refl _) _, ?_, ?_, grownCap_ge _ _ _ _⟩
    · rw [World.size_alloc]; exact Nat.lt_succ_self _
    · have := cells_take (cs := ints (row ++ [k])) (zs := (Builtin.zeroCells (Value.int .i64 0).cells (grownCap V (row.length + 1) row.length 3 - (row.length + 1))).toList) (World.alloc_heap_new V.drew (.cells ((ints (row ++ [k])).toArray ++ (Builtin.zeroCells (Value.int .i64 0).cells (grownCap V (row.length + 1) row.length 3 - (row.length + 1))).toList.toArray) 3)) (by rw [hrl]; unfold maxLen; omega)
      rw [hrl, ints_snoc] at this
      rw [ints_snoc]
      simpa using this
theorem wpListIn_append_run {F : Fence} {nn : Nat} {P : Program} (w : World) {ops : Array Oper} {rest : List Oper} {o : Oper} {a : Act} {Q : Exit → Act → World → Prop}
    (hg : o.guard = none) (s x : Operand) (t : TypeId) (hop : o.op = Op.call { callee := Callee.builtin Builtin.append, args := #[s, x], argTypes := #[t, t] }) (vs vx : Value) (hs : a.eval s = vs) (hx : a.eval x = vx)
    (v' : Value) (w' : World) (hr : (Builtin.append_ #[t, t] o.type #[vs, vx]).run P w = .ok v' w') (h : wpListIn F nn P ops Q rest (a.put o.dst v') w') : wpListIn F nn P ops Q (o :: rest) a w := by
  refine wpListIn_plain hg fun K hK' => ?_
  refine ⟨?_, ?_⟩
  · simp [Oper.about, hop, resolve, Target.leads, Sem.run_pure]
  · rw [Oper.semAt_plain F _ _ (by rw [hop]; intro c hc'; cases hc')]
    simp [execOp, hop, resolve, invoke, builtin, hs, hx, hr, Result.andThen]
    exact hK' _ _ h
theorem foreign_shut {S : Nat → Prop} : ∀ {bs : List Nat} {W : World}, (∀ D ∈ bs, S D) → Foreign S S W (shutAll bs W)
  | [], W, _ => Foreign.refl _ _
  | D :: bs, W, h => (Foreign.putObj W D _ (h D (List.mem_cons_self ..))).trans (foreign_shut (bs := bs) fun D' h' => h D' (List.mem_cons_of_mem _ h'))
theorem sub_may {l : List Mm} {f k : Nat} {met : Nat → Bool} {ps : Ps} {row : List Nat} (h : mayB l met k = false) : subF l f met ps row k = none := by
  cases f with
  | zero => rfl
  | succ f => unfold subF; rw [h]; rfl
theorem sub_goes {l : List Mm} {f k : Nat} {met : Nat → Bool} {ps : Ps} {row : List Nat} (h : goesB (nthM l k).md ps = false) : subF l f met ps row k = none := by
  cases f with
  | zero => rfl
  | succ f => unfold subF; rw [h, Bool.and_false]; rfl
theorem sub_both {l : List Mm} {f k : Nat} {met : Nat → Bool} {ps : Ps} {row : List Nat} (h : mayB l met k = true) (h2 : goesB (nthM l k).md ps = true) : subF l (f + 1) met ps row k = seekF l f (markB met k) (stepP (nthM l k).md ps) (row ++ [k]) := by
  unfold subF; rw [h, h2]; rfl
theorem rest_none {F : Nat → Option (List Nat)} {k q : Nat} (h : F k = none) : (List.range' k (q + 1)).findSome? F = (List.range' (k + 1) q).findSome? F := by
  rw [List.range'_succ, List.findSome?_cons, h]
theorem rest_some {F : Nat → Option (List Nat)} {k q : Nat} {r : List Nat} (h : F k = some r) : (List.range' k (q + 1)).findSome? F = some r := by
  rw [List.range'_succ, List.findSome?_cons, h]
/-- Between two rounds of the iterator. -/
structure OrdK (w2 : World) (J : Vs → (Nat → Prop) → World → Prop) (rp : Option Addr) (bs : List Nat) (W : World) : Prop where
  old : Below w2.heap.size w2 W
  nd : bs.Nodup
  marks : ∀ D ∈ bs, w2.heap.size ≤ D ∧ W.heap[D]? = some (.deferred (some []))
  js : ∃ S, J [] S W ∧ (∀ D ∈ bs, S D) ∧ (∀ b, rp.map (·.block) = some b → S b)
theorem OrdK.next {w2 W W' : World} {J : Vs → (Nat → Prop) → World → Prop} {rp : Option Addr} {bs : List Nat} (h : OrdK w2 J rp bs W) (hJ : ∀ vs, Stable (J vs)) (hb : Below W.heap.size W W') : OrdK w2 J rp bs W' := by
  obtain ⟨S, h1, h2, h3⟩ := h.js
  exact ⟨below_next h.old hb, h.nd, fun D hD => ⟨(h.marks D hD).1, heap_below hb (h.marks D hD).2 (lt_of_heap (h.marks D hD).2)⟩, S, hJ [] _ _ _ _ h1 (Foreign.of_below hb), h2, h3⟩
/-- Within the inner range: nothing was told. -/
def OrdI (wr : World) (J : Vs → (Nat → Prop) → World → Prop) (So : Nat → Prop) (vs : Vs) (S : Nat → Prop) (W : World) : Prop := vs = [] ∧ Old wr.heap.size wr S W ∧ J [] (plusM S So) W
theorem OrdI.stable (wr : World) {J : Vs → (Nat → Prop) → World → Prop} (hJ : ∀ vs, Stable (J vs)) (So : Nat → Prop) (vs : Vs) : Stable (OrdI wr J So vs) := fun S S' W W' h f =>
  ⟨h.1, Old.stable _ _ _ _ _ _ h.2.1 f, hJ [] _ _ _ _ h.2.2 f.plusM⟩
theorem OrdI.no (wr : World) (J : Vs → (Nat → Prop) → World → Prop) (So : Nat → Prop) (vs : Vs) (v : Array Value) (S : Nat → Prop) (W : World) : ¬ OrdI wr J So (vs ++ [v]) S W := fun h => by have := h.1; simp at this
/-- .. and it is left. -/
def OrdX (Jx : Vs → (Nat → Prop) → World → Prop) (So : Nat → Prop) (bs : List Nat) (c : Code) (vs : Vs) (S : Nat → Prop) (W : World) : Prop :=
  c = .ret ∧ (∀ D ∈ bs, W.heap[D]? = some (.deferred (some [])) ∧ ¬ S D) ∧ Jx vs (plusM S So) W
theorem OrdX.stable {Jx : Vs → (Nat → Prop) → World → Prop} (hJ : ∀ vs, Stable (Jx vs)) (So : Nat → Prop) (bs : List Nat) (c : Code) (vs : Vs) : Stable (OrdX Jx So bs c vs) := fun S S' W W' h f =>
  ⟨h.1, fun D hD => ⟨f.heap' (h.2.1 D hD).2 (h.2.1 D hD).1, f.not (lt_of_heap (h.2.1 D hD).1) (h.2.1 D hD).2⟩, hJ vs _ _ _ _ h.2.2 f.plusM⟩
/-- Behind the assignment. -/
def OrdA (AF : Value → Act) (wr : World) (J : Vs → (Nat → Prop) → World → Prop) (So : Nat → Prop) (vs : Vs) (v : Array Value) (a₁ : Act) (S : Nat → Prop) (W : World) : Prop := ∃ sv, v = #[sv] ∧ a₁ = AF sv ∧ OrdI wr J So vs S W
theorem OrdA.stable (AF : Value → Act) (wr : World) {J : Vs → (Nat → Prop) → World → Prop} (hJ : ∀ vs, Stable (J vs)) (So : Nat → Prop) (vs : Vs) (v : Array Value) (a₁ : Act) : Stable (OrdA AF wr J So vs v a₁) := fun S S' W W' h f => by
  obtain ⟨sv, h1, h2, h3⟩ := h
  exact ⟨sv, h1, h2, OrdI.stable wr hJ So vs _ _ _ _ h3 f⟩
end Go.Proofs.YtogeohjeabbmaaaDoor

/-
  Layer 27 (order): the iterator over the orders that bear calls out, walked.
-/
set_option linter.unusedSimpArgs false
set_option linter.unusedVariables false
set_option maxRecDepth 100000
namespace Go.Proofs.YtogeohjeabbmaaaDoor
open Go.RowKit

def OrdPost (o : Option (List Nat)) (J Jx : Vs → (Nat → Prop) → World → Prop) (e : Ending) (W' : World) : Prop :=
  (∃ v, e = .returned v) ∧ ((∃ S' vs, vs.length = cntO o ∧ SeekY o vs S' W' ∧ J vs S' W') ∨ (∃ S' vs, SeekY o vs S' W' ∧ Jx vs S' W'))
set_option maxHeartbeats 8000000 in
theorem orders_step (l : List Mm) (sp : Option Addr) (n cap : Nat) (h80 : n ≤ 80) (hck : checkB l = true) (f : Nat) (ih : ∀ f', f' < f → OrdIt l sp n cap f') : OrdIt l sp n cap f := by
  intro bx br xb mp mn mc ps met rp rc row w hR hf hps hrw ly J Jx W hno hJ hJx hW hY h0
  obtain ⟨o, ho⟩ : ∃ o, o = seekF l f met ps row := ⟨_, rfl⟩
  have hoe := ho.trans (seekF_eq l f met ps row)
  rw [← ho] at hY ⊢
  clear ho
  change CallsIn _ _ _ _ _ _ (OrdPost o J Jx)
  have hRW := hR.below hW
  have hB1 := (Below.refl W.heap.size W).alloc (Nat.le_refl _) (.cells #[.func (.yield ly) #[] #[]] 99)
  have hb1 := World.alloc_heap_new W (.cells #[.func (.yield ly) #[] #[]] 99)
  have hJ1 := hJ [] _ _ _ _ h0 (Foreign.of_below (S := fun b => rp.map (·.block) = some b) hB1)
  have hR1 := hRW.below hB1
  have hS0 : ∀ b, rp.map (·.block) = some b → row.length ≠ 0 → b < W.heap.size := fun b e hz => by
    obtain ⟨b', off, rfl, hc⟩ := hRW.ro.some' (by omega)
    cases e
    exact lt_of_cell (hc 0 (.int .i64 (nthN row 0)) (by unfold ints; rw [List.getElem?_map, List.getElem?_eq_getElem (by omega), nthN_eq (by omega)]; rfl))
  obtain ⟨W1, hW1⟩ : ∃ W1, W1 = W.alloc (.cells #[.func (.yield ly) #[] #[]] 99) := ⟨_, rfl⟩
  rw [← hW1] at hB1 hb1 hJ1 hR1
  have WH := whole_any xb mp mn mc sp n cap l met W1 hR1.ln hR1.ms h80
  obtain ⟨wh, hwh⟩ : ∃ wh, wh = wholeB l met := ⟨_, rfl⟩
  rw [← hwh] at WH hoe
  have x1 : W1.cell? ⟨bx, 0, none⟩ = some (.pointer (some ⟨xb, 0, none⟩)) := blk_cell (i := 0) hR1.bx rfl
  clear hRW h0 hwh
  have hR'h := Lib.hid hR
  have hf'h := Lib.hid hf
  have hps'h := Lib.hid hps
  have hrw'h := Lib.hid hrw
  have hno'h := Lib.hid hno
  have hJ'h := Lib.hid hJ
  have hJx'h := Lib.hid hJx
  have hW'h := Lib.hid hW
  have hoe'h := Lib.hid hoe
  have hB1'h := Lib.hid hB1
  have hb1'h := Lib.hid hb1
  have hJ1'h := Lib.hid hJ1
  have hR1'h := Lib.hid hR1
  have hS0'h := Lib.hid hS0
  have WH'h := Lib.hid WH
  have ih'h := Lib.hid ih
  clear hR hf hps hrw hno hJ hJx hW hoe hB1 hb1 hJ1 hR1 hS0 WH ih
  refine callsIn_of_wp_marks Tryd.func63 rfl trivial ?_
  simp only [Tryd.ntmps63, List.size_toArray, List.length_cons, List.length_nil, Nat.reduceAdd, Nat.reduceSub, Array.replicate_succ, Array.replicate_zero, List.push_toArray, List.append_toArray, List.nil_append, List.cons_append]
  gi_upto_region 1 with fail
  rw [← hW1]
  clear hW1
  gi_wp2_with fail
  refine (callsIn_wide.2 WH'h.out).mono ?_
  rintro e w2 ⟨rfl, hb2⟩
  have hB2 := below_next hB1'h.out hb2
  have hy2 := heap_below hb2 hb1'h.out (lt_of_heap hb1'h.out)
  have hJ2 := hJ'h.out [] _ _ _ _ hJ1'h.out (Foreign.of_below (S := fun b => rp.map (·.block) = some b) hb2)
  have hR2 := hR1'h.out.below hb2
  have x2 : w2.cell? ⟨br, 0, none⟩ = some (.slice rp row.length rc) := blk_cell (i := 0) hR2.br rfl
  have x3 : w2.cell? ⟨W.heap.size, 0, none⟩ = some (.func (.yield ly) #[] #[]) := blk_cell (i := 0) hy2 rfl
  clear x1 hb2 hJ1'h hR1'h hB1'h hb1'h WH'h
  have hB2'h := Lib.hid hB2
  have hy2'h := Lib.hid hy2
  have hJ2'h := Lib.hid hJ2
  have hR2'h := Lib.hid hR2
  clear hB2 hy2 hJ2 hR2
  cases wh with
  | true =>
    obtain rfl : o = some row := by rw [hoe'h.out]; rfl
    have hYv : SeekY (some row) ([] ++ [#[.slice rp row.length rc]]) (fun b => rp.map (·.block) = some b) w2 := .inr ⟨row, rp, rc, rfl, rfl, hR2'h.out.ro, hR2'h.out.rl, fun b hb => hb⟩
    obtain ⟨fn, tmps, assign, body, hy, hRn⟩ := hY [] #[.slice rp row.length rc] _ w2 hJ2'h.out Nat.zero_lt_one hYv
    clear hY
    have hYv'h := Lib.hid hYv
    have hRn'h := Lib.hid hRn
    clear hYv hRn
    gi_wp2_with fail
    refine hRn'h.out.mono ?_
    clear hy x2 x3
    rintro e W' (⟨rfl, hJ4, hk4⟩ | ⟨rfl, hJ4, hk4⟩)
    · exact absurd hJ4 (hno'h.out _ _ _ _)
    · have hY4 := SeekY.keeps (some row) _ _ _ _ hYv'h.out hk4
      have hJ4'h := Lib.hid hJ4
      have hY4'h := Lib.hid hY4
      clear hJ4 hY4
      gi_wp2
      refine post_plain (v := .tuple #[]) (.inl rfl) (results_none rfl _ _ _) ?_
      exact ⟨⟨_, rfl⟩, .inr ⟨_, _, hY4'h.out, hJ4'h.out⟩⟩
  | false =>
    have l0 : w2.cell? ⟨xb, 1, none⟩ = some (.slice sp n cap) := hR2'h.out.ln.c1
    have x1 : w2.cell? ⟨bx, 0, none⟩ = some (.pointer (some ⟨xb, 0, none⟩)) := blk_cell (i := 0) hR2'h.out.bx rfl
    have hlen := hR2'h.out.ms.len
    have hK2 : OrdK w2 J rp [] w2 := ⟨Below.refl _ _, List.nodup_nil, fun D hD => (by cases hD), _, hJ2'h.out, fun D hD => (by cases hD), fun b hb => hb⟩
    have hoe2 : o = (List.range' 0 l.length).findSome? (subF l f met ps row) := hoe'h.out
    rw [← hlen] at hoe2
    have hy2 := hy2'h.out
    clear hy2'h
    have hlen'h := Lib.hid hlen
    have hK2'h := Lib.hid hK2
    have hoe2'h := Lib.hid hoe2
    have hY'h := Lib.hid hY
    have hy2'h := Lib.hid hy2
    clear hlen hK2 hoe2 hY hy2
    clear hoe'h hJ2'h
    gi_wp2_with fail
    refine wpIn_loop_ghost_k (fun q a' Wk => ∃ (k : Nat) (bs : List Nat) (u4 u5 u6 u21 u22 u23 u24 u25 u26 u27 u28 u29 u30 u31 u32 u33 u34 u35 u36 u37 u38 u39 u40 u41 u42 u43 u44 u45 u46 u47 u48 u49 : Value), a' = { tmps := #[.func (.yield ly) #[] #[], .pointer (some ⟨bx, 0, none⟩), .pointer (some ⟨br, 0, none⟩), .pointer (some ⟨W.heap.size, 0, none⟩), u4, u5, u6, .pointer (some ⟨xb, 0, none⟩), .bool false, .bool false, undef, undef, undef, undef, .bool false, .pointer (some ⟨xb, 0, none⟩), .pointer (some ⟨xb, 0, none⟩), .pointer (some ⟨xb, 1, none⟩), .slice sp n cap, .int .i64 (n : Int), .int .i64 (k : Int), u21, u22, u23, u24, u25, u26, u27, u28, u29, u30, u31, u32, u33, u34, u35, u36, u37, u38, u39, u40, u41, u42, u43, u44, u45, u46, u47, u48, u49], defers := marksOf bs } ∧ k + q = n ∧ (List.range' k q).findSome? (subF l f met ps row) = o ∧ OrdK w2 J rp bs Wk) n ?_ ?_
    · exact ⟨0, [], _, _, _, _, _, _, _, _, _, _, _, _, _, _, _, _, _, _, _, _, _, _, _, _, _, _, _, _, _, _, _, _, rfl, by omega, hoe2'h.out.symm, hK2'h.out⟩
    · rintro q a' wr ⟨k, bs, u4, u5, u6, u21, u22, u23, u24, u25, u26, u27, u28, u29, u30, u31, u32, u33, u34, u35, u36, u37, u38, u39, u40, u41, u42, u43, u44, u45, u46, u47, u48, u49, rfl, hkq, hrest, hK⟩ Jq Kq hJq hKq
      have hRk := hR2'h.out.below hK.old
      have x1 : wr.cell? ⟨bx, 0, none⟩ = some (.pointer (some ⟨xb, 0, none⟩)) := blk_cell (i := 0) hRk.bx rfl
      clear l0 x2 x3
      by_cases hlt : k < n
      · have i1 : (k : Int) < (n : Int) := by omega
        have hln := hRk.ln
        obtain ⟨A, hA⟩ : ∃ A, A = (lnL mp mn mc sp n cap met).toArray := ⟨_, rfl⟩
        unfold LnAt at hln
        rw [← hA] at hln
        have hAi : (Tryd.prog.info? 78).map (·.size) = some A.size := by rw [hA]; exact info_ln ..
        have hA82 : A.size = 82 := by rw [hA]; exact lnA_size ..
        have hA1 : A.all (·.oneCell') = true := by rw [hA]; exact lnA_one ..
        have hkq'h := Lib.hid hkq
        have hrest'h := Lib.hid hrest
        have hK'h := Lib.hid hK
        have hRk'h := Lib.hid hRk
        have hln'h := Lib.hid hln
        have hA'h := Lib.hid hA
        have hAi'h := Lib.hid hAi
        have hA82'h := Lib.hid hA82
        have hA1'h := Lib.hid hA1
        clear hkq hrest hK hRk hln hA hAi hA82 hA1
        gi_upto_region 6 with (first | (refine wpListIn_load_row rfl _ _ rfl xb rfl 78 A (0, 0) _ hln'h.out Tryd.underlying78 rfl hAi'h.out ?_) | (refine wpListIn_store_row rfl _ _ _ rfl wr.heap.size A rfl rfl 78 _ (World.alloc_heap_new _ _) hAi'h.out (by rw [hA82'h.out]; rfl) hA1'h.out ?_))
        generalize hV5 : World.setRow _ _ _ = V5
        have h5 : V5.heap[wr.heap.size]? = some (.cells A 78 (0, 0)) := by rw [← hV5]; exact setRow_heap _ _ _ _ _ _ (World.alloc_heap_new _ _)
        have hb5 : Below wr.heap.size wr V5 := by rw [← hV5]; exact below_setRow' ((Below.refl _ _).alloc (Nat.le_refl _) _) (Nat.le_refl _) _
        have hL5 : LnAt V5 wr.heap.size mp mn mc sp n cap met := by unfold LnAt; rw [← hA'h.out]; exact h5
        have hR5 := hRk'h.out.below hb5
        have MAY := may_any wr.heap.size mp mn mc sp n cap l met k V5 hL5 hR5.ms hlt h80
        have hkl : k < l.length := by have := hlen'h.out; omega
        obtain ⟨mb, hmb⟩ : ∃ mb, mb = mayB l met k := ⟨_, rfl⟩
        rw [← hmb] at MAY
        obtain ⟨q, rfl⟩ : ∃ q', q = q' + 1 := ⟨q - 1, by have := hkq'h.out; omega⟩
        clear hV5 h5 x1 hln'h hA'h hAi'h hA82'h hA1'h
        have hb5'h := Lib.hid hb5
        have hL5'h := Lib.hid hL5
        have hR5'h := Lib.hid hR5
        have MAY'h := Lib.hid MAY
        have hkl'h := Lib.hid hkl
        have hmb'h := Lib.hid hmb
        clear hb5 hL5 hR5 MAY hkl hmb
        gi_wp2_with fail
        refine (callsIn_wide.2 MAY'h.out).mono ?_
        rintro e w6 ⟨rfl, hb6⟩
        have hb6' : Below wr.heap.size wr w6 := hb5'h.out.trans (hb6.mono hb5'h.out.size)
        cases mb with
        | false =>
          have hrest2 := (rest_none (sub_may (l := l) (f := f) (met := met) (ps := ps) (row := row) hmb'h.out.symm)).symm.trans hrest'h.out
          have hK6 := hK'h.out.next hJ'h.out hb6'
          clear hb6
          have hrest2'h := Lib.hid hrest2
          have hK6'h := Lib.hid hK6
          clear hrest2 hK6
          gi_wp2
          refine Handed.intro q (by omega) (hJq _ _ _ ⟨k + 1, bs, _, _, _, _, _, _, _, _, _, _, _, _, _, _, _, _, _, _, _, _, _, _, _, _, _, _, _, _, _, _, _, _, rfl, by have := hkq'h.out; omega, hrest2'h.out, hK6'h.out⟩)
        | true =>
          have hop := may_op hmb'h.out.symm
          have hL6 := hL5'h.out.below hb6
          have hR6 := hR5'h.out.below hb6
          have hmn : mn = ps.length := by have := hR6.sl.1; rw [prs_length] at this; omega
          have GOES := goes_any 0 wr.heap.size mp mn mc ps sp n cap l met k w6 hL6 hR6.ms hlt h80 hR6.sl hR6.up (by have := hps'h.out; omega) (right_all hck hkl'h.out) hop (Nat.zero_le _) (fun b e => ⟨Nat.zero_le _, by have := hRk'h.out.mpl b e; omega, by have := hRk'h.out.mpl b e; have := hb6'.size; omega⟩)
          obtain ⟨gb, hgb⟩ : ∃ gb, gb = goesB (nthM l k).md ps := ⟨_, rfl⟩
          obtain ⟨ps2, hps2⟩ : ∃ ps2, ps2 = stepP (nthM l k).md ps := ⟨_, rfl⟩
          rw [← hgb, ← hps2] at GOES
          clear hb6 hmn hop hL6 hR6 hR5'h hL5'h hb5'h MAY'h
          have hb6''h := Lib.hid hb6'
          have GOES'h := Lib.hid GOES
          have hgb'h := Lib.hid hgb
          have hps2'h := Lib.hid hps2
          clear hb6' GOES hgb hps2
          gi_wp2_with fail
          refine (callsIn_wide.2 GOES'h.out).mono ?_
          rintro e w7 ⟨mp7, mn7, mc7, rfl, hK7, hL7, hS7, hne7⟩
          have hb7 : Below wr.heap.size wr w7 := hb6''h.out.trans ((hK7.mono (fun b (hb : b < wr.heap.size) => by omega)).below hb6''h.out.size)
          clear hK7 hb6''h GOES'h
          cases gb with
          | false =>
            have hrest2 := (rest_none (sub_goes (l := l) (f := f) (met := met) (ps := ps) (row := row) hgb'h.out.symm)).symm.trans hrest'h.out
            have hK6 := hK'h.out.next hJ'h.out hb7
            clear hL7 hS7 hne7
            have hrest2'h := Lib.hid hrest2
            have hK6'h := Lib.hid hK6
            clear hrest2 hK6
            gi_wp2
            refine Handed.intro q (by omega) (hJq _ _ _ ⟨k + 1, bs, _, _, _, _, _, _, _, _, _, _, _, _, _, _, _, _, _, _, _, _, _, _, _, _, _, _, _, _, _, _, _, _, rfl, by have := hkq'h.out; omega, hrest2'h.out, hK6'h.out⟩)
          | true =>
            have hmk : (fun i => met i || (true && decide (i = k))) = markB met k := by funext i; simp [markB]
            rw [hmk] at hL7
            have hR7 := hRk'h.out.below hb7
            have y2 : w7.cell? ⟨br, 0, none⟩ = some (.slice rp row.length rc) := blk_cell (i := 0) hR7.br rfl
            obtain ⟨f, rfl⟩ : ∃ f', f = f' + 1 := ⟨f - 1, by have := unmet_pos hkl'h.out (may_not hmb'h.out.symm); have := hf'h.out; omega⟩
            have hrl4 : row.length ≤ 4000 := by have := hrw'h.out; omega
            have hb8 : Below w7.heap.size w7 (w7.alloc (.cells #[.int .i64 (k : Int)] 3)) := (Below.refl _ _).alloc (Nat.le_refl _) _
            obtain ⟨cap9, W9, hrun, hb9, hz9, hro9, hcap9⟩ := append_full rp row k (w7.alloc (.cells #[.int .i64 (k : Int)] 3)) w7.heap.size 3 (hR7.ro.below hb8) hrl4 hR7.r0 (World.alloc_heap_new _ _)
            rw [World.size_alloc] at hrun hz9 hro9
            have OR := orders_any wr.heap.size (some ⟨w7.heap.size + 1, 0, none⟩) (row.length + 1) cap9 W9
            have hb97 : Below w7.heap.size w7 W9 := below_next hb8 hb9
            have hrl := hR7.rl
            have hrn := hR7.rn
            have hr0 := hR7.r0
            clear hb8 hb9 hmk
            have hL7'h := Lib.hid hL7
            have hS7'h := Lib.hid hS7
            have hne7'h := Lib.hid hne7
            have hb7'h := Lib.hid hb7
            have hR7'h := Lib.hid hR7
            have hrun'h := Lib.hid hrun
            have hz9'h := Lib.hid hz9
            have hro9'h := Lib.hid hro9
            have hcap9'h := Lib.hid hcap9
            have OR'h := Lib.hid OR
            have hb97'h := Lib.hid hb97
            have hr0'h := Lib.hid hr0
            clear hL7 hS7 hne7 hb7 hR7 hrun hz9 hro9 hcap9 OR hb97 hr0
            cases rp with
            | none =>
              have hrc : rc = 0 := hrn rfl
              subst hrc
              have hrow0 : row.length = 0 := by omega
              have hrun1 := hrun'h.out
              have OR1 := OR'h.out
              rw [hrow0, Nat.zero_add] at hrun1 OR1
              have hrow1 : row = [] := List.eq_nil_of_length_eq_zero hrow0
              clear hrn hrl hrun'h OR'h
              have hrun1'h := Lib.hid hrun1
              have OR1'h := Lib.hid OR1
              clear hrun1 OR1
              gi_wp2_with (guard_target = wpListIn _ _ _ _ _ (Oper.mk _ (.call (Call.mk (.builtin .append) _ _)) _ _ _ _ :: _) _ _; refine wpListIn_append_run _ rfl (.tmp 39) (.tmp 41) 23 rfl _ _ rfl rfl _ _ (hrun1'h.out _) ?_)
              have hRL : (row ++ [k]).length = 1 := by rw [List.length_append, hrow0]; rfl
              have hRL'h := Lib.hid hRL
              clear hRL
              clear hrow0 hrow1 y2
              refine (callsIn_wide.2 OR1'h.out).mono ?_
              rintro e w10 ⟨rfl, hw10⟩
              have hb10 : Below W9.heap.size W9 w10 := by rw [hw10]; exact ((Below.refl _ _).alloc (Nat.le_refl _) _).alloc (by simp) _
              have hz10 : w10.heap.size = W9.heap.size + 2 := by rw [hw10]; simp
              have hbx10 : w10.heap[W9.heap.size]? = some (.cells #[.pointer (some ⟨wr.heap.size, 0, none⟩)] 75 (0, 0)) := by rw [hw10]; exact (Below.heap_alloc _ _ _ (by simp)).trans (World.alloc_heap_new _ _)
              have hbr10 : w10.heap[W9.heap.size + 1]? = some (.cells #[.slice (some ⟨w7.heap.size + 1, 0, none⟩) (1) cap9] 23 (0, 0)) := by rw [hw10]; exact heap_alloc2_new W9 _ _
              have hz9 := hz9'h.out
              have hb710 : Below w7.heap.size w7 w10 := below_next hb97'h.out hb10
              have hbw : Below wr.heap.size wr w10 := hb7'h.out.trans (hb710.mono hb7'h.out.size)
              have hyb : wr.heap.size < w7.heap.size := lt_of_heap hL7'h.out
              have hRn : OrdR W9.heap.size (W9.heap.size + 1) wr.heap.size mp7 mn7 mc7 ps2 sp n cap l (markB met k) (some ⟨w7.heap.size + 1, 0, none⟩) cap9 (row ++ [k]) w10 :=
                ⟨hbx10, by rw [hRL'h.out]; exact hbr10, hL7'h.out.below hb710, hS7'h.out.below hb710, by rw [hps2'h.out]; exact up_stepP _ hR7'h.out.up, hR7'h.out.ms.below hb710, by rw [List.length_append]; exact hro9'h.out.below hb10, by rw [List.length_append]; exact hcap9'h.out, fun h => (by cases h), fun h => (by simp at h), fun b e => Nat.lt_of_lt_of_le (hne7'h.out b e).2.2 hb710.size⟩
              have IT := ih'h.out f (Nat.lt_succ_self f) _ _ _ _ _ _ _ _ _ _ _ w10 hRn (by have := unmet_mark hkl'h.out (may_not hmb'h.out.symm); have := hf'h.out; omega) (by have := len_stepP (nthM l k).md ps; have := hps'h.out; rw [hps2'h.out]; omega) (by rw [List.length_append]; have := hrw'h.out; simp; omega)
              obtain ⟨o2, ho2⟩ : ∃ o2, o2 = seekF l f (markB met k) ps2 (row ++ [k]) := ⟨_, rfl⟩
              rw [← ho2] at IT
              have hsub : subF l (f + 1) met ps row k = o2 := by rw [ho2, hps2'h.out]; exact sub_both hmb'h.out.symm hgb'h.out.symm
              obtain ⟨So, hJo, hSb, hSr⟩ := hK'h.out.js
              have hI0 : OrdI wr J So [] (fun b => (some (⟨w7.heap.size + 1, 0, none⟩ : Addr)).map (·.block) = some b) w10 :=
                ⟨rfl, ⟨hbw, Nat.le_refl _, fun b hb e => (by simp at e; omega)⟩, hJ'h.out [] _ _ _ _ hJo ⟨hbw.os, hbw.tape, hbw.output, hbw.size, fun b h => .inr h, fun b h => h.elim (fun e => .inr (by simp at e; omega)) .inl, fun b hb _ => hbw.block b hb⟩⟩
              have hyr := heap_below hK'h.out.old hy2'h.out (lt_of_heap hy2'h.out)
              have hyw : W.heap.size < wr.heap.size := lt_of_heap hyr
              have hwz := hbw.size
              clear hw10 hbx10 hbr10 hb710 hRn ho2 hJo
              have hb10'h := Lib.hid hb10
              have hz10'h := Lib.hid hz10
              have hz9'h := Lib.hid hz9
              have hbw'h := Lib.hid hbw
              have hyb'h := Lib.hid hyb
              have IT'h := Lib.hid IT
              have hsub'h := Lib.hid hsub
              have hSb'h := Lib.hid hSb
              have hSr'h := Lib.hid hSr
              have hI0'h := Lib.hid hI0
              have hyr'h := Lib.hid hyr
              have hyw'h := Lib.hid hyw
              have hwz'h := Lib.hid hwz
              clear hb10 hz10 hz9 hbw hyb IT hsub hSb hSr hI0 hyr hyw hwz
              gi_wp2_with fail
              refine' wpIn_rangeS rfl (fun h => by cases h) rfl trivial enters_orders IT'h.out (SeekY.keeps _) (fun b e => by have h1 := hz10'h.out; have h2 := hz9'h.out; simp at e; omega) (fun vs v S W hy => hy.size) (fun b h => h.elim) (OrdI wr J So) (OrdX Jx So bs) (OrdI.no _ _ _) (OrdI.stable _ hJ'h.out _) (OrdX.stable hJx'h.out _ _) hI0'h.out (OrdA (fun sv => { tmps := #[.func (.yield ly) #[] #[], .pointer (some ⟨bx, 0, none⟩), .pointer (some ⟨br, 0, none⟩), .pointer (some ⟨W.heap.size, 0, none⟩), .int .i64 (k : Int), .pointer (some ⟨wr.heap.size, 0, none⟩), sv, .pointer (some ⟨xb, 0, none⟩), .bool false, .bool false, undef, undef, undef, undef, .bool false, .pointer (some ⟨xb, 0, none⟩), .pointer (some ⟨xb, 0, none⟩), .pointer (some ⟨xb, 1, none⟩), .slice sp n cap, .int .i64 (n : Int), .int .i64 (k : Int), .bool true, .int .i64 (k : Int), .pointer (some ⟨xb, 0, none⟩), .pointer (some ⟨xb, 0, none⟩), .agg A, .int .i64 (k : Int), .bool true, .bool false, .bool false, .int .i64 (k : Int), .bool true, .bool false, .bool false, .slice none 0 0, .slice none 0 0, .int .i64 0, .slice none 0 0, .int .i64 0, .slice none 0 0, .int .i64 (k : Int), .slice (some ⟨w7.heap.size, 0, none⟩) 1 1, .slice (some ⟨w7.heap.size + 1, 0, none⟩) (1) cap9, .func (.func 63) #[] #[.pointer (some ⟨W9.heap.size, 0, none⟩), .pointer (some ⟨W9.heap.size + 1, 0, none⟩)], sv, u45, u46, u47, u48, u49], defers := [] }) wr J So) (OrdA.stable _ _ hJ'h.out _) ?assign ?body ?done ?stop
              case assign =>
                intro ly2 vs v S S1 Wx hk hl hs1 hro hSb2 hY2 hI
                obtain ⟨hvs, r, rp', rc', ho3, hv2, hSl, hrl, hbS⟩ := hY2.last
                obtain ⟨sv, rfl⟩ : ∃ sv, v = #[sv] := ⟨_, hv2⟩
                clear hv2 hSl hrl hbS
                have hI'h := Lib.hid hI
                clear hI
                gi_wp2
                exact ⟨⟨sv, rfl, rfl, hI'h.out⟩, Kept.refl _ _⟩
              case body =>
                rintro ly2 vs v S S1 a₁ Wx r2 hk hl hs1 hlr hro hSb2 hY2 ⟨sv, rfl, rfl, hI⟩
                obtain ⟨hvs, r, rp', rc', ho3, hv2, hSl, hrl, hbS⟩ := hY2.last
                subst hvs
                obtain rfl : sv = .slice rp' r.length rc' := by simpa using hv2
                have hyx := (hI.2.1.below.block _ hyw'h.out).trans hyr'h.out
                have x3 : Wx.cell? ⟨W.heap.size, 0, none⟩ = some (.func (.yield ly) #[] #[]) := blk_cell (i := 0) hyx rfl
                obtain rfl : o = some r := by rw [← hrest'h.out, rest_some (hsub'h.out.trans ho3)]
                have hYv : SeekY (some r) ([] ++ [#[.slice rp' r.length rc']]) (plusM S So) Wx := .inr ⟨r, rp', rc', rfl, rfl, hSl, hrl, fun b hb => .inl (hs1 b (hbS b hb))⟩
                have hmk : ∀ D ∈ bs, Wx.heap[D]? = some (.deferred (some [])) ∧ ¬ S D := fun D hD => by
                  have h1 := (hK'h.out.marks D hD).2
                  have h2 := lt_of_heap h1
                  exact ⟨(hI.2.1.below.block _ h2).trans h1, hI.2.1.mine D h2⟩
                obtain ⟨fn, tmps, assign, body, hy, hRn⟩ := hY'h.out [] #[.slice rp' r.length rc'] (plusM S So) Wx hI.2.2 Nat.zero_lt_one hYv
                clear hv2 hSl hrl hbS hyx hlr hro hs1 hl hk hSb2
                have hRn'h := Lib.hid hRn
                have hI'h := Lib.hid hI
                have hYv'h := Lib.hid hYv
                have hmk'h := Lib.hid hmk
                have hY2'h := Lib.hid hY2
                clear hRn hI hYv hmk hY2
                gi_wp2_with fail
                refine (show RoundIn (Fence.wide.inRound ly2) 0 Tryd.prog ly fn tmps assign body Wx _ from hRn'h.out).mono ?_
                clear hy x3
                rintro e W' (⟨rfl, hJ4, hk4⟩ | ⟨rfl, hJ4, hk4⟩)
                · exact absurd hJ4 (hno'h.out _ _ _ _)
                · have hfin : rangePostX (fun b => False ∨ S b) (OrdI wr J So ([] ++ [#[.slice rp' r.length rc']])) (fun c => OrdX Jx So bs c ([] ++ [#[.slice rp' r.length rc']])) S Wx .ret { tmps := #[], defers := [] } W' := by
                    refine ⟨hk4.mono fun b hb => hb.elim .inl (fun h => .inr (.inl h)), rfl, fun D hD => ⟨?_, (hmk'h.out D hD).2⟩, hJ4⟩
                    exact (hk4.block D (lt_of_heap (hmk'h.out D hD).1) (.inr (.inr (hSb'h.out D hD)))).trans (hmk'h.out D hD).1
                  clear hJ4 hk4
                  have hfin'h := Lib.hid hfin
                  clear hfin
                  gi_wp2
                  exact hfin'h.out
              case done =>
                rintro D S S1 vs Wx hDw hSD hro hs1 hS1D hvs hY2 hI hK3
                obtain ⟨rfl, hOld, hJn⟩ := hI
                have ho2n : o2 = none := by
                  cases o2 with
                  | none => rfl
                  | some r => simp [cntO] at hvs
                have hrest2 := (rest_none (hsub'h.out.trans ho2n)).symm.trans hrest'h.out
                have hKn : OrdK w2 J none (D :: bs) Wx := by
                  have hK := hK'h.out
                  have h1 := hwz'h.out
                  have h2 := hK.old.size
                  refine ⟨hK.old.trans (hOld.below.mono h2), List.nodup_cons.2 ⟨fun hm => hOld.mine D (lt_of_heap (hK.marks D hm).2) hSD, hK.nd⟩, fun D' hD' => ?_, plusM S So, hJn, fun D' hD' => ?_, fun b hb => .inr (hSr'h.out b hb)⟩
                  · rcases List.mem_cons.1 hD' with rfl | hD'
                    · exact ⟨by omega, hK3⟩
                    · exact ⟨(hK.marks D' hD').1, (hOld.below.block _ (lt_of_heap (hK.marks D' hD').2)).trans (hK.marks D' hD').2⟩
                  · rcases List.mem_cons.1 hD' with rfl | hD'
                    · exact .inl hSD
                    · exact .inr (hSb'h.out D' hD')
                clear hOld hJn hvs hY2 ho2n hK3 hro hs1
                have hrest2'h := Lib.hid hrest2
                have hKn'h := Lib.hid hKn
                clear hrest2 hKn
                gi_wp2
                refine Handed.intro q (by omega) (hJq _ _ _ ⟨k + 1, D :: bs, _, _, _, _, _, _, _, _, _, _, _, _, _, _, _, _, _, _, _, _, _, _, _, _, _, _, _, _, _, _, _, _, rfl, by have := hkq'h.out; omega, hrest2'h.out, hKn'h.out⟩)
              case stop =>
                rintro D c vs S S1 Wx hDw hSD hro hs1 hS1D hY2 ⟨rfl, hmk, hJn⟩ hK3
                have hD2 : ∀ D' ∈ D :: bs, Wx.heap[D']? = some (.deferred (some [])) := fun D' hD' => by
                  rcases List.mem_cons.1 hD' with rfl | hD'
                  · exact hK3
                  · exact (hmk D' hD').1
                have hT : ∀ D' ∈ D :: bs, plusM S So D' := fun D' hD' => by
                  rcases List.mem_cons.1 hD' with rfl | hD'
                  · exact .inl hSD
                  · exact .inr (hSb'h.out D' hD')
                have hnd : (D :: bs).Nodup := List.nodup_cons.2 ⟨fun hm => (hmk D hm).2 hSD, hK'h.out.nd⟩
                have hno1 : ∀ b, S1 b → b ∉ D :: bs := fun b hb hm => by
                  rcases List.mem_cons.1 hm with rfl | hm
                  · exact hS1D hb
                  · exact (hmk b hm).2 (hs1 b hb)
                have hJf := hJx'h.out vs _ _ _ _ hJn (foreign_shut (W := Wx) hT)
                have hYf : SeekY o vs (plusM S So) (shutAll (D :: bs) Wx) := by
                  rcases hY2 with h | ⟨r, rp', rc', h1, h2, h3, h4, h5⟩
                  · exact .inl h
                  · refine .inr ⟨r, rp', rc', by rw [← hrest'h.out, rest_some (hsub'h.out.trans h1)], h2, ?_, h4, fun b hb => .inl (hs1 b (h5 b hb))⟩
                    exact ((SlK.of_sl h3).keep fun b ob _ hb ho => (shutAll_other (hno1 b (h5 b hb))).trans ho).sl
                clear hJn hY2 hmk hK3 hno1
                have hD2'h := Lib.hid hD2
                have hnd'h := Lib.hid hnd
                have hJf'h := Lib.hid hJf
                have hYf'h := Lib.hid hYf
                clear hD2 hnd hJf hYf
                gi_wp2
                refine post_marks (bs := D :: bs) (v := .tuple #[]) (.inl rfl) hnd'h.out hD2'h.out (results_none rfl _ _ _) ?_
                exact ⟨⟨_, rfl⟩, .inr ⟨_, _, hYf'h.out, hJf'h.out⟩⟩
            | some ad =>
              have hrow0 : row.length ≠ 0 := fun e => by have := hr0'h.out (List.eq_nil_of_length_eq_zero e); cases this
              have i2 : (row.length : Int) ≤ (rc : Int) := by omega
              have i3 : (0 : Int) ≤ (row.length : Int) := by omega
              have i4 : ¬ (row.length : Int) = 0 := by omega
              clear hrn hrl
              gi_wp2_with (guard_target = wpListIn _ _ _ _ _ (Oper.mk _ (.call (Call.mk (.builtin .append) _ _)) _ _ _ _ :: _) _ _; refine wpListIn_append_run _ rfl (.tmp 39) (.tmp 41) 23 rfl _ _ rfl rfl _ _ (hrun'h.out _) ?_)
              have hRL : (row ++ [k]).length = row.length + 1 := by rw [List.length_append]; rfl
              have hRL'h := Lib.hid hRL
              clear hRL
              clear hrow0 i2 i3 i4 y2
              refine (callsIn_wide.2 OR'h.out).mono ?_
              rintro e w10 ⟨rfl, hw10⟩
              have hb10 : Below W9.heap.size W9 w10 := by rw [hw10]; exact ((Below.refl _ _).alloc (Nat.le_refl _) _).alloc (by simp) _
              have hz10 : w10.heap.size = W9.heap.size + 2 := by rw [hw10]; simp
              have hbx10 : w10.heap[W9.heap.size]? = some (.cells #[.pointer (some ⟨wr.heap.size, 0, none⟩)] 75 (0, 0)) := by rw [hw10]; exact (Below.heap_alloc _ _ _ (by simp)).trans (World.alloc_heap_new _ _)
              have hbr10 : w10.heap[W9.heap.size + 1]? = some (.cells #[.slice (some ⟨w7.heap.size + 1, 0, none⟩) (row.length + 1) cap9] 23 (0, 0)) := by rw [hw10]; exact heap_alloc2_new W9 _ _
              have hz9 := hz9'h.out
              have hb710 : Below w7.heap.size w7 w10 := below_next hb97'h.out hb10
              have hbw : Below wr.heap.size wr w10 := hb7'h.out.trans (hb710.mono hb7'h.out.size)
              have hyb : wr.heap.size < w7.heap.size := lt_of_heap hL7'h.out
              have hRn : OrdR W9.heap.size (W9.heap.size + 1) wr.heap.size mp7 mn7 mc7 ps2 sp n cap l (markB met k) (some ⟨w7.heap.size + 1, 0, none⟩) cap9 (row ++ [k]) w10 :=
                ⟨hbx10, by rw [hRL'h.out]; exact hbr10, hL7'h.out.below hb710, hS7'h.out.below hb710, by rw [hps2'h.out]; exact up_stepP _ hR7'h.out.up, hR7'h.out.ms.below hb710, by rw [List.length_append]; exact hro9'h.out.below hb10, by rw [List.length_append]; exact hcap9'h.out, fun h => (by cases h), fun h => (by simp at h), fun b e => Nat.lt_of_lt_of_le (hne7'h.out b e).2.2 hb710.size⟩
              have IT := ih'h.out f (Nat.lt_succ_self f) _ _ _ _ _ _ _ _ _ _ _ w10 hRn (by have := unmet_mark hkl'h.out (may_not hmb'h.out.symm); have := hf'h.out; omega) (by have := len_stepP (nthM l k).md ps; have := hps'h.out; rw [hps2'h.out]; omega) (by rw [List.length_append]; have := hrw'h.out; simp; omega)
              obtain ⟨o2, ho2⟩ : ∃ o2, o2 = seekF l f (markB met k) ps2 (row ++ [k]) := ⟨_, rfl⟩
              rw [← ho2] at IT
              have hsub : subF l (f + 1) met ps row k = o2 := by rw [ho2, hps2'h.out]; exact sub_both hmb'h.out.symm hgb'h.out.symm
              obtain ⟨So, hJo, hSb, hSr⟩ := hK'h.out.js
              have hI0 : OrdI wr J So [] (fun b => (some (⟨w7.heap.size + 1, 0, none⟩ : Addr)).map (·.block) = some b) w10 :=
                ⟨rfl, ⟨hbw, Nat.le_refl _, fun b hb e => (by simp at e; omega)⟩, hJ'h.out [] _ _ _ _ hJo ⟨hbw.os, hbw.tape, hbw.output, hbw.size, fun b h => .inr h, fun b h => h.elim (fun e => .inr (by simp at e; omega)) .inl, fun b hb _ => hbw.block b hb⟩⟩
              have hyr := heap_below hK'h.out.old hy2'h.out (lt_of_heap hy2'h.out)
              have hyw : W.heap.size < wr.heap.size := lt_of_heap hyr
              have hwz := hbw.size
              clear hw10 hbx10 hbr10 hb710 hRn ho2 hJo
              have hb10'h := Lib.hid hb10
              have hz10'h := Lib.hid hz10
              have hz9'h := Lib.hid hz9
              have hbw'h := Lib.hid hbw
              have hyb'h := Lib.hid hyb
              have IT'h := Lib.hid IT
              have hsub'h := Lib.hid hsub
              have hSb'h := Lib.hid hSb
              have hSr'h := Lib.hid hSr
              have hI0'h := Lib.hid hI0
              have hyr'h := Lib.hid hyr
              have hyw'h := Lib.hid hyw
              have hwz'h := Lib.hid hwz
              clear hb10 hz10 hz9 hbw hyb IT hsub hSb hSr hI0 hyr hyw hwz
              gi_wp2_with fail
              refine' wpIn_rangeS rfl (fun h => by cases h) rfl trivial enters_orders IT'h.out (SeekY.keeps _) (fun b e => by have h1 := hz10'h.out; have h2 := hz9'h.out; simp at e; omega) (fun vs v S W hy => hy.size) (fun b h => h.elim) (OrdI wr J So) (OrdX Jx So bs) (OrdI.no _ _ _) (OrdI.stable _ hJ'h.out _) (OrdX.stable hJx'h.out _ _) hI0'h.out (OrdA (fun sv => { tmps := #[.func (.yield ly) #[] #[], .pointer (some ⟨bx, 0, none⟩), .pointer (some ⟨br, 0, none⟩), .pointer (some ⟨W.heap.size, 0, none⟩), .int .i64 (k : Int), .pointer (some ⟨wr.heap.size, 0, none⟩), sv, .pointer (some ⟨xb, 0, none⟩), .bool false, .bool false, undef, undef, undef, undef, .bool false, .pointer (some ⟨xb, 0, none⟩), .pointer (some ⟨xb, 0, none⟩), .pointer (some ⟨xb, 1, none⟩), .slice sp n cap, .int .i64 (n : Int), .int .i64 (k : Int), .bool true, .int .i64 (k : Int), .pointer (some ⟨xb, 0, none⟩), .pointer (some ⟨xb, 0, none⟩), .agg A, .int .i64 (k : Int), .bool true, .bool false, .bool false, .int .i64 (k : Int), .bool true, .bool false, .bool false, .slice (some ad) row.length rc, .slice (some ad) row.length rc, .int .i64 (row.length : Int), .slice (some ad) row.length rc, .int .i64 (row.length : Int), .slice (some ad) row.length row.length, .int .i64 (k : Int), .slice (some ⟨w7.heap.size, 0, none⟩) 1 1, .slice (some ⟨w7.heap.size + 1, 0, none⟩) (row.length + 1) cap9, .func (.func 63) #[] #[.pointer (some ⟨W9.heap.size, 0, none⟩), .pointer (some ⟨W9.heap.size + 1, 0, none⟩)], sv, u45, u46, u47, u48, u49], defers := [] }) wr J So) (OrdA.stable _ _ hJ'h.out _) ?assign ?body ?done ?stop
              case assign =>
                intro ly2 vs v S S1 Wx hk hl hs1 hro hSb2 hY2 hI
                obtain ⟨hvs, r, rp', rc', ho3, hv2, hSl, hrl, hbS⟩ := hY2.last
                obtain ⟨sv, rfl⟩ : ∃ sv, v = #[sv] := ⟨_, hv2⟩
                clear hv2 hSl hrl hbS
                have hI'h := Lib.hid hI
                clear hI
                gi_wp2
                exact ⟨⟨sv, rfl, rfl, hI'h.out⟩, Kept.refl _ _⟩
              case body =>
                rintro ly2 vs v S S1 a₁ Wx r2 hk hl hs1 hlr hro hSb2 hY2 ⟨sv, rfl, rfl, hI⟩
                obtain ⟨hvs, r, rp', rc', ho3, hv2, hSl, hrl, hbS⟩ := hY2.last
                subst hvs
                obtain rfl : sv = .slice rp' r.length rc' := by simpa using hv2
                have hyx := (hI.2.1.below.block _ hyw'h.out).trans hyr'h.out
                have x3 : Wx.cell? ⟨W.heap.size, 0, none⟩ = some (.func (.yield ly) #[] #[]) := blk_cell (i := 0) hyx rfl
                obtain rfl : o = some r := by rw [← hrest'h.out, rest_some (hsub'h.out.trans ho3)]
                have hYv : SeekY (some r) ([] ++ [#[.slice rp' r.length rc']]) (plusM S So) Wx := .inr ⟨r, rp', rc', rfl, rfl, hSl, hrl, fun b hb => .inl (hs1 b (hbS b hb))⟩
                have hmk : ∀ D ∈ bs, Wx.heap[D]? = some (.deferred (some [])) ∧ ¬ S D := fun D hD => by
                  have h1 := (hK'h.out.marks D hD).2
                  have h2 := lt_of_heap h1
                  exact ⟨(hI.2.1.below.block _ h2).trans h1, hI.2.1.mine D h2⟩
                obtain ⟨fn, tmps, assign, body, hy, hRn⟩ := hY'h.out [] #[.slice rp' r.length rc'] (plusM S So) Wx hI.2.2 Nat.zero_lt_one hYv
                clear hv2 hSl hrl hbS hyx hlr hro hs1 hl hk hSb2
                have hRn'h := Lib.hid hRn
                have hI'h := Lib.hid hI
                have hYv'h := Lib.hid hYv
                have hmk'h := Lib.hid hmk
                have hY2'h := Lib.hid hY2
                clear hRn hI hYv hmk hY2
                gi_wp2_with fail
                refine (show RoundIn (Fence.wide.inRound ly2) 0 Tryd.prog ly fn tmps assign body Wx _ from hRn'h.out).mono ?_
                clear hy x3
                rintro e W' (⟨rfl, hJ4, hk4⟩ | ⟨rfl, hJ4, hk4⟩)
                · exact absurd hJ4 (hno'h.out _ _ _ _)
                · have hfin : rangePostX (fun b => False ∨ S b) (OrdI wr J So ([] ++ [#[.slice rp' r.length rc']])) (fun c => OrdX Jx So bs c ([] ++ [#[.slice rp' r.length rc']])) S Wx .ret { tmps := #[], defers := [] } W' := by
                    refine ⟨hk4.mono fun b hb => hb.elim .inl (fun h => .inr (.inl h)), rfl, fun D hD => ⟨?_, (hmk'h.out D hD).2⟩, hJ4⟩
                    exact (hk4.block D (lt_of_heap (hmk'h.out D hD).1) (.inr (.inr (hSb'h.out D hD)))).trans (hmk'h.out D hD).1
                  clear hJ4 hk4
                  have hfin'h := Lib.hid hfin
                  clear hfin
                  gi_wp2
                  exact hfin'h.out
              case done =>
                rintro D S S1 vs Wx hDw hSD hro hs1 hS1D hvs hY2 hI hK3
                obtain ⟨rfl, hOld, hJn⟩ := hI
                have ho2n : o2 = none := by
                  cases o2 with
                  | none => rfl
                  | some r => simp [cntO] at hvs
                have hrest2 := (rest_none (hsub'h.out.trans ho2n)).symm.trans hrest'h.out
                have hKn : OrdK w2 J (some ad) (D :: bs) Wx := by
                  have hK := hK'h.out
                  have h1 := hwz'h.out
                  have h2 := hK.old.size
                  refine ⟨hK.old.trans (hOld.below.mono h2), List.nodup_cons.2 ⟨fun hm => hOld.mine D (lt_of_heap (hK.marks D hm).2) hSD, hK.nd⟩, fun D' hD' => ?_, plusM S So, hJn, fun D' hD' => ?_, fun b hb => .inr (hSr'h.out b hb)⟩
                  · rcases List.mem_cons.1 hD' with rfl | hD'
                    · exact ⟨by omega, hK3⟩
                    · exact ⟨(hK.marks D' hD').1, (hOld.below.block _ (lt_of_heap (hK.marks D' hD').2)).trans (hK.marks D' hD').2⟩
                  · rcases List.mem_cons.1 hD' with rfl | hD'
                    · exact .inl hSD
                    · exact .inr (hSb'h.out D' hD')
                clear hOld hJn hvs hY2 ho2n hK3 hro hs1
                have hrest2'h := Lib.hid hrest2
                have hKn'h := Lib.hid hKn
                clear hrest2 hKn
                gi_wp2
                refine Handed.intro q (by omega) (hJq _ _ _ ⟨k + 1, D :: bs, _, _, _, _, _, _, _, _, _, _, _, _, _, _, _, _, _, _, _, _, _, _, _, _, _, _, _, _, _, _, _, _, rfl, by have := hkq'h.out; omega, hrest2'h.out, hKn'h.out⟩)
              case stop =>
                rintro D c vs S S1 Wx hDw hSD hro hs1 hS1D hY2 ⟨rfl, hmk, hJn⟩ hK3
                have hD2 : ∀ D' ∈ D :: bs, Wx.heap[D']? = some (.deferred (some [])) := fun D' hD' => by
                  rcases List.mem_cons.1 hD' with rfl | hD'
                  · exact hK3
                  · exact (hmk D' hD').1
                have hT : ∀ D' ∈ D :: bs, plusM S So D' := fun D' hD' => by
                  rcases List.mem_cons.1 hD' with rfl | hD'
                  · exact .inl hSD
                  · exact .inr (hSb'h.out D' hD')
                have hnd : (D :: bs).Nodup := List.nodup_cons.2 ⟨fun hm => (hmk D hm).2 hSD, hK'h.out.nd⟩
                have hno1 : ∀ b, S1 b → b ∉ D :: bs := fun b hb hm => by
                  rcases List.mem_cons.1 hm with rfl | hm
                  · exact hS1D hb
                  · exact (hmk b hm).2 (hs1 b hb)
                have hJf := hJx'h.out vs _ _ _ _ hJn (foreign_shut (W := Wx) hT)
                have hYf : SeekY o vs (plusM S So) (shutAll (D :: bs) Wx) := by
                  rcases hY2 with h | ⟨r, rp', rc', h1, h2, h3, h4, h5⟩
                  · exact .inl h
                  · refine .inr ⟨r, rp', rc', by rw [← hrest'h.out, rest_some (hsub'h.out.trans h1)], h2, ?_, h4, fun b hb => .inl (hs1 b (h5 b hb))⟩
                    exact ((SlK.of_sl h3).keep fun b ob _ hb ho => (shutAll_other (hno1 b (h5 b hb))).trans ho).sl
                clear hJn hY2 hmk hK3 hno1
                have hD2'h := Lib.hid hD2
                have hnd'h := Lib.hid hnd
                have hJf'h := Lib.hid hJf
                have hYf'h := Lib.hid hYf
                clear hD2 hnd hJf hYf
                gi_wp2
                refine post_marks (bs := D :: bs) (v := .tuple #[]) (.inl rfl) hnd'h.out hD2'h.out (results_none rfl _ _ _) ?_
                exact ⟨⟨_, rfl⟩, .inr ⟨_, _, hYf'h.out, hJf'h.out⟩⟩
      · have hkn : k = n := by omega
        have hq0 : q = 0 := by omega
        subst hq0
        obtain rfl : o = none := hrest.symm
        have i1 : ¬ (k : Int) < (n : Int) := by omega
        obtain ⟨So, hJo, hSb, hSr⟩ := hK.js
        have hJf := hJ'h.out [] _ _ _ _ hJo (foreign_shut (W := wr) hSb)
        have hnd := hK.nd
        have hD2 : ∀ D ∈ bs, wr.heap[D]? = some (.deferred (some [])) := fun D hD => (hK.marks D hD).2
        clear hRk x1 hJo hSb hSr hrest hkn
        have hJf'h := Lib.hid hJf
        have hnd'h := Lib.hid hnd
        have hD2'h := Lib.hid hD2
        have hK'h := Lib.hid hK
        clear hJf hnd hD2 hK
        gi_wp2
        refine post_marks (bs := bs) (v := .tuple #[]) (.inr rfl) hnd'h.out hD2'h.out (results_none rfl _ _ _) ?_
        exact ⟨⟨_, rfl⟩, .inl ⟨_, [], rfl, .inl rfl, hJf'h.out⟩⟩
theorem orders_it (l : List Mm) (sp : Option Addr) (n cap : Nat) (h80 : n ≤ 80) (hck : checkB l = true) : ∀ f, OrdIt l sp n cap f := fun f => by
  induction f using Nat.strongRecOn with
  | _ f ih => exact orders_step l sp n cap h80 hck f ih
end Go.Proofs.YtogeohjeabbmaaaDoor

