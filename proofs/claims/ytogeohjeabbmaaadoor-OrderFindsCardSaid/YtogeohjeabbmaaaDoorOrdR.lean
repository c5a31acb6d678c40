/-
  Layer 27 (order): the iterator over the orders that bear calls out: what it promises.
-/
import Derived.Test.YtogeohjeabbmaaaDoorOrdQ
import Derived.Test.YtogeohjeabbmaaaDoorY1
set_option linter.unusedSimpArgs false
set_option linter.unusedVariables false
set_option maxRecDepth 100000
namespace Go.Proofs.YtogeohjeabbmaaaDoor
open Go.RowKit

def cntO {α : Type} (o : Option α) : Nat := if o.isSome then 1 else 0
/-- What was told: nothing yet, or the first order. -/
def SeekY (o : Option (List Nat)) (vs : Vs) (S : Nat → Prop) (W : World) : Prop :=
  vs = [] ∨ ∃ r rp rc, o = some r ∧ vs = [#[.slice rp r.length rc]] ∧ Sl W rp r.length (ints r) ∧ r.length ≤ rc ∧ ∀ b, rp.map (·.block) = some b → S b
theorem SeekY.keeps (o : Option (List Nat)) : KeepsY (fun _ => False) (SeekY o) := by
  rintro vs S W W' (h | ⟨r, rp, rc, h1, h2, h3, h4, h5⟩) hk
  · exact .inl h
  · exact .inr ⟨r, rp, rc, h1, h2, h3.kept hk (fun c hc => .inr (h5 c hc)), h4, h5⟩
theorem SeekY.last {o : Option (List Nat)} {vs : Vs} {v : Array Value} {S : Nat → Prop} {W : World} (h : SeekY o (vs ++ [v]) S W) : vs = [] ∧ ∃ r rp rc, o = some r ∧ v = #[.slice rp r.length rc] ∧ Sl W rp r.length (ints r) ∧ r.length ≤ rc ∧ ∀ b, rp.map (·.block) = some b → S b := by
  rcases h with h | ⟨r, rp, rc, h1, h2, h3⟩
  · simp at h
  · cases vs with
    | nil =>
      have : v = #[.slice rp r.length rc] := by simpa using h2
      exact ⟨rfl, r, rp, rc, h1, this, h3⟩
    | cons x xs => simp at h2
theorem SeekY.size {o : Option (List Nat)} {vs : Vs} {v : Array Value} {S : Nat → Prop} {W : World} (h : SeekY o (vs ++ [v]) S W) : v.size = 1 := by
  obtain ⟨_, r, rp, rc, _, rfl, _⟩ := h.last
  rfl
/-- What an iterator reads. -/
structure OrdR (bx br xb : Nat) (mp : Option Addr) (mn mc : Nat) (ps : Ps) (sp : Option Addr) (n cap : Nat) (l : List Mm) (met : Nat → Bool) (rp : Option Addr) (rc : Nat) (row : List Nat) (W : World) : Prop where
  bx : W.heap[bx]? = some (.cells #[.pointer (some ⟨xb, 0, none⟩)] 75 (0, 0))
  br : W.heap[br]? = some (.cells #[.slice rp row.length rc] 23 (0, 0))
  ln : LnAt W xb mp mn mc sp n cap met
  sl : SlK W 2 mp mn (prs ps)
  up : upB ps = true
  ms : MsIn W sp n l
  ro : Sl W rp row.length (ints row)
  rl : row.length ≤ rc
  rn : rp = none → rc = 0
  r0 : row = [] → rp = none
  mpl : ∀ b, mp.map (·.block) = some b → b < W.heap.size
theorem OrdR.below {bx br xb : Nat} {mp : Option Addr} {mn mc : Nat} {ps : Ps} {sp : Option Addr} {n cap : Nat} {l : List Mm} {met : Nat → Bool} {rp : Option Addr} {rc : Nat} {row : List Nat} {W W' : World} (h : OrdR bx br xb mp mn mc ps sp n cap l met rp rc row W) (hb : Below W.heap.size W W') :
    OrdR bx br xb mp mn mc ps sp n cap l met rp rc row W' :=
  ⟨heap_below hb h.bx (lt_of_heap h.bx), heap_below hb h.br (lt_of_heap h.br), h.ln.below hb, h.sl.below hb, h.up, h.ms.below hb, h.ro.below hb, h.rl, h.rn, h.r0, fun b e => Nat.lt_of_lt_of_le (h.mpl b e) hb.size⟩
theorem enters_orders (args : Array Value) (w : World) : (callFunc 63 args).run Tryd.prog w = .ok (.enter 63 args) w := by
  exact enters_of Tryd.func63 (by kernel_rfl) rfl args w
theorem orders_any (xb : Nat) (rp : Option Addr) (rn rc : Nat) (w : World) :
    Calls Tryd.prog 34 #[.pointer (some ⟨xb, 0, none⟩), .slice rp rn rc] w fun e w' => e = .returned (.func (.func 63) #[] #[.pointer (some ⟨w.heap.size, 0, none⟩), .pointer (some ⟨w.heap.size + 1, 0, none⟩)]) ∧
      w' = (w.alloc (.cells #[.pointer (some ⟨xb, 0, none⟩)] 75)).alloc (.cells #[.slice rp rn rc] 23) := by
  go_enter Tryd.func34, Tryd.ntmps34
  go_wp2
  go_ret
  exact ⟨rfl, rfl⟩
/-- What the iterator promises a body that never goes on. -/
def OrdIt (l : List Mm) (sp : Option Addr) (n cap f : Nat) : Prop :=
  ∀ (bx br xb : Nat) (mp : Option Addr) (mn mc : Nat) (ps : Ps) (met : Nat → Bool) (rp : Option Addr) (rc : Nat) (row : List Nat) (w : World), OrdR bx br xb mp mn mc ps sp n cap l met rp rc row w → unmetK l met ≤ f → ps.length + f ≤ 200 → row.length + f ≤ 200 →
    SeqItS Fence.wide 0 Tryd.prog 63 #[.pointer (some ⟨bx, 0, none⟩), .pointer (some ⟨br, 0, none⟩)] (cntO (seekF l f met ps row)) (SeekY (seekF l f met ps row)) (fun b => rp.map (·.block) = some b) (fun _ => False) w
theorem lnA_size (mp : Option Addr) (mn mc : Nat) (sp : Option Addr) (n cap : Nat) (met : Nat → Bool) : (lnL mp mn mc sp n cap met).toArray.size = 82 := by simp [lnL]
theorem info_ln82 : (Tryd.prog.info? 78).map (·.size) = some 82 := by kernel_rfl
theorem info_ln (mp : Option Addr) (mn mc : Nat) (sp : Option Addr) (n cap : Nat) (met : Nat → Bool) : (Tryd.prog.info? 78).map (·.size) = some (lnL mp mn mc sp n cap met).toArray.size := by rw [lnA_size]; exact info_ln82
theorem lnA_one (mp : Option Addr) (mn mc : Nat) (sp : Option Addr) (n cap : Nat) (met : Nat → Bool) : (lnL mp mn mc sp n cap met).toArray.all (·.oneCell') = true := by
  rw [Array.all_eq_true]
  intro i hi
  have : (lnL mp mn mc sp n cap met).toArray[i] ∈ lnL mp mn mc sp n cap met := by simp
  generalize (lnL mp mn mc sp n cap met).toArray[i] = v at this
  unfold lnL at this
  rcases List.mem_cons.1 this with rfl | this
  · rfl
  · rcases List.mem_cons.1 this with rfl | this
    · rfl
    · obtain ⟨j, _, rfl⟩ := List.mem_map.1 this; rfl
theorem cells_take {W : World} {b : Nat} {cs zs : List Value} {t : TypeId} (h : W.heap[b]? = some (.cells (cs.toArray ++ zs.toArray) t (0, 0))) (hn : cs.length ≤ maxLen) : Sl W (some ⟨b, 0, none⟩) cs.length cs := by
  refine ⟨rfl, hn, .inr ⟨b, 0, rfl, fun j u hu => ?_⟩⟩
  rw [Nat.zero_add]
  refine blk_cell h ?_
  rw [Array.getElem?_append_left (by simpa using (List.getElem?_eq_some_iff.1 hu).1), List.getElem?_toArray]
  exact hu
/-- A number appended to a row that has no room. -/
theorem append_full (rp : Option Addr) (row : List Nat) (k : Nat) (V : World) (g : Nat) (t : TypeId) (hro : Sl V rp row.length (ints row)) (hr : row.length ≤ 4000) (hr0 : row = [] → rp = none) (hg : V.heap[g]? = some (.cells #[.int .i64 (k : Int)] t (0, 0))) :
    ∃ cap' W', (∀ ty, (Builtin.append_ #[23, 23] ty #[.slice rp row.length row.length, .slice (some ⟨g, 0, none⟩) 1 1]).run Tryd.prog V = .ok (.slice (some ⟨V.heap.size, 0, none⟩) (row.length + 1) cap') W') ∧
      Below V.heap.size V W' ∧ V.heap.size < W'.heap.size ∧ Sl W' (some ⟨V.heap.size, 0, none⟩) (row.length + 1) (ints (row ++ [k])) ∧ row.length + 1 ≤ cap' := by
  obtain ⟨i0, hi, hz0, hz1, hz2⟩ := info_parts infoI
  have hnews : ∀ j u, ([.int .i64 (k : Int)] : List Value)[j]? = some u → V.cell? ((⟨g, 0, none⟩ : Addr).add j) = some u := fun j u hu => by
    rw [add_lit', Nat.zero_add]
    exact blk_cell hg (by simpa using hu)
  have hnl : ([.int .i64 (k : Int)] : List Value).length = 1 * i0.size := by rw [hz1]; rfl
  have hrl : (ints (row ++ [k])).length = row.length + 1 := by rw [ints_length, List.length_append]; rfl
  cases row with
  | nil =>
    obtain rfl := hr0 rfl
    refine ⟨_, _, fun ty => run_append_nil V _ ty _ i0 _ Tryd.underlying23 hi hz0 _ 1 1 _ hnl hnews Nat.zero_lt_one (by omega) (by rw [hz2]; omega), (Below.drew (Below.refl _ _)).alloc (Nat.le_refl _) _, ?_, ?_, grownCap_ge _ _ _ _⟩
    · rw [World.size_alloc]; exact Nat.lt_succ_self _
    · have := cells_take (cs := ints ([] ++ [k])) (zs := (Builtin.zeroCells (Value.int .i64 0).cells (grownCap V 1 0 3 - 1)).toList) (World.alloc_heap_new V.drew (.cells ((ints ([] ++ [k])).toArray ++ (Builtin.zeroCells (Value.int .i64 0).cells (grownCap V 1 0 3 - 1)).toList.toArray) 3)) (by rw [hrl]; unfold maxLen; simp)
      rw [hrl] at this
      simpa [ints, ei] using this
  | cons x r =>
    obtain ⟨b, off, rfl, hcs⟩ := hro.some' (by simp)
    have holds : ∀ j v, (ints (x :: r))[j]? = some v → V.cell? ((⟨b, off, none⟩ : Addr).add j) = some v := fun j v hv => by rw [add_lit']; exact hcs j v hv
    have hol : (ints (x :: r)).length = (x :: r).length * i0.size := by rw [ints_length, hz1, Nat.mul_one]
    generalize hrow : x :: r = row at *
    refine ⟨_, _, fun ty => run_append_grow V _ ty _ i0 _ Tryd.underlying23 hi hz0 _ row.length row.length _ hol holds _ 1 1 _ hnl hnews (by omega) (by omega) (growslice_fits (by omega) (by rw [hz2]; omega)), (Below.drew (Below.refl _ _)).alloc (Nat.le_refl _) _, ?_, ?_, grownCap_ge _ _ _ _⟩
    · rw [World.size_alloc]; exact Nat.lt_succ_self _
    · have := cells_take (cs := ints (row ++ [k])) (zs := (Builtin.zeroCells (Value.int .i64 0).cells (grownCap V (row.length + 1) row.length 3 - (row.length + 1))).toList) (World.alloc_heap_new V.drew (.cells ((ints (row ++ [k])).toArray ++ (Builtin.zeroCells (Value.int .i64 0).cells (grownCap V (row.length + 1) row.length 3 - (row.length + 1))).toList.toArray) 3)) (by rw [hrl]; unfold maxLen; omega)
      rw [hrl, ints_snoc] at this
      rw [ints_snoc]
      simpa using this
theorem wpListIn_append_run {F : Fence} {nn : Nat} {P : Program} (w : World) {ops : Array Oper} {rest : List Oper} {o : Oper} {a : Act} {Q : Exit → Act → World → Prop}
    (hg : o.guard = none) (s x : Operand) (t : TypeId) (hop : o.op = Op.call { callee := Callee.builtin Builtin.append, args := #[s, x], argTypes := #[t, t] }) (vs vx : Value) (hs : a.eval s = vs) (hx : a.eval x = vx)
    (v' : Value) (w' : World) (hr : (Builtin.append_ #[t, t] o.type #[vs, vx]).run P w = .ok v' w') (h : wpListIn F nn P ops Q rest (a.put o.dst v') w') : wpListIn F nn P ops Q (o :: rest) a w := by
  refine wpListIn_plain hg fun K hK' => ?_
  refine ⟨?_, ?_⟩
  · simp [Oper.about, hop, resolve, Target.leads, Sem.run_pure]
  · rw [Oper.semAt_plain F _ _ (by rw [hop]; intro c hc'; cases hc')]
    simp [execOp, hop, resolve, invoke, builtin, hs, hx, hr, Result.andThen]
    exact hK' _ _ h
theorem foreign_shut {S : Nat → Prop} : ∀ {bs : List Nat} {W : World}, (∀ D ∈ bs, S D) → Foreign S S W (shutAll bs W)
  | [], W, _ => Foreign.refl _ _
  | D :: bs, W, h => (Foreign.putObj W D _ (h D (List.mem_cons_self ..))).trans (foreign_shut (bs := bs) fun D' h' => h D' (List.mem_cons_of_mem _ h'))
theorem sub_may {l : List Mm} {f k : Nat} {met : Nat → Bool} {ps : Ps} {row : List Nat} (h : mayB l met k = false) : subF l f met ps row k = none := by
  cases f with
  | zero => rfl
  | succ f => unfold subF; rw [h]; rfl
theorem sub_goes {l : List Mm} {f k : Nat} {met : Nat → Bool} {ps : Ps} {row : List Nat} (h : goesB (nthM l k).md ps = false) : subF l f met ps row k = none := by
  cases f with
  | zero => rfl
  | succ f => unfold subF; rw [h, Bool.and_false]; rfl
theorem sub_both {l : List Mm} {f k : Nat} {met : Nat → Bool} {ps : Ps} {row : List Nat} (h : mayB l met k = true) (h2 : goesB (nthM l k).md ps = true) : subF l (f + 1) met ps row k = seekF l f (markB met k) (stepP (nthM l k).md ps) (row ++ [k]) := by
  unfold subF; rw [h, h2]; rfl
theorem rest_none {F : Nat → Option (List Nat)} {k q : Nat} (h : F k = none) : (List.range' k (q + 1)).findSome? F = (List.range' (k + 1) q).findSome? F := by
  rw [List.range'_succ, List.findSome?_cons, h]
theorem rest_some {F : Nat → Option (List Nat)} {k q : Nat} {r : List Nat} (h : F k = some r) : (List.range' k (q + 1)).findSome? F = some r := by
  rw [List.range'_succ, List.findSome?_cons, h]
/-- Between two rounds of the iterator. -/
structure OrdK (w2 : World) (J : Vs → (Nat → Prop) → World → Prop) (rp : Option Addr) (bs : List Nat) (W : World) : Prop where
  old : Below w2.heap.size w2 W
  nd : bs.Nodup
  marks : ∀ D ∈ bs, w2.heap.size ≤ D ∧ W.heap[D]? = some (.deferred (some []))
  js : ∃ S, J [] S W ∧ (∀ D ∈ bs, S D) ∧ (∀ b, rp.map (·.block) = some b → S b)
theorem OrdK.next {w2 W W' : World} {J : Vs → (Nat → Prop) → World → Prop} {rp : Option Addr} {bs : List Nat} (h : OrdK w2 J rp bs W) (hJ : ∀ vs, Stable (J vs)) (hb : Below W.heap.size W W') : OrdK w2 J rp bs W' := by
  obtain ⟨S, h1, h2, h3⟩ := h.js
  exact ⟨below_next h.old hb, h.nd, fun D hD => ⟨(h.marks D hD).1, heap_below hb (h.marks D hD).2 (lt_of_heap (h.marks D hD).2)⟩, S, hJ [] _ _ _ _ h1 (Foreign.of_below hb), h2, h3⟩
/-- Within the inner range: nothing was told. -/
def OrdI (wr : World) (J : Vs → (Nat → Prop) → World → Prop) (So : Nat → Prop) (vs : Vs) (S : Nat → Prop) (W : World) : Prop := vs = [] ∧ Old wr.heap.size wr S W ∧ J [] (plusM S So) W
theorem OrdI.stable (wr : World) {J : Vs → (Nat → Prop) → World → Prop} (hJ : ∀ vs, Stable (J vs)) (So : Nat → Prop) (vs : Vs) : Stable (OrdI wr J So vs) := fun S S' W W' h f =>
  ⟨h.1, Old.stable _ _ _ _ _ _ h.2.1 f, hJ [] _ _ _ _ h.2.2 f.plusM⟩
theorem OrdI.no (wr : World) (J : Vs → (Nat → Prop) → World → Prop) (So : Nat → Prop) (vs : Vs) (v : Array Value) (S : Nat → Prop) (W : World) : ¬ OrdI wr J So (vs ++ [v]) S W := fun h => by have := h.1; simp at this
/-- .. and it is left. -/
def OrdX (Jx : Vs → (Nat → Prop) → World → Prop) (So : Nat → Prop) (bs : List Nat) (c : Code) (vs : Vs) (S : Nat → Prop) (W : World) : Prop :=
  c = .ret ∧ (∀ D ∈ bs, W.heap[D]? = some (.deferred (some [])) ∧ ¬ S D) ∧ Jx vs (plusM S So) W
theorem OrdX.stable {Jx : Vs → (Nat → Prop) → World → Prop} (hJ : ∀ vs, Stable (Jx vs)) (So : Nat → Prop) (bs : List Nat) (c : Code) (vs : Vs) : Stable (OrdX Jx So bs c vs) := fun S S' W W' h f =>
  ⟨h.1, fun D hD => ⟨f.heap' (h.2.1 D hD).2 (h.2.1 D hD).1, f.not (lt_of_heap (h.2.1 D hD).1) (h.2.1 D hD).2⟩, hJ vs _ _ _ _ h.2.2 f.plusM⟩
/-- Behind the assignment. -/
def OrdA (AF : Value → Act) (wr : World) (J : Vs → (Nat → Prop) → World → Prop) (So : Nat → Prop) (vs : Vs) (v : Array Value) (a₁ : Act) (S : Nat → Prop) (W : World) : Prop := ∃ sv, v = #[sv] ∧ a₁ = AF sv ∧ OrdI wr J So vs S W
theorem OrdA.stable (AF : Value → Act) (wr : World) {J : Vs → (Nat → Prop) → World → Prop} (hJ : ∀ vs, Stable (J vs)) (So : Nat → Prop) (vs : Vs) (v : Array Value) (a₁ : Act) : Stable (OrdA AF wr J So vs v a₁) := fun S S' W W' h f => by
  obtain ⟨sv, h1, h2, h3⟩ := h
  exact ⟨sv, h1, h2, OrdI.stable wr hJ So vs _ _ _ _ h3 f⟩
end Go.Proofs.YtogeohjeabbmaaaDoor
