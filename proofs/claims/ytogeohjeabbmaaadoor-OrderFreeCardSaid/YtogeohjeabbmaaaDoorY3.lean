/-
  Several texts of mine in one: OrdH OrdI OrdJ OrdK OrdL OrdM.
-/
import Derived.Test.YtogeohjeabbmaaaDoorOrdG
import Derived.Deep.CutRange
/-
  Layer 27 (order): need, and what behind defers.
-/
set_option linter.unusedSimpArgs false
set_option linter.unusedVariables false
set_option maxRecDepth 100000
namespace Go.Proofs.YtogeohjeabbmaaaDoor
open Go.RowKit

/-- It left with an error. -/
abbrev BadO (er : Int) : Ending := .panicked [{ v := .iface 32 (.int .i64 er), recovered := false }]
theorem needO_yes (er : Int) (w : World) : Calls Tryd.prog 59 #[.bool true, .int .i64 er] w fun e w' => e = .returned (.tuple #[]) ∧ w' = w := by
  go_enter Tryd.func59, Tryd.ntmps59
  go_wp2
  go_end0
  exact ⟨rfl, rfl⟩
theorem needO_no (er : Int) (w : World) : Calls Tryd.prog 59 #[.bool false, .int .i64 er] w fun e w' => e = BadO er ∧ w' = w := by
  go_enter Tryd.func59, Tryd.ntmps59
  go_wp2
  exact ⟨rfl, rfl, rfl⟩
/-- What a deferred call that hands nothing back comes to. -/
def RestD (w1 : World) : Exit → Act → World → Prop := fun e a w => (e = .normal ∨ e = .ret) ∧ a.defers = [] ∧ w = w1
theorem wpS_rest {P : Program} {fn : Func} (hres : fn.results = #[]) {c : Code} {c₀ : Frame} {cs cs' : List Frame} {R : Ending → FrameMode → World → Prop} {u' : FrameMode} {a : Act} {w w1 : World}
    (hcs : cs' = { c₀ with mode := u' } :: cs) (h : c.wp P (RestD w1) a w) (hR : R (.returned (.tuple #[])) u' w1) : c.wpS P (bodyPostS P fn c₀ cs R) a cs' w := by
  subst hcs
  refine wpS_of_wp ?_
  intro b k cs1
  obtain ⟨e, a', w', ⟨he, hd, hw⟩, harr⟩ := h b k cs1
  refine ⟨e, a', w', ?_, harr⟩
  subst hw
  rcases he with rfl | rfl <;> exact ⟨hd, u', rfl, .tuple #[], results_none hres _ _ _, hR⟩
theorem idleBeh (p q : Addr) (w : World) :
    CallsD Tryd.prog 58 #[.pointer (some p), .pointer (some q)] .returning w fun e u' w' => e = .returned (.tuple #[]) ∧ u' = .returning ∧ w' = w := by
  refine callsD_of_wpS Tryd.func58 rfl fun c₀ cs hu => ?_
  simp only [Tryd.ntmps58, List.size_toArray, List.length_cons, List.length_nil, Nat.reduceAdd, Nat.reduceSub, Array.replicate_succ, Array.replicate_zero, List.push_toArray, List.append_toArray, List.nil_append, List.cons_append]
  apply wpS_seq
  apply wpS_region
  simp [wpOpsS, go_sem, recoverD, hu, Exit.thenS]
  refine wpS_rest (u' := .returning) (w1 := w) rfl (by cases c₀; simp_all) ?_ ⟨rfl, rfl, rfl⟩
  clear hu
  go_wp2
  exact ⟨.inl rfl, rfl, rfl⟩
def boomB (a b : Nat) (er : Int) (w : World) : World := (w.setRow a #[.slice none 0 0]).setCell ⟨b, 0, none⟩ (.int .i64 er)
theorem boomBeh (a b : Nat) (er : Int) (m : Array Value) (hm : m.size = 1) (x : Value) (w : World) (ha : w.heap[a]? = some (.cells m 28 (0, 0))) (hb : w.heap[b]? = some (.cells #[x] 32 (0, 0))) (hab : a ≠ b) :
    CallsD Tryd.prog 58 #[.pointer (some ⟨a, 0, none⟩), .pointer (some ⟨b, 0, none⟩)] (.panicking [{ v := .iface 32 (.int .i64 er), recovered := false }]) w fun e u' w' =>
      e = .returned (.tuple #[]) ∧ u' = .panicking [{ v := .iface 32 (.int .i64 er), recovered := true }] ∧ w' = boomB a b er w := by
  have hta : ∀ (w : World), (Instr.typeAssert (.iface 32 (.int .i64 er)) 20 32 true).run Tryd.prog w = .ok (.tuple #[.int .i64 er, .bool true]) w := fun _ => by kernel_rfl
  have hb2 := (setRow_other w a b #[.slice none 0 0] hab.symm).trans hb
  have y1 := blk_cell (i := 0) hb2 rfl
  have f1 := blk_free 0 hb2
  clear hb2
  have ha'h := Lib.hid ha
  have hm'h := Lib.hid hm
  clear ha hm
  refine callsD_of_wpS Tryd.func58 rfl fun c₀ cs hu => ?_
  simp only [Tryd.ntmps58, List.size_toArray, List.length_cons, List.length_nil, Nat.reduceAdd, Nat.reduceSub, Array.replicate_succ, Array.replicate_zero, List.push_toArray, List.append_toArray, List.nil_append, List.cons_append]
  apply wpS_seq
  apply wpS_region
  simp [wpOpsS, go_sem, recoverD, hu, Exit.thenS]
  refine wpS_rest (u' := .panicking [{ v := .iface 32 (.int .i64 er), recovered := true }]) (w1 := boomB a b er w) rfl (by cases c₀; simp_all) ?_ ⟨rfl, rfl, rfl⟩
  clear hu
  go_wp2_with (guard_target = wpList _ _ _ (Oper.mk _ (.store _ (.tmp 0) _) _ _ _ _ :: _) _ _; refine wpList_store_row rfl 28 (.tmp 0) _ rfl (a) #[.slice none 0 0] rfl rfl 28 _ ha'h.out info_map hm'h.out (by kernel_rfl) ?_)
  exact ⟨.inl rfl, rfl, rfl⟩
end Go.Proofs.YtogeohjeabbmaaaDoor

/-
  Layer 27 (order): behind, an order of calls that are none.
-/
set_option linter.unusedSimpArgs false
set_option linter.unusedVariables false
set_option maxRecDepth 100000
namespace Go.Proofs.YtogeohjeabbmaaaDoor
open Go.RowKit

/-! ### What behind comes to, plain -/
def markB (met : Nat → Bool) (k : Nat) : Nat → Bool := fun i => met i || decide (i = k)
def metOk (n : Nat) : List Int → (Nat → Bool) → Bool
  | [], _ => true
  | x :: r, met => decide (0 ≤ x ∧ x < n) && !met x.toNat && metOk n r (markB met x.toNat)
def alongL (l : List Mm) : List Int → (Nat → Bool) → Ps → Option ((Nat → Bool) × Ps)
  | [], met, ps => some (met, ps)
  | x :: r, met, ps => if mayB l met x.toNat && goesB (nthM l x.toNat).md ps then alongL l r (markB met x.toNat) (stepP (nthM l x.toNat).md ps) else none
def noneB : Nat → Bool := fun _ => false
def behindL (l : List Mm) (o : List Int) : Int × Ps :=
  if checkB l = false then (370, []) else if metOk l.length o noneB = false then (2, []) else
    match alongL l o noneB [] with
    | none => (371, [])
    | some (met, ps) => if wholeB l met then (0, ps) else (371, [])
/-- What behind leaves. -/
def BehP (w : World) (er : Int) (ps : Ps) (e : Ending) (w' : World) : Prop :=
  ∃ sp n cap, e = .returned (.tuple #[.agg #[.slice sp n cap], .int .i64 er]) ∧ Below w.heap.size w w' ∧ SlK w' 2 sp n (prs ps) ∧ (∀ b, sp.map (·.block) = some b → w.heap.size ≤ b)
theorem BehP.bad (w W : World) (h : Below w.heap.size w W) (er : Int) : BehP w er [] (.returned (.tuple #[.agg #[.slice none 0 0], .int .i64 er])) W := ⟨none, 0, 0, rfl, h, SlK.nil _ _ _, fun b e => by cases e⟩
theorem boomB_parts {w0 W : World} {a b : Nat} (er : Int) {m : Array Value} {x : Value} (h : Below w0.heap.size w0 W) (ha : W.heap[a]? = some (.cells m 28 (0, 0))) (hb : W.heap[b]? = some (.cells #[x] 32 (0, 0))) (hab : a ≠ b) (hla : w0.heap.size ≤ a) (hlb : w0.heap.size ≤ b) :
    (boomB a b er W).cell? ⟨a, 0, none⟩ = some (.slice none 0 0) ∧ (boomB a b er W).cell? ⟨b, 0, none⟩ = some (.int .i64 er) ∧ Below w0.heap.size w0 (boomB a b er W) := by
  have h1 : (W.setRow a #[.slice none 0 0]).heap[a]? = some (.cells #[.slice none 0 0] 28 (0, 0)) := setRow_heap _ _ _ _ _ _ ha
  have h2 := (setRow_other W a b #[.slice none 0 0] hab.symm).trans hb
  have h3 := (Below.heap_setCell (W.setRow a #[.slice none 0 0]) ⟨b, 0, none⟩ (.int .i64 er) a (by show a ≠ b; exact hab)).trans h1
  have h4 := blk_set (i := 0) (.int .i64 er) h2
  refine ⟨blk_cell (i := 0) h3 rfl, blk_cell (i := 0) h4 rfl, ?_⟩
  exact (below_setRow' h hla #[.slice none 0 0]).trans ⟨rfl, rfl, rfl, by unfold boomB; simp [World.setCell], fun k hk => Below.heap_setCell _ _ _ _ (by show k ≠ b; omega)⟩
set_option maxHeartbeats 4000000 in
theorem behind_made (sp : Option Addr) (n cap : Nat) (l : List Mm) (op : Option Addr) (on oc : Nat) (w : World) (hT : Tks w) (h : MsIn w sp n l) (hle : n ≤ cap) (hck : checkB l = false) :
    Calls Tryd.prog 31 #[.slice sp n cap, .slice op on oc] w fun e w' => BehP w 370 [] e w' := by
  have hmf : ∀ (fn : Fn) (first cap : Array Value) (w : World), (Instr.makeFunc fn first cap).run Tryd.prog w = .ok (.func fn first cap) w := fun _ _ _ _ => rfl
  have H0 := ((Hs.nil w).new #[.slice none 0 0] 28).new #[.int .i64 0] 32
  simp only [World.size_alloc] at H0
  obtain ⟨W0, hW0⟩ : ∃ W0, W0 = ((w.alloc (.cells #[.slice none 0 0] 28)).alloc (.cells #[.int .i64 0] 32)) := ⟨_, rfl⟩
  rw [← hW0] at H0
  have CK := checkM_any sp n cap l W0 (hT.next H0.old) (h.below H0.old) hle
  rw [hck, if_neg (by decide)] at CK
  have H0'h := Lib.hid H0
  have h'h := Lib.hid h
  have CK'h := Lib.hid CK
  have hck'h := Lib.hid hck
  have hT'h := Lib.hid hT
  have hle'h := Lib.hid hle
  clear H0 h CK hck hT hle
  go_enter_defers Tryd.func31, Tryd.ntmps31
  go_wp2_with fail
  change Calls _ _ _ ((w.alloc (.cells #[.slice none 0 0] 28)).alloc (.cells #[.int .i64 0] 32)) _
  rw [← hW0]
  refine CK'h.out.mono ?_
  rintro e W1 ⟨rfl, hb1⟩
  have H1 := H0'h.out.next hb1
  have H1'h := Lib.hid H1
  clear H1
  go_wp2_with (go_at_call 59; refine (needO_no 370 _).mono ?_; rintro e w' ⟨rfl, hw⟩; obtain rfl := hw.symm)
  refine leaves_cons (f := 58) (args := #[.pointer (some ⟨w.heap.size, 0, none⟩), .pointer (some ⟨w.heap.size + 1, 0, none⟩)]) (by simp) (by simp [go_sem]) ?_
  refine (boomBeh _ _ 370 #[.slice none 0 0] rfl _ W1 H1'h.out.rows.2.1 H1'h.out.rows.1 (by omega)).mono ?_
  rintro e u' w'' ⟨rfl, rfl, rfl⟩
  obtain ⟨d0, d1, hbw⟩ := boomB_parts (w0 := w) 370 H1'h.out.old H1'h.out.rows.2.1 H1'h.out.rows.1 (by omega) (Nat.le_refl _) (Nat.le_succ _)
  generalize boomB _ _ _ _ = W9 at d0 d1 hbw ⊢
  have hD := BehP.bad w W9 hbw 370
  clear hbw
  simp [Leaves, settle, results, Tryd.results31, go_sem, d0, d1, hD]
end Go.Proofs.YtogeohjeabbmaaaDoor

/-
  Layer 27 (order): behind.
-/
set_option linter.unusedSimpArgs false
set_option linter.unusedVariables false
set_option maxRecDepth 100000
namespace Go.Proofs.YtogeohjeabbmaaaDoor
open Go.RowKit

def mtA (met : Nat → Bool) : Array Value := ((List.range 80).map fun i => .bool (met i)).toArray
theorem mtA_get (met : Nat → Bool) {i : Nat} (hi : i < 80) : (mtA met)[i]? = some (.bool (met i)) := by
  unfold mtA
  rw [List.getElem?_toArray, List.getElem?_map, List.getElem?_range hi]
  rfl
theorem mtA_set (met : Nat → Bool) (k : Nat) (hk : k < 80) : (mtA met).setIfInBounds k (.bool true) = mtA (markB met k) := by
  unfold mtA markB
  rw [List.setIfInBounds_toArray]
  congr 1
  apply List.ext_getElem?
  intro i
  rw [List.getElem?_set]
  by_cases hi : i < 80
  · by_cases e : k = i
    · subst e; simp [hi]
    · have e' : ¬ i = k := fun h => e h.symm
      simp [hi, e, e']
  · have : k ≠ i := by omega
    simp [hi, this]
def nthI (l : List Int) (k : Nat) : Int := l.getD k 0
theorem dropI {l : List Int} {k : Nat} (h : k < l.length) : l.drop k = nthI l k :: l.drop (k + 1) := by
  unfold nthI
  rw [List.getD_eq_getElem?_getD, List.getElem?_eq_getElem h, List.drop_eq_getElem_cons h]
  rfl
theorem sl_cellI {w : World} {b off n : Nat} {l : List Int} (h : Sl w (some ⟨b, off, none⟩) n (l.map (Value.int .i64))) {k : Nat} (hk : k < l.length) : w.cell? ⟨b, off + k, none⟩ = some (.int .i64 (nthI l k)) := by
  refine (SlK.of_sl h).cell (j := k) ?_
  unfold nthI
  rw [List.getElem?_map, List.getD_eq_getElem?_getD, List.getElem?_eq_getElem hk]
  rfl
def behEnd (l : List Mm) : Option ((Nat → Bool) × Ps) → Int × Ps
  | none => (371, [])
  | some (met, ps) => if wholeB l met then (0, ps) else (371, [])
/-- The first loop: each is one of the calls, and once. -/
def Beh1 (w : World) (n on mb : Nat) (os : List Int) (q : Nat) (ix : Value) (wr : World) : Prop :=
  ∃ (j : Nat) (met : Nat → Bool), j + q = on ∧ ix = .int .i64 (j : Int) ∧ metOk n (os.drop j) met = metOk n os noneB ∧
    Hs w [(mb, mtA met, 76), (w.heap.size + 1, #[.int .i64 0], 32), (w.heap.size, #[.slice none 0 0], 28)] wr
theorem alongL_cons (l : List Mm) (x : Int) (r : List Int) (met : Nat → Bool) (ps : Ps) : alongL l (x :: r) met ps = if mayB l met x.toNat && goesB (nthM l x.toNat).md ps then alongL l r (markB met x.toNat) (stepP (nthM l x.toNat).md ps) else none := rfl
theorem metOk_mem {n : Nat} : ∀ {os : List Int} {met : Nat → Bool}, metOk n os met = true → ∀ x ∈ os, 0 ≤ x ∧ x < n
  | [], _, _, x, hx => by cases hx
  | y :: r, met, h, x, hx => by
    unfold metOk at h
    simp only [Bool.and_eq_true, decide_eq_true_eq] at h
    rcases List.mem_cons.1 hx with rfl | hx
    · exact h.1.1
    · exact metOk_mem h.2 x hx
theorem isOp_right {c : Cal} (h : rightC c = true) : isOp (clOf c) = true := by
  unfold rightC at h
  simp only [Bool.and_eq_true, decide_eq_true_eq] at h
  have h1 := h.1
  unfold isOp clOf
  simp only [decide_eq_true_eq]
  by_cases h0 : c.op < 0 ∨ 8 ≤ c.op
  · unfold takesI at h1
    rw [if_pos h0] at h1
    exact absurd h1 (by decide)
  · by_cases h2 : c.op = 0
    · rw [h2] at h1
      exact absurd h1 (by decide)
    · omega
theorem right_all {l : List Mm} (h : checkB l = true) {k : Nat} (hk : k < l.length) : isOp (clOf (nthM l k).md.call) = true := by
  unfold checkB at h
  simp only [Bool.and_eq_true] at h
  have := List.all_eq_true.1 h.1.2 _ (nthM_mem hk)
  unfold rightM flatM at this
  simp only [Bool.and_eq_true] at this
  exact isOp_right this.1.1.1.1.1.1.2
theorem may_op {l : List Mm} {met : Nat → Bool} {k : Nat} (h : mayB l met k = true) : (nthM l k).md.call.op ≠ 6 := by
  unfold mayB rangesM at h
  simp only [Bool.and_eq_true, Bool.not_eq_true', decide_eq_false_iff_not] at h
  exact h.2
theorem up_stepP (m : Md) {ps : Ps} (h : upB ps = true) : upB (stepP m ps) = true := by
  unfold stepP
  split
  · exact up_next h _
  · exact h
theorem len_stepP (m : Md) (ps : Ps) : (stepP m ps).length ≤ ps.length + 1 := by
  unfold stepP
  split
  · exact len_next_le _ _
  · omega
/-- The second loop: along the order. -/
def Beh2 (w : World) (lb : Nat) (sp : Option Addr) (n cap : Nat) (l : List Mm) (os : List Int) (on : Nat) (q : Nat) (ix : Value) (wr : World) : Prop :=
  ∃ (j : Nat) (met : Nat → Bool) (ps : Ps) (mp : Option Addr) (mn mc : Nat), j + q = on ∧ ix = .int .i64 (j : Int) ∧ alongL l (os.drop j) met ps = alongL l os noneB [] ∧
    LnAt wr lb mp mn mc sp n cap met ∧ SlK wr 2 mp mn (prs ps) ∧ upB ps = true ∧ ps.length ≤ j ∧ (∀ b, mp.map (·.block) = some b → lb < b ∧ b < wr.heap.size) ∧ Below w.heap.size w wr ∧
    wr.heap[w.heap.size]? = some (.cells #[.slice none 0 0] 28 (0, 0)) ∧ wr.heap[w.heap.size + 1]? = some (.cells #[.int .i64 0] 32 (0, 0))
set_option maxHeartbeats 8000000 in
theorem behind_any (sp : Option Addr) (n cap : Nat) (l : List Mm) (op : Option Addr) (on oc : Nat) (os : List Int) (w : World) (hT : Tks w) (h : MsIn w sp n l) (hle : n ≤ cap) (hO : Sl w op on (os.map (Value.int .i64))) (hon : on ≤ 4096) :
    Calls Tryd.prog 31 #[.slice sp n cap, .slice op on oc] w fun e w' => BehP w (behindL l os).1 (behindL l os).2 e w' := by
  cases hck : checkB l with
  | false =>
    have : behindL l os = (370, []) := if_pos hck
    rw [this]
    exact behind_made sp n cap l op on oc w hT h hle hck
  | true =>
  have hlen := h.len
  have h80 : n ≤ 80 := by
    unfold checkB at hck
    simp only [Bool.and_eq_true, decide_eq_true_eq] at hck
    omega
  have holen : on = os.length := by have := hO.1; simpa using this
  have hmf : ∀ (fn : Fn) (first cap : Array Value) (w : World), (Instr.makeFunc fn first cap).run Tryd.prog w = .ok (.func fn first cap) w := fun _ _ _ _ => rfl
  have H0 := ((Hs.nil w).new #[.slice none 0 0] 28).new #[.int .i64 0] 32
  simp only [World.size_alloc] at H0
  obtain ⟨W0, hW0⟩ : ∃ W0, W0 = ((w.alloc (.cells #[.slice none 0 0] 28)).alloc (.cells #[.int .i64 0] 32)) := ⟨_, rfl⟩
  rw [← hW0] at H0
  have CK := checkM_any sp n cap l W0 (hT.next H0.old) (h.below H0.old) hle
  rw [hck, if_pos rfl] at CK
  have hbe : behindL l os = (if metOk n os noneB = false then ((2 : Int), ([] : Ps)) else behEnd l (alongL l os noneB [])) := by
    unfold behindL
    rw [hck, ← hlen, if_neg (by decide)]
    unfold behEnd
    rfl
  obtain ⟨R, hR⟩ : ∃ R, R = behindL l os := ⟨_, rfl⟩
  rw [← hR] at hbe ⊢
  clear hR
  have H0'h := Lib.hid H0
  have h'h := Lib.hid h
  have CK'h := Lib.hid CK
  have hck'h := Lib.hid hck
  have hT'h := Lib.hid hT
  have hle'h := Lib.hid hle
  have hbe'h := Lib.hid hbe
  have hO'h := Lib.hid hO
  have hon'h := Lib.hid hon
  have h80'h := Lib.hid h80
  have hlen'h := Lib.hid hlen
  have holen'h := Lib.hid holen
  clear H0 h CK hck hT hle hbe hO hon h80 hlen holen
  go_enter_defers Tryd.func31, Tryd.ntmps31
  go_wp2_with fail
  change Calls _ _ _ ((w.alloc (.cells #[.slice none 0 0] 28)).alloc (.cells #[.int .i64 0] 32)) _
  rw [← hW0]
  clear hW0
  refine CK'h.out.mono ?_
  rintro e W1 ⟨rfl, hb1⟩
  have H1 := (H0'h.out.next hb1).new (mtA noneB) 76
  clear hb1 H0'h CK'h
  have H1'h := Lib.hid H1
  clear H1
  go_upto_region 4 with (go_at_call 59; refine (needO_yes 370 _).mono ?_; rintro e w' ⟨rfl, hw⟩; obtain rfl := hw.symm)
  change Code.wp _ _ _ _ (W1.alloc (.cells (mtA noneB) 76))
  have H2 := H1'h.out
  clear H1'h
  generalize W1.alloc _ = W2 at H2 ⊢
  generalize W1.heap.size = mb at H2 ⊢
  have H2'h := Lib.hid H2
  clear H2
  go_wp2
  go_loopg [8, 21] on (fun q v8 ix wr => Beh1 w n on mb os q ix wr)
  case atStart => exact ⟨0, noneB, by omega, rfl, rfl, H2'h.out⟩
  case round =>
    obtain ⟨j, met, hj, rfl, hmet, hH⟩ := hrel
    have hr9 : R.2 = R.2 := rfl
    clear hr9
    by_cases hlt : j < on
    · have i1 : (j : Int) < (on : Int) := by omega
      have i2 : (0 : Int) ≤ (j : Int) := by omega
      have hjo : j < os.length := by have := holen'h.out; omega
      have hO1 := Sl.below hO'h.out hH.old
      obtain ⟨ob, oo, rfl⟩ := slk_some (SlK.of_sl hO1) (by omega)
      have x0 := sl_cellI hO1 hjo
      rw [dropI hjo] at hmet
      clear hO1 hlt
      generalize nthI os j = x at x0 hmet
      have hmet'h := Lib.hid hmet
      have hH'h := Lib.hid hH
      have hj'h := Lib.hid hj
      have hjo'h := Lib.hid hjo
      clear hmet hH hj hjo
      go_upto_region 7 with fail
      clear x0 i1 i2
      by_cases hx0 : 0 ≤ x
      · obtain ⟨k, rfl⟩ : ∃ k : Nat, x = (k : Int) := ⟨x.toNat, by omega⟩
        have i3 : (k : Int) ≥ 0 := hx0
        clear hx0
        by_cases hkn : k < n
        · have i4 : (k : Int) < (n : Int) := by omega
          have hk80 : k < 80 := by have := h80'h.out; omega
          have i5 : (k : Int) < 80 := by omega
          have i6 : (0 : Int) ≤ (k : Int) := by omega
          have c9 : wr.cell? ⟨mb, k, none⟩ = some (.bool (met k)) := blk_cell hH'h.out.rows.1 (mtA_get met hk80)
          have g9 := blk_free k hH'h.out.rows.1
          have hk80'h := Lib.hid hk80
          have hkn'h := Lib.hid hkn
          clear hk80 hkn
          cases hmk : met k with
          | true =>
            rw [hmk] at c9
            have hmk'h := Lib.hid hmk
            clear hmk
            have hmk : metOk n os noneB = false := by rw [← hmet'h.out]; unfold metOk; simp [hmk'h.out]
            obtain rfl : R = (2, []) := by rw [hbe'h.out, if_pos hmk]
            clear hmk
            go_wp2_with (go_at_call 59; refine (needO_no 2 _).mono ?_; rintro e w' ⟨rfl, hw⟩; obtain rfl := hw.symm)
            refine leaves_cons (f := 58) (args := #[.pointer (some ⟨w.heap.size, 0, none⟩), .pointer (some ⟨w.heap.size + 1, 0, none⟩)]) (by simp) (by simp [go_sem]) ?_
            refine (boomBeh _ _ 2 #[.slice none 0 0] rfl _ wr hH'h.out.rows.2.2.1 hH'h.out.rows.2.1 (by omega)).mono ?_
            rintro e u' w'' ⟨rfl, rfl, rfl⟩
            obtain ⟨d0, d1, hbw⟩ := boomB_parts (w0 := w) 2 hH'h.out.old hH'h.out.rows.2.2.1 hH'h.out.rows.2.1 (by omega) (Nat.le_refl _) (Nat.le_succ _)
            generalize boomB _ _ _ _ = W9 at d0 d1 hbw ⊢
            have hD := BehP.bad w W9 hbw 2
            clear hbw
            simp [Leaves, settle, results, Tryd.results31, go_sem, d0, d1, hD]
          | false =>
            rw [hmk] at c9
            have hmet2 : metOk n (os.drop (j + 1)) (markB met k) = metOk n os noneB := by
              rw [← hmet'h.out]
              conv => rhs; unfold metOk
              have := hkn'h.out
              simp [hmk, this]
            clear hmk
            have hH2 := hH'h.out.put 0 rfl k (.bool true)
            rw [mtA_set met k hk80'h.out] at hH2
            have hmet2'h := Lib.hid hmet2
            have hH2'h := Lib.hid hH2
            clear hmet2 hH2
            clear hmet'h hH'h
            have i8 : (j : Int) + 1 ≤ 5000 := by have := hj'h.out; have := hon'h.out; omega
            have i7 : (0 : Int) ≤ (j : Int) := by omega
            go_wp2_with (go_at_call 59; refine (needO_yes 2 _).mono ?_; rintro e w' ⟨rfl, hw⟩; obtain rfl := hw.symm)
            go_roundg (gk - 1)
            case measure => have := hj'h.out; have := hjo'h.out; have := holen'h.out; omega
            case rel => exact ⟨j + 1, markB met k, by have := hj'h.out; have := hjo'h.out; have := holen'h.out; omega, by go_num, hmet2'h.out, hH2'h.out⟩
        · have i4 : ¬ (k : Int) < (n : Int) := by omega
          have hkn'h := Lib.hid hkn
          clear hkn
          have hmk : metOk n os noneB = false := by rw [← hmet'h.out]; unfold metOk; have := hkn'h.out; simp; omega
          obtain rfl : R = (2, []) := by rw [hbe'h.out, if_pos hmk]
          clear hmk
          go_wp2_with (go_at_call 59; refine (needO_no 2 _).mono ?_; rintro e w' ⟨rfl, hw⟩; obtain rfl := hw.symm)
          refine leaves_cons (f := 58) (args := #[.pointer (some ⟨w.heap.size, 0, none⟩), .pointer (some ⟨w.heap.size + 1, 0, none⟩)]) (by simp) (by simp [go_sem]) ?_
          refine (boomBeh _ _ 2 #[.slice none 0 0] rfl _ wr hH'h.out.rows.2.2.1 hH'h.out.rows.2.1 (by omega)).mono ?_
          rintro e u' w'' ⟨rfl, rfl, rfl⟩
          obtain ⟨d0, d1, hbw⟩ := boomB_parts (w0 := w) 2 hH'h.out.old hH'h.out.rows.2.2.1 hH'h.out.rows.2.1 (by omega) (Nat.le_refl _) (Nat.le_succ _)
          generalize boomB _ _ _ _ = W9 at d0 d1 hbw ⊢
          have hD := BehP.bad w W9 hbw 2
          clear hbw
          simp [Leaves, settle, results, Tryd.results31, go_sem, d0, d1, hD]
      · have i3 : ¬ x ≥ 0 := by omega
        have hx0'h := Lib.hid hx0
        clear hx0
        have hmk : metOk n os noneB = false := by rw [← hmet'h.out]; unfold metOk; have := hx0'h.out; simp; omega
        obtain rfl : R = (2, []) := by rw [hbe'h.out, if_pos hmk]
        clear hmk
        go_wp2_with (go_at_call 59; refine (needO_no 2 _).mono ?_; rintro e w' ⟨rfl, hw⟩; obtain rfl := hw.symm)
        refine leaves_cons (f := 58) (args := #[.pointer (some ⟨w.heap.size, 0, none⟩), .pointer (some ⟨w.heap.size + 1, 0, none⟩)]) (by simp) (by simp [go_sem]) ?_
        refine (boomBeh _ _ 2 #[.slice none 0 0] rfl _ wr hH'h.out.rows.2.2.1 hH'h.out.rows.2.1 (by omega)).mono ?_
        rintro e u' w'' ⟨rfl, rfl, rfl⟩
        obtain ⟨d0, d1, hbw⟩ := boomB_parts (w0 := w) 2 hH'h.out.old hH'h.out.rows.2.2.1 hH'h.out.rows.2.1 (by omega) (Nat.le_refl _) (Nat.le_succ _)
        generalize boomB _ _ _ _ = W9 at d0 d1 hbw ⊢
        have hD := BehP.bad w W9 hbw 2
        clear hbw
        simp [Leaves, settle, results, Tryd.results31, go_sem, d0, d1, hD]
    · have i1 : ¬ (j : Int) < (on : Int) := by omega
      have hmk : metOk n os noneB = true := by rw [← hmet, List.drop_of_length_le (by have := holen'h.out; omega)]; rfl
      have hR2 : R = behEnd l (alongL l os noneB []) := by rw [hbe'h.out, if_neg (by rw [hmk]; decide)]
      have hin := metOk_mem hmk
      have H3 := hH.new (lnL none 0 0 sp n cap noneB).toArray 78
      clear hmk hmet hj hlt
      have hR2'h := Lib.hid hR2
      have hin'h := Lib.hid hin
      have H3'h := Lib.hid H3
      clear hR2 hin H3
      clear hbe'h hH
      go_upto_region 11 with fail
      change Code.wp _ _ _ _ (wr.alloc (.cells (lnL none 0 0 sp n cap noneB).toArray 78))
      have H4 := H3'h.out
      clear H3'h
      generalize wr.alloc _ = W4 at H4 ⊢
      generalize wr.heap.size = lb at H4 ⊢
      have hB2 : Beh2 w lb sp n cap l os on on (.int .i64 (0 : Nat)) W4 := ⟨0, noneB, [], none, 0, 0, by omega, rfl, rfl, H4.rows.1, SlK.nil _ _ _, rfl, by simp, (fun b e => by cases e), H4.old, H4.rows.2.2.2.1, H4.rows.2.2.1⟩
      have hlb : w.heap.size + 1 < lb := by
        have := H4.desc
        simp only [List.pairwise_cons] at this
        exact this.1 (w.heap.size + 1, #[.int .i64 0], 32) (by simp)
      clear H4
      have hB2'h := Lib.hid hB2
      have hlb'h := Lib.hid hlb
      clear hB2 hlb
      go_wp2
      go_loopg [13, 52] on (fun q v ix wr => Beh2 w lb sp n cap l os on q ix wr)
      case atStart => exact hB2'h.out
      case round =>
        obtain ⟨j, met, ps, mp, mn, mc, hj, rfl, hal, hLn, hSl, hup, hpl, hne, hB, hMp, hEr⟩ := hrel
        by_cases hlt : j < on
        · have i1 : (j : Int) < (on : Int) := by omega
          have i2 : (0 : Int) ≤ (j : Int) := by omega
          have hjo : j < os.length := by have := holen'h.out; omega
          have hO1 := Sl.below hO'h.out hB
          obtain ⟨ob, oo, rfl⟩ := slk_some (SlK.of_sl hO1) (by omega)
          have x0 := sl_cellI hO1 hjo
          have hxr : 0 ≤ nthI os j ∧ nthI os j < n := hin'h.out _ (by have := dropI hjo; exact List.mem_of_mem_drop (this ▸ List.mem_cons_self ..))
          rw [dropI hjo] at hal
          clear hO1 hlt
          generalize nthI os j = x at x0 hal hxr
          obtain ⟨k, rfl⟩ : ∃ k : Nat, x = (k : Int) := ⟨x.toNat, by omega⟩
          have hkn : k < n := by omega
          have hkl : k < l.length := by have := hlen'h.out; omega
          have hmn : mn = ps.length := by have := hSl.1; rw [prs_length] at this; omega
          rw [alongL_cons, Int.toNat_natCast] at hal
          have hS1 := h'h.out.below hB
          have MAY := may_any lb mp mn mc sp n cap l met k wr hLn hS1 hkn h80'h.out
          have GOES := fun (hop : (nthM l k).md.call.op ≠ 6) W (hb : Below wr.heap.size wr W) => goes_any (lb + 1) lb mp mn mc ps sp n cap l met k W (hLn.below hb) (hS1.below hb) hkn h80'h.out (hSl.below hb) hup (by have := hon'h.out; omega) (right_all hck'h.out hkl) hop (by have := lt_of_heap hLn; have := hb.size; omega) (fun g e => by have := hne g e; have := hb.size; omega)
          have hmo := fun hm => may_op (l := l) (met := met) (k := k) hm
          obtain ⟨mb, hmb⟩ : ∃ mb, mb = mayB l met k := ⟨_, rfl⟩
          obtain ⟨gb, hgb⟩ : ∃ gb, gb = goesB (nthM l k).md ps := ⟨_, rfl⟩
          have hup2 := up_stepP (nthM l k).md hup
          have hlen2 := len_stepP (nthM l k).md ps
          generalize stepP (nthM l k).md ps = ps2 at hal GOES hup2 hlen2
          rw [← hmb, ← hgb] at hal
          rw [← hgb] at GOES
          rw [← hmb] at MAY hmo
          have hal'h := Lib.hid hal
          have hup'h := Lib.hid hup
          have hpl'h := Lib.hid hpl
          have hne'h := Lib.hid hne
          have hB'h := Lib.hid hB
          have hMp'h := Lib.hid hMp
          have hEr'h := Lib.hid hEr
          have hkn'h := Lib.hid hkn
          have hjo'h := Lib.hid hjo
          have hj'h := Lib.hid hj
          have MAY'h := Lib.hid MAY
          have GOES'h := Lib.hid GOES
          have hmo'h := Lib.hid hmo
          have hup2'h := Lib.hid hup2
          have hlen2'h := Lib.hid hlen2
          have hSl'h := Lib.hid hSl
          have hLn'h := Lib.hid hLn
          clear hal hup hpl hne hB hMp hEr hkn hjo hj MAY GOES hmo hup2 hlen2 hSl hLn
          clear hxr hkl hmn hS1 hmb hgb
          go_upto_region 15 with fail
          clear x0 i1
          go_wp2_with fail
          refine MAY'h.out.mono ?_
          rintro e W5 ⟨rfl, hb5⟩
          have hBw := below_next hB'h.out hb5
          have hMp5 := heap_below hb5 hMp'h.out (lt_of_heap hMp'h.out)
          have hEr5 := heap_below hb5 hEr'h.out (lt_of_heap hEr'h.out)
          clear hEr'h hMp'h hB'h
          have hBw'h := Lib.hid hBw
          have hMp5'h := Lib.hid hMp5
          have hEr5'h := Lib.hid hEr5
          have hb5'h := Lib.hid hb5
          clear hBw hMp5 hEr5 hb5
          cases mb with
          | false =>
            obtain rfl : R = (371, []) := by rw [hR2'h.out, ← hal'h.out]; rfl
            go_wp2_with (go_at_call 59; refine (needO_no 371 _).mono ?_; rintro e w' ⟨rfl, hw⟩; obtain rfl := hw.symm)
            refine leaves_cons (f := 58) (args := #[.pointer (some ⟨w.heap.size, 0, none⟩), .pointer (some ⟨w.heap.size + 1, 0, none⟩)]) (by simp) (by simp [go_sem]) ?_
            refine (boomBeh _ _ 371 #[.slice none 0 0] rfl _ W5 hMp5'h.out hEr5'h.out (by omega)).mono ?_
            rintro e u' w'' ⟨rfl, rfl, rfl⟩
            obtain ⟨d0, d1, hbw⟩ := boomB_parts (w0 := w) 371 hBw'h.out hMp5'h.out hEr5'h.out (by omega) (Nat.le_refl _) (Nat.le_succ _)
            generalize boomB _ _ _ _ = W9 at d0 d1 hbw ⊢
            have hD := BehP.bad w W9 hbw 371
            clear hbw
            simp [Leaves, settle, results, Tryd.results31, go_sem, d0, d1, hD]
          | true =>
            have GO := GOES'h.out (hmo'h.out rfl) W5 hb5'h.out
            clear GOES'h hmo'h MAY'h
            have GO'h := Lib.hid GO
            clear GO
            go_wp2_with fail
            refine GO'h.out.mono ?_
            rintro e W6 ⟨mp2, mn2, mc2, rfl, hK, hL6, hS6, hne6'⟩
            have hne6 : ∀ g, mp2.map (·.block) = some g → lb < g ∧ g < W6.heap.size := fun g e => ⟨(hne6' g e).1, (hne6' g e).2.2⟩
            clear hne6'
            have hlbh := hlb'h.out
            have hB6 : Below w.heap.size w W6 := hBw'h.out.trans ((hK.mono (fun b (hb : b < w.heap.size) => by omega)).below hBw'h.out.size)
            have hMp6 := (hK.block _ (lt_of_heap hMp5'h.out) (by omega)).trans hMp5'h.out
            have hEr6 := (hK.block _ (lt_of_heap hEr5'h.out) (by omega)).trans hEr5'h.out
            clear hlbh hK hMp5'h hEr5'h hBw'h GO'h hb5'h
            cases gb with
            | false =>
              obtain rfl : R = (371, []) := by rw [hR2'h.out, ← hal'h.out]; rfl
              have hB6'h := Lib.hid hB6
              have hMp6'h := Lib.hid hMp6
              have hEr6'h := Lib.hid hEr6
              clear hB6 hMp6 hEr6
              clear hL6 hS6 hne6
              go_wp2_with (go_at_call 59; refine (needO_no 371 _).mono ?_; rintro e w' ⟨rfl, hw⟩; obtain rfl := hw.symm)
              refine leaves_cons (f := 58) (args := #[.pointer (some ⟨w.heap.size, 0, none⟩), .pointer (some ⟨w.heap.size + 1, 0, none⟩)]) (by simp) (by simp [go_sem]) ?_
              refine (boomBeh _ _ 371 #[.slice none 0 0] rfl _ W6 hMp6'h.out hEr6'h.out (by omega)).mono ?_
              rintro e u' w'' ⟨rfl, rfl, rfl⟩
              obtain ⟨d0, d1, hbw⟩ := boomB_parts (w0 := w) 371 hB6'h.out hMp6'h.out hEr6'h.out (by omega) (Nat.le_refl _) (Nat.le_succ _)
              generalize boomB _ _ _ _ = W9 at d0 d1 hbw ⊢
              have hD := BehP.bad w W9 hbw 371
              clear hbw
              simp [Leaves, settle, results, Tryd.results31, go_sem, d0, d1, hD]
            | true =>
              have hal2 : alongL l (os.drop (j + 1)) (markB met k) ps2 = alongL l os noneB [] := by rw [← hal'h.out]; rfl
              have i8 : (j : Int) + 1 ≤ 5000 := by have := hj'h.out; have := hon'h.out; have := hjo'h.out; have := holen'h.out; omega
              have hal2'h := Lib.hid hal2
              have hB6'h := Lib.hid hB6
              have hMp6'h := Lib.hid hMp6
              have hEr6'h := Lib.hid hEr6
              have hL6'h := Lib.hid hL6
              have hS6'h := Lib.hid hS6
              have hne6'h := Lib.hid hne6
              clear hal2 hB6 hMp6 hEr6 hL6 hS6 hne6
              clear hal'h
              go_wp2_with (go_at_call 59; refine (needO_yes 371 _).mono ?_; rintro e w' ⟨rfl, hw⟩; obtain rfl := hw.symm)
              go_roundg (gk - 1)
              case measure => have := hj'h.out; have := hjo'h.out; have := holen'h.out; omega
              case rel => exact ⟨j + 1, markB met k, ps2, mp2, mn2, mc2, by have := hj'h.out; have := hjo'h.out; have := holen'h.out; omega, by go_num, hal2'h.out, hL6'h.out, hS6'h.out, hup2'h.out, by have := hlen2'h.out; have := hpl'h.out; omega, hne6'h.out, hB6'h.out, hMp6'h.out, hEr6'h.out⟩
        · have i1 : ¬ (j : Int) < (on : Int) := by omega
          have hR3 : R = if wholeB l met then (0, ps) else (371, []) := by
            rw [hR2'h.out, ← hal, List.drop_of_length_le (by have := holen'h.out; omega)]
            rfl
          have hS1 := h'h.out.below hB
          have WH := whole_any lb mp mn mc sp n cap l met wr hLn hS1 h80'h.out
          obtain ⟨yb, hyb⟩ : ∃ yb, yb = wholeB l met := ⟨_, rfl⟩
          rw [← hyb] at WH hR3
          clear hyb hS1 hal hj hlt
          have hR3'h := Lib.hid hR3
          have WH'h := Lib.hid WH
          have hLn'h := Lib.hid hLn
          have hSl'h := Lib.hid hSl
          have hup'h := Lib.hid hup
          have hpl'h := Lib.hid hpl
          have hne'h := Lib.hid hne
          have hB'h := Lib.hid hB
          have hMp'h := Lib.hid hMp
          have hEr'h := Lib.hid hEr
          clear hR3 WH hLn hSl hup hpl hne hB hMp hEr
          go_upto_region 17 with fail
          clear i1
          go_wp2_with fail
          refine WH'h.out.mono ?_
          rintro e W5 ⟨rfl, hb5⟩
          have hBw := below_next hB'h.out hb5
          have hMp5 := heap_below hb5 hMp'h.out (lt_of_heap hMp'h.out)
          have hEr5 := heap_below hb5 hEr'h.out (lt_of_heap hEr'h.out)
          have hL5 := hLn'h.out.below hb5
          have hS5 := hSl'h.out.below hb5
          clear hEr'h hMp'h hB'h hLn'h hSl'h WH'h hb5
          cases yb with
          | false =>
            obtain rfl : R = (371, []) := by rw [hR3'h.out]; rfl
            have hBw'h := Lib.hid hBw
            have hMp5'h := Lib.hid hMp5
            have hEr5'h := Lib.hid hEr5
            clear hBw hMp5 hEr5
            clear hL5 hS5
            go_wp2_with (go_at_call 59; refine (needO_no 371 _).mono ?_; rintro e w' ⟨rfl, hw⟩; obtain rfl := hw.symm)
            refine leaves_cons (f := 58) (args := #[.pointer (some ⟨w.heap.size, 0, none⟩), .pointer (some ⟨w.heap.size + 1, 0, none⟩)]) (by simp) (by simp [go_sem]) ?_
            refine (boomBeh _ _ 371 #[.slice none 0 0] rfl _ W5 hMp5'h.out hEr5'h.out (by omega)).mono ?_
            rintro e u' w'' ⟨rfl, rfl, rfl⟩
            obtain ⟨d0, d1, hbw⟩ := boomB_parts (w0 := w) 371 hBw'h.out hMp5'h.out hEr5'h.out (by omega) (Nat.le_refl _) (Nat.le_succ _)
            generalize boomB _ _ _ _ = W9 at d0 d1 hbw ⊢
            have hD := BehP.bad w W9 hbw 371
            clear hbw
            simp [Leaves, settle, results, Tryd.results31, go_sem, d0, d1, hD]
          | true =>
            obtain rfl : R = (0, ps) := by rw [hR3'h.out]; rfl
            have y0 := hL5.c0
            have z0 : W5.cell? ⟨w.heap.size, 0, none⟩ = some (.slice none 0 0) := blk_cell (i := 0) hMp5 rfl
            have z1 : W5.cell? ⟨w.heap.size + 1, 0, none⟩ = some (.int .i64 0) := blk_cell (i := 0) hEr5 rfl
            have f0 := blk_free 0 hMp5
            have f1 := blk_free 0 hEr5
            have hBw'h := Lib.hid hBw
            have hMp5'h := Lib.hid hMp5
            have hEr5'h := Lib.hid hEr5
            have hS5'h := Lib.hid hS5
            have hL5'h := Lib.hid hL5
            clear hBw hMp5 hEr5 hS5 hL5
            go_wp2_with (go_at_call 59; refine (needO_yes 371 _).mono ?_; rintro e w' ⟨rfl, hw⟩; obtain rfl := hw.symm)
            have h1 := blk_set (i := 0) (.slice mp mn mc) hMp5'h.out
            have h2 := (Below.heap_setCell W5 ⟨w.heap.size, 0, none⟩ (.slice mp mn mc) (w.heap.size + 1) (by show w.heap.size + 1 ≠ w.heap.size; omega)).trans hEr5'h.out
            have h3 := (Below.heap_setCell (W5.setCell ⟨w.heap.size, 0, none⟩ (.slice mp mn mc)) ⟨w.heap.size + 1, 0, none⟩ (.int .i64 0) w.heap.size (by show w.heap.size ≠ w.heap.size + 1; omega)).trans h1
            have h4 := blk_set (i := 0) (.int .i64 0) h2
            have hlbh := hlb'h.out
            have hneh := hne'h.out
            have hS9 := (hS5'h.out.off (lb := w.heap.size) (fun g e => by have := hneh g e; omega) 0 (.slice mp mn mc)).off (lb := w.heap.size + 1) (fun g e => by have := hneh g e; omega) 0 (.int .i64 0)
            have hB9 : Below w.heap.size w ((W5.setCell ⟨w.heap.size, 0, none⟩ (.slice mp mn mc)).setCell ⟨w.heap.size + 1, 0, none⟩ (.int .i64 0)) := hBw'h.out.trans ⟨rfl, rfl, rfl, by simp [World.setCell], fun b hb => (Below.heap_setCell _ _ _ _ (by show b ≠ w.heap.size + 1; omega)).trans (Below.heap_setCell _ _ _ _ (by show b ≠ w.heap.size; omega))⟩
            have d0 : ((W5.setCell ⟨w.heap.size, 0, none⟩ (.slice mp mn mc)).setCell ⟨w.heap.size + 1, 0, none⟩ (.int .i64 0)).cell? ⟨w.heap.size, 0, none⟩ = some (.slice mp mn mc) := blk_cell (i := 0) h3 rfl
            have d1 : ((W5.setCell ⟨w.heap.size, 0, none⟩ (.slice mp mn mc)).setCell ⟨w.heap.size + 1, 0, none⟩ (.int .i64 0)).cell? ⟨w.heap.size + 1, 0, none⟩ = some (.int .i64 0) := blk_cell (i := 0) h4 rfl
            have hfar : ∀ g, mp.map (·.block) = some g → w.heap.size ≤ g := fun g e => by have := hneh g e; omega
            clear h1 h2 h3 h4 hlbh hneh y0 z0 z1 f0 f1
            generalize World.setCell _ _ _ = W9 at hS9 hB9 d0 d1 ⊢
            have hD : BehP w 0 ps (.returned (.tuple #[.agg #[.slice mp mn mc], .int .i64 0])) W9 := ⟨mp, mn, mc, rfl, hB9, hS9, hfar⟩
            clear hB9 hS9 hfar
            have hD'h := Lib.hid hD
            clear hD
            refine leaves_cons (f := 58) (args := #[.pointer (some ⟨w.heap.size, 0, none⟩), .pointer (some ⟨w.heap.size + 1, 0, none⟩)]) (by simp) (by simp [go_sem]) ?_
            refine (idleBeh _ _ W9).mono ?_
            rintro e u' w'' ⟨rfl, rfl, rfl⟩
            refine ⟨_, ?_, hD'h.out⟩
            simp [results, Tryd.results31, go_sem, d0, d1]
end Go.Proofs.YtogeohjeabbmaaaDoor

/-
  Layer 27 (order): Bears, Behind.
-/
set_option linter.unusedSimpArgs false
set_option linter.unusedVariables false
set_option maxRecDepth 100000
namespace Go.Proofs.YtogeohjeabbmaaaDoor
open Go.RowKit

theorem bears_any (sp : Option Addr) (n cap : Nat) (l : List Mm) (op : Option Addr) (on oc : Nat) (os : List Int) (w : World) (hT : Tks w) (h : MsIn w sp n l) (hle : n ≤ cap) (hO : Sl w op on (os.map (Value.int .i64))) (hon : on ≤ 4096) :
    Calls Tryd.prog 13 #[.slice sp n cap, .slice op on oc] w fun e w' => e = .returned (.bool (decide ((behindL l os).1 = 0))) ∧ Below w.heap.size w w' := by
  have C := behind_any sp n cap l op on oc os w hT h hle hO hon
  obtain ⟨er, her⟩ : ∃ er, er = (behindL l os).1 := ⟨_, rfl⟩
  rw [← her] at C ⊢
  clear her
  by_cases e0 : er = 0
  · rw [show decide (er = 0) = true by simp [e0]]
    have i1 : (er == 0) = true := by simp [e0]
    clear e0
    have C'h := Lib.hid C
    clear C
    go_enter Tryd.func13, Tryd.ntmps13
    go_wp2_with (go_at_call 31; refine C'h.out.mono ?_; rintro e w2 ⟨s1, n1, c1, rfl, hb2, -⟩; have hb2'h := Lib.hid hb2; clear hb2)
    go_ret
    exact ⟨rfl, hb2'h.out.alloc hb2'h.out.size _⟩
  · rw [show decide (er = 0) = false by simp [e0]]
    have i1 : (er == 0) = false := by simp [e0]
    clear e0
    have C'h := Lib.hid C
    clear C
    go_enter Tryd.func13, Tryd.ntmps13
    go_wp2_with (go_at_call 31; refine C'h.out.mono ?_; rintro e w2 ⟨s1, n1, c1, rfl, hb2, -⟩; have hb2'h := Lib.hid hb2; clear hb2)
    go_ret
    exact ⟨rfl, hb2'h.out.alloc hb2'h.out.size _⟩
theorem behindX_any (sp : Option Addr) (n cap : Nat) (l : List Mm) (op : Option Addr) (on oc : Nat) (os : List Int) (w : World) (hT : Tks w) (h : MsIn w sp n l) (hle : n ≤ cap) (hO : Sl w op on (os.map (Value.int .i64))) (hon : on ≤ 4096) :
    Calls Tryd.prog 10 #[.slice sp n cap, .slice op on oc] w fun e w' => BehP w (behindL l os).1 (behindL l os).2 e w' := by
  have H0 := (Hs.nil w).new #[.slice none 0 0] 28
  have C := behind_any sp n cap l op on oc os _ (hT.next H0.old) (h.below H0.old) hle (Sl.below hO H0.old) hon
  obtain ⟨er, her⟩ : ∃ er, er = (behindL l os).1 := ⟨_, rfl⟩
  obtain ⟨ps, hps⟩ : ∃ ps, ps = (behindL l os).2 := ⟨_, rfl⟩
  rw [← her, ← hps] at C ⊢
  clear her hps
  obtain ⟨W0, hW0⟩ : ∃ W0, W0 = w.alloc (.cells #[.slice none 0 0] 28) := ⟨_, rfl⟩
  rw [← hW0] at H0 C
  have H0'h := Lib.hid H0
  have C'h := Lib.hid C
  clear H0 C
  go_enter Tryd.func10, Tryd.ntmps10
  go_upto_region 1 with fail
  rw [← hW0]
  clear hW0
  go_wp2_with fail
  refine C'h.out.mono ?_
  rintro e w2 ⟨s1, n1, c1, rfl, hb2, hS, hf⟩
  have H2 := H0'h.out.next hb2
  have hne : ∀ g, s1.map (·.block) = some g → g ≠ w.heap.size := fun g e => by have h1 := hf g e; have h2 := H0'h.out.lt _ (List.mem_cons_self ..); simp only at h2; omega
  have hS3 := hS.off hne 0 (.slice s1 n1 c1)
  have hfar : ∀ g, s1.map (·.block) = some g → w.heap.size ≤ g := fun g e => by have h1 := hf g e; have h2 := H0'h.out.old.size; omega
  have H3 := (H2.put 0 rfl 0 (.slice s1 n1 c1))
  have d0 : (w2.setCell ⟨w.heap.size, 0, none⟩ (.slice s1 n1 c1)).cell? ⟨w.heap.size, 0, none⟩ = some (.slice s1 n1 c1) := blk_cell (i := 0) H3.rows.1 rfl
  have hfin : BehP w er ps (.returned (.tuple #[.agg #[.slice s1 n1 c1], .int .i64 er])) (w2.setCell ⟨w.heap.size, 0, none⟩ (.slice s1 n1 c1)) := ⟨s1, n1, c1, rfl, H3.old, hS3, hfar⟩
  clear hf hne hfar H3 hS3
  have d0'h := Lib.hid d0
  clear d0
  have z0 : w2.cell? ⟨w.heap.size, 0, none⟩ = some (.slice none 0 0) := blk_cell (i := 0) H2.rows.1 rfl
  have f0 := blk_free 0 H2.rows.1
  have H2'h := Lib.hid H2
  have hS'h := Lib.hid hS
  have hb2'h := Lib.hid hb2
  have hfin'h := Lib.hid hfin
  clear H2 hS hb2 hfin
  go_wp2
  have d0 := d0'h.out
  exact bodyPost_ret (v := .tuple #[.agg #[.slice s1 n1 c1], .int .i64 er]) (by simp [results, Tryd.results10, go_sem, d0]) rfl hfin'h.out
end Go.Proofs.YtogeohjeabbmaaaDoor

/-
  Layer 27 (order): Free, plain.
-/
set_option linter.unusedSimpArgs false
set_option linter.unusedVariables false
set_option maxRecDepth 100000
namespace Go.Proofs.YtogeohjeabbmaaaDoor
open Go.RowKit

def freeB (a b : Md) : Bool := !aheadM a b && !aheadM b a
/-- Those behind the i-th call, from the k-th one on (counted from behind it), that are free of it. -/
def freeRow (l : List Mm) (i : Nat) : Nat → Nat → List (Nat × Nat)
  | 0, _ => []
  | q + 1, k => (if freeB (nthM l i).md (nthM l (i + 1 + k)).md then [(i, i + 1 + k)] else []) ++ freeRow l i q (k + 1)
def freeFrom (l : List Mm) : Nat → Nat → List (Nat × Nat)
  | 0, _ => []
  | q + 1, i => freeRow l i (l.length - (i + 1)) 0 ++ freeFrom l q (i + 1)
def freeL (l : List Mm) : List (Nat × Nat) := if checkB l then freeFrom l l.length 0 else []
end Go.Proofs.YtogeohjeabbmaaaDoor

/-
  Layer 27 (order): Free.
-/
set_option linter.unusedSimpArgs false
set_option linter.unusedVariables false
set_option maxRecDepth 100000
namespace Go.Proofs.YtogeohjeabbmaaaDoor
open Go.RowKit

def pairsN (l : List (Nat × Nat)) : List Value := l.flatMap fun p => [.int .i64 (p.1 : Int), .int .i64 (p.2 : Int)]
theorem pairsN_snoc (l : List (Nat × Nat)) (a b : Nat) : pairsN (l ++ [(a, b)]) = pairsN l ++ [.int .i64 (a : Int), .int .i64 (b : Int)] := by unfold pairsN; simp
/-- What Free has made so far. -/
def FreeI (w : World) (l : List Mm) (out : List (Nat × Nat)) (v : Value) (wr : World) : Prop :=
  Below w.heap.size w wr ∧ out.length ≤ 6400 ∧ wr.ownsRow w.heap.size 53 2 v out.length (pairsN out)
theorem free_none (sp : Option Addr) (n cap : Nat) (l : List Mm) (w : World) (hT : Tks w) (h : MsIn w sp n l) (hle : n ≤ cap) (hck : checkB l = false) :
    Calls Tryd.prog 12 #[.slice sp n cap] w fun e w' => e = .returned (.slice none 0 0) ∧ Below w.heap.size w w' := by
  have CK := checkM_any sp n cap l w hT h hle
  rw [hck, if_neg (by decide)] at CK
  have CK'h := Lib.hid CK
  have h'h := Lib.hid h
  have hT'h := Lib.hid hT
  have hle'h := Lib.hid hle
  clear CK h hT hle
  go_enter Tryd.func12, Tryd.ntmps12
  go_wp2_with fail
  refine CK'h.out.mono ?_
  rintro e w1 ⟨rfl, hb1⟩
  have hb1'h := Lib.hid hb1
  clear hb1
  go_wp2
  go_ret
  exact ⟨rfl, hb1'h.out⟩
end Go.Proofs.YtogeohjeabbmaaaDoor

