/-
  Several texts of mine in one: CtrlPure Ctrl CtrlB CtrlC CtrlD CtrlE Ref09 CtrlF CtrlG CtrlH CtrlI Maps GroupPure Group GroupB GroupC GroupD GroupE GroupF.
-/
import Derived.Test.YtoklgjlmjkhmbaaLanesPure
import Derived.Test.YtoklgjlmjkhmbaaLanesC
import Derived.Test.YtoklgjlmjkhmbaaLanesR
import Derived.Test.YtoklgjlmjkhmbaaCommon
import Derived.Defers
import Derived.Recover
import Derived.WalkLawsBesides
import Derived.Deep.RegionHeld3
import Derived.Test.YtoklgjlmjkhmbaaLanesS
import Derived.Test.YtoklgjlmjkhmbaaLanesT
import Derived.Sort.LoopGhostIn
import Derived.Test.YtoklgjlmjkhmbaaScope
import Derived.Test.YtoklgjlmjkhmbaaMarks
import Derived.StillTailTactics
import Derived.Test.YtoklgjlmjkhmbaaBase
import Derived.Maps.Own
import Derived.Maps.Views
import Derived.Maps.OwnSet
import Derived.Maps.OwnIn
import Derived.Test.YtoklgjlmjkhmbaaSlK
import Derived.Test.YtoklgjlmjkhmbaaHas
import Derived.Deep.Cut
import Derived.Test.YtoklgjlmjkhmbaaRoundF
import Derived.Laws.Tables
import Derived.Deep.QuietTactic
/-
  Control words, in plain Lean.
-/
set_option linter.unusedSimpArgs false
set_option linter.unusedVariables false
namespace Go.Proofs.Ytoklgjlmjkhmbaa
open Go.RowKit

theorem maskOf_lt' (f : Nat → Bool) : maskOf ((List.range 8).map f) < 256 := maskOf_lt _ (by simp)
theorem equalM_lt' (w b : Nat) : equalM w b < 256 := maskOf_lt' _
theorem belowM_lt' (w b : Nat) : belowM w b < 256 := maskOf_lt' _
theorem tb_range' (f : Nat → Bool) (i : Nat) : (maskOf ((List.range 8).map f)).testBit i = (decide (i < 8) && f i) := by
  rw [testBit_maskOf, getD_range]
theorem mask_or (f g : Nat → Bool) : maskOf ((List.range 8).map f) ||| maskOf ((List.range 8).map g) = maskOf ((List.range 8).map fun i => f i || g i) := Nat.eq_of_testBit_eq fun i => by
  rw [Nat.testBit_or, tb_range', tb_range', tb_range']; cases decide (i < 8) <;> simp
theorem mask_and (f g : Nat → Bool) : maskOf ((List.range 8).map f) &&& maskOf ((List.range 8).map g) = maskOf ((List.range 8).map fun i => f i && g i) := Nat.eq_of_testBit_eq fun i => by
  rw [Nat.testBit_and, tb_range', tb_range', tb_range']; cases decide (i < 8) <;> simp
theorem mask_full : maskOf ((List.range 8).map fun _ => true) = 255 := by decide
theorem mask_none : maskOf ((List.range 8).map fun _ => false) = 0 := by decide
theorem mask_one : ∀ n, n < 8 → maskOf ((List.range 8).map fun i => i == n) = 2 ^ n := by decide
theorem mask_eq {f g : Nat → Bool} : maskOf ((List.range 8).map f) = maskOf ((List.range 8).map g) ↔ ∀ i, i < 8 → f i = g i := by
  constructor
  · intro h i hi
    have := congrArg (Nat.testBit · i) h
    simp only [tb_range', hi, decide_true, Bool.true_and] at this
    exact this
  · intro h
    refine Nat.eq_of_testBit_eq fun i => ?_
    rw [tb_range', tb_range']
    by_cases hi : i < 8
    · rw [h i hi]
    · simp [hi]

/-- May a control byte be? -/
def okB (b : Nat) : Bool := decide (b < 128) || (b == 128) || (b == 254)
def rightW (x : Nat) : Bool := (List.range 8).all fun i => okB (byteAt x i)
theorem rightW_iff (x : Nat) : rightW x = true ↔ ∀ i, i < 8 → okB (byteAt x i) = true := by
  unfold rightW; rw [List.all_eq_true]
  constructor
  · intro h i hi; exact h i (List.mem_range.2 hi)
  · intro h i hi; exact h i (List.mem_range.1 hi)
theorem fullM_def (x : Nat) : belowM x 128 = maskOf ((List.range 8).map fun i => decide (byteAt x i < 128)) := rfl
theorem equalM_def (x b : Nat) : equalM x b = maskOf ((List.range 8).map fun i => byteAt x i == b) := rfl
theorem or3 (x : Nat) : (belowM x 128 ||| equalM x 128) ||| equalM x 254 = maskOf ((List.range 8).map fun i => okB (byteAt x i)) := by
  rw [fullM_def, equalM_def, equalM_def, mask_or, mask_or]; rfl
theorem check_iff (x : Nat) : ((belowM x 128 ||| equalM x 128) ||| equalM x 254 = 255) ↔ rightW x = true := by
  rw [or3, ← mask_full, mask_eq, rightW_iff]
theorem byteAt_set (x n b i : Nat) (hb : b < 256) (hi : i < 8) (hn : n < 8) : byteAt (setLane x n b) i = if i = n then b else byteAt x i := by
  unfold setLane
  have hB : Bytey ((bytes8 x).set n b) := by
    intro c hc
    rcases List.mem_or_eq_of_mem_set hc with h | h
    · exact bytes8_bytey x c h
    · rw [h]; exact hb
  rw [byteAt_word hB, List.getD_eq_getElem?_getD, List.getElem?_set]
  by_cases h : n = i
  · subst h; rw [if_pos rfl, if_pos (by rw [length_bytes8]; exact hn), if_pos rfl]; rfl
  · rw [if_neg h, if_neg (fun e => h e.symm), ← List.getD_eq_getElem?_getD, bytes8_getD x i hi]
theorem set_right {x n b : Nat} (h : rightW x = true) (hb : okB b = true) (hb2 : b < 256) (hn : n < 8) : rightW (setLane x n b) = true := by
  rw [rightW_iff] at h ⊢
  intro i hi
  rw [byteAt_set x n b i hb2 hi hn]
  split
  · exact hb
  · exact h i hi
/-- The first error of a filling, and of an erasing; 0: none. -/
def fullAt (x n : Nat) : Bool := decide (byteAt x n < 128)
def fillE (x : Nat) (lane : Int) (h : Nat) : Nat := if ¬ (0 ≤ lane ∧ lane < 8) then 110 else if ¬ h ≤ 127 then 2 else if fullAt x lane.toNat = true then 5 else 0
def eraseE (x : Nat) (lane : Int) : Nat := if ¬ (0 ≤ lane ∧ lane < 8) then 110 else if ¬ fullAt x lane.toNat = true then 4 else 0
def stopsW (x : Nat) : Bool := decide (equalM x 128 ≠ 0)
def eraseB (x : Nat) : Nat := if stopsW x = true then 128 else 254
theorem full_bit (x n : Nat) (hn : n < 8) : (belowM x 128 &&& 2 ^ n = 0) ↔ fullAt x n = false := by
  rw [fullM_def, ← mask_one n hn, mask_and, ← mask_none, mask_eq]
  constructor
  · intro h; have := h n hn; unfold fullAt; simpa using this
  · intro h i hi
    by_cases e : i = n
    · subst e; unfold fullAt at h; simp [h]
    · simp [e]
theorem stopsW_iff (x : Nat) : stopsW x = true ↔ ∃ i, i < 8 ∧ byteAt x i = 128 := by
  unfold stopsW
  rw [decide_eq_true_iff, equalM_def, ← mask_none]
  constructor
  · intro h
    refine Classical.byContradiction fun hn => h (mask_eq.2 fun i hi => ?_)
    have : byteAt x i ≠ 128 := fun e => hn ⟨i, hi, e⟩
    simpa using this
  · rintro ⟨i, hi, e⟩ h
    have := mask_eq.1 h i hi
    simp [e] at this
end Go.Proofs.Ytoklgjlmjkhmbaa

/-
  The functions of package ctrl, each by its contract.
-/
set_option linter.unusedSimpArgs false
set_option linter.unusedVariables false
set_option maxRecDepth 100000
namespace Go.Proofs.Ytoklgjlmjkhmbaa
open Go.RowKit

abbrev Boom (z : Int) : Ending := .panicked [{ v := .iface 34 (.int .i64 z), recovered := false }]

theorem need_yes (z : Int) (w : World) : Calls Try.prog 104 #[.bool true, .int .i64 z] w fun e w' => e = .returned (.tuple #[]) ∧ w' = w := by
  go_enter Try.func104, Try.ntmps104
  go_wp2
  go_end0
  exact ⟨rfl, rfl⟩
theorem need_no (z : Int) (w : World) : Calls Try.prog 104 #[.bool false, .int .i64 z] w fun e w' => e = Boom z ∧ w' = w := by
  go_enter Try.func104, Try.ntmps104
  go_wp2
  exact ⟨rfl, rfl, rfl⟩
theorem full_any (x : Nat) (w : World) (hx : x < 2 ^ 64) : Calls Try.prog 89 #[.int .u64 x] w fun e w' => e = .returned (.int .u8 (belowM x 128)) ∧ w' = w := by
  have H := below_any x 128 w hx (by decide)
  have H'h := Lib.hid H
  clear H
  clear hx
  go_enter Try.func89, Try.ntmps89
  go_wp2_with fail
  refine (H'h.out).mono ?_
  rintro e w' ⟨rfl, rfl⟩
  go_wp2
  go_ret
  exact ⟨rfl, rfl⟩
theorem empty_any (x : Nat) (w : World) (hx : x < 2 ^ 64) : Calls Try.prog 90 #[.int .u64 x] w fun e w' => e = .returned (.int .u8 (equalM x 128)) ∧ w' = w := by
  have H := equal_any x 128 w hx (by decide)
  have H'h := Lib.hid H
  clear H
  clear hx
  go_enter Try.func90, Try.ntmps90
  go_wp2_with fail
  refine (H'h.out).mono ?_
  rintro e w' ⟨rfl, rfl⟩
  go_wp2
  go_ret
  exact ⟨rfl, rfl⟩
theorem deleted_any (x : Nat) (w : World) (hx : x < 2 ^ 64) : Calls Try.prog 91 #[.int .u64 x] w fun e w' => e = .returned (.int .u8 (equalM x 254)) ∧ w' = w := by
  have H := equal_any x 254 w hx (by decide)
  have H'h := Lib.hid H
  clear H
  clear hx
  go_enter Try.func91, Try.ntmps91
  go_wp2_with fail
  refine (H'h.out).mono ?_
  rintro e w' ⟨rfl, rfl⟩
  go_wp2
  go_ret
  exact ⟨rfl, rfl⟩
theorem check_any (x : Nat) (w : World) (hx : x < 2 ^ 64) : Calls Try.prog 85 #[.int .u64 x] w fun e w' => e = .returned (.int .i64 (if rightW x = true then 0 else 190)) ∧ w' = w := by
  have H1 := full_any x w hx
  have H2 := empty_any x w hx
  have H3 := deleted_any x w hx
  have hI := check_iff x
  have q1 := belowM_lt' x 128
  have q2 := equalM_lt' x 128
  have q3 := equalM_lt' x 254
  have q4 : belowM x 128 ||| equalM x 128 < 256 := Nat.or_lt_two_pow (n := 8) q1 q2
  have hor1 : bits .or .u8 (belowM x 128 : Int) (equalM x 128 : Int) = ((belowM x 128 ||| equalM x 128 : Nat) : Int) := u8_or_nat _ _ q1 q2
  have hor2 : bits .or .u8 ((belowM x 128 ||| equalM x 128 : Nat) : Int) (equalM x 254 : Int) = (((belowM x 128 ||| equalM x 128) ||| equalM x 254 : Nat) : Int) := u8_or_nat _ _ q4 q3
  generalize hm : (belowM x 128 ||| equalM x 128) ||| equalM x 254 = m at *
  generalize belowM x 128 ||| equalM x 128 = m1 at *
  generalize belowM x 128 = a at *
  generalize equalM x 128 = b at *
  generalize equalM x 254 = c at *
  clear q1 q2 q3 q4 hm
  have H1'h := Lib.hid H1
  have H2'h := Lib.hid H2
  have H3'h := Lib.hid H3
  clear H1 H2 H3
  by_cases h : m = 255
  · rw [if_pos (hI.1 h)]
    subst h
    have hI'h := Lib.hid hI
    have hx'h := Lib.hid hx
    clear hI hx
    go_enter Try.func85, Try.ntmps85
    go_wp2_with fail
    refine (H1'h.out).mono ?_
    rintro e w' ⟨rfl, rfl⟩
    go_wp2_with fail
    refine (H2'h.out).mono ?_
    rintro e w' ⟨rfl, rfl⟩
    go_wp2_with fail
    refine (H3'h.out).mono ?_
    rintro e w' ⟨rfl, rfl⟩
    go_wp2
    go_ret
    exact ⟨rfl, rfl⟩
  · rw [if_neg (fun e => h (hI.2 e))]
    have h1 : ((m : Int) != 255) = true := by simp; omega
    have hI'h := Lib.hid hI
    have hx'h := Lib.hid hx
    have h'h := Lib.hid h
    clear hI hx h
    go_enter Try.func85, Try.ntmps85
    go_wp2_with fail
    refine (H1'h.out).mono ?_
    rintro e w' ⟨rfl, rfl⟩
    go_wp2_with fail
    refine (H2'h.out).mono ?_
    rintro e w' ⟨rfl, rfl⟩
    go_wp2_with fail
    refine (H3'h.out).mono ?_
    rintro e w' ⟨rfl, rfl⟩
    go_wp2
    go_ret
    exact ⟨rfl, rfl⟩
/-- Of the blocks that were there one alone turned. -/
def Only (g : Nat) (w w' : World) : Prop := (∀ B, B ≤ g → Below B w w') ∧ ∀ b, b ≠ g → b < w.heap.size → w'.heap[b]? = w.heap[b]?
theorem Only.refl (g : Nat) (w : World) : Only g w w := ⟨fun B _ => Below.refl _ _, fun _ _ _ => rfl⟩
theorem Only.old {g : Nat} {w w1 w' : World} (h1 : Below w.heap.size w w1) (h : Only g w1 w') (hg : g < w.heap.size) : Only g w w' :=
  ⟨fun B hB => (h1.mono (by omega)).trans (h.1 B hB), fun b hb hlt => (h.2 b hb (Nat.lt_of_lt_of_le hlt h1.size)).trans (h1.block b hlt)⟩
theorem Only.new {g : Nat} {w w1 w' : World} (h : Only g w w1) (h1 : Below w1.heap.size w1 w') (hg : g < w.heap.size) : Only g w w' :=
  ⟨fun B hB => (h.1 B hB).trans (h1.mono (by have := (h.1 B hB).size; omega)), fun b hb hlt => (h1.block b (by have := (h.1 0 (Nat.zero_le _)).size; omega)).trans (h.2 b hb hlt)⟩
theorem Only.trans {g : Nat} {w w1 w' : World} (h : Only g w w1) (h1 : Only g w1 w') : Only g w w' :=
  ⟨fun B hB => (h.1 B hB).trans (h1.1 B hB), fun b hb hlt => (h1.2 b hb (by have := (h.1 0 (Nat.zero_le _)).size; omega)).trans (h.2 b hb hlt)⟩
abbrev HandB (x : Nat) : Obj := .cells #[.int .u64 x] 143 (0, 0)
end Go.Proofs.Ytoklgjlmjkhmbaa

/-
  What is tried with a word: a panic becomes an error.
-/
set_option linter.unusedSimpArgs false
set_option linter.unusedVariables false
set_option maxRecDepth 100000
namespace Go.Proofs.Ytoklgjlmjkhmbaa
open Go.RowKit

/-- What a deferred call that hands nothing back comes to. -/
def RestD (w1 : World) : Exit → Act → World → Prop := fun e a w => (e = .normal ∨ e = .ret) ∧ a.defers = [] ∧ w = w1
theorem wpS_rest {P : Program} {fn : Func} (hres : fn.results = #[]) {c : Code} {c₀ : Frame} {cs cs' : List Frame} {R : Ending → FrameMode → World → Prop} {u' : FrameMode} {a : Act} {w w1 : World}
    (hcs : cs' = { c₀ with mode := u' } :: cs) (h : c.wp P (RestD w1) a w) (hR : R (.returned (.tuple #[])) u' w1) : c.wpS P (bodyPostS P fn c₀ cs R) a cs' w := by
  subst hcs
  refine wpS_of_wp ?_
  intro b k cs1
  obtain ⟨e, a', w', ⟨he, hd, hw⟩, harr⟩ := h b k cs1
  refine ⟨e, a', w', ?_, harr⟩
  subst hw
  rcases he with rfl | rfl <;> exact ⟨hd, u', rfl, .tuple #[], results_none hres _ _ _, hR⟩

theorem idleM (p q : Addr) (w : World) :
    CallsD Try.prog 107 #[.pointer (some p), .pointer (some q)] .returning w fun e u' w' => e = .returned (.tuple #[]) ∧ u' = .returning ∧ w' = w := by
  refine callsD_of_wpS Try.func107 rfl fun c₀ cs hu => ?_
  simp only [Try.ntmps107, List.size_toArray, List.length_cons, List.length_nil, Nat.reduceAdd, Nat.reduceSub, Array.replicate_succ, Array.replicate_zero, List.push_toArray, List.append_toArray, List.nil_append, List.cons_append]
  apply wpS_seq
  apply wpS_region
  simp [wpOpsS, go_sem, recoverD, hu, Exit.thenS]
  refine wpS_rest (u' := .returning) (w1 := w) rfl (by cases c₀; simp_all) ?_ ⟨rfl, rfl, rfl⟩
  clear hu
  go_wp2
  exact ⟨.inl rfl, rfl, rfl⟩
theorem boomM (a b : Nat) (z z0 : Int) (v0 : Value) (w : World) (ha : w.cell? ⟨a, 0, none⟩ = some v0) (hfa : w.frozen? ⟨a, 0, none⟩ = false) (hb : w.cell? ⟨b, 0, none⟩ = some (.int .i64 z0)) (hfb : w.frozen? ⟨b, 0, none⟩ = false) (hne : a ≠ b) :
    CallsD Try.prog 107 #[.pointer (some ⟨a, 0, none⟩), .pointer (some ⟨b, 0, none⟩)] (.panicking [{ v := .iface 34 (.int .i64 z), recovered := false }]) w fun e u' w' =>
      e = .returned (.tuple #[]) ∧ u' = .panicking [{ v := .iface 34 (.int .i64 z), recovered := true }] ∧ w' = (w.setCell ⟨a, 0, none⟩ (.int .u8 0)).setCell ⟨b, 0, none⟩ (.int .i64 z) := by
  have hta : ∀ (w : World), (Instr.typeAssert (.iface 34 (.int .i64 z)) 20 34 true).run Try.prog w = .ok (.tuple #[.int .i64 z, .bool true]) w := fun _ => by kernel_rfl
  have hne' : b ≠ a := fun e => hne e.symm
  refine callsD_of_wpS Try.func107 rfl fun c₀ cs hu => ?_
  simp only [Try.ntmps107, List.size_toArray, List.length_cons, List.length_nil, Nat.reduceAdd, Nat.reduceSub, Array.replicate_succ, Array.replicate_zero, List.push_toArray, List.append_toArray, List.nil_append, List.cons_append]
  apply wpS_seq
  apply wpS_region
  simp [wpOpsS, go_sem, recoverD, hu, Exit.thenS]
  refine wpS_rest (u' := .panicking [{ v := .iface 34 (.int .i64 z), recovered := true }]) (w1 := (w.setCell ⟨a, 0, none⟩ (.int .u8 0)).setCell ⟨b, 0, none⟩ (.int .i64 z)) rfl (by cases c₀; simp_all) ?_ ⟨rfl, rfl, rfl⟩
  clear hu
  go_wp2
  exact ⟨.inl rfl, rfl, rfl⟩
theorem tries_notM (c : Nat) (f : Value) (w : World) (hc : c < 2 ^ 64) (hr : rightW c = false) :
    Calls Try.prog 102 #[.int .u64 c, f] w fun e w' => e = .returned (.tuple #[.int .u8 0, .int .i64 190]) ∧ Below w.heap.size w w' := by
  have hmf : ∀ (fn : Fn) (first cap : Array Value) (w : World), (Instr.makeFunc fn first cap).run Try.prog w = .ok (.func fn first cap) w := fun _ _ _ _ => rfl
  have C := fun w => check_any c w hc
  rw [if_neg (by rw [hr]; simp)] at C
  have C'h := Lib.hid C
  have hc'h := Lib.hid hc
  have hr'h := Lib.hid hr
  clear C hc hr
  go_enter_defers Try.func102, Try.ntmps102
  go_wp2_with fail
  refine (C'h.out _).mono ?_
  rintro e w' ⟨rfl, rfl⟩
  go_wp2_with fail
  refine (need_no _ _).mono ?_
  rintro e w' ⟨rfl, rfl⟩
  go_wp2
  obtain ⟨W, hW⟩ : ∃ W, W = (w.alloc (.cells #[.int .u8 0] 31)).alloc (.cells #[.int .i64 0] 34) := ⟨_, rfl⟩
  have hB : Below w.heap.size w W := by rw [hW]; exact ((Below.refl _ _).alloc (Nat.le_refl _) _).alloc (by simp) _
  have ha : W.heap[w.heap.size]? = some (.cells #[.int .u8 0] 31 (0, 0)) := by rw [hW]; exact (Below.heap_alloc _ _ _ (by simp)).trans (World.alloc_heap_new _ _)
  have hb : W.heap[w.heap.size + 1]? = some (.cells #[.int .i64 0] 34 (0, 0)) := by rw [hW]; exact heap_alloc2_new w _ _
  rw [← hW]
  refine leaves_cons (f := 107) (args := #[.pointer (some ⟨w.heap.size, 0, none⟩), .pointer (some ⟨w.heap.size + 1, 0, none⟩)]) (by simp) (by simp [go_sem]) ?_
  refine (boomM _ _ 190 0 (.int .u8 0) W (blk_cell ha rfl) (blk_free 0 ha) (blk_cell hb rfl) (blk_free 0 hb) (by omega)).mono ?_
  rintro e u' w'' ⟨rfl, rfl, rfl⟩
  have ha2 : ((W.setCell ⟨w.heap.size, 0, none⟩ (.int .u8 0)).setCell ⟨w.heap.size + 1, 0, none⟩ (.int .i64 190)).cell? ⟨w.heap.size, 0, none⟩ = some (.int .u8 0) := blk_cell ((Below.heap_setCell _ _ _ _ (by simp)).trans (blk_set _ ha)) rfl
  have hb2 : ((W.setCell ⟨w.heap.size, 0, none⟩ (.int .u8 0)).setCell ⟨w.heap.size + 1, 0, none⟩ (.int .i64 190)).cell? ⟨w.heap.size + 1, 0, none⟩ = some (.int .i64 190) := blk_cell (blk_set _ ((Below.heap_setCell _ _ _ _ (by simp)).trans hb)) rfl
  have hB2 : Below w.heap.size w ((W.setCell ⟨w.heap.size, 0, none⟩ (.int .u8 0)).setCell ⟨w.heap.size + 1, 0, none⟩ (.int .i64 190)) := (hB.setCell (by simp) _).setCell (by simp) _
  generalize (W.setCell ⟨w.heap.size, 0, none⟩ (.int .u8 0)).setCell ⟨w.heap.size + 1, 0, none⟩ (.int .i64 190) = W2 at *
  simp [Leaves, settle, results, Try.results102, go_sem, ha2, hb2, hB2]
theorem tries_yesMatch (c : Nat) (p1 : Value) (v : Nat) (w : World) (hc : c < 2 ^ 64) (hr : rightW c = true)
    (D : ∀ (g : Nat) (W : World), w.heap.size + 2 ≤ g → Below w.heap.size w W → W.heap[g]? = some (HandB c) → Calls Try.prog 103 #[.pointer (some ⟨g, 0, none⟩), p1] W fun e W' => e = .returned (.int .u8 v) ∧ Below g W W') :
    Calls Try.prog 102 #[.int .u64 c, .func (.func 103) #[] #[p1]] w fun e w' => e = .returned (.tuple #[.int .u8 v, .int .i64 0]) ∧ Below w.heap.size w w' := by
  have hmf : ∀ (fn : Fn) (first cap : Array Value) (w : World), (Instr.makeFunc fn first cap).run Try.prog w = .ok (.func fn first cap) w := fun _ _ _ _ => rfl
  have C := fun w => check_any c w hc
  rw [if_pos hr] at C
  have C'h := Lib.hid C
  have hc'h := Lib.hid hc
  have hr'h := Lib.hid hr
  have D'h := Lib.hid D
  clear C hc hr D
  go_enter_defers Try.func102, Try.ntmps102
  go_wp2_with fail
  refine (C'h.out _).mono ?_
  rintro e w' ⟨rfl, rfl⟩
  go_wp2_with fail
  refine (need_yes _ _).mono ?_
  rintro e w' ⟨rfl, rfl⟩
  go_wp2_with fail
  obtain ⟨W0, hW0⟩ : ∃ W0, W0 = (w.alloc (.cells #[.int .u8 0] 31)).alloc (.cells #[.int .i64 0] 34) := ⟨_, rfl⟩
  have hB0 : Below w.heap.size w W0 := by rw [hW0]; exact ((Below.refl _ _).alloc (Nat.le_refl _) _).alloc (by simp) _
  have ha0 : W0.heap[w.heap.size]? = some (.cells #[.int .u8 0] 31 (0, 0)) := by rw [hW0]; exact (Below.heap_alloc _ _ _ (by simp)).trans (World.alloc_heap_new _ _)
  have hb0 : W0.heap[w.heap.size + 1]? = some (.cells #[.int .i64 0] 34 (0, 0)) := by rw [hW0]; exact heap_alloc2_new w _ _
  have hs0 : W0.heap.size = w.heap.size + 2 := by rw [hW0]; simp
  rw [← hW0, show w.heap.size + 1 + 1 = W0.heap.size by omega]
  obtain ⟨W, hW⟩ : ∃ W, W = W0.alloc (HandB c) := ⟨_, rfl⟩
  have hB : Below w.heap.size w W := by rw [hW]; exact hB0.alloc (by omega) _
  have ha : W.heap[w.heap.size]? = some (.cells #[.int .u8 0] 31 (0, 0)) := by rw [hW]; exact (Below.heap_alloc _ _ _ (by omega)).trans ha0
  have hb : W.heap[w.heap.size + 1]? = some (.cells #[.int .i64 0] 34 (0, 0)) := by rw [hW]; exact (Below.heap_alloc _ _ _ (by omega)).trans hb0
  have hg : W.heap[w.heap.size + 2]? = some (HandB c) := by rw [hW, ← hs0]; exact World.alloc_heap_new _ _
  rw [← hW, hs0]
  clear ha0 hb0 hW hW0 hB0
  have hs0'h := Lib.hid hs0
  clear hs0
  refine (D'h.out _ _ (Nat.le_refl _) hB hg).mono ?_
  rintro e W1 ⟨rfl, hB1⟩
  have ha1 := heap_below hB1 ha (by omega)
  have hb1 := heap_below hB1 hb (by omega)
  have hBB := hB.trans (hB1.mono (by omega))
  clear hB1 hg ha hb hB
  have c1 : W1.cell? ⟨w.heap.size, 0, none⟩ = some (.int .u8 0) := blk_cell ha1 rfl
  have c2 : W1.cell? ⟨w.heap.size + 1, 0, none⟩ = some (.int .i64 0) := blk_cell hb1 rfl
  have f1 : W1.frozen? ⟨w.heap.size, 0, none⟩ = false := blk_free 0 ha1
  have f2 : W1.frozen? ⟨w.heap.size + 1, 0, none⟩ = false := blk_free 0 hb1
  have n1 : ¬ w.heap.size = w.heap.size + 1 := by omega
  have ha1'h := Lib.hid ha1
  have hb1'h := Lib.hid hb1
  have hBB'h := Lib.hid hBB
  clear ha1 hb1 hBB
  go_wp2
  have ha2 := (Below.heap_setCell (W1.setCell ⟨w.heap.size, 0, none⟩ (.int .u8 v)) ⟨w.heap.size + 1, 0, none⟩ (.int .i64 0) w.heap.size (by simp)).trans (blk_set (i := 0) (.int .u8 v) ha1'h.out)
  have hb2 := blk_set (i := 0) (.int .i64 0) ((Below.heap_setCell W1 ⟨w.heap.size, 0, none⟩ (.int .u8 v) (w.heap.size + 1) (by simp)).trans hb1'h.out)
  have hB2 : Below w.heap.size w ((W1.setCell ⟨w.heap.size, 0, none⟩ (.int .u8 v)).setCell ⟨w.heap.size + 1, 0, none⟩ (.int .i64 0)) := (hBB'h.out.setCell (by simp) _).setCell (by simp) _
  generalize (W1.setCell ⟨w.heap.size, 0, none⟩ (.int .u8 v)).setCell ⟨w.heap.size + 1, 0, none⟩ (.int .i64 0) = W2 at *
  have d1 : W2.cell? ⟨w.heap.size, 0, none⟩ = some (.int .u8 v) := blk_cell ha2 rfl
  have d2 : W2.cell? ⟨w.heap.size + 1, 0, none⟩ = some (.int .i64 0) := blk_cell hb2 rfl
  refine leaves_cons (f := 107) (args := #[.pointer (some ⟨w.heap.size, 0, none⟩), .pointer (some ⟨w.heap.size + 1, 0, none⟩)]) (by simp) (by simp [go_sem]) ?_
  refine (idleM _ _ W2).mono ?_
  rintro e u' w'' ⟨rfl, rfl, rfl⟩
  simp [Leaves, settle, results, Try.results102, go_sem, d1, d2, hB2]
theorem tries_noMatch (c : Nat) (p1 : Value) (z : Int) (w : World) (hc : c < 2 ^ 64) (hr : rightW c = true)
    (D : ∀ (g : Nat) (W : World), w.heap.size + 2 ≤ g → Below w.heap.size w W → W.heap[g]? = some (HandB c) → Calls Try.prog 103 #[.pointer (some ⟨g, 0, none⟩), p1] W fun e W' => e = Boom z ∧ Below g W W') :
    Calls Try.prog 102 #[.int .u64 c, .func (.func 103) #[] #[p1]] w fun e w' => e = .returned (.tuple #[.int .u8 0, .int .i64 z]) ∧ Below w.heap.size w w' := by
  have hmf : ∀ (fn : Fn) (first cap : Array Value) (w : World), (Instr.makeFunc fn first cap).run Try.prog w = .ok (.func fn first cap) w := fun _ _ _ _ => rfl
  have C := fun w => check_any c w hc
  rw [if_pos hr] at C
  have C'h := Lib.hid C
  have hc'h := Lib.hid hc
  have hr'h := Lib.hid hr
  have D'h := Lib.hid D
  clear C hc hr D
  go_enter_defers Try.func102, Try.ntmps102
  go_wp2_with fail
  refine (C'h.out _).mono ?_
  rintro e w' ⟨rfl, rfl⟩
  go_wp2_with fail
  refine (need_yes _ _).mono ?_
  rintro e w' ⟨rfl, rfl⟩
  go_wp2_with fail
  obtain ⟨W0, hW0⟩ : ∃ W0, W0 = (w.alloc (.cells #[.int .u8 0] 31)).alloc (.cells #[.int .i64 0] 34) := ⟨_, rfl⟩
  have hB0 : Below w.heap.size w W0 := by rw [hW0]; exact ((Below.refl _ _).alloc (Nat.le_refl _) _).alloc (by simp) _
  have ha0 : W0.heap[w.heap.size]? = some (.cells #[.int .u8 0] 31 (0, 0)) := by rw [hW0]; exact (Below.heap_alloc _ _ _ (by simp)).trans (World.alloc_heap_new _ _)
  have hb0 : W0.heap[w.heap.size + 1]? = some (.cells #[.int .i64 0] 34 (0, 0)) := by rw [hW0]; exact heap_alloc2_new w _ _
  have hs0 : W0.heap.size = w.heap.size + 2 := by rw [hW0]; simp
  rw [← hW0, show w.heap.size + 1 + 1 = W0.heap.size by omega]
  obtain ⟨W, hW⟩ : ∃ W, W = W0.alloc (HandB c) := ⟨_, rfl⟩
  have hB : Below w.heap.size w W := by rw [hW]; exact hB0.alloc (by omega) _
  have ha : W.heap[w.heap.size]? = some (.cells #[.int .u8 0] 31 (0, 0)) := by rw [hW]; exact (Below.heap_alloc _ _ _ (by omega)).trans ha0
  have hb : W.heap[w.heap.size + 1]? = some (.cells #[.int .i64 0] 34 (0, 0)) := by rw [hW]; exact (Below.heap_alloc _ _ _ (by omega)).trans hb0
  have hg : W.heap[w.heap.size + 2]? = some (HandB c) := by rw [hW, ← hs0]; exact World.alloc_heap_new _ _
  rw [← hW, hs0]
  clear ha0 hb0 hW hW0 hB0
  have hs0'h := Lib.hid hs0
  clear hs0
  refine (D'h.out _ _ (Nat.le_refl _) hB hg).mono ?_
  rintro e W1 ⟨rfl, hB1⟩
  have ha1 := heap_below hB1 ha (by omega)
  have hb1 := heap_below hB1 hb (by omega)
  have hBB := hB.trans (hB1.mono (by omega))
  clear hB1 hg ha hb hB
  have ha1'h := Lib.hid ha1
  have hb1'h := Lib.hid hb1
  have hBB'h := Lib.hid hBB
  clear ha1 hb1 hBB
  go_wp2
  refine leaves_cons (f := 107) (args := #[.pointer (some ⟨w.heap.size, 0, none⟩), .pointer (some ⟨w.heap.size + 1, 0, none⟩)]) (by simp) (by simp [go_sem]) ?_
  refine (boomM _ _ z 0 (.int .u8 0) W1 (blk_cell ha1'h.out rfl) (blk_free 0 ha1'h.out) (blk_cell hb1'h.out rfl) (blk_free 0 hb1'h.out) (by omega)).mono ?_
  rintro e u' w'' ⟨rfl, rfl, rfl⟩
  have ha2 := (Below.heap_setCell (W1.setCell ⟨w.heap.size, 0, none⟩ (.int .u8 0)) ⟨w.heap.size + 1, 0, none⟩ (.int .i64 z) w.heap.size (by simp)).trans (blk_set (i := 0) (.int .u8 0) ha1'h.out)
  have hb2 := blk_set (i := 0) (.int .i64 z) ((Below.heap_setCell W1 ⟨w.heap.size, 0, none⟩ (.int .u8 0) (w.heap.size + 1) (by simp)).trans hb1'h.out)
  have hB2 : Below w.heap.size w ((W1.setCell ⟨w.heap.size, 0, none⟩ (.int .u8 0)).setCell ⟨w.heap.size + 1, 0, none⟩ (.int .i64 z)) := (hBB'h.out.setCell (by simp) _).setCell (by simp) _
  generalize (W1.setCell ⟨w.heap.size, 0, none⟩ (.int .u8 0)).setCell ⟨w.heap.size + 1, 0, none⟩ (.int .i64 z) = W2 at *
  have d1 : W2.cell? ⟨w.heap.size, 0, none⟩ = some (.int .u8 0) := blk_cell ha2 rfl
  have d2 : W2.cell? ⟨w.heap.size + 1, 0, none⟩ = some (.int .i64 z) := blk_cell hb2 rfl
  simp [Leaves, settle, results, Try.results102, go_sem, d1, d2, hB2]
end Go.Proofs.Ytoklgjlmjkhmbaa

/-
  What is tried with a word, where what comes is a row or a record.
-/
set_option linter.unusedSimpArgs false
set_option linter.unusedVariables false
set_option maxRecDepth 100000
namespace Go.Proofs.Ytoklgjlmjkhmbaa
open Go.RowKit

theorem idleS (p q : Addr) (w : World) :
    CallsD Try.prog 105 #[.pointer (some p), .pointer (some q)] .returning w fun e u' w' => e = .returned (.tuple #[]) ∧ u' = .returning ∧ w' = w := by
  refine callsD_of_wpS Try.func105 rfl fun c₀ cs hu => ?_
  simp only [Try.ntmps105, List.size_toArray, List.length_cons, List.length_nil, Nat.reduceAdd, Nat.reduceSub, Array.replicate_succ, Array.replicate_zero, List.push_toArray, List.append_toArray, List.nil_append, List.cons_append]
  apply wpS_seq
  apply wpS_region
  simp [wpOpsS, go_sem, recoverD, hu, Exit.thenS]
  refine wpS_rest (u' := .returning) (w1 := w) rfl (by cases c₀; simp_all) ?_ ⟨rfl, rfl, rfl⟩
  clear hu
  go_wp2
  exact ⟨.inl rfl, rfl, rfl⟩
theorem infoS : (Try.prog.info? 136).map (·.size) = some 3 := by kernel_rfl
theorem oneS : (#[.int .u8 0, .int .u8 0, .int .u8 0] : Array Value).all (·.oneCell') = true := by kernel_rfl
theorem boomS (a b : Nat) (z z0 : Int) (w : World) (ha : w.heap[a]? = some (.cells #[.int .u8 0, .int .u8 0, .int .u8 0] 136 (0, 0))) (hb : w.heap[b]? = some (.cells #[.int .i64 z0] 34 (0, 0))) (hne : a ≠ b) :
    CallsD Try.prog 105 #[.pointer (some ⟨a, 0, none⟩), .pointer (some ⟨b, 0, none⟩)] (.panicking [{ v := .iface 34 (.int .i64 z), recovered := false }]) w fun e u' w' =>
      e = .returned (.tuple #[]) ∧ u' = .panicking [{ v := .iface 34 (.int .i64 z), recovered := true }] ∧ w'.heap[a]? = some (.cells #[.int .u8 0, .int .u8 0, .int .u8 0] 136 (0, 0)) ∧ w'.heap[b]? = some (.cells #[.int .i64 z] 34 (0, 0)) ∧
        ∀ B, B ≤ a → B ≤ b → Below B w w' := by
  have hta : ∀ (w : World), (Instr.typeAssert (.iface 34 (.int .i64 z)) 20 34 true).run Try.prog w = .ok (.tuple #[.int .i64 z, .bool true]) w := fun _ => by kernel_rfl
  have hal := lt_of_heap ha
  have hbl := lt_of_heap hb
  obtain ⟨W1, hW1⟩ : ∃ W1, W1 = (w.alloc (.cells #[.int .u8 0, .int .u8 0, .int .u8 0] 136)).setRow a #[.int .u8 0, .int .u8 0, .int .u8 0] := ⟨_, rfl⟩
  have ha0 : (w.alloc (.cells #[.int .u8 0, .int .u8 0, .int .u8 0] 136)).heap[a]? = some (.cells #[.int .u8 0, .int .u8 0, .int .u8 0] 136 (0, 0)) := (Below.heap_alloc _ _ _ hal).trans ha
  have ha1 : W1.heap[a]? = some (.cells #[.int .u8 0, .int .u8 0, .int .u8 0] 136 (0, 0)) := by rw [hW1]; exact setRow_heap _ a _ _ _ _ ha0
  have hb1 : W1.heap[b]? = some (.cells #[.int .i64 z0] 34 (0, 0)) := by rw [hW1]; exact (setRow_other _ _ _ _ (fun e => hne e.symm)).trans ((Below.heap_alloc _ _ _ hbl).trans hb)
  have hB1 : ∀ B, B ≤ a → B ≤ b → Below B w W1 := fun B h1 h2 => by rw [hW1]; exact below_setRow' ((Below.refl _ _).alloc (by omega) _) h1 _
  have c3 : W1.cell? ⟨b, 0, none⟩ = some (.int .i64 z0) := blk_cell hb1 rfl
  have f3 : W1.frozen? ⟨b, 0, none⟩ = false := blk_free 0 hb1
  have ha2 : (W1.setCell ⟨b, 0, none⟩ (.int .i64 z)).heap[a]? = some (.cells #[.int .u8 0, .int .u8 0, .int .u8 0] 136 (0, 0)) := (Below.heap_setCell _ _ _ _ (by simpa using hne)).trans ha1
  have hb2 : (W1.setCell ⟨b, 0, none⟩ (.int .i64 z)).heap[b]? = some (.cells #[.int .i64 z] 34 (0, 0)) := blk_set (i := 0) _ hb1
  refine callsD_of_wpS Try.func105 rfl fun c₀ cs hu => ?_
  simp only [Try.ntmps105, List.size_toArray, List.length_cons, List.length_nil, Nat.reduceAdd, Nat.reduceSub, Array.replicate_succ, Array.replicate_zero, List.push_toArray, List.append_toArray, List.nil_append, List.cons_append]
  apply wpS_seq
  apply wpS_region
  simp [wpOpsS, go_sem, recoverD, hu, Exit.thenS]
  refine wpS_rest (u' := .panicking [{ v := .iface 34 (.int .i64 z), recovered := true }]) (w1 := W1.setCell ⟨b, 0, none⟩ (.int .i64 z)) rfl (by cases c₀; simp_all) ?_ ⟨rfl, rfl, ha2, hb2, fun B h1 h2 => (hB1 B h1 h2).setCell h2 _⟩
  clear hu ha hb
  have hW1'h := Lib.hid hW1
  have ha0'h := Lib.hid ha0
  have ha1'h := Lib.hid ha1
  have hb1'h := Lib.hid hb1
  have hB1'h := Lib.hid hB1
  have ha2'h := Lib.hid ha2
  have hb2'h := Lib.hid hb2
  have hal'h := Lib.hid hal
  have hbl'h := Lib.hid hbl
  have hne'h := Lib.hid hne
  clear hW1 ha0 ha1 hb1 hB1 ha2 hb2 hal hbl hne
  go_wp2_with (first | (refine wpList_store_row rfl 136 (.tmp 0) (.tmp 17) rfl a #[.int .u8 0, .int .u8 0, .int .u8 0] rfl rfl 136 #[.int .u8 0, .int .u8 0, .int .u8 0] ha0'h.out infoS rfl oneS ?_; rw [← hW1'h.out]))
  exact ⟨.inl rfl, rfl, rfl⟩
theorem oneL : (#[.int .u64 0, .slice none 0 0] : Array Value).all (·.oneCell') = true := by kernel_rfl
theorem tries_notS (c : Nat) (f : Value) (w : World) (hc : c < 2 ^ 64) (hr : rightW c = false) :
    Calls Try.prog 87 #[.int .u64 c, f] w fun e w' => e = .returned (.tuple #[.agg #[.int .u8 0, .int .u8 0, .int .u8 0], .int .i64 190]) ∧ Below w.heap.size w w' := by
  have hmf : ∀ (fn : Fn) (first cap : Array Value) (w : World), (Instr.makeFunc fn first cap).run Try.prog w = .ok (.func fn first cap) w := fun _ _ _ _ => rfl
  have C := fun w => check_any c w hc
  rw [if_neg (by rw [hr]; simp)] at C
  have C'h := Lib.hid C
  have hc'h := Lib.hid hc
  have hr'h := Lib.hid hr
  clear C hc hr
  go_enter_defers Try.func87, Try.ntmps87
  go_wp2_with fail
  refine (C'h.out _).mono ?_
  rintro e w' ⟨rfl, rfl⟩
  go_wp2_with fail
  refine (need_no _ _).mono ?_
  rintro e w' ⟨rfl, rfl⟩
  go_wp2
  obtain ⟨W, hW⟩ : ∃ W, W = (w.alloc (.cells #[.int .u8 0, .int .u8 0, .int .u8 0] 136)).alloc (.cells #[.int .i64 0] 34) := ⟨_, rfl⟩
  have hB : Below w.heap.size w W := by rw [hW]; exact ((Below.refl _ _).alloc (Nat.le_refl _) _).alloc (by simp) _
  have ha : W.heap[w.heap.size]? = some (.cells #[.int .u8 0, .int .u8 0, .int .u8 0] 136 (0, 0)) := by rw [hW]; exact (Below.heap_alloc _ _ _ (by simp)).trans (World.alloc_heap_new _ _)
  have hb : W.heap[w.heap.size + 1]? = some (.cells #[.int .i64 0] 34 (0, 0)) := by rw [hW]; exact heap_alloc2_new w _ _
  rw [← hW]
  refine leaves_cons (f := 105) (args := #[.pointer (some ⟨w.heap.size, 0, none⟩), .pointer (some ⟨w.heap.size + 1, 0, none⟩)]) (by simp) (by simp [go_sem]) ?_
  refine (boomS _ _ 190 0 W ha hb (by omega)).mono ?_
  rintro e u' W2 ⟨rfl, rfl, ha2, hb2, hB2⟩
  have hB3 := hB.trans (hB2 w.heap.size (Nat.le_refl _) (by omega))
  have d0 : W2.cell? ⟨w.heap.size, 0, none⟩ = some (.int .u8 0) := blk_cell ha2 rfl
  have d1 : W2.cell? ⟨w.heap.size, 1, none⟩ = some (.int .u8 0) := blk_cell ha2 rfl
  have d2 : W2.cell? ⟨w.heap.size, 2, none⟩ = some (.int .u8 0) := blk_cell ha2 rfl
  have d9 : W2.cell? ⟨w.heap.size + 1, 0, none⟩ = some (.int .i64 190) := blk_cell hb2 rfl
  clear ha2 hb2 hB2
  simp [Leaves, settle, results, Try.results87, go_sem, d0, d1, d2, d9, hB3]
theorem tries_noSets (c : Nat)  (z : Int) (w : World) (hc : c < 2 ^ 64) (hr : rightW c = true)
    (D : ∀ (g : Nat) (W : World), w.heap.size + 2 ≤ g → Below w.heap.size w W → W.heap[g]? = some (HandB c) → Calls Try.prog 88 #[.pointer (some ⟨g, 0, none⟩)] W fun e W' => e = Boom z ∧ Below g W W') :
    Calls Try.prog 87 #[.int .u64 c, .func (.func 88) #[] #[]] w fun e w' => e = .returned (.tuple #[.agg #[.int .u8 0, .int .u8 0, .int .u8 0], .int .i64 z]) ∧ Below w.heap.size w w' := by
  have hmf : ∀ (fn : Fn) (first cap : Array Value) (w : World), (Instr.makeFunc fn first cap).run Try.prog w = .ok (.func fn first cap) w := fun _ _ _ _ => rfl
  have C := fun w => check_any c w hc
  rw [if_pos hr] at C
  have C'h := Lib.hid C
  have hc'h := Lib.hid hc
  have hr'h := Lib.hid hr
  have D'h := Lib.hid D
  clear C hc hr D
  go_enter_defers Try.func87, Try.ntmps87
  go_wp2_with fail
  refine (C'h.out _).mono ?_
  rintro e w' ⟨rfl, rfl⟩
  go_wp2_with fail
  refine (need_yes _ _).mono ?_
  rintro e w' ⟨rfl, rfl⟩
  go_wp2_with fail
  obtain ⟨W0, hW0⟩ : ∃ W0, W0 = (w.alloc (.cells #[.int .u8 0, .int .u8 0, .int .u8 0] 136)).alloc (.cells #[.int .i64 0] 34) := ⟨_, rfl⟩
  have hB0 : Below w.heap.size w W0 := by rw [hW0]; exact ((Below.refl _ _).alloc (Nat.le_refl _) _).alloc (by simp) _
  have ha0 : W0.heap[w.heap.size]? = some (.cells #[.int .u8 0, .int .u8 0, .int .u8 0] 136 (0, 0)) := by rw [hW0]; exact (Below.heap_alloc _ _ _ (by simp)).trans (World.alloc_heap_new _ _)
  have hb0 : W0.heap[w.heap.size + 1]? = some (.cells #[.int .i64 0] 34 (0, 0)) := by rw [hW0]; exact heap_alloc2_new w _ _
  have hs0 : W0.heap.size = w.heap.size + 2 := by rw [hW0]; simp
  rw [← hW0, show w.heap.size + 1 + 1 = W0.heap.size by omega]
  obtain ⟨W, hW⟩ : ∃ W, W = W0.alloc (HandB c) := ⟨_, rfl⟩
  have hB : Below w.heap.size w W := by rw [hW]; exact hB0.alloc (by omega) _
  have ha : W.heap[w.heap.size]? = some (.cells #[.int .u8 0, .int .u8 0, .int .u8 0] 136 (0, 0)) := by rw [hW]; exact (Below.heap_alloc _ _ _ (by omega)).trans ha0
  have hb : W.heap[w.heap.size + 1]? = some (.cells #[.int .i64 0] 34 (0, 0)) := by rw [hW]; exact (Below.heap_alloc _ _ _ (by omega)).trans hb0
  have hg : W.heap[w.heap.size + 2]? = some (HandB c) := by rw [hW, ← hs0]; exact World.alloc_heap_new _ _
  rw [← hW, hs0]
  clear ha0 hb0 hW hW0 hB0
  have hs0'h := Lib.hid hs0
  clear hs0
  refine (D'h.out _ _ (Nat.le_refl _) hB hg).mono ?_
  rintro e W1 ⟨rfl, hB1⟩
  have ha1 := heap_below hB1 ha (by omega)
  have hb1 := heap_below hB1 hb (by omega)
  have hBB := hB.trans (hB1.mono (by omega))
  clear hB1 hg ha hb hB
  have ha1'h := Lib.hid ha1
  have hb1'h := Lib.hid hb1
  have hBB'h := Lib.hid hBB
  clear ha1 hb1 hBB
  go_wp2
  refine leaves_cons (f := 105) (args := #[.pointer (some ⟨w.heap.size, 0, none⟩), .pointer (some ⟨w.heap.size + 1, 0, none⟩)]) (by simp) (by simp [go_sem]) ?_
  refine (boomS _ _ z 0 W1 ha1'h.out hb1'h.out (by omega)).mono ?_
  rintro e u' W2 ⟨rfl, rfl, ha2, hb2, hB2⟩
  have hB3 := hBB'h.out.trans (hB2 w.heap.size (Nat.le_refl _) (by omega))
  have d0 : W2.cell? ⟨w.heap.size, 0, none⟩ = some (.int .u8 0) := blk_cell ha2 rfl
  have d1 : W2.cell? ⟨w.heap.size, 1, none⟩ = some (.int .u8 0) := blk_cell ha2 rfl
  have d2 : W2.cell? ⟨w.heap.size, 2, none⟩ = some (.int .u8 0) := blk_cell ha2 rfl
  have d9 : W2.cell? ⟨w.heap.size + 1, 0, none⟩ = some (.int .i64 z) := blk_cell hb2 rfl
  clear ha2 hb2 hB2
  simp [Leaves, settle, results, Try.results87, go_sem, d0, d1, d2, d9, hB3]
theorem tries_yesSets (c : Nat)  (v0 v1 v2 : Nat) (w : World) (hc : c < 2 ^ 64) (hr : rightW c = true)
    (D : ∀ (g : Nat) (W : World), w.heap.size + 2 ≤ g → Below w.heap.size w W → W.heap[g]? = some (HandB c) → Calls Try.prog 88 #[.pointer (some ⟨g, 0, none⟩)] W fun e W' => e = .returned (.agg #[.int .u8 v0, .int .u8 v1, .int .u8 v2]) ∧ Below g W W') :
    Calls Try.prog 87 #[.int .u64 c, .func (.func 88) #[] #[]] w fun e w' => e = .returned (.tuple #[.agg #[.int .u8 v0, .int .u8 v1, .int .u8 v2], .int .i64 0]) ∧ Below w.heap.size w w' := by
  have hmf : ∀ (fn : Fn) (first cap : Array Value) (w : World), (Instr.makeFunc fn first cap).run Try.prog w = .ok (.func fn first cap) w := fun _ _ _ _ => rfl
  have C := fun w => check_any c w hc
  rw [if_pos hr] at C
  have C'h := Lib.hid C
  have hc'h := Lib.hid hc
  have hr'h := Lib.hid hr
  have D'h := Lib.hid D
  clear C hc hr D
  go_enter_defers Try.func87, Try.ntmps87
  go_wp2_with fail
  refine (C'h.out _).mono ?_
  rintro e w' ⟨rfl, rfl⟩
  go_wp2_with fail
  refine (need_yes _ _).mono ?_
  rintro e w' ⟨rfl, rfl⟩
  go_wp2_with fail
  obtain ⟨W0, hW0⟩ : ∃ W0, W0 = (w.alloc (.cells #[.int .u8 0, .int .u8 0, .int .u8 0] 136)).alloc (.cells #[.int .i64 0] 34) := ⟨_, rfl⟩
  have hB0 : Below w.heap.size w W0 := by rw [hW0]; exact ((Below.refl _ _).alloc (Nat.le_refl _) _).alloc (by simp) _
  have ha0 : W0.heap[w.heap.size]? = some (.cells #[.int .u8 0, .int .u8 0, .int .u8 0] 136 (0, 0)) := by rw [hW0]; exact (Below.heap_alloc _ _ _ (by simp)).trans (World.alloc_heap_new _ _)
  have hb0 : W0.heap[w.heap.size + 1]? = some (.cells #[.int .i64 0] 34 (0, 0)) := by rw [hW0]; exact heap_alloc2_new w _ _
  have hs0 : W0.heap.size = w.heap.size + 2 := by rw [hW0]; simp
  rw [← hW0, show w.heap.size + 1 + 1 = W0.heap.size by omega]
  obtain ⟨W, hW⟩ : ∃ W, W = W0.alloc (HandB c) := ⟨_, rfl⟩
  have hB : Below w.heap.size w W := by rw [hW]; exact hB0.alloc (by omega) _
  have ha : W.heap[w.heap.size]? = some (.cells #[.int .u8 0, .int .u8 0, .int .u8 0] 136 (0, 0)) := by rw [hW]; exact (Below.heap_alloc _ _ _ (by omega)).trans ha0
  have hb : W.heap[w.heap.size + 1]? = some (.cells #[.int .i64 0] 34 (0, 0)) := by rw [hW]; exact (Below.heap_alloc _ _ _ (by omega)).trans hb0
  have hg : W.heap[w.heap.size + 2]? = some (HandB c) := by rw [hW, ← hs0]; exact World.alloc_heap_new _ _
  rw [← hW, hs0]
  clear ha0 hb0 hW hW0 hB0
  have hs0'h := Lib.hid hs0
  clear hs0
  refine (D'h.out _ _ (Nat.le_refl _) hB hg).mono ?_
  rintro e W1 ⟨rfl, hB1⟩
  have ha1 := heap_below hB1 ha (by omega)
  have hb1 := heap_below hB1 hb (by omega)
  have hBB := hB.trans (hB1.mono (by omega))
  clear hB1 hg ha hb hB
  obtain ⟨W2, hW2⟩ : ∃ W2, W2 = W1.setRow w.heap.size #[.int .u8 v0, .int .u8 v1, .int .u8 v2] := ⟨_, rfl⟩
  have ha2 : W2.heap[w.heap.size]? = some (.cells #[.int .u8 v0, .int .u8 v1, .int .u8 v2] 136 (0, 0)) := by rw [hW2]; exact setRow_heap _ _ _ _ _ _ ha1
  have hb2 : W2.heap[w.heap.size + 1]? = some (.cells #[.int .i64 0] 34 (0, 0)) := by rw [hW2]; exact (setRow_other _ _ _ _ (by omega)).trans hb1
  have hB2 : Below w.heap.size w W2 := by rw [hW2]; exact below_setRow' hBB (Nat.le_refl _) _
  have c2 : W2.cell? ⟨w.heap.size + 1, 0, none⟩ = some (.int .i64 0) := blk_cell hb2 rfl
  have f2 : W2.frozen? ⟨w.heap.size + 1, 0, none⟩ = false := blk_free 0 hb2
  have hone : (#[.int .u8 v0, .int .u8 v1, .int .u8 v2] : Array Value).all (·.oneCell') = true := by kernel_rfl
  clear hBB hb1
  have ha1'h := Lib.hid ha1
  have ha2'h := Lib.hid ha2
  have hb2'h := Lib.hid hb2
  have hB2'h := Lib.hid hB2
  have hW2'h := Lib.hid hW2
  have hone'h := Lib.hid hone
  clear ha1 ha2 hb2 hB2 hW2 hone
  go_wp2_with (first | (refine wpList_store_row rfl 136 (.tmp 4) (.tmp 15) rfl w.heap.size #[.int .u8 v0, .int .u8 v1, .int .u8 v2] rfl rfl 136 #[.int .u8 0, .int .u8 0, .int .u8 0] ha1'h.out infoS rfl hone'h.out ?_; rw [← hW2'h.out]))
  have hb3 := blk_set (i := 0) (.int .i64 0) hb2'h.out
  have ha3 := (Below.heap_setCell W2 ⟨w.heap.size + 1, 0, none⟩ (.int .i64 0) w.heap.size (by simp)).trans ha2'h.out
  have hB3 := hB2'h.out.setCell (p := ⟨w.heap.size + 1, 0, none⟩) (by simp) (.int .i64 0)
  generalize W2.setCell ⟨w.heap.size + 1, 0, none⟩ (.int .i64 0) = W3 at *
  have d0 : W3.cell? ⟨w.heap.size, 0, none⟩ = some (.int .u8 v0) := blk_cell ha3 rfl
  have d1 : W3.cell? ⟨w.heap.size, 1, none⟩ = some (.int .u8 v1) := blk_cell ha3 rfl
  have d2 : W3.cell? ⟨w.heap.size, 2, none⟩ = some (.int .u8 v2) := blk_cell ha3 rfl
  have d9 : W3.cell? ⟨w.heap.size + 1, 0, none⟩ = some (.int .i64 0) := blk_cell hb3 rfl
  refine leaves_cons (f := 105) (args := #[.pointer (some ⟨w.heap.size, 0, none⟩), .pointer (some ⟨w.heap.size + 1, 0, none⟩)]) (by simp) (by simp [go_sem]) ?_
  refine (idleS _ _ W3).mono ?_
  rintro e u' w'' ⟨rfl, rfl, rfl⟩
  simp [Leaves, settle, results, Try.results87, go_sem, d0, d1, d2, d9, hB3]
end Go.Proofs.Ytoklgjlmjkhmbaa

/-
  The exported functions of package ctrl (but for Fills).
-/
set_option linter.unusedSimpArgs false
set_option linter.unusedVariables false
set_option maxRecDepth 100000
namespace Go.Proofs.Ytoklgjlmjkhmbaa
open Go.RowKit

theorem match1_yes (x h g p : Nat) (w : World) (hx : x < 2 ^ 64) (hh : h ≤ 127) (hg : w.heap[g]? = some (HandB x)) (hp : w.cell? ⟨p, 0, none⟩ = some (.int .u8 h)) :
    Calls Try.prog 103 #[.pointer (some ⟨g, 0, none⟩), .pointer (some ⟨p, 0, none⟩)] w fun e w' => e = .returned (.int .u8 (equalM x h)) ∧ Below w.heap.size w w' := by
  have hc : w.cell? ⟨g, 0, none⟩ = some (.int .u64 x) := blk_cell hg rfl
  have E := fun w => equal_any x h w hx (show h < 256 by omega)
  have hd : decide ((h : Int) ≤ 127) = true := by simp; omega
  have E'h := Lib.hid E
  have hx'h := Lib.hid hx
  have hh'h := Lib.hid hh
  have hg'h := Lib.hid hg
  clear E hx hh hg
  go_enter Try.func103, Try.ntmps103
  go_wp2_with fail
  refine (need_yes _ _).mono ?_
  rintro e w' ⟨rfl, rfl⟩
  go_wp2_with fail
  go_region_with (go_at_call 40; refine (E'h.out _).mono ?_; rintro e w' ⟨rfl, rfl⟩)
  all_goals
    first | go_wp2 | skip
    go_ret
    exact ⟨rfl, Below.drew (Below.refl _ _)⟩
theorem match1_no (x h g p : Nat) (w : World) (hh : ¬ h ≤ 127) (hp : w.cell? ⟨p, 0, none⟩ = some (.int .u8 h)) :
    Calls Try.prog 103 #[.pointer (some ⟨g, 0, none⟩), .pointer (some ⟨p, 0, none⟩)] w fun e w' => e = Boom 2 ∧ w' = w := by
  have hd : decide ((h : Int) ≤ 127) = false := by simp; omega
  have hh'h := Lib.hid hh
  clear hh
  go_enter Try.func103, Try.ntmps103
  go_wp2_with fail
  refine (need_no _ _).mono ?_
  rintro e w' ⟨rfl, rfl⟩
  go_wp2
  exact ⟨rfl, rfl, rfl⟩
/-- What Match tells: the lanes, and the error. -/
def matchM (x h : Nat) : Nat := if rightW x = true ∧ h ≤ 127 then equalM x h else 0
def matchE (x h : Nat) : Nat := if rightW x = true then (if h ≤ 127 then 0 else 2) else 190
theorem match_any (x h : Nat) (w : World) (hx : x < 2 ^ 64) (hh : h < 256) :
    Calls Try.prog 82 #[.int .u64 x, .int .u8 h] w fun e w' => e = .returned (.tuple #[.int .u8 (matchM x h), .int .i64 (matchE x h)]) ∧ Below w.heap.size w w' := by
  have hmf : ∀ (fn : Fn) (first cap : Array Value) (w : World), (Instr.makeFunc fn first cap).run Try.prog w = .ok (.func fn first cap) w := fun _ _ _ _ => rfl
  obtain ⟨W, hW⟩ : ∃ W, W = w.alloc (.cells #[.int .u8 h] 5) := ⟨_, rfl⟩
  have hB : Below w.heap.size w W := by rw [hW]; exact (Below.refl _ _).alloc (Nat.le_refl _) _
  have hs : W.heap.size = w.heap.size + 1 := by rw [hW]; simp
  have hp : W.heap[w.heap.size]? = some (.cells #[.int .u8 h] 5 (0, 0)) := by rw [hW]; exact World.alloc_heap_new _ _
  have T : Calls Try.prog 102 #[.int .u64 x, .func (.func 103) #[] #[.pointer (some ⟨w.heap.size, 0, none⟩)]] W fun e w' => e = .returned (.tuple #[.int .u8 (matchM x h), .int .i64 (matchE x h)]) ∧ Below W.heap.size W w' := by
    cases hr : rightW x with
    | false =>
      have e1 : matchM x h = 0 := by unfold matchM; rw [if_neg (by rw [hr]; simp)]
      have e2 : matchE x h = 190 := by unfold matchE; rw [if_neg (by rw [hr]; simp)]
      rw [e1, e2]
      exact tries_notM x _ W hx hr
    | true =>
      by_cases h1 : h ≤ 127
      · have e1 : matchM x h = equalM x h := by unfold matchM; rw [if_pos ⟨hr, h1⟩]
        have e2 : matchE x h = 0 := by unfold matchE; rw [if_pos hr, if_pos h1]
        rw [e1, e2]
        exact tries_yesMatch x _ (equalM x h) W hx hr fun g W1 hg hb1 hh1 => (match1_yes x h g w.heap.size W1 hx h1 hh1 (blk_cell (heap_below hb1 hp (by omega)) rfl)).mono fun e w' ⟨h, hw⟩ => ⟨h, hw.mono (Nat.le_of_lt (lt_of_heap hh1))⟩
      · have e1 : matchM x h = 0 := by unfold matchM; rw [if_neg (fun e => h1 e.2)]
        have e2 : matchE x h = 2 := by unfold matchE; rw [if_pos hr, if_neg h1]
        rw [e1, e2]
        exact tries_noMatch x _ 2 W hx hr fun g W1 hg hb1 hh1 => (match1_no x h g w.heap.size W1 h1 (blk_cell (heap_below hb1 hp (by omega)) rfl)).mono fun e w' ⟨h, hw⟩ => ⟨h, by rw [hw]; exact Below.refl _ _⟩
  generalize matchM x h = m at *
  generalize matchE x h = z at *
  have T'h := Lib.hid T
  have hB'h := Lib.hid hB
  have hs'h := Lib.hid hs
  have hp'h := Lib.hid hp
  have hx'h := Lib.hid hx
  have hh'h := Lib.hid hh
  clear T hB hs hp hx hh
  go_enter Try.func82, Try.ntmps82
  go_wp2_with fail
  rw [← hW]
  refine T'h.out.mono ?_
  rintro e w' ⟨rfl, hb1⟩
  clear hW
  go_wp2
  go_ret2
  exact ⟨rfl, hB'h.out.trans (hb1.mono hB'h.out.size)⟩
/-- What Fill comes to. -/
def fillW' (x : Nat) (lane : Int) (h : Nat) : Nat := if rightW x = true ∧ fillE x lane h = 0 then setLane x lane.toNat h else 0
def fillZ (x : Nat) (lane : Int) (h : Nat) : Nat := if rightW x = true then fillE x lane h else 190
theorem fillE_zero {x : Nat} {lane : Int} {h : Nat} (e : fillE x lane h = 0) : (0 ≤ lane ∧ lane < 8) ∧ h ≤ 127 ∧ fullAt x lane.toNat = false := by
  unfold fillE at e
  by_cases h1 : 0 ≤ lane ∧ lane < 8
  · rw [if_neg (by simpa using h1)] at e
    by_cases h2 : h ≤ 127
    · rw [if_neg (by omega)] at e
      by_cases h3 : fullAt x lane.toNat = true
      · rw [if_pos h3] at e; cases e
      · exact ⟨h1, h2, by simpa using h3⟩
    · rw [if_pos (by omega)] at e; cases e
  · rw [if_pos h1] at e; cases e
def eraseW' (x : Nat) (lane : Int) : Nat := if rightW x = true ∧ eraseE x lane = 0 then setLane x lane.toNat (eraseB x) else 0
def eraseZ (x : Nat) (lane : Int) : Nat := if rightW x = true then eraseE x lane else 190
theorem eraseE_zero {x : Nat} {lane : Int} (e : eraseE x lane = 0) : (0 ≤ lane ∧ lane < 8) ∧ fullAt x lane.toNat = true := by
  unfold eraseE at e
  by_cases h1 : 0 ≤ lane ∧ lane < 8
  · rw [if_neg (by simpa using h1)] at e
    by_cases h3 : fullAt x lane.toNat = true
    · exact ⟨h1, h3⟩
    · rw [if_pos h3] at e; cases e
  · rw [if_pos h1] at e; cases e
end Go.Proofs.Ytoklgjlmjkhmbaa

/-
  Sets, Stops, Ready.
-/
set_option linter.unusedSimpArgs false
set_option linter.unusedVariables false
set_option maxRecDepth 100000
namespace Go.Proofs.Ytoklgjlmjkhmbaa
open Go.RowKit

theorem sets1_any (x g : Nat) (w : World) (hx : x < 2 ^ 64) (hg : w.heap[g]? = some (HandB x)) :
    Calls Try.prog 88 #[.pointer (some ⟨g, 0, none⟩)] w fun e w' => e = .returned (.agg #[.int .u8 (belowM x 128), .int .u8 (equalM x 128), .int .u8 (equalM x 254)]) ∧ Below w.heap.size w w' := by
  have F := fun w => full_any x w hx
  have E := fun w => empty_any x w hx
  have D := fun w => deleted_any x w hx
  have hgl := lt_of_heap hg
  obtain ⟨W, hW⟩ : ∃ W, W = w.alloc (.cells #[.int .u8 0, .int .u8 0, .int .u8 0] 136) := ⟨_, rfl⟩
  have hB : Below w.heap.size w W := by rw [hW]; exact (Below.refl _ _).alloc (Nat.le_refl _) _
  have hn : W.heap[w.heap.size]? = some (.cells #[.int .u8 0, .int .u8 0, .int .u8 0] 136 (0, 0)) := by rw [hW]; exact World.alloc_heap_new _ _
  have hg1 := heap_below hB hg hgl
  have hc : W.cell? ⟨g, 0, none⟩ = some (.int .u64 x) := blk_cell hg1 rfl
  generalize belowM x 128 = m0 at *
  generalize equalM x 128 = m1 at *
  generalize equalM x 254 = m2 at *
  have hone : (#[.int .u8 m0, .int .u8 m1, .int .u8 m2] : Array Value).all (·.oneCell') = true := by kernel_rfl
  have F'h := Lib.hid F
  have E'h := Lib.hid E
  have D'h := Lib.hid D
  have hx'h := Lib.hid hx
  have hg'h := Lib.hid hg
  have hg1'h := Lib.hid hg1
  have hgl'h := Lib.hid hgl
  have hB'h := Lib.hid hB
  have hn'h := Lib.hid hn
  have hone'h := Lib.hid hone
  clear F E D hx hg hg1 hgl hB hn hone
  have hkeep : ∀ W' : World, Below w.heap.size w W' → (W'.cell? ⟨g, 0, none⟩ = some (.int .u64 x) ∧ Below w.heap.size w W') := fun W' h =>
    ⟨blk_cell (heap_below h hg'h.out hgl'h.out) rfl, h⟩
  have hkeep'h := Lib.hid hkeep
  clear hkeep
  go_enter Try.func88, Try.ntmps88
  go_wp2_with fail
  rw [← hW]
  clear hW
  obtain ⟨k1, k2⟩ := hkeep'h.out W hB'h.out
  have hnd : W.drew.heap[w.heap.size]? = some (.cells #[.int .u8 0, .int .u8 0, .int .u8 0] 136 (0, 0)) := hn'h.out
  have hn0 := hn'h.out
  have d0 : W.cell? ⟨w.heap.size, 0, none⟩ = some (.int .u8 0) := blk_cell hn0 rfl
  have d1 : W.cell? ⟨w.heap.size, 1, none⟩ = some (.int .u8 0) := blk_cell hn0 rfl
  have d2 : W.cell? ⟨w.heap.size, 2, none⟩ = some (.int .u8 0) := blk_cell hn0 rfl
  have d3 : W.frozen? ⟨w.heap.size, 0, none⟩ = false := blk_free 0 hn0
  have d4 : W.frozen? ⟨w.heap.size, 1, none⟩ = false := blk_free 1 hn0
  have d5 : W.frozen? ⟨w.heap.size, 2, none⟩ = false := blk_free 2 hn0
  have e0 : W.drew.cell? ⟨w.heap.size, 0, none⟩ = some (.int .u8 0) := d0
  have e1 : W.drew.cell? ⟨w.heap.size, 1, none⟩ = some (.int .u8 0) := d1
  have e2 : W.drew.cell? ⟨w.heap.size, 2, none⟩ = some (.int .u8 0) := d2
  have e3 : W.drew.frozen? ⟨w.heap.size, 0, none⟩ = false := d3
  have e4 : W.drew.frozen? ⟨w.heap.size, 1, none⟩ = false := d4
  have e5 : W.drew.frozen? ⟨w.heap.size, 2, none⟩ = false := d5
  have hnd'h := Lib.hid hnd
  clear hnd
  clear hc hn0
  go_region_held3 (fun W' => W'.cell? ⟨g, 0, none⟩ = some (.int .u64 x) ∧ Below w.heap.size w W') (first | exact hkeep'h.out _ (by assumption) | exact hkeep'h.out _ (Below.drew (by assumption)) | exact hkeep'h.out _ (Below.drew (((k2.setCell (p := ⟨w.heap.size, 0, none⟩) (Nat.le_refl _) _).setCell (p := ⟨w.heap.size, 1, none⟩) (Nat.le_refl _) _).setCell (p := ⟨w.heap.size, 2, none⟩) (Nat.le_refl _) _)) | exact hkeep'h.out _ (((k2.setCell (p := ⟨w.heap.size, 0, none⟩) (Nat.le_refl _) _).setCell (p := ⟨w.heap.size, 1, none⟩) (Nat.le_refl _) _).setCell (p := ⟨w.heap.size, 2, none⟩) (Nat.le_refl _) _) | fail) (first | (go_at_call 89; refine (F'h.out _).mono ?_; rintro e w' ⟨rfl, rfl⟩) | (go_at_call 90; refine (E'h.out _).mono ?_; rintro e w' ⟨rfl, rfl⟩) | (go_at_call 91; refine (D'h.out _).mono ?_; rintro e w' ⟨rfl, rfl⟩) | fail)
  have hn3 := blk_set (i := 2) (.int .u8 m2) (blk_set (i := 1) (.int .u8 m1) (blk_set (i := 0) (.int .u8 m0) hn'h.out))
  have hB3 := ((k2.setCell (p := ⟨w.heap.size, 0, none⟩) (Nat.le_refl _) (.int .u8 m0)).setCell (p := ⟨w.heap.size, 1, none⟩) (Nat.le_refl _) (.int .u8 m1)).setCell (p := ⟨w.heap.size, 2, none⟩) (Nat.le_refl _) (.int .u8 m2)
  clear k1 k2 d0 d1 d2 d3 d4 d5 e0 e1 e2 e3 e4 e5 hnd'h
  generalize ((W.setCell ⟨w.heap.size, 0, none⟩ (.int .u8 m0)).setCell ⟨w.heap.size, 1, none⟩ (.int .u8 m1)).setCell ⟨w.heap.size, 2, none⟩ (.int .u8 m2) = W3 at *
  have d0 : W3.drew.cell? ⟨w.heap.size, 0, none⟩ = some (.int .u8 m0) := blk_cell (W := W3) hn3 rfl
  have d1 : W3.drew.cell? ⟨w.heap.size, 1, none⟩ = some (.int .u8 m1) := blk_cell (W := W3) hn3 rfl
  have d2 : W3.drew.cell? ⟨w.heap.size, 2, none⟩ = some (.int .u8 m2) := blk_cell (W := W3) hn3 rfl
  have hB4 := Below.drew hB3
  clear hn3 hB3
  generalize W3.drew = W4 at *
  have hB4'h := Lib.hid hB4
  clear hB4
  go_wp2
  refine bodyPost_ret (v := .agg #[.int .u8 m0, .int .u8 m1, .int .u8 m2]) (by simp [results, Try.results88, go_sem, d0, d1, d2]) rfl ?_
  exact ⟨rfl, hB4'h.out⟩
def readyW (x : Nat) : Nat := if rightW x = true then blendW (fillW 128) (fillW 254) (belowM x 128) else 0
def rightZ (x : Nat) : Nat := if rightW x = true then 0 else 190
def setM (x k : Nat) : Nat := if rightW x = true then (if k = 0 then belowM x 128 else if k = 1 then equalM x 128 else equalM x 254) else 0
theorem sets_any (x : Nat) (w : World) (hx : x < 2 ^ 64) :
    Calls Try.prog 62 #[.int .u64 x] w fun e w' => e = .returned (.tuple #[.int .u8 (setM x 0), .int .u8 (setM x 1), .int .u8 (setM x 2)]) ∧ Below w.heap.size w w' := by
  have T : Calls Try.prog 87 #[.int .u64 x, .func (.func 88) #[] #[]] w fun e w' => e = .returned (.tuple #[.agg #[.int .u8 (setM x 0), .int .u8 (setM x 1), .int .u8 (setM x 2)], .int .i64 (rightZ x)]) ∧ Below w.heap.size w w' := by
    unfold setM rightZ
    cases hr : rightW x with
    | false => exact tries_notS x _ w hx hr
    | true => exact tries_yesSets x _ _ _ w hx hr fun g W1 hg hb1 hh1 => (sets1_any x g W1 hx hh1).mono fun e w' ⟨h, hw⟩ => ⟨h, hw.mono (Nat.le_of_lt (lt_of_heap hh1))⟩
  generalize setM x 0 = m0 at *
  generalize setM x 1 = m1 at *
  generalize setM x 2 = m2 at *
  generalize rightZ x = z at *
  have hone : (#[.int .u8 m0, .int .u8 m1, .int .u8 m2] : Array Value).all (·.oneCell') = true := by kernel_rfl
  have T'h := Lib.hid T
  have hx'h := Lib.hid hx
  have hone'h := Lib.hid hone
  clear T hx hone
  go_enter Try.func62, Try.ntmps62
  go_wp2_with fail
  refine T'h.out.mono ?_
  rintro e w' ⟨rfl, hb1⟩
  go_wp2
  obtain ⟨W, hW⟩ : ∃ W, W = w'.alloc (.cells #[.int .u8 m0, .int .u8 m1, .int .u8 m2] 136) := ⟨_, rfl⟩
  have hB : Below w.heap.size w W := by rw [hW]; exact hb1.alloc hb1.size _
  have hn : W.heap[w'.heap.size]? = some (.cells #[.int .u8 m0, .int .u8 m1, .int .u8 m2] 136 (0, 0)) := by rw [hW]; exact World.alloc_heap_new _ _
  rw [← hW]
  have d0 : W.cell? ⟨w'.heap.size, 0, none⟩ = some (.int .u8 m0) := blk_cell hn rfl
  have d1 : W.cell? ⟨w'.heap.size, 1, none⟩ = some (.int .u8 m1) := blk_cell hn rfl
  have d2 : W.cell? ⟨w'.heap.size, 2, none⟩ = some (.int .u8 m2) := blk_cell hn rfl
  clear hW hn hb1
  have hB'h := Lib.hid hB
  clear hB
  go_region
  go_wp2
  refine bodyPost_ret (v := .tuple #[.int .u8 m0, .int .u8 m1, .int .u8 m2]) (by simp [results, Try.results62, go_sem]) rfl ?_
  exact ⟨rfl, Below.drew hB'h.out⟩
end Go.Proofs.Ytoklgjlmjkhmbaa

/-
  The document's answers for control words.
-/
set_option linter.unusedSimpArgs false
set_option linter.unusedVariables false
set_option maxRecDepth 100000
namespace Go.Proofs.Ytoklgjlmjkhmbaa
open Go.RowKit

/-- A word made ready, lane by lane. -/
def readyK (x : Nat) : Nat → Nat
  | 0 => x
  | k + 1 => setLane (readyK x k) k (if fullAt (readyK x k) k = true then 254 else 128)
theorem setLane_lt' (x n b : Nat) (hx : x < 2 ^ 64) (hb : b < 256) : setLane x n b < 2 ^ 64 := by
  have := putX_lt x b hx hb [(n : Int)]
  unfold putX at this
  simpa using this
theorem readyK_lt (x : Nat) (hx : x < 2 ^ 64) : ∀ k, readyK x k < 2 ^ 64
  | 0 => hx
  | k + 1 => setLane_lt' _ _ _ (readyK_lt x hx k) (by split <;> decide)
end Go.Proofs.Ytoklgjlmjkhmbaa

/-
  Fills.
-/
set_option linter.unusedSimpArgs false
set_option linter.unusedVariables false
set_option maxRecDepth 100000
namespace Go.Proofs.Ytoklgjlmjkhmbaa
open Go.RowKit

theorem ownsRow_of_heap {w w' : World} {base : Nat} {e : TypeId} {size : Nat} {v : Value} {n : Nat} {xs : List Value} (h : w.ownsRow base e size v n xs) (hh : ∀ b, base ≤ b → b < w.heap.size → w'.heap[b]? = w.heap[b]?) : w'.ownsRow base e size v n xs := by
  refine ⟨h.1, ?_⟩
  rcases h.2 with h0 | ⟨g, cap, cur, h1, hb, hg, hr⟩
  · exact .inl h0
  · exact .inr ⟨g, cap, cur, h1, hb, (hh g hb (lt_of_heap hg)).trans hg, hr⟩
end Go.Proofs.Ytoklgjlmjkhmbaa

/-
  The free lanes, one by one; Fills.
-/
set_option linter.unusedSimpArgs false
set_option linter.unusedVariables false
set_option maxRecDepth 100000
namespace Go.Proofs.Ytoklgjlmjkhmbaa
open Go.RowKit

def freeM (x : Nat) : Nat := equalM x 128 ||| equalM x 254
theorem freeM_lt (x : Nat) : freeM x < 256 := Nat.or_lt_two_pow (n := 8) (equalM_lt' _ _) (equalM_lt' _ _)
theorem Foreign.new {S : Nat → Prop} {W W' : World} (h : Below W.heap.size W W') : Foreign S (fun b => S b ∨ (W.heap.size ≤ b ∧ b < W'.heap.size)) W W' :=
  ⟨h.os, h.tape, h.output, h.size, fun _ h => .inl h, fun _ h => h, fun b hb _ => h.block b hb⟩
theorem ints_at {l : List Nat} {j : Nat} (h : j < l.length) : (ints l)[j]? = some (.int .i64 (nthN l j)) := by
  unfold ints; rw [List.getElem?_map, List.getElem?_eq_getElem h, nthN_eq h]; rfl
theorem row_len' {w : World} {base : Nat} {e : TypeId} {size : Nat} {sp : Option Addr} {n cap L : Nat} {xs : List Value} (h : w.ownsRow base e size (.slice sp n cap) L xs) : n = L := by
  rcases h.2 with ⟨h1, h0⟩ | ⟨g, c, cur, h1, _⟩
  · injection h1 with _ h2 _; omega
  · injection h1
end Go.Proofs.Ytoklgjlmjkhmbaa

/-
  Fills: the closure.
-/
set_option linter.unusedSimpArgs false
set_option linter.unusedVariables false
set_option maxRecDepth 100000
namespace Go.Proofs.Ytoklgjlmjkhmbaa
open Go.RowKit

/-- One free slot more is filled. -/
def fillStep (s : Option (Nat × List Nat)) (h : Nat) : Option (Nat × List Nat) :=
  match s with
  | none => none
  | some (x, l) => if h ≤ 127 ∧ 0 < (lanesOf (freeM x)).length then some (setLane x (nthN (lanesOf (freeM x)) 0) h, l ++ [nthN (lanesOf (freeM x)) 0]) else none
def fillsK (x : Nat) (hs : List Nat) (k : Nat) : Option (Nat × List Nat) := (hs.take k).foldl fillStep (some (x, []))
theorem fold_none (hs : List Nat) : hs.foldl fillStep none = none := by
  induction hs with
  | nil => rfl
  | cons a r ih => exact ih
theorem fillsK_succ (x : Nat) (hs : List Nat) {k : Nat} (h : k < hs.length) : fillsK x hs (k + 1) = fillStep (fillsK x hs k) (nthN hs k) := by
  unfold fillsK
  rw [List.take_succ_eq_append_getElem h, List.foldl_append, nthN_eq h]; rfl
theorem fillsK_stuck (x : Nat) (hs : List Nat) {k : Nat} (h : fillsK x hs k = none) (hk : k ≤ hs.length) : fillsK x hs hs.length = none := by
  unfold fillsK at *
  have e : hs.take hs.length = hs.take k ++ hs.drop k := by rw [List.take_length, List.take_append_drop]
  rw [e, List.foldl_append, h, fold_none]
theorem free_lane {x : Nat} (h : 0 < (lanesOf (freeM x)).length) : nthN (lanesOf (freeM x)) 0 < 8 ∧ fullAt x (nthN (lanesOf (freeM x)) 0) = false := by
  have hm := nthN_mem h
  generalize nthN (lanesOf (freeM x)) 0 = n at *
  unfold lanesOf at hm
  obtain ⟨h1, h2⟩ := List.mem_filter.1 hm
  have h8 : n < 8 := List.mem_range.1 h1
  refine ⟨h8, ?_⟩
  have ht : (freeM x).testBit n = true := by
    rw [Nat.testBit_eq_decide_div_mod_eq]
    simpa using h2
  unfold freeM at ht
  rw [equalM_def, equalM_def, mask_or, tb_range'] at ht
  simp [h8] at ht
  unfold fullAt
  simp; omega

theorem Kept.only {S : Nat → Prop} {g : Nat} {w w' : World} (h : Only g w w') (hg : ¬ S g) : Kept S w w' :=
  ⟨(h.1 0 (Nat.zero_le _)).os, (h.1 0 (Nat.zero_le _)).tape, (h.1 0 (Nat.zero_le _)).output, (h.1 0 (Nat.zero_le _)).size, fun b hb hs => h.2 b (fun e => hg (e ▸ hs)) hb⟩
theorem leaves_marks_panic {F : Fence} {n : Nat} {P : Program} {fn : Func} {R : Ending → World → Prop} {tmps : Array Value} {chain : List PanicEntry} : ∀ {bs : List Nat} {W : World}, bs.Nodup → (∀ D ∈ bs, W.heap[D]? = some (.deferred (some []))) →
    R (.panicked chain) (shutAll bs W) → LeavesInM F n P fn tmps R (marksOf bs) (.panicking chain) W
  | [], W, _, _, hR => hR
  | D :: bs, W, hnd, hD, hR => by
    obtain ⟨h1, h2⟩ := List.nodup_cons.1 hnd
    refine ⟨by simp, .inl ⟨_, _, rfl, run_takeDeferred (hD D (List.mem_cons_self ..)), leaves_marks_panic (bs := bs) h2 (fun D' h' => ?_) hR⟩⟩
    exact (World.putObj_heap_other (fun (e : D' = D) => h1 (by rw [← e]; exact h'))).trans (hD D' (List.mem_cons_of_mem _ h'))
def FillsP (g x : Nat) (hs : List Nat) (w : World) (e : Ending) (w' : World) : Prop :=
  Below g w w' ∧ match fillsK x hs hs.length with
    | none => e = Boom 2
    | some (y, l) => ∃ sp' n' cap', e = .returned (.agg #[.int .u64 y, .slice sp' n' cap']) ∧ w'.ownsRow g 3 1 (.slice sp' n' cap') l.length (ints l)
end Go.Proofs.Ytoklgjlmjkhmbaa

/-
  Fills.
-/
set_option linter.unusedSimpArgs false
set_option linter.unusedVariables false
set_option maxRecDepth 100000
namespace Go.Proofs.Ytoklgjlmjkhmbaa
open Go.RowKit

/-- What Fills comes to: the word, the lanes, the error. -/
def fillsT (x : Nat) (hs : List Nat) : Nat × List Nat × Nat :=
  if rightW x = true then (match fillsK x hs hs.length with | none => (0, [], 2) | some (y, l) => (y, l, 0)) else (0, [], 190)
def RowRes (base : Nat) (v0 z : Value) (k : Nat) (l : List Value) (w : World) (e : Ending) (w' : World) : Prop :=
  ∃ sp n cap, e = .returned (.tuple #[.agg #[v0, .slice sp n cap], z]) ∧ Below base w w' ∧ w'.ownsRow base 3 1 (.slice sp n cap) k l
end Go.Proofs.Ytoklgjlmjkhmbaa

/-
  Maps from uint64 to int that a call makes: what they hold, as a log of what was put (the newest first).
-/
set_option linter.unusedSimpArgs false
set_option linter.unusedVariables false
set_option maxRecDepth 100000
namespace Go.Proofs.Ytoklgjlmjkhmbaa
open Go.RowKit Go.Maps

/-! ### Logs -/
def mget : List (Nat × Int) → Nat → Int
  | [], _ => 0
  | (k, v) :: r, x => if k = x then v else mget r x
def mhas : List (Nat × Int) → Nat → Bool
  | [], _ => false
  | (k, _) :: r, x => k == x || mhas r x
def msize : List (Nat × Int) → Nat
  | [] => 0
  | (k, _) :: r => if mhas r k then msize r else msize r + 1
def mapD : List (Nat × Int) → DataW Unit
  | [] => .map []
  | (k, v) :: r => (mapD r).put (.int .u64 k) (.lit (.int .i64 v))
theorem u64_isKey (k : Nat) (h : k < 2 ^ 64) : WideAt.IsKeyLit (.int .u64 k) := trivial
theorem mapD_isMap : ∀ m, IsMap (mapD m)
  | [] => isMap_empty
  | (k, v) :: r => (mapD_isMap r).put _ _
theorem mapD_tidy : ∀ m : List (Nat × Int), (∀ p ∈ m, p.1 < 2 ^ 64) → Tidy (mapD m)
  | [], _ => tidy_empty
  | (k, v) :: r, h => (mapD_tidy r fun p hp => h p (by simp [hp])).put (u64_isKey k (h (k, v) (by simp))) _
theorem lit_ne {k x : Nat} (h : k ≠ x) : Lit.int .u64 (x : Int) ≠ Lit.int .u64 (k : Int) := by
  intro e; injection e with _ e; omega
theorem atKey_mapD : ∀ (m : List (Nat × Int)) (x : Nat), (∀ p ∈ m, p.1 < 2 ^ 64) → (mapD m).atKey (.int .u64 x) (.lit (.int .i64 0)) = .lit (.int .i64 (mget m x))
  | [], _, _ => rfl
  | (k, v) :: r, x, h => by
    unfold mapD mget
    by_cases e : k = x
    · subst e
      rw [if_pos rfl, atKey_put_same (mapD_isMap r) (u64_isKey k (h (k, v) (by simp)))]
    · rw [if_neg e, atKey_put_other (lit_ne e), atKey_mapD r x fun p hp => h p (by simp [hp])]
theorem has_mapD : ∀ (m : List (Nat × Int)) (x : Nat), (∀ p ∈ m, p.1 < 2 ^ 64) → Maps.has (mapD m) (.int .u64 x) = mhas m x
  | [], _, _ => rfl
  | (k, v) :: r, x, h => by
    unfold mapD mhas
    by_cases e : k = x
    · subst e
      rw [has_put_same (mapD_isMap r) (u64_isKey k (h (k, v) (by simp)))]; simp
    · rw [has_put_other (lit_ne e), has_mapD r x fun p hp => h p (by simp [hp])]; simp [e]
theorem size_mapD : ∀ (m : List (Nat × Int)), (∀ p ∈ m, p.1 < 2 ^ 64) → Maps.size (mapD m) = msize m
  | [], _ => rfl
  | (k, v) :: r, h => by
    unfold mapD msize
    have hr : ∀ p ∈ r, p.1 < 2 ^ 64 := fun p hp => h p (by simp [hp])
    rw [size_put (mapD_tidy r hr), has_mapD r k hr, size_mapD r hr]

/-! ### Blocks -/
def MapI (w : World) (b : Nat) (m : List (Nat × Int)) : Prop :=
  w.ownsMap (H := Unit) Try.prog 29 (plainElem Try.prog 3) b m.length (mapD m) ∧ (∀ p ∈ m, p.1 < 2 ^ 64)
theorem mapI_keyed : Keyed Try.prog 29 := int_keyed Try.underlying29
theorem mapI_zero (w : World) : (zeroValue 3).run Try.prog w = .ok (.int .i64 0) w := by kernel_rfl
theorem MapI.made (w : World) : MapI (w.alloc (.map #[] 0)) w.heap.size [] := ⟨World.ownsMap_made _ _ _ _, fun p hp => absurd hp (by simp)⟩
theorem MapI.heap {w w' : World} {b : Nat} {m : List (Nat × Int)} (h : MapI w b m) (e : w'.heap[b]? = w.heap[b]?) : MapI w' b m := by
  obtain ⟨⟨es, clock, hb, F, hs, hD⟩, hk⟩ := h
  exact ⟨⟨es, clock, e.trans hb, F, hs, hD⟩, hk⟩
theorem MapI.lt {w : World} {b : Nat} {m : List (Nat × Int)} (h : MapI w b m) : b < w.heap.size := h.1.lt
theorem MapI.drewN {w : World} {b : Nat} {m : List (Nat × Int)} (h : MapI w b m) (q : Nat) : MapI (w.drewN q) b m := h
theorem wf_u64 {k : Nat} (h : k < 2 ^ 64) : (Lit.int .u64 (k : Int)).wf = true := by
  have h1 : IntKind.u64.min = 0 := rfl
  have h2 : IntKind.u64.max = 18446744073709551615 := rfl
  simp only [Lit.wf, h1, h2, Bool.and_eq_true, decide_eq_true_eq]; omega
theorem MapI.look {w : World} {b : Nat} {m : List (Nat × Int)} (h : MapI w b m) (k : Nat) (hk : k < 2 ^ 64) :
    (Instr.lookup 132 (.map (some b)) (.int .u64 (k : Int)) false).run Try.prog w = .ok (.int .i64 (mget m k)) w := by
  obtain ⟨c, hrun, hat, _⟩ := h.1.lookup_int mapI_keyed Try.underlying132 Try.underlying3 (mapI_zero w) (keyOf_int_mk Try.underlying29 (wf_u64 hk))
  rw [atKey_mapD m k h.2] at hat
  injection hat with hat; injection hat with _ hat
  rw [hrun, hat]
theorem MapI.put {w : World} {b : Nat} {m : List (Nat × Int)} (h : MapI w b m) (k : Nat) (v : Int) (hk : k < 2 ^ 64) (hv : (Lit.int .i64 v).wf = true) (hn : m.length < maxLen) :
    ∃ w', (Instr.mapUpdate 132 (.map (some b)) (.int .u64 (k : Int)) (.int .i64 v)).run Try.prog w = .ok () w' ∧ MapI w' b ((k, v) :: m) ∧ w.grownBy w' (some b) := by
  obtain ⟨w', hrun, h1, h2⟩ := h.1.update mapI_keyed Try.underlying132 hn (keyOf_int_mk Try.underlying29 (wf_u64 hk)) (plainElem_int Try.underlying3 hv)
  exact ⟨w', hrun, ⟨h1, fun p hp => by
    rcases List.mem_cons.1 hp with hp | hp
    · rw [hp]; exact hk
    · exact h.2 p hp⟩, h2⟩
theorem Foreign.of_grown {S : Nat → Prop} {W W' : World} {b : Nat} (h : W.grownBy W' (some b)) (hb : S b) : Foreign S (fun c => S c) W W' :=
  ⟨h.os, h.tape, h.output, h.size, fun _ hc => hc, fun _ hc => .inl hc, fun c hc hn => h.block c hc (by intro e; injection e with e; subst e; exact hn hb)⟩
end Go.Proofs.Ytoklgjlmjkhmbaa

/-
  Groups of eight slots, in plain Lean.
-/
set_option linter.unusedSimpArgs false
set_option linter.unusedVariables false
namespace Go.Proofs.Ytoklgjlmjkhmbaa
open Go.RowKit

/-- A group: its control word, keys and values by lane. -/
structure Gp where
  c : Nat
  k : Nat → Nat
  v : Nat → Nat
structure GpOk (g : Gp) : Prop where
  c : g.c < 2 ^ 64
  k : ∀ i, g.k i < 2 ^ 64
  v : ∀ i, g.v i < 2 ^ 64
def gpA (g : Gp) : Array Value := #[.int .u64 (g.c : Int), .int .u64 (g.k 0 : Int), .int .u64 (g.k 1 : Int), .int .u64 (g.k 2 : Int), .int .u64 (g.k 3 : Int), .int .u64 (g.k 4 : Int), .int .u64 (g.k 5 : Int), .int .u64 (g.k 6 : Int), .int .u64 (g.k 7 : Int),
  .int .u64 (g.v 0 : Int), .int .u64 (g.v 1 : Int), .int .u64 (g.v 2 : Int), .int .u64 (g.v 3 : Int), .int .u64 (g.v 4 : Int), .int .u64 (g.v 5 : Int), .int .u64 (g.v 6 : Int), .int .u64 (g.v 7 : Int)]
theorem lane8 {i : Nat} (h : i < 8) : i = 0 ∨ i = 1 ∨ i = 2 ∨ i = 3 ∨ i = 4 ∨ i = 5 ∨ i = 6 ∨ i = 7 := by omega
theorem gpA_size (g : Gp) : (gpA g).size = 17 := rfl
theorem gpA_one (g : Gp) : (gpA g).all (·.oneCell') = true := by kernel_rfl
theorem gpA_k (g : Gp) {i : Nat} (h : i < 8) : (gpA g)[1 + i]? = some (.int .u64 (g.k i : Int)) := by
  rcases lane8 h with rfl | rfl | rfl | rfl | rfl | rfl | rfl | rfl <;> rfl
theorem gpA_v (g : Gp) {i : Nat} (h : i < 8) : (gpA g)[9 + i]? = some (.int .u64 (g.v i : Int)) := by
  rcases lane8 h with rfl | rfl | rfl | rfl | rfl | rfl | rfl | rfl <;> rfl
/-- One lane turned. -/
def upd (f : Nat → Nat) (i x : Nat) : Nat → Nat := fun j => if j = i then x else f j
theorem upd_same (f : Nat → Nat) (i x : Nat) : upd f i x i = x := by simp [upd]
theorem upd_other (f : Nat → Nat) {i j : Nat} (x : Nat) (h : j ≠ i) : upd f i x j = f j := by simp [upd, h]
theorem gpA_setC (g : Gp) (x : Nat) : (gpA g).setIfInBounds 0 (.int .u64 (x : Int)) = gpA { g with c := x } := rfl
theorem gpA_setK (g : Gp) {i : Nat} (h : i < 8) (x : Nat) : (gpA g).setIfInBounds (1 + i) (.int .u64 (x : Int)) = gpA { g with k := upd g.k i x } := by
  rcases lane8 h with rfl | rfl | rfl | rfl | rfl | rfl | rfl | rfl <;> rfl
theorem gpA_setV (g : Gp) {i : Nat} (h : i < 8) (x : Nat) : (gpA g).setIfInBounds (9 + i) (.int .u64 (x : Int)) = gpA { g with v := upd g.v i x } := by
  rcases lane8 h with rfl | rfl | rfl | rfl | rfl | rfl | rfl | rfl <;> rfl
def gpZ : Gp := ⟨0, fun _ => 0, fun _ => 0⟩
def gpNew : Gp := ⟨fillW 128, fun _ => 0, fun _ => 0⟩
/-- Do they hold the same? -/
def sameA (a b : Gp) : Bool := a.c == b.c && (List.range 8).all (fun i => a.k i == b.k i) && (List.range 8).all (fun i => a.v i == b.v i)
theorem sameA_iff (a b : Gp) : sameA a b = true ↔ a.c = b.c ∧ (∀ i, i < 8 → a.k i = b.k i) ∧ (∀ i, i < 8 → a.v i = b.v i) := by
  unfold sameA
  simp only [Bool.and_eq_true, List.all_eq_true, List.mem_range, beq_iff_eq, and_assoc]
theorem gpA_eq (a b : Gp) : gpA a = gpA b ↔ sameA a b = true := by
  rw [sameA_iff]
  constructor
  · intro h
    refine ⟨?_, fun i hi => ?_, fun i hi => ?_⟩
    · have := congrArg (·[0]?) h
      simp [gpA] at this; omega
    · have := congrArg (·[1 + i]?) h
      simp only [gpA_k _ hi] at this
      simp at this; omega
    · have := congrArg (·[9 + i]?) h
      simp only [gpA_v _ hi] at this
      simp at this; omega
  · rintro ⟨h0, h1, h2⟩
    unfold gpA
    rw [h0, h1 0 (by omega), h1 1 (by omega), h1 2 (by omega), h1 3 (by omega), h1 4 (by omega), h1 5 (by omega), h1 6 (by omega), h1 7 (by omega), h2 0 (by omega), h2 1 (by omega), h2 2 (by omega), h2 3 (by omega), h2 4 (by omega), h2 5 (by omega), h2 6 (by omega), h2 7 (by omega)]

/-- What a slot is. -/
structure Sl3 where
  key : Nat
  val : Nat
  h2 : Nat
deriving DecidableEq
structure Sl3Ok (s : Sl3) : Prop where
  key : s.key < 2 ^ 64
  val : s.val < 2 ^ 64
  h2 : s.h2 < 256
def slL (s : Sl3) : List Value := [.int .u64 (s.key : Int), .int .u64 (s.val : Int), .int .u8 (s.h2 : Int)]
def slA (s : Sl3) : Array Value := #[.int .u64 (s.key : Int), .int .u64 (s.val : Int), .int .u8 (s.h2 : Int)]
def slotAt (g : Gp) (i : Nat) : Sl3 := ⟨g.k i, g.v i, byteAt g.c i⟩
theorem slotAt_ok {g : Gp} (h : GpOk g) (i : Nat) : Sl3Ok (slotAt g i) := ⟨h.k i, h.v i, byteAt_lt _ _⟩
theorem slA_one (s : Sl3) : (slA s).all (·.oneCell') = true := by kernel_rfl
theorem slA_inj {a b : Sl3} : slA a = slA b ↔ a = b := by
  constructor
  · intro h
    have h0 := congrArg (·[0]?) h
    have h1 := congrArg (·[1]?) h
    have h2 := congrArg (·[2]?) h
    simp [slA] at h0 h1 h2
    cases a; cases b; simp at h0 h1 h2 ⊢; omega
  · rintro rfl; rfl

/-! ### The lanes of full slots -/
def fullL (x : Nat) : List Nat := (List.range 8).filter fun i => fullAt x i
theorem lanes_mask (f : Nat → Bool) : lanesOf (maskOf ((List.range 8).map f)) = (List.range 8).filter f := by
  unfold lanesOf
  refine List.filter_congr fun i hi => ?_
  have h := tb_range' f i
  rw [Nat.testBit_eq_decide_div_mod_eq] at h
  have h8 : i < 8 := List.mem_range.1 hi
  rw [decide_eq_true h8, Bool.true_and] at h
  rw [← h]
  rw [Bool.eq_iff_iff]; simp
theorem fullL_eq (x : Nat) : lanesOf (belowM x 128) = fullL x := by rw [fullM_def, lanes_mask]; rfl
theorem equalL_eq (x b : Nat) : lanesOf (equalM x b) = (List.range 8).filter fun i => byteAt x i == b := by rw [equalM_def, lanes_mask]
theorem freeL_eq {x : Nat} : lanesOf (equalM x 128 ||| equalM x 254) = (List.range 8).filter fun i => byteAt x i == 128 || byteAt x i == 254 := by
  rw [equalM_def, equalM_def, mask_or, lanes_mask]

theorem filt_split (p : Nat → Bool) {i n : Nat} (hi : i < n) : ∃ l, (List.range n).filter p = (List.range i).filter p ++ (if p i = true then [i] else []) ++ l := by
  obtain ⟨m, rfl⟩ : ∃ m, n = i + (m + 1) := ⟨n - i - 1, by omega⟩
  refine ⟨((List.range m).map (i + 1 + ·)).filter p, ?_⟩
  rw [List.range_add, List.range_succ_eq_map, List.filter_append, List.map_cons, List.map_map, List.append_assoc]
  congr 1
  rw [List.filter_cons, Nat.add_zero]
  have e : ((fun x => i + x) ∘ Nat.succ) = (fun x => i + 1 + x) := by funext x; simp only [Function.comp]; omega
  rw [e]
  split <;> simp
theorem filt_at (p : Nat → Bool) {i n : Nat} (hi : i < n) (hp : p i = true) : ((List.range n).filter p)[((List.range i).filter p).length]? = some i := by
  obtain ⟨l, hl⟩ := filt_split p hi
  rw [hl, if_pos hp, List.append_assoc, List.getElem?_append_right (Nat.le_refl _), Nat.sub_self]; rfl
theorem filt_succ (p : Nat → Bool) (i : Nat) : ((List.range (i + 1)).filter p).length = ((List.range i).filter p).length + (if p i = true then 1 else 0) := by
  rw [List.range_succ, List.filter_append, List.length_append, List.filter_cons]
  split <;> simp
def bitM (m i : Nat) : Bool := m / 2 ^ i % 2 == 1
theorem bitM_and {m k : Nat} (hm : m < 256) : bits .and .u8 ((m : Int) / 2 ^ k) 1 = if bitM m k = true then 1 else 0 := by
  have h1 : (m : Int) / 2 ^ k = ((m / 2 ^ k : Nat) : Int) := by simp
  have hlt : m / 2 ^ k < 256 := Nat.lt_of_le_of_lt (Nat.div_le_self _ _) hm
  rw [h1, show (1 : Int) = ((1 : Nat) : Int) by rfl, u8_and_nat _ _ hlt (by decide), Nat.and_one_is_mod]
  unfold bitM
  by_cases h : m / 2 ^ k % 2 = 1
  · rw [h]; simp
  · have h0 : m / 2 ^ k % 2 = 0 := by omega
    rw [h0]; simp
def toldM (m i : Nat) : Nat := ((List.range i).filter (bitM m)).length
theorem lanesOf_def (m : Nat) : lanesOf m = (List.range 8).filter (bitM m) := rfl
theorem told_yes {m i : Nat} (hi : i < 8) (h : bitM m i = true) : toldM m (i + 1) = toldM m i + 1 ∧ ∃ hk : toldM m i < (lanesOf m).length, (lanesOf m)[toldM m i] = i := by
  refine ⟨by unfold toldM; rw [filt_succ, if_pos h], ?_⟩
  have := filt_at (bitM m) hi h
  rw [← lanesOf_def] at this
  exact ⟨(List.getElem?_eq_some_iff.1 this).1, (List.getElem?_eq_some_iff.1 this).2⟩
theorem told_no {m i : Nat} (h : bitM m i = false) : toldM m (i + 1) = toldM m i := by unfold toldM; rw [filt_succ, if_neg (by rw [h]; decide)]; rfl
theorem told_all (m : Nat) : toldM m 8 = (lanesOf m).length := rfl

/-! ### What the document says -/
def distinctG (g : Gp) : Bool := (List.range 8).all fun i => (List.range i).all fun j => !(fullAt g.c i && fullAt g.c j && g.k i == g.k j)
def rightG (g : Gp) : Bool := distinctG g && rightW g.c
theorem distinctG_iff (g : Gp) : distinctG g = true ↔ ∀ i, i < 8 → ∀ j, j < i → fullAt g.c i = true → fullAt g.c j = true → g.k i ≠ g.k j := by
  unfold distinctG
  simp only [List.all_eq_true, List.mem_range, Bool.not_eq_true', Bool.and_eq_false_iff, beq_eq_false_iff_ne]
  constructor
  · intro h i hi j hj f1 f2 e
    rcases h i hi j hj with (h | h) | h
    · rw [f1] at h; cases h
    · rw [f2] at h; cases h
    · exact h e
  · intro h i hi j hj
    cases f1 : fullAt g.c i with
    | false => exact .inl (.inl rfl)
    | true =>
      cases f2 : fullAt g.c j with
      | false => exact .inl (.inr rfl)
      | true => exact .inr (h i hi j hj f1 f2)
def sameG (a b : Gp) : Bool := (List.range 8).all (fun i => !(fullAt a.c i && (a.k i != b.k i || a.v i != b.v i))) && a.c == b.c
def looksG (g : Gp) (h : Nat) : List Nat := (List.range 8).filter fun i => byteAt g.c i == h
/-- The place among the lanes that are looked at; as many as there are: none. -/
def placeG (g : Gp) (key h : Nat) : Nat := (looksG g h).findIdx fun i => g.k i == key
def foundG (g : Gp) (key h : Nat) : Bool := decide (placeG g key h < (looksG g h).length)
def laneG (g : Gp) (key h : Nat) : Nat := nthN (looksG g h) (placeG g key h)
def freeLane (g : Gp) : Nat := (List.range 8).findIdx fun i => !fullAt g.c i
def thereG (g : Gp) (key : Nat) : Bool := (List.range 8).any fun i => fullAt g.c i && g.k i == key
def putE (g : Gp) (s : Sl3) : Nat := if 127 < s.h2 then 2 else if thereG g s.key = true then 5 else if freeLane g = 8 then 6 else 0
def putTo (g : Gp) (s : Sl3) : Gp := ⟨setLane g.c (freeLane g) s.h2, upd g.k (freeLane g) s.key, upd g.v (freeLane g) s.val⟩
def putG (g : Gp) (s : Sl3) : Gp := if putE g s = 0 then putTo g s else gpZ
def putLane (g : Gp) (s : Sl3) : Nat := if putE g s = 0 then freeLane g else 0
def dropTo (g : Gp) (i : Nat) : Gp := { g with c := setLane g.c i (eraseB g.c) }
def setTo (g : Gp) (i x : Nat) : Gp := { g with v := upd g.v i x }
def liveG (g : Gp) : List Sl3 := (fullL g.c).map (slotAt g)
def emptyN (g : Gp) : Nat := ((List.range 8).filter fun i => byteAt g.c i == 128).length
def deadN (g : Gp) : Nat := ((List.range 8).filter fun i => byteAt g.c i == 254).length
theorem gpZ_ok : GpOk gpZ := ⟨by decide, fun _ => show 0 < 2 ^ 64 by decide, fun _ => show 0 < 2 ^ 64 by decide⟩
theorem gpNew_ok : GpOk gpNew := ⟨fillW_lt _ (by decide), fun _ => show 0 < 2 ^ 64 by decide, fun _ => show 0 < 2 ^ 64 by decide⟩
theorem putTo_ok {g : Gp} {s : Sl3} (h : GpOk g) (hs : Sl3Ok s) : GpOk (putTo g s) :=
  ⟨setLane_lt _ _ _ hs.h2, fun i => by unfold putTo upd; simp only; split; exact hs.key; exact h.k i, fun i => by unfold putTo upd; simp only; split; exact hs.val; exact h.v i⟩
theorem putG_ok {g : Gp} {s : Sl3} (h : GpOk g) (hs : Sl3Ok s) : GpOk (putG g s) := by
  unfold putG; split
  · exact putTo_ok h hs
  · exact gpZ_ok
theorem eraseB_lt (x : Nat) : eraseB x < 256 := by unfold eraseB; split <;> decide
theorem dropTo_ok {g : Gp} (h : GpOk g) (i : Nat) : GpOk (dropTo g i) := ⟨setLane_lt _ _ _ (eraseB_lt _), h.k, h.v⟩
theorem setTo_ok {g : Gp} (h : GpOk g) (i : Nat) {x : Nat} (hx : x < 2 ^ 64) : GpOk (setTo g i x) := ⟨h.c, h.k, fun j => by unfold setTo upd; simp only; split; exact hx; exact h.v j⟩
end Go.Proofs.Ytoklgjlmjkhmbaa

/-
  Package group: what a slot is, the lanes of a mask, the lanes of full slots.
-/
set_option linter.unusedSimpArgs false
set_option linter.unusedVariables false
set_option maxRecDepth 100000
namespace Go.Proofs.Ytoklgjlmjkhmbaa
open Go.RowKit

theorem infoGp : (Try.prog.info? 70).map (·.size) = some 17 := by kernel_rfl
theorem infoSs : (Try.prog.info? 134).map (·.size) = some 17 := by kernel_rfl
theorem gp_ctrl {W : World} {b : Nat} {g : Gp} {t : TypeId} (h : W.heap[b]? = some (.cells (gpA g) t (0, 0))) : W.cell? ⟨b, 0, none⟩ = some (.int .u64 (g.c : Int)) := blk_cell h rfl
theorem gp_key {W : World} {b : Nat} {g : Gp} {t : TypeId} (h : W.heap[b]? = some (.cells (gpA g) t (0, 0))) {i : Nat} (hi : i < 8) : W.cell? ⟨b, 1 + i, none⟩ = some (.int .u64 (g.k i : Int)) := blk_cell h (gpA_k g hi)
theorem gp_val {W : World} {b : Nat} {g : Gp} {t : TypeId} (h : W.heap[b]? = some (.cells (gpA g) t (0, 0))) {i : Nat} (hi : i < 8) : W.cell? ⟨b, 9 + i, none⟩ = some (.int .u64 (g.v i : Int)) := blk_cell h (gpA_v g hi)

theorem geach_any (m : Nat) (w : World) : Calls Try.prog 63 #[.int .u8 m] w fun e w' => e = .returned (.func (.func 92) #[] #[.pointer (some ⟨w.heap.size, 0, none⟩)]) ∧ w' = w.alloc (.cells #[.int .u8 m] 31) := by
  go_enter Try.func63, Try.ntmps63
  go_wp2
  go_ret
  exact ⟨rfl, rfl⟩
theorem enters_geach (args : Array Value) (w : World) : (callFunc 92 args).run Try.prog w = .ok (.enter 92 args) w := by
  exact enters_of Try.func92 (by kernel_rfl) rfl args w
theorem geach_it (m b : Nat) (hm : m < 256) (w : World) (hb : w.heap[b]? = some (.cells #[.int .u8 m] 31 (0, 0))) :
    SeqIt Fence.wide 0 Try.prog 92 #[.pointer (some ⟨b, 0, none⟩)] (fun n : Nat => #[.int .i64 n]) (lanesOf m) (fun _ => False) (fun c => c = b) w := by
  intro l J Jx W hJ hJx hW hY h0
  have hbW := heap_below hW hb (lt_of_heap hb)
  have c0 : W.cell? ⟨b, 0, none⟩ = some (.int .u8 m) := blk_cell hbW rfl
  clear hb hW
  have hbW'h := Lib.hid hbW
  have hJ'h := Lib.hid hJ
  have hJx'h := Lib.hid hJx
  have hY'h := Lib.hid hY
  have h0'h := Lib.hid h0
  clear hbW hJ hJx hY h0
  refine callsIn_of_wp Try.func92 rfl trivial ?_ rfl
  simp only [Try.ntmps92, List.size_toArray, List.length_cons, List.length_nil, Nat.reduceAdd, Nat.reduceSub, Array.replicate_succ, Array.replicate_zero, List.push_toArray, List.append_toArray, List.nil_append, List.cons_append]
  refine wpIn_scope_straight ?_
  gi_wp2
  refine wpIn_label ?_
  gi_wp2
  gi_loopg [4] 8 (fun q i wr => ∃ (k : Nat) (S : Nat → Prop), k + q = 8 ∧ i = .int .i64 k ∧ J (toldM m k) S wr ∧ wr.cell? ⟨b, 0, none⟩ = some (.int .u8 m))
  case atStart => exact ⟨0, _, by omega, rfl, h0'h.out, c0⟩
  case round =>
    obtain ⟨k, S, hk, rfl, hj, hc⟩ := hrel
    by_cases hlt : k < 8
    · have hk1 : (k : Int) < 8 := by omega
      have hbit := bitM_and (m := m) (k := k) hm
      cases hp : bitM m k with
      | true =>
        obtain ⟨t1, hkx, hx⟩ := told_yes hlt hp
        obtain ⟨fn, tmps, assign, body, hy, hR⟩ := hY'h.out (toldM m k) S wr hj hkx
        rw [hx] at hy
        rw [hp] at hbit
        clear hx
        simp only [if_true] at hbit
        have hk'h := Lib.hid hk
        have t1'h := Lib.hid t1
        have hkx'h := Lib.hid hkx
        have hj'h := Lib.hid hj
        clear hk t1 hkx hj
        gi_wp2_with fail
        refine hR.mono ?_
        clear hR hy
        rintro e W' (⟨rfl, hJ3, hk3⟩ | ⟨rfl, hJx3, hk3⟩)
        · have c3 : W'.cell? ⟨b, 0, none⟩ = some (.int .u8 m) := hk3.cell (p := ⟨b, 0, none⟩) (.inl rfl) hc
          rw [← t1'h.out] at hJ3
          have hJ3'h := Lib.hid hJ3
          clear hJ3
          clear hk3 hc c0
          gi_wp2
          gi_roundg (gk - 1)
          case measure => have := hk'h.out; omega
          case rel => exact ⟨k + 1, S, by have := hk'h.out; omega, by go_num, hJ3'h.out, c3⟩
        · clear hk3
          gi_wp2
          rw [Exit.noGoto_normal]
          refine bodyPost_end (results_none rfl _ _ _) rfl ?_
          exact ⟨⟨_, rfl⟩, .inr ⟨_, hJx3⟩⟩
      | false =>
        have t1 := told_no hp
        rw [← t1] at hj
        rw [hp] at hbit
        simp only [Bool.false_eq_true, if_false] at hbit
        have hk'h := Lib.hid hk
        have t1'h := Lib.hid t1
        have hj'h := Lib.hid hj
        clear hk t1 hj
        gi_wp2
        gi_roundg (gk - 1)
        case measure => have := hk'h.out; omega
        case rel => exact ⟨k + 1, S, by have := hk'h.out; omega, by go_num, hj'h.out, hc⟩
    · obtain rfl : k = 8 := by omega
      have hend : J (lanesOf m).length S wr := hj
      have hk'h := Lib.hid hk
      have hj'h := Lib.hid hj
      clear hk hj
      gi_wp2
      rw [Exit.noGoto_normal]
      refine bodyPost_end (results_none rfl _ _ _) rfl ?_
      exact ⟨⟨_, rfl⟩, .inl ⟨_, hend⟩⟩
/-- The lanes of full slots, as an iterator value. -/
theorem gfull_any (g : Gp) (w : World) (hg : GpOk g) : Calls Try.prog 86 #[.agg (gpA g)] w fun e w' => ∃ b, w.heap.size ≤ b ∧
    e = .returned (.func (.func 92) #[] #[.pointer (some ⟨b, 0, none⟩)]) ∧ Below w.heap.size w w' ∧ w'.heap[b]? = some (.cells #[.int .u8 (setM g.c 0)] 31 (0, 0)) := by
  have S := fun w => sets_any g.c w hg.c
  have E := fun w => geach_any (setM g.c 0) w
  obtain ⟨W, hW⟩ : ∃ W, W = w.alloc (.cells (gpA g) 134) := ⟨_, rfl⟩
  have hO := (Hs.nil w).new (gpA g) 134
  rw [← hW] at hO
  have c0 := gp_ctrl hO.rows.1
  generalize setM g.c 0 = m0 at *
  generalize setM g.c 1 = m1 at *
  generalize setM g.c 2 = m2 at *
  have S'h := Lib.hid S
  have E'h := Lib.hid E
  have hO'h := Lib.hid hO
  have hg'h := Lib.hid hg
  clear S E hO hg
  go_enter Try.func86, Try.ntmps86
  go_upto_region 1 with fail
  rw [← hW]
  clear hW
  go_wp2_with (first | (go_at_call 62; refine (S'h.out _).mono ?_; rintro e w2 ⟨rfl, hb2⟩) | (go_at_call 63; refine (E'h.out _).mono ?_; rintro e w3 ⟨rfl, hw3⟩; obtain rfl := hw3.symm))
  go_ret
  exact ⟨_, Nat.le_trans hO'h.out.old.size hb2.size, rfl, (below_next hO'h.out.old hb2).alloc (Nat.le_trans hO'h.out.old.size hb2.size) _, World.alloc_heap_new _ _⟩
end Go.Proofs.Ytoklgjlmjkhmbaa

/-
  Package group: what lanes come to.
-/
set_option linter.unusedSimpArgs false
set_option linter.unusedVariables false
set_option maxRecDepth 100000
namespace Go.Proofs.Ytoklgjlmjkhmbaa
open Go.RowKit

theorem looks1_any (n : Nat) (w : World) : Calls Try.prog 84 #[.int .i64 n] w fun e w' => e = .returned (.int .i64 n) ∧ w' = w := by
  go_enter Try.func84, Try.ntmps84
  go_wp2
  go_ret
  exact ⟨rfl, rfl⟩
theorem looks1_below (n : Nat) (w : World) : Calls Try.prog 84 #[.int .i64 n] w fun e w' => e = .returned (.int .i64 n) ∧ Below w.heap.size w w' := (looks1_any n w).mono fun e w' ⟨h, hw⟩ => ⟨h, by rw [hw]; exact Below.refl _ _⟩
theorem infomadeI : (Try.prog.info? 3).map (fun i => (i.zero, i.size, i.bytes)) = some (some (.int .i64 0), 1, 8) := by kernel_rfl
/-- Between rounds. -/
structure madeII (fv : Value) (f : Nat → List Value) (l : List Nat) (w : World) (k : Nat) (v : Value) (S : Nat → Prop) (W : World) : Prop where
  fn : Own1 ⟨w.heap.size, 0, none⟩ fv S W
  var : Own1 ⟨w.heap.size + 1, 0, none⟩ v S W
  row : OwnR (w.heap.size + 2) 3 1 v k ((l.take k).flatMap f) S W
  old : Old w.heap.size w S W
def madeIE (fv : Value) (f : Nat → List Value) (l : List Nat) (w : World) (k : Nat) (S : Nat → Prop) (W : World) : Prop := ∃ v, madeII fv f l w k v S W
theorem madeIE.stable (fv : Value) (f : Nat → List Value) (l : List Nat) (w : World) (k : Nat) : Stable (madeIE fv f l w k) := fun S S' W W' ⟨v, i⟩ hf =>
  ⟨v, Own1.stable _ _ _ _ _ _ i.fn hf, Own1.stable _ _ _ _ _ _ i.var hf, OwnR.stable _ _ _ _ _ _ _ _ _ _ i.row hf, Old.stable _ _ _ _ _ _ i.old hf⟩
theorem madeIany (m b : Nat)  (hm : m < 256) (w : World) (hb : w.heap[b]? = some (.cells #[.int .u8 m] 31 (0, 0))) :
    Calls Try.prog 83 #[.func (.func 92) #[] #[.pointer (some ⟨b, 0, none⟩)], .func (.func 84) #[] #[]] w fun e w' => ∃ sp n cap, e = .returned (.slice sp n cap) ∧ Below w.heap.size w w' ∧
      w'.ownsRow w.heap.size 3 1 (.slice sp n cap) (lanesOf m).length ((lanesOf m).flatMap (fun n : Nat => [Value.int .i64 n])) := by
  obtain ⟨f, hf⟩ : ∃ f : Nat → List Value, f = fun n : Nat => [Value.int .i64 n] := ⟨_, rfl⟩
  obtain ⟨fv, hfv⟩ : ∃ fv : Value, fv = .func (.func 84) #[] #[] := ⟨_, rfl⟩
  rw [← hf, ← hfv]
  have hfl : ∀ n, (f n).length = 1 := fun n => by rw [hf]; rfl
  have hf1 : ∀ n, ∀ u ∈ f n, u.oneCell' = true := fun n => by rw [hf]; exact by intro u hu; simp at hu; rw [hu]; rfl
  have hbl := lt_of_heap hb
  have hn8 := length_lanesOf m
  have hlt : ∀ i ∈ lanesOf m, i < 8 := fun i hi => lanesOf_lt m i hi
  obtain ⟨W0, hW0⟩ : ∃ W0, W0 = (w.alloc (.cells #[fv] 130)).alloc (.cells #[.slice none 0 0] 64) := ⟨_, rfl⟩
  have hz : W0.heap.size = w.heap.size + 2 := by rw [hW0]; simp
  have hI0 : madeIE fv f (lanesOf m) w 0 (fun _ => False) W0 := by
    rw [hW0]
    refine ⟨.slice none 0 0, (Own1.new _ w _ _ (fun h => h)).alloc _, ?_, ⟨World.ownsRow_nil _ _ _ _, by simp [Value.ownBlock]⟩, ((Old.mk (Below.refl _ w) (Nat.le_refl _) (fun b hb h => h)).alloc _).alloc _⟩
    have := Own1.new (fun _ => False) (w.alloc (.cells #[fv] 130)) (.slice none 0 0) 64 (fun h => h)
    simpa using this
  have hb0 : W0.heap[b]? = some (.cells #[.int .u8 m] 31 (0, 0)) := heap_below (hI0.choose_spec.old.below) hb hbl
  have hit := geach_it m b hm W0 hb0
  generalize hl : lanesOf m = l at *
  have hfl'h := Lib.hid hfl
  have hf1'h := Lib.hid hf1
  have hbl'h := Lib.hid hbl
  have hlt'h := Lib.hid hlt
  have hI0'h := Lib.hid hI0
  have hb0'h := Lib.hid hb0
  have hit'h := Lib.hid hit
  have hl'h := Lib.hid hl
  have hb'h := Lib.hid hb
  have hz'h := Lib.hid hz
  have hn8'h := Lib.hid hn8
  have hfv'h := Lib.hid hfv
  have hf'h := Lib.hid hf
  clear hfl hf1 hbl hlt hI0 hb0 hit hl hb hz hn8 hfv hf
  refine (callsIn_wide (n := 0)).1 ?_
  refine callsIn_of_wp_marks Try.func83 rfl trivial ?_
  simp only [Try.ntmps83, List.size_toArray, List.length_cons, List.length_nil, Nat.reduceAdd, Nat.reduceSub, Array.replicate_succ, Array.replicate_zero, List.push_toArray, List.append_toArray, List.nil_append, List.cons_append]
  gi_wp2_with fail
  rw [← hW0]
  clear hW0
  refine' wpIn_range rfl (fun h => by cases h) rfl trivial enters_geach hit'h.out (fun b hb => False.elim hb) (fun _ => rfl) (fun c hc => ⟨by have := hbl'h.out; have := hz'h.out; omega, fun h => h⟩)
    (madeIE fv f l w) noX (madeIE.stable fv f l w) noX_stable hI0'h.out
    (AxOf _ (madeIE fv f l w)) (AxOf.stable (madeIE.stable fv f l w)) ?assign ?body ?done (fun _ _ _ _ _ _ _ _ _ h _ => h.elim)
  case assign =>
    intro l1 k S W hk hSl hr hSb hI
    rw [nthN_eq hk]
    clear hr
    gi_wp2
    exact ⟨⟨rfl, hI⟩, Kept.refl _ _⟩
  case body =>
    rintro l1 k S a W r hk hSl hlr hr hSb ⟨rfl, v, hI⟩
    have hn := hlt'h.out _ (nthN_mem hk)
    have hk8 : k < 8 := by have := hn8'h.out; omega
    have c1 := hI.fn.cell
    have c2 := hI.var.cell
    have f2 := hI.var.free
    have hsn : (l.take (k + 1)).flatMap f = (l.take k).flatMap f ++ f (nthN l k) := by rw [List.take_succ_eq_append_getElem hk, List.flatMap_append, nthN_eq hk]; simp
    obtain ⟨i0, hi, hz0, hz1, hz2⟩ := info_parts infomadeI
    refine wpIn_block ?_
    refine wpIn_round_heldF (fun w' => w'.cell? ⟨w.heap.size + 1, 0, none⟩ = some v ∧ w'.cell? ⟨w.heap.size, 0, none⟩ = some fv) 6 (by kernel_rfl) (by kernel_rfl) (inBlock_noLet rangePost_noLet) ?_
    refine wpAnyF_take (i := 0) (v := v) rfl (by kernel_rfl) (by kernel_rfl) (by kernel_rfl) (by kernel_rfl) (fun _ _ _ h => h) (Or.inl ⟨by rfl, ?_⟩) ⟨c2, c1⟩ ?_
    · intro w hSw; (try dsimp only at hSw); go_simp
    simp only [Act.put, List.setIfInBounds_toArray, List.set_cons_zero, List.set_cons_succ]
    refine wpAnyF_take (i := 1) (v := fv) rfl (by kernel_rfl) (by kernel_rfl) (by kernel_rfl) (by kernel_rfl) (fun _ _ _ h => h) (Or.inl ⟨by rfl, ?_⟩) ⟨c2, c1⟩ ?_
    · intro w hSw; (try dsimp only at hSw); go_simp
    simp only [Act.put, List.setIfInBounds_toArray, List.set_cons_zero, List.set_cons_succ]
    refine wpAnyF_take (i := 2) (v := .int .i64 (nthN l k)) rfl (by kernel_rfl) (by kernel_rfl) (by kernel_rfl) (by kernel_rfl) (fun _ _ _ h => h) (Or.inl ⟨by rfl, ?_⟩) ⟨c2, c1⟩ ?_
    · intro w hSw; (try dsimp only at hSw); go_simp
    simp only [Act.put, List.setIfInBounds_toArray, List.set_cons_zero, List.set_cons_succ]
    refine wpAnyF_one (i := 3) (by kernel_rfl) rfl (fun K hK => ?_)
    obtain rfl := hfv'h.out
    go_simp
    refine (looks1_below (nthN l k) _).mono ?_
    rintro e w5 ⟨rfl, hB5⟩
    have hb5 := (Below.drew (Below.refl W.heap.size W)).trans hB5
    have y1 := hI.fn.below hb5
    have y2 := hI.var.below hb5
    have hrow := ownsRow_next hI.row.row hb5
    have hold := hI.old.next hb5
    have hz5 := hb5.size
    have f2 := y2.free
    dsimp only
    refine hK.out _ _ (fun _ => ⟨y2.cell, y1.cell⟩) ?_
    clear hK K
    try simp only [Act.put, List.setIfInBounds_toArray, List.set_cons_zero, List.set_cons_succ]
    refine wpAnyF_one (i := 4) (by kernel_rfl) rfl (fun K hK => ?_)
    go_simp
    refine hK.out _ _ (fun _ => ⟨(y2.alloc _).cell, (y1.alloc _).cell⟩) ?_
    clear hK K
    try simp only [Act.put, List.setIfInBounds_toArray, List.set_cons_zero, List.set_cons_succ]
    refine wpAnyF_one (i := 5) (by kernel_rfl) rfl (fun K hK => ?_)
    refine step_append_slk _ rfl (.tmp 9) (.tmp 13) 64 rfl (w.heap.size + 2) 3 i0 (.int .i64 0) 1 8 Try.underlying64 hi hz0 hz1 hz2 rfl (by decide) v k _ rfl (ownsRow_next hrow ((Below.refl _ _).alloc (Nat.le_refl _) _)) (some ⟨w5.heap.size, 0, none⟩) 1 1 (f (nthN l k)) rfl ?_ (hf1'h.out _) (by unfold maxLen; omega) (by omega) (by have := hI.var.lt; simp at this ⊢; omega) ?_
    · have := SlK.of_blk (k := 1) (n := 1) (World.alloc_heap_new w5 (.cells #[.int .i64 (nthN l k)] 3)) rfl (by decide)
      rw [hf'h.out]; exact this
    intro v' w6 hown' hgrow hat
    refine hK.out _ _ (fun _ => ?_) ?_
    all_goals
      have hlo : ∀ j, v.ownBlock = some j → w.heap.size + 2 ≤ j := fun j hj => (hI.row.row.lt j hj).1
      have z1 := (y1.alloc (.cells #[.int .i64 (nthN l k)] 3)).grown hgrow (fun e => by have := hlo _ e.symm; simp at this <;> omega)
      have z2 := (y2.alloc (.cells #[.int .i64 (nthN l k)] 3)).grown hgrow (fun e => by have := hlo _ e.symm; simp at this <;> omega)
    · exact ⟨z2.cell, z1.cell⟩
    clear hK K
    try simp only [Act.put, List.setIfInBounds_toArray, List.set_cons_zero, List.set_cons_succ]
    have z3 := z2.free
    have z4 := z2.cell
    obtain ⟨sp', cap', rfl⟩ := row_slice' hown'
    refine wpAnyF_one (i := 6) (by kernel_rfl) rfl (fun K hK => ?_)
    go_simp
    refine hK.out _ _ (fun h => absurd rfl h) ?_
    clear hK K
    refine wpAnyF_done (by kernel_rfl) ?_ _
    have hkg : Kept (fun b => b < w.heap.size ∨ S b) (w5.alloc (.cells #[.int .i64 (nthN l k)] 3)) w6 :=
      Kept.grown hgrow (fun j hj => by rintro (h | h); have := hlo _ hj; omega; exact hI.row.mine _ hj h)
    have hk5 : Kept (fun b => b < w.heap.size ∨ S b) W w6 := ((Kept.of_below hb5).trans (Kept.alloc _ _ _)).trans hkg
    refine ⟨(hk5.trans (Kept.store _ ⟨w.heap.size + 1, 0, none⟩ _ y2.mine (by simp))).mono ?_, .slice sp' (k + 1) cap', ?_, z2.set _, ?_, ?_⟩
    · rintro c (rfl | h)
      · exact .inl hbl'h.out
      · exact .inr h
    · exact ⟨by rw [World.cell?_setCell_far _ _ _ _ (by simp)]; exact z1.cell, (World.frozen?_setCell _ _ _ _).trans z1.free, z1.mine⟩
    · rw [hsn]
      exact (OwnR.appended (W1 := w5.alloc (.cells #[.int .i64 (nthN l k)] 3)) hI.row hown' hat (by simp; omega) hSb).setBelow (a := ⟨w.heap.size + 1, 0, none⟩) (by simp) _
    · exact ((hold.alloc (.cells #[.int .i64 (nthN l k)] 3)).grown hgrow (fun j hj => by have := hlo _ hj; omega)).set (p := ⟨w.heap.size + 1, 0, none⟩) (by simp) _
  case done =>
    rintro D S W hD hSD hr ⟨v, hI⟩ hK
    have c1 := hI.var.cell
    clear hr
    gi_wp2
    obtain ⟨sp, cap, rfl⟩ := row_slice' hI.row.row
    have hz := hz'h.out
    refine post_mark (.inl rfl) hK (results_tmp rfl _ _ _) ⟨sp, _, cap, rfl, below_putObj hI.old.below (by omega) _, ?_⟩
    have h5 := ownsRow_mono hI.row.row (show w.heap.size ≤ w.heap.size + 2 by omega)
    rw [List.take_length] at h5
    exact ownsRow_put h5 (fun j hj e => hI.row.mine j hj (e ▸ hSD)) _
end Go.Proofs.Ytoklgjlmjkhmbaa

/-
  Package group: New; which groups may be.
-/
set_option linter.unusedSimpArgs false
set_option linter.unusedVariables false
set_option maxRecDepth 100000
namespace Go.Proofs.Ytoklgjlmjkhmbaa
open Go.RowKit

theorem wpList_build_agg {P : Program} {ops : Array Oper} {rest : List Oper} {o : Oper} {a : Act} {w : World} {Q : Exit → Act → World → Prop} (hgd : o.guard = none) (t : TypeId) (parts : Array (Nat × Operand)) (ho : o.op = .build t parts) (cells : Array Value)
    (vals : List (Nat × Value)) (hv : parts.toList.map (fun (i, x) => (i, a.eval x)) = vals) (hb : P.built t vals = some cells) (h : wpList P ops Q rest (a.put o.dst (.agg cells)) w) : wpList P ops Q (o :: rest) a w :=
  wpList_plain hgd fun _ hK => by
    have hv' : (parts.map fun (i, x) => (i, a.eval x)).toList = vals := by rw [Array.toList_map]; exact hv
    subst hv'
    unfold Oper.wp execOp
    simp only [ho, Sem.run_bind, run_build w t _ cells hb, Result.andThen_ok]
    exact hK _ _ h
theorem built_ss (g : Gp) : Try.prog.built 134 [(0, .agg (gpA g))] = some (gpA g) := by kernel_rfl
/-! ### Which groups may be -/
def metL (g : Gp) (l : List Nat) : List (Nat × Int) := l.reverse.map fun i => (g.k i, 1)
theorem mget_map (f : Nat → Nat) (x : Nat) : ∀ l : List Nat, mget (l.map fun i => (f i, 1)) x = if l.any (fun i => f i == x) = true then 1 else 0
  | [] => rfl
  | i :: l => by
    rw [List.map_cons, mget, mget_map f x l, List.any_cons]
    by_cases e : f i = x
    · simp [e]
    · rw [if_neg e]
      have : (f i == x) = false := by simp [e]
      rw [this, Bool.false_or]
theorem mget_metL (g : Gp) (l : List Nat) (x : Nat) : mget (metL g l) x = if l.any (fun i => g.k i == x) = true then 1 else 0 := by
  unfold metL
  rw [mget_map, List.any_reverse]
theorem metL_snoc (g : Gp) (l : List Nat) (i : Nat) : metL g (l ++ [i]) = (g.k i, 1) :: metL g l := by unfold metL; simp
theorem metL_length (g : Gp) (l : List Nat) : (metL g l).length = l.length := by unfold metL; simp
/-- Was the key of the k-th one met ahead of it? -/
def metB (g : Gp) (l : List Nat) (k : Nat) : Bool := (l.take k).any fun i => g.k i == g.k (nthN l k)
theorem fullL_mem {x i : Nat} : i ∈ fullL x ↔ i < 8 ∧ fullAt x i = true := by unfold fullL; simp
theorem fullL_lt {x : Nat} {j k : Nat} (hjk : j < k) (hk : k < (fullL x).length) : nthN (fullL x) j < nthN (fullL x) k := by
  have hp : (fullL x).Pairwise (· < ·) := (List.pairwise_lt_range (n := 8)).filter _
  have := List.pairwise_iff_getElem.1 hp j k (by omega) hk hjk
  rwa [nthN_eq, nthN_eq] at this
theorem distinct_no {g : Gp} {k : Nat} (hk : k < (fullL g.c).length) (h : metB g (fullL g.c) k = true) : distinctG g = false := by
  rw [← Bool.not_eq_true, distinctG_iff]
  intro hd
  unfold metB at h
  obtain ⟨i, hi, he⟩ := List.any_eq_true.1 h
  obtain ⟨j, hj, rfl⟩ := List.mem_iff_getElem.1 hi
  rw [List.length_take] at hj
  rw [List.getElem_take] at he
  rw [nthN_eq (by omega)] at he
  have h1 := fullL_mem.1 (nthN_mem hk)
  have h2 := fullL_mem.1 (nthN_mem (l := fullL g.c) (k := j) (by omega))
  exact hd _ h1.1 _ (fullL_lt (by omega) hk) h1.2 h2.2 (by simpa using (beq_iff_eq.1 he).symm)
theorem distinct_yes {g : Gp} (h : ∀ k, k < (fullL g.c).length → metB g (fullL g.c) k = false) : distinctG g = true := by
  rw [distinctG_iff]
  intro i hi j hj f1 f2 e
  obtain ⟨k, hk, h1⟩ := List.mem_iff_getElem.1 (fullL_mem.2 ⟨hi, f1⟩)
  obtain ⟨q, hq, h2⟩ := List.mem_iff_getElem.1 (fullL_mem.2 ⟨show j < 8 by omega, f2⟩)
  rw [nthN_eq hk] at h1
  rw [nthN_eq hq] at h2
  have hqk : q < k := by
    rcases Nat.lt_trichotomy q k with h | h | h
    · exact h
    · subst h; omega
    · have := fullL_lt h hq; omega
  have := h k hk
  unfold metB at this
  rw [← Bool.not_eq_true] at this
  apply this
  rw [List.any_eq_true]
  refine ⟨j, ?_, by rw [h1, e]; simp⟩
  rw [List.mem_iff_getElem]
  refine ⟨q, by rw [List.length_take]; omega, ?_⟩
  rw [List.getElem_take, nthN_eq hq]; exact h2
structure GChkI (g : Gp) (l : List Nat) (w : World) (k : Nat) (S : Nat → Prop) (W : World) : Prop where
  grp : W.heap[w.heap.size]? = some (.cells (gpA g) 70 (0, 0))
  ming : ¬ S w.heap.size
  res : Own1 ⟨w.heap.size + 1, 0, none⟩ (.int .i64 0) S W
  mp : MapI W (w.heap.size + 2) (metL g (l.take k))
  minm : ¬ S (w.heap.size + 2)
  var : Own1 ⟨w.heap.size + 3, 0, none⟩ (.map (some (w.heap.size + 2))) S W
  old : Old w.heap.size w S W
  no : ∀ j, j < k → metB g l j = false
theorem GChkI.stable (g : Gp) (l : List Nat) (w : World) (k : Nat) : Stable (GChkI g l w k) := fun S S' W W' i hf =>
  ⟨hf.heap' i.ming i.grp, hf.not (lt_of_heap i.grp) i.ming, Own1.stable _ _ _ _ _ _ i.res hf, i.mp.heap (hf.block _ i.mp.lt i.minm), hf.not i.mp.lt i.minm, Own1.stable _ _ _ _ _ _ i.var hf, Old.stable _ _ _ _ _ _ i.old hf, i.no⟩
def GChkX (g : Gp) (l : List Nat) (w : World) (c : Code) (k : Nat) (S : Nat → Prop) (W : World) : Prop := (c = .ret ∧ metB g l k = true) ∧ Own1 ⟨w.heap.size + 1, 0, none⟩ (.int .i64 200) S W ∧ Old w.heap.size w S W
theorem GChkX.stable (g : Gp) (l : List Nat) (w : World) (c : Code) (k : Nat) : Stable (GChkX g l w c k) := (Stable.pure _).and ((Own1.stable _ _).and (Old.stable _ _))
def gchkE (g : Gp) : Nat := if rightG g = true then 0 else 200
theorem gcheck_no (g : Gp) (w : World) (hg : GpOk g) (hr : rightW g.c = false) : Calls Try.prog 61 #[.agg (gpA g)] w fun e w' => e = .returned (.int .i64 200) ∧ Below w.heap.size w w' := by
  have C := fun w => check_any g.c w hg.c
  rw [hr] at C
  simp only [Bool.false_eq_true, if_false] at C
  obtain ⟨W, hW⟩ : ∃ W, W = (w.alloc (.cells (gpA g) 70)).alloc (.cells #[.int .i64 0] 34) := ⟨_, rfl⟩
  have hO := (Hs.nil w).new2 (gpA g) #[.int .i64 0] 70 34
  rw [← hW] at hO
  have c0 := gp_ctrl hO.rows.2.1
  have c1 := blk_cell (i := 0) hO.rows.1 rfl
  have f1 := blk_free 0 hO.rows.1
  have C'h := Lib.hid C
  have hO'h := Lib.hid hO
  clear C hO
  clear hr hg
  refine (callsIn_wide (n := 0)).1 ?_
  refine callsIn_of_wp_marks Try.func61 rfl trivial ?_
  simp only [Try.ntmps61, List.size_toArray, List.length_cons, List.length_nil, Nat.reduceAdd, Nat.reduceSub, Array.replicate_succ, Array.replicate_zero, List.push_toArray, List.append_toArray, List.nil_append, List.cons_append]
  refine wpIn_wide.2 ?_
  go_upto_region 1 with fail
  rw [← hW]
  clear hW
  go_wp2_with (first | (go_at_call 85; refine (C'h.out _).mono ?_; rintro e w2 ⟨rfl, hw2⟩; obtain rfl := hw2.symm))
  have hO2 := hO'h.out.put 0 rfl 0 (.int .i64 200)
  generalize World.setCell _ _ _ = W3 at hO2 ⊢
  have d := blk_cell (i := 0) hO2.rows.1 rfl
  refine post_marks (bs := []) (.inl rfl) List.nodup_nil (fun D hD => (by cases hD)) (v := .int .i64 200) (by simp [results, Try.results61, go_sem, d, shutAll]) ⟨rfl, hO2.old⟩
set_option maxHeartbeats 1000000 in
theorem gcheck_yes (g : Gp) (w : World) (hg : GpOk g) (hr : rightW g.c = true) : Calls Try.prog 61 #[.agg (gpA g)] w fun e w' => e = .returned (.int .i64 (if distinctG g = true then 0 else 200 : Nat)) ∧ Below w.heap.size w w' := by
  obtain ⟨z, hz⟩ : ∃ z : Nat, z = if distinctG g = true then 0 else 200 := ⟨_, rfl⟩
  rw [← hz]
  have C := fun w => check_any g.c w hg.c
  rw [hr] at C
  simp only [if_true] at C
  obtain ⟨l, hl⟩ : ∃ l, l = fullL g.c := ⟨_, rfl⟩
  have hset : setM g.c 0 = belowM g.c 128 := by unfold setM; rw [if_pos hr, if_pos rfl]
  have hlm : lanesOf (setM g.c 0) = l := by rw [hset, fullL_eq, hl]
  have hm8 : setM g.c 0 < 256 := by rw [hset]; exact belowM_lt' _ _
  have F := fun w => gfull_any g w hg
  generalize setM g.c 0 = m at *
  obtain ⟨W, hW⟩ : ∃ W, W = (w.alloc (.cells (gpA g) 70)).alloc (.cells #[.int .i64 0] 34) := ⟨_, rfl⟩
  have hO := (Hs.nil w).new2 (gpA g) #[.int .i64 0] 70 34
  rw [← hW] at hO
  have hzW : W.heap.size = w.heap.size + 2 := by rw [hW]; simp
  have c0 := gp_ctrl hO.rows.2.1
  have hyes : (∀ k, k < l.length → metB g l k = false) → distinctG g = true := fun h => distinct_yes (by rw [← hl]; exact h)
  have hno : ∀ k, k < l.length → metB g l k = true → distinctG g = false := fun k hk h => distinct_no (by rw [← hl]; exact hk) (by rw [← hl]; exact h)
  have hmem : ∀ k, k < l.length → nthN l k < 8 := fun k hk => (fullL_mem.1 (by rw [← hl]; exact nthN_mem hk)).1
  have hl8 : l.length ≤ 8 := by rw [← hlm]; exact length_lanesOf m
  have hmm := @run_makeMap Try.prog
  obtain ⟨V, hV⟩ : ∃ V, V = (W.alloc (.map #[] 0)).alloc (.cells #[.map (some (w.heap.size + 2))] 132) := ⟨_, rfl⟩
  have hbV : Below W.heap.size W V := by rw [hV]; exact ((Below.refl _ _).alloc (Nat.le_refl _) _).alloc (by simp) _
  have hzV : V.heap.size = w.heap.size + 4 := by rw [hV]; simp; omega
  have hOV := hO.next hbV
  have hmV : MapI V (w.heap.size + 2) [] := by
    rw [hV, ← hzW]
    exact (MapI.made W).heap (Below.heap_alloc _ _ _ (by simp))
  have hvV : V.heap[w.heap.size + 3]? = some (.cells #[.map (some (w.heap.size + 2))] 132 (0, 0)) := by
    rw [hV, show w.heap.size + 3 = W.heap.size + 1 by omega]; exact heap_alloc2_new W _ _
  have hz'h := Lib.hid hz
  have C'h := Lib.hid C
  have hO'h := Lib.hid hO
  have hyes'h := Lib.hid hyes
  have hno'h := Lib.hid hno
  have hmem'h := Lib.hid hmem
  have hbV'h := Lib.hid hbV
  have hOV'h := Lib.hid hOV
  have hmV'h := Lib.hid hmV
  have hvV'h := Lib.hid hvV
  have hlm'h := Lib.hid hlm
  have hm8'h := Lib.hid hm8
  have F'h := Lib.hid F
  have hl8'h := Lib.hid hl8
  have hl'h := Lib.hid hl
  have hr'h := Lib.hid hr
  have hg'h := Lib.hid hg
  have hset'h := Lib.hid hset
  clear hz C hO hyes hno hmem hbV hOV hmV hvV hlm hm8 F hl8 hl hr hg hset
  refine (callsIn_wide (n := 0)).1 ?_
  refine callsIn_of_wp_marks Try.func61 rfl trivial ?_
  simp only [Try.ntmps61, List.size_toArray, List.length_cons, List.length_nil, Nat.reduceAdd, Nat.reduceSub, Array.replicate_succ, Array.replicate_zero, List.push_toArray, List.append_toArray, List.nil_append, List.cons_append]
  refine wpIn_wide.2 ?_
  go_upto_region 1 with fail
  rw [← hW]
  clear hW
  have hV'h := Lib.hid hV
  clear hV
  go_upto_region 4 with (first | (go_at_call 85; refine (C'h.out _).mono ?_; rintro e w2 ⟨rfl, hw2⟩; obtain rfl := hw2.symm))
  simp only [Nat.add_assoc, Nat.reduceAdd]
  rw [← hV'h.out]
  clear c0 hmm hzW
  have hzV'h := Lib.hid hzV
  clear hzV
  go_wp2_with (first | (refine wpList_load_row rfl _ _ rfl w.heap.size rfl 70 (gpA g) (0, 0) _ hOV'h.out.rows.2.1 Try.underlying70 rfl infoGp ?_) | (refine wpList_build_agg rfl 134 #[(0, .tmp 10)] (by rfl) (gpA g) [(0, .agg (gpA g))] (by rfl) (built_ss g) ?_) | (go_at_call 86; refine (F'h.out _).mono ?_; rintro e w3 ⟨b, hbb, rfl, hb3, hmb⟩))
  have hzV := hzV'h.out
  have hO3 := hOV'h.out.next hb3
  have hbb : w.heap.size + 4 ≤ b := by omega
  have hbl : b < w3.heap.size := lt_of_heap hmb
  have hv3 := heap_below hb3 hvV'h.out (lt_of_heap hvV'h.out)
  have hI0 : GChkI g l w 0 (fun _ => False) w3 := by
    refine ⟨hO3.rows.2.1, fun h => h, ⟨blk_cell hO3.rows.1 rfl, blk_free 0 hO3.rows.1, fun h => h⟩, ?_, fun h => h, ⟨blk_cell hv3 rfl, blk_free 0 hv3, fun h => h⟩, ⟨hO3.old, Nat.le_refl _, fun b hb h => h⟩, fun j hj => absurd hj (by omega)⟩
    exact hmV'h.out.heap (hb3.block _ (by omega))
  have hit := geach_it m b hm8'h.out w3 hmb
  rw [hlm'h.out] at hit
  clear hv3 hO3 hzV
  have hI0'h := Lib.hid hI0
  have hit'h := Lib.hid hit
  have hbl'h := Lib.hid hbl
  have hb3'h := Lib.hid hb3
  have hmb'h := Lib.hid hmb
  have hbb'h := Lib.hid hbb
  clear hI0 hit hbl hb3 hmb hbb
  refine (wpIn_wide (n := 0)).1 ?_
  refine' wpIn_range rfl (fun h => by cases h) rfl trivial enters_geach hit'h.out (fun b hb => False.elim hb) (fun _ => rfl) (fun c hc => ⟨by rw [hc]; exact hbl'h.out, fun h => h⟩)
    (GChkI g l w) (GChkX g l w) (GChkI.stable g l w) (GChkX.stable g l w) hI0'h.out
    (AxOf _ (GChkI g l w)) (AxOf.stable (GChkI.stable g l w)) ?assign ?body ?done ?stop
  case assign =>
    intro l1 k S W hk hSl hr hSb hI
    rw [nthN_eq hk]
    clear hr
    gi_wp2
    exact ⟨⟨rfl, hI⟩, Kept.refl _ _⟩
  case body =>
    rintro l1 k S a W r hk hSl hlr hr hSb ⟨rfl, hI⟩
    have hn := hmem'h.out k hk
    have e0 : W.drew.cell? ⟨w.heap.size + 3, 0, none⟩ = some (.map (some (w.heap.size + 2))) := hI.var.cell
    have e1 : W.drew.cell? ⟨w.heap.size, 1 + nthN l k, none⟩ = some (.int .u64 (g.k (nthN l k))) := gp_key (W := W.drew) hI.grp hn
    have hk64 := hg'h.out.k (nthN l k)
    have hM : MapI W.drew (w.heap.size + 2) (metL g (l.take k)) := hI.mp
    have hlook := hM.look (g.k (nthN l k)) hk64
    rw [mget_metL] at hlook
    change (Instr.lookup 132 (.map (some (w.heap.size + 2))) (.int .u64 (g.k (nthN l k) : Int)) false).run Try.prog W.drew = .ok (.int .i64 (if metB g l k = true then 1 else 0)) W.drew at hlook
    have h0n : (0 : Int) ≤ (nthN l k : Int) := by omega
    have hn8 : (nthN l k : Int) < 8 := by omega
    refine wpIn_block ?_
    cases hmet : metB g l k with
    | true =>
      rw [hmet] at hlook
      simp only [if_true] at hlook
      have hI'h := Lib.hid hI
      have hM'h := Lib.hid hM
      have hk64'h := Lib.hid hk64
      have hmet'h := Lib.hid hmet
      have hr'h := Lib.hid hr
      have hSb'h := Lib.hid hSb
      have hSl'h := Lib.hid hSl
      have hlr'h := Lib.hid hlr
      have hn'h := Lib.hid hn
      have hk'h := Lib.hid hk
      clear hI hM hk64 hmet hr hSb hSl hlr hn hk
      gi_wp2
      refine wpIn_round_still_tail 6 (by kernel_rfl) (by kernel_rfl) (by kernel_rfl) (by rintro ⟨_, _, h⟩; exact h) ?_
      simp only [List.take_succ_cons, List.take_zero, List.drop_succ_cons, List.drop_zero]
      change wpStill _ _ W.drew (fun a' => wpList _ _ _ _ a' W.drew) _ _
      repeat still_step
      refine wpStill_nil ?_
      go_wp2
      have r1 : W.drew.cell? ⟨w.heap.size + 1, 0, none⟩ = some (.int .i64 0) := hI'h.out.res.cell
      have r2 : W.drew.frozen? ⟨w.heap.size + 1, 0, none⟩ = false := hI'h.out.res.free
      clear e0 e1 hlook
      have hWd : ∃ V, V = W.drew := ⟨_, rfl⟩
      obtain ⟨V1, hV1⟩ := hWd
      rw [← hV1] at r1 r2 ⊢
      have hV1'h := Lib.hid hV1
      clear hV1
      gi_wp2
      have hx : Own1 ⟨w.heap.size + 1, 0, none⟩ (.int .i64 200) S (V1.setCell ⟨w.heap.size + 1, 0, none⟩ (.int .i64 200)) := by rw [hV1'h.out]; exact hI'h.out.res.drew.set _
      have hbb := hbb'h.out
      have hold := hI'h.out.old
      refine ⟨?_, ⟨rfl, hmet'h.out⟩, hx, by rw [hV1'h.out]; exact hold.drew.set (p := ⟨w.heap.size + 1, 0, none⟩) (by simp) _⟩
      rw [hV1'h.out]
      refine (Kept.drew _ _).trans (Kept.setCell _ _ _ _ ?_)
      rintro (h | h)
      · simp at h; omega
      · exact hI'h.out.res.mine h
    | false =>
      rw [hmet] at hlook
      simp only [Bool.false_eq_true, if_false] at hlook
      obtain ⟨w6, hput, hM6, hg6⟩ := (show MapI W.drew.drew (w.heap.size + 2) (metL g (l.take k)) from hM).put (g.k (nthN l k)) 1 hk64 (by decide) (by rw [metL_length, List.length_take]; have := hl8'h.out; unfold maxLen; omega)
      have e2 : W.drew.drew.cell? ⟨w.heap.size + 3, 0, none⟩ = some (.map (some (w.heap.size + 2))) := hI.var.cell
      have e3 : W.drew.drew.cell? ⟨w.heap.size, 1 + nthN l k, none⟩ = some (.int .u64 (g.k (nthN l k))) := gp_key (W := W.drew) hI.grp hn
      have hI'h := Lib.hid hI
      have hM'h := Lib.hid hM
      have hk64'h := Lib.hid hk64
      have hmet'h := Lib.hid hmet
      have hr'h := Lib.hid hr
      have hSb'h := Lib.hid hSb
      have hSl'h := Lib.hid hSl
      have hlr'h := Lib.hid hlr
      have hn'h := Lib.hid hn
      have hk'h := Lib.hid hk
      have hM6'h := Lib.hid hM6
      have hg6'h := Lib.hid hg6
      clear hI hM hk64 hmet hr hSb hSl hlr hn hk hM6 hg6
      gi_wp2
      refine wpIn_round_still_tail 6 (by kernel_rfl) (by kernel_rfl) (by kernel_rfl) (by rintro ⟨_, _, h⟩; exact h) ?_
      simp only [List.take_succ_cons, List.take_zero, List.drop_succ_cons, List.drop_zero]
      change wpStill _ _ W.drew (fun a' => wpList _ _ _ _ a' W.drew) _ _
      repeat still_step
      refine wpStill_nil ?_
      go_wp2
      clear e0 e1 hlook
      gi_wp2
      refine wpIn_round_still_tail 5 (by kernel_rfl) (by kernel_rfl) (by kernel_rfl) (by rintro ⟨_, _, h⟩; exact h) ?_
      simp only [List.take_succ_cons, List.take_zero, List.drop_succ_cons, List.drop_zero]
      change wpStill _ _ W.drew.drew (fun a' => wpList _ _ _ _ a' W.drew.drew) _ _
      repeat still_step
      refine wpStill_nil ?_
      obtain ⟨V2, hV2⟩ : ∃ V, V = W.drew.drew := ⟨_, rfl⟩
      rw [← hV2] at e2 e3 hput ⊢
      have hV2'h := Lib.hid hV2
      clear hV2
      go_wp2
      have hI := hI'h.out
      have hg6 := hg6'h.out
      rw [← hV2'h.out] at hg6
      have hId : GChkI g l w k S W.drew.drew := (GChkI.stable g l w k _ _ _ _ (GChkI.stable g l w k _ _ _ _ hI (Foreign.drew W)) (Foreign.drew _))
      rw [← hV2'h.out] at hId
      have hWV : Kept (fun _ => True) W V2 := by rw [hV2'h.out]; exact (Kept.drew _ _).trans (Kept.drew _ _)
      have hkk : ∀ c, c < V2.heap.size → c ≠ w.heap.size + 2 → w6.heap[c]? = V2.heap[c]? := fun c hc hne => hg6.block c hc (fun e => by injection e with e; omega)
      have hbb := hbb'h.out
      have hbl := hbl'h.out
      refine ⟨(hWV.mono fun _ _ => trivial).trans (Kept.grown hg6 (fun q hq => ?_)), ⟨?_, hI.ming, hId.res.grown hg6 (fun e => by injection e with e; simp at e), ?_, hI.minm, hId.var.grown hg6 (fun e => by injection e with e; simp at e), hId.old.grown hg6 (fun q hq => by injection hq with hq; omega), ?_⟩⟩
      · injection hq with hq
        subst hq
        rintro (h | h)
        · omega
        · exact hI.minm h
      · exact (hkk _ (lt_of_heap hId.grp) (by omega)).trans hId.grp
      · have := hM6'h.out
        rw [List.take_succ_eq_append_getElem hk'h.out, nthN_eq hk'h.out, metL_snoc]
        exact this
      · intro j hj
        by_cases e : j = k
        · subst e; exact hmet'h.out
        · exact hI.no j (by omega)
  case done =>
    rintro D S W hD hSD hr hI hK
    have c1 := hI.res.cell
    have f1 := hI.res.free
    clear hr
    have hI'h := Lib.hid hI
    have hK'h := Lib.hid hK
    have hD'h := Lib.hid hD
    have hSD'h := Lib.hid hSD
    clear hI hK hD hSD
    go_wp2
    have hI := hI'h.out
    have hx := hI.res.set (.int .i64 0)
    have hold := hI.old.set (p := ⟨w.heap.size + 1, 0, none⟩) (by simp) (.int .i64 0)
    have hKs : (W.setCell ⟨w.heap.size + 1, 0, none⟩ (.int .i64 0)).heap[D]? = some (.deferred (some [])) := (Below.heap_setCell _ _ _ _ (by have := hI.res.lt; rintro e; have h1 := hK'h.out; have h2 := hI.res.cell; subst e; unfold World.cell? at h2; simp [h1] at h2)).trans hK'h.out
    generalize World.setCell _ _ _ = W9 at hx hold hKs ⊢
    have hne : D ≠ w.heap.size + 1 := fun e => hI.res.mine (by show S (w.heap.size + 1); rw [← e]; exact hSD'h.out)
    have d := (hx.put (D := D) (fun e => hne e.symm) (.deferred none)).cell
    refine post_mark (.inl rfl) hKs (v := .int .i64 0) (by simp [results, Try.results61, go_sem, d]) ⟨?_, below_putObj hold.below (by have := hD'h.out; have := hb3'h.out.size; have := hbb'h.out; have := hzV'h.out; omega) _⟩
    rw [hz'h.out, if_pos (hyes'h.out fun k hk => hI.no k hk)]; rfl
  case stop =>
    rintro D c k S W hD hSD hr hk ⟨⟨rfl, hmet⟩, hx, hold⟩ hK
    have hne : D ≠ w.heap.size + 1 := fun e => hx.mine (by show S (w.heap.size + 1); rw [← e]; exact hSD)
    have d := (hx.put (D := D) (fun e => hne e.symm) (.deferred none)).cell
    have hwD : w.heap.size ≤ D := by have := hb3'h.out.size; have := hbb'h.out; have := hzV'h.out; omega
    have hx'h := Lib.hid hx
    have hold'h := Lib.hid hold
    have hK'h := Lib.hid hK
    have hmet'h := Lib.hid hmet
    have hSD'h := Lib.hid hSD
    have hr'h := Lib.hid hr
    have hD'h := Lib.hid hD
    have hwD'h := Lib.hid hwD
    clear hx hold hK hmet hSD hr hD hwD
    gi_wp2
    refine post_mark (.inl rfl) hK'h.out (v := .int .i64 200) (by simp [results, Try.results61, go_sem, d]) ⟨?_, below_putObj hold'h.out.below hwD'h.out _⟩
    rw [hz'h.out, hno'h.out k hk hmet'h.out]; rfl
theorem gcheck_any (g : Gp) (w : World) (hg : GpOk g) : Calls Try.prog 61 #[.agg (gpA g)] w fun e w' => e = .returned (.int .i64 (gchkE g)) ∧ Below w.heap.size w w' := by
  unfold gchkE rightG
  cases hr : rightW g.c with
  | false => simpa using gcheck_no g w hg hr
  | true => simpa using gcheck_yes g w hg hr
end Go.Proofs.Ytoklgjlmjkhmbaa

/-
  Package group: the lanes that are looked at; Find.
-/
set_option linter.unusedSimpArgs false
set_option linter.unusedVariables false
set_option maxRecDepth 100000
namespace Go.Proofs.Ytoklgjlmjkhmbaa
open Go.RowKit

def looksE (g : Gp) (h : Nat) : Nat := if rightG g = true then (if h ≤ 127 then 0 else 2) else 200
def looksR (g : Gp) (h : Nat) : List Nat := if looksE g h = 0 then looksG g h else []
theorem ints_flat (l : List Nat) : (l.flatMap fun n : Nat => [Value.int .i64 (n : Int)]) = ints l := by
  unfold ints
  induction l with
  | nil => rfl
  | cons a r ih => simp only [List.flatMap_cons, List.map_cons, ih]; rfl
theorem rightG_word {g : Gp} (h : rightG g = true) : rightW g.c = true := by unfold rightG at h; simp at h; exact h.2
def IntRow (base : Nat) (l : List Nat) (z : Value) (w : World) (e : Ending) (w' : World) : Prop :=
  ∃ sp n cap, e = .returned (.tuple #[.slice sp n cap, z]) ∧ Below base w w' ∧ w'.ownsRow base 3 1 (.slice sp n cap) l.length (ints l)
theorem looks_any (g : Gp) (h : Nat) (w : World) (hg : GpOk g) (hh : h < 256) :
    Calls Try.prog 59 #[.agg (gpA g), .int .u8 h] w (IntRow w.heap.size (looksR g h) (.int .i64 (looksE g h)) w) := by
  have C := fun w => gcheck_any g w hg
  obtain ⟨W, hW⟩ : ∃ W, W = w.alloc (.cells (gpA g) 70) := ⟨_, rfl⟩
  have hO := (Hs.nil w).new (gpA g) 70
  rw [← hW] at hO
  unfold gchkE at C
  cases hr : rightG g with
  | false =>
    have e1 : looksE g h = 200 := by unfold looksE; rw [hr]; rfl
    have e2 : looksR g h = [] := by unfold looksR; rw [e1]; rfl
    rw [e1, e2]
    rw [hr] at C
    simp only [Bool.false_eq_true, if_false] at C
    have C'h := Lib.hid C
    have hO'h := Lib.hid hO
    have e1'h := Lib.hid e1
    have e2'h := Lib.hid e2
    have hr'h := Lib.hid hr
    have hg'h := Lib.hid hg
    clear C hO e1 e2 hr hg
    go_enter Try.func59, Try.ntmps59
    go_upto_region 1 with fail
    rw [← hW]
    clear hW
    go_wp2_with (first | (refine wpList_load_row rfl _ _ rfl w.heap.size rfl 70 (gpA g) (0, 0) _ hO'h.out.rows.1 Try.underlying70 rfl infoGp ?_) | (go_at_call 61; refine (C'h.out _).mono ?_; rintro e w2 ⟨rfl, hb2⟩))
    go_ret2
    exact ⟨none, 0, 0, rfl, below_next hO'h.out.old hb2, World.ownsRow_nil _ _ _ _⟩
  | true =>
    rw [hr] at C
    simp only [if_true] at C
    have M := fun w => match_any g.c h w hg.c hh
    have hrw := rightG_word hr
    by_cases h127 : h ≤ 127
    · have e1 : looksE g h = 0 := by unfold looksE; rw [hr, if_pos rfl, if_pos h127]
      have e2 : looksR g h = looksG g h := by unfold looksR; rw [e1]; rfl
      have e3 : matchM g.c h = equalM g.c h := by unfold matchM; rw [if_pos ⟨hrw, h127⟩]
      have e4 : matchE g.c h = 0 := by unfold matchE; rw [if_pos hrw, if_pos h127]
      rw [e1, e2]
      have e5 : lanesOf (equalM g.c h) = looksG g h := equalL_eq _ _
      simp only [e3, e4] at M
      have E := fun w => geach_any (equalM g.c h) w
      have D := fun b w => madeIany (equalM g.c h) b (equalM_lt' _ _) w
      simp only [e5, ints_flat] at D
      generalize equalM g.c h = m at *
      generalize looksG g h = l at *
      have C'h := Lib.hid C
      have hO'h := Lib.hid hO
      have e1'h := Lib.hid e1
      have e2'h := Lib.hid e2
      have hr'h := Lib.hid hr
      have hg'h := Lib.hid hg
      have M'h := Lib.hid M
      have E'h := Lib.hid E
      have D'h := Lib.hid D
      have e3'h := Lib.hid e3
      have e4'h := Lib.hid e4
      have e5'h := Lib.hid e5
      have hrw'h := Lib.hid hrw
      have h127'h := Lib.hid h127
      clear C hO e1 e2 hr hg M E D e3 e4 e5 hrw h127
      go_enter Try.func59, Try.ntmps59
      go_upto_region 1 with fail
      rw [← hW]
      clear hW
      go_wp2_with (first | (refine wpList_load_row rfl _ _ rfl w.heap.size rfl 70 (gpA g) (0, 0) _ hO'h.out.rows.1 Try.underlying70 rfl infoGp ?_) | (go_at_call 61; refine (C'h.out _).mono ?_; rintro e w2 ⟨rfl, hb2⟩; have hO2 := hO'h.out.next hb2; have c2 := gp_ctrl hO2.rows.1; have hO2'h := Lib.hid hO2; clear hO2 hb2) | (go_at_call 82; refine (M'h.out _).mono ?_; rintro e w3 ⟨rfl, hb3⟩; clear c2; have hO3 := hO2'h.out.next hb3; have hO3'h := Lib.hid hO3; clear hO3 hb3) | (go_at_call 63; refine (E'h.out _).mono ?_; rintro e w4 ⟨rfl, hw4⟩; obtain rfl := hw4.symm) | (go_at_call 83; refine (D'h.out _ _ (World.alloc_heap_new _ _)).mono ?_; rintro e w5 ⟨sp, n, cap, rfl, hb5, hrow⟩))
      go_ret2
      have hb := hO3'h.out.old
      have hs := hb.size
      refine ⟨sp, n, cap, rfl, (hb.alloc hs _).trans (hb5.mono (by simp; omega)), ownsRow_mono hrow (by simp; omega)⟩
    · have e1 : looksE g h = 2 := by unfold looksE; rw [hr, if_pos rfl, if_neg h127]
      have e2 : looksR g h = [] := by unfold looksR; rw [e1]; rfl
      have e4 : matchE g.c h = 2 := by unfold matchE; rw [if_pos hrw, if_neg h127]
      rw [e1, e2]
      simp only [e4] at M
      generalize matchM g.c h = m at *
      have C'h := Lib.hid C
      have hO'h := Lib.hid hO
      have e1'h := Lib.hid e1
      have e2'h := Lib.hid e2
      have hr'h := Lib.hid hr
      have hg'h := Lib.hid hg
      have M'h := Lib.hid M
      have e4'h := Lib.hid e4
      have hrw'h := Lib.hid hrw
      have h127'h := Lib.hid h127
      clear C hO e1 e2 hr hg M e4 hrw h127
      go_enter Try.func59, Try.ntmps59
      go_upto_region 1 with fail
      rw [← hW]
      clear hW
      go_wp2_with (first | (refine wpList_load_row rfl _ _ rfl w.heap.size rfl 70 (gpA g) (0, 0) _ hO'h.out.rows.1 Try.underlying70 rfl infoGp ?_) | (go_at_call 61; refine (C'h.out _).mono ?_; rintro e w2 ⟨rfl, hb2⟩; have hO2 := hO'h.out.next hb2; have c2 := gp_ctrl hO2.rows.1; have hO2'h := Lib.hid hO2; clear hO2 hb2) | (go_at_call 82; refine (M'h.out _).mono ?_; rintro e w3 ⟨rfl, hb3⟩; clear c2; have hO3 := hO2'h.out.next hb3; have hO3'h := Lib.hid hO3; clear hO3 hb3))
      go_ret2
      exact ⟨none, 0, 0, rfl, hO3'h.out.old, World.ownsRow_nil _ _ _ _⟩

theorem find1_any (g : Gp) (key n b p : Nat) (w : World) (hn : n < 8) (hb : w.heap[b]? = some (.cells (gpA g) 70 (0, 0))) (hp : w.cell? ⟨p, 0, none⟩ = some (.int .u64 key)) :
    Calls Try.prog 60 #[.int .i64 n, .pointer (some ⟨b, 0, none⟩), .pointer (some ⟨p, 0, none⟩)] w fun e w' => e = .returned (.bool (g.k n == key)) ∧ Below w.heap.size w w' := by
  have ck := gp_key hb hn
  have h0 : (0 : Int) ≤ (n : Int) := by omega
  have h8 : (n : Int) < 8 := by omega
  have e : (g.k n == key) = ((g.k n : Int) == (key : Int)) := by rw [Bool.eq_iff_iff]; simp; omega
  rw [e]
  have e'h := Lib.hid e
  have hb'h := Lib.hid hb
  clear e hb
  go_enter Try.func60, Try.ntmps60
  go_wp2
  go_quiet (fail)
  go_wp2
  go_ret
  exact ⟨rfl, below_drewN' _ _⟩
def findE (g : Gp) (key h : Nat) : Nat := if looksE g h = 0 then (if foundG g key h = true then 0 else 4) else looksE g h
def findL (g : Gp) (key h : Nat) : Nat := if findE g key h = 0 then laneG g key h else 0
def findN (g : Gp) (key h : Nat) : Nat := if findE g key h = 0 then placeG g key h + 1 else 0
theorem findIdx_hit {p : Nat → Bool} {l : List Nat} {k : Nat} (hk : k < l.length) (hno : ∀ j, j < k → p (nthN l j) = false) (h : p (nthN l k) = true) : l.findIdx p = k := by
  refine (List.findIdx_eq hk).2 ⟨by rw [nthN_eq hk]; exact h, fun j hj => ?_⟩
  rw [nthN_eq (by omega)]; exact hno j hj
theorem findIdx_miss {p : Nat → Bool} {l : List Nat} (hno : ∀ j, j < l.length → p (nthN l j) = false) : l.findIdx p = l.length := by
  rw [List.findIdx_eq_length]
  intro x hx
  obtain ⟨j, hj, rfl⟩ := List.mem_iff_getElem.1 hx
  rw [nthN_eq hj]; exact hno j hj
theorem looksG_lt {g : Gp} {h i : Nat} (hi : i ∈ looksG g h) : i < 8 := by unfold looksG at hi; simp at hi; exact hi.1
theorem find_any (g : Gp) (key h : Nat) (w : World) (hg : GpOk g) (hk : key < 2 ^ 64) (hh : h < 256) :
    Calls Try.prog 32 #[.agg (gpA g), .int .u64 key, .int .u8 h] w fun e w' => e = .returned (.tuple #[.int .i64 (findL g key h), .int .i64 (findN g key h), .int .i64 (findE g key h)]) ∧ Below w.heap.size w w' := by
  have L := fun w => looks_any g h w hg hh
  obtain ⟨W, hW⟩ : ∃ W, W = (w.alloc (.cells (gpA g) 70)).alloc (.cells #[.int .u64 key] 29) := ⟨_, rfl⟩
  have hO := (Hs.nil w).new2 (gpA g) #[.int .u64 key] 70 29
  rw [← hW] at hO
  by_cases h0 : looksE g h = 0
  · have e1 : looksR g h = looksG g h := by unfold looksR; rw [if_pos h0]
    rw [h0, e1] at L
    have hmf : ∀ (fn : Fn) (first cap : Array Value) (w : World), (Instr.makeFunc fn first cap).run Try.prog w = .ok (.func fn first cap) w := fun _ _ _ _ => rfl
    have hlt := fun i (hi : i ∈ looksG g h) => looksG_lt hi
    have hfE : findE g key h = if foundG g key h = true then 0 else 4 := by unfold findE; rw [if_pos h0]
    have hyes : ∀ k, k < (looksG g h).length → (∀ j, j < k → (g.k (nthN (looksG g h) j) == key) = false) → (g.k (nthN (looksG g h) k) == key) = true → findE g key h = 0 ∧ findN g key h = k + 1 ∧ findL g key h = nthN (looksG g h) k := fun k hk' hno hy => by
      have hp : placeG g key h = k := findIdx_hit hk' hno hy
      have e : findE g key h = 0 := by rw [hfE, if_pos]; unfold foundG; rw [hp]; simpa using hk'
      refine ⟨e, by unfold findN; rw [if_pos e, hp], by unfold findL laneG; rw [if_pos e, hp]⟩
    have hmiss : (∀ j, j < (looksG g h).length → (g.k (nthN (looksG g h) j) == key) = false) → findE g key h = 4 ∧ findN g key h = 0 ∧ findL g key h = 0 := fun hno => by
      have hp : placeG g key h = (looksG g h).length := findIdx_miss hno
      have e : findE g key h = 4 := by rw [hfE, if_neg]; unfold foundG; rw [hp]; simp
      refine ⟨e, by unfold findN; rw [if_neg (by rw [e]; decide)], by unfold findL; rw [if_neg (by rw [e]; decide)]⟩
    have hlen : (looksG g h).length ≤ 8 := Nat.le_trans (List.length_filter_le _ _) (by simp)
    generalize findE g key h = ze at *
    generalize findN g key h = zn at *
    generalize findL g key h = zl at *
    generalize looksG g h = l at *
    have L'h := Lib.hid L
    have hO'h := Lib.hid hO
    have hlt'h := Lib.hid hlt
    have hyes'h := Lib.hid hyes
    have hmiss'h := Lib.hid hmiss
    have hg'h := Lib.hid hg
    have hh'h := Lib.hid hh
    have hk'h := Lib.hid hk
    have h0'h := Lib.hid h0
    have e1'h := Lib.hid e1
    have hfE'h := Lib.hid hfE
    have hlen'h := Lib.hid hlen
    clear L hO hlt hyes hmiss hg hh hk h0 e1 hfE hlen
    go_enter Try.func32, Try.ntmps32
    go_upto_region 1 with fail
    rw [← hW]
    clear hW
    go_wp2_with (first | (refine wpList_load_row rfl _ _ rfl w.heap.size rfl 70 (gpA g) (0, 0) _ hO'h.out.rows.2.1 Try.underlying70 rfl infoGp ?_) | (go_at_call 59; refine (L'h.out _).mono ?_; rintro e w2 ⟨sp, n, cap, rfl, hb2, hrow⟩))
    obtain rfl := row_len' hrow
    have hO2 := hO'h.out.next hb2
    have hrw : ∀ j, j < l.length → ∃ rb ro, sp = some ⟨rb, ro, none⟩ ∧ w2.cell? ⟨rb, ro + j, none⟩ = some (.int .i64 (nthN l j)) := fun j hj => by
      obtain ⟨b, off, e, hc⟩ := (Sl.of_row hrow (by have := hlen'h.out; unfold maxLen; omega)).some' (by omega)
      exact ⟨b, off, e, hc j _ (ints_at hj)⟩
    clear hb2 hrow
    have hO2'h := Lib.hid hO2
    have hrw'h := Lib.hid hrw
    clear hO2 hrw
    go_loopg [26] l.length (fun q i wr => ∃ k : Nat, k + q = l.length ∧ i = .int .i64 k ∧ (∀ j, j < k → (g.k (nthN l j) == key) = false) ∧ Below w2.heap.size w2 wr)
    case atStart => exact ⟨0, by omega, rfl, fun j hj => absurd hj (by omega), Below.refl _ _⟩
    case round =>
      obtain ⟨k, hq, rfl, hno, hB⟩ := hrel
      by_cases hlt : k < l.length
      · have hi1 : (k : Int) < (l.length : Int) := by omega
        obtain ⟨rb, ro, rfl, hc⟩ := hrw'h.out k hlt
        have c1 : wr.cell? ⟨rb, ro + k, none⟩ = some (.int .i64 (nthN l k)) := (hB.cell (lt_of_cell hc)).trans hc
        have hOr := hO2'h.out.next hB
        have F := find1_any g key (nthN l k) w.heap.size (w.heap.size + 1) wr (hlt'h.out _ (nthN_mem hlt)) hOr.rows.2.1 (blk_cell hOr.rows.1 rfl)
        cases hy : g.k (nthN l k) == key with
        | true =>
          obtain ⟨z1, z2, z3⟩ := hyes'h.out k hlt hno hy
          rw [hy] at F
          have hl9 := hlen'h.out
          have hk9 : k < 9 := by omega
          clear hc hl9
          have F'h := Lib.hid F
          have hOr'h := Lib.hid hOr
          have hno'h := Lib.hid hno
          have hq'h := Lib.hid hq
          have hlt'h := Lib.hid hlt
          have hB'h := Lib.hid hB
          have hy'h := Lib.hid hy
          have z1'h := Lib.hid z1
          have z2'h := Lib.hid z2
          have z3'h := Lib.hid z3
          clear F hOr hno hq hlt hB hy z1 z2 z3
          go_wp2_with (first | (refine F'h.out.mono ?_; rintro e w5 ⟨rfl, hb5⟩))
          refine bodyPost_ret (v := .tuple #[.int .i64 (nthN l k), .int .i64 (k + 1), .int .i64 0]) (by simp [results, Try.results32, go_sem]) rfl ⟨by rw [z1'h.out, z2'h.out, z3'h.out]; rfl, below_next hOr'h.out.old hb5⟩
        | false =>
          rw [hy] at F
          have hk9 : k < 9 := by have := hlen'h.out; omega
          clear hc
          have F'h := Lib.hid F
          have hOr'h := Lib.hid hOr
          have hno'h := Lib.hid hno
          have hq'h := Lib.hid hq
          have hlt'h := Lib.hid hlt
          have hB'h := Lib.hid hB
          have hy'h := Lib.hid hy
          clear F hOr hno hq hlt hB hy
          go_wp2_with (first | (refine F'h.out.mono ?_; rintro e w5 ⟨rfl, hb5⟩))
          go_roundg (gk - 1)
          case measure => have := hq'h.out; omega
          case rel => exact ⟨k + 1, by have := hq'h.out; omega, by go_num, fun j hj => by
            by_cases e : j = k
            · subst e; exact hy'h.out
            · exact hno'h.out j (by omega), below_next hB'h.out hb5⟩
      · have hkk : k = l.length := by omega
        obtain ⟨z1, z2, z3⟩ := hmiss'h.out (by rw [← hkk]; exact hno)
        subst hkk
        have hOr := hO2'h.out.next hB
        have hno'h := Lib.hid hno
        have hq'h := Lib.hid hq
        have hB'h := Lib.hid hB
        have z1'h := Lib.hid z1
        have z2'h := Lib.hid z2
        have z3'h := Lib.hid z3
        have hOr'h := Lib.hid hOr
        clear hno hq hB z1 z2 z3 hOr
        clear hlt
        go_wp2
        refine bodyPost_ret (v := .tuple #[.int .i64 0, .int .i64 0, .int .i64 4]) (by simp [results, Try.results32, go_sem]) rfl ⟨by rw [z1'h.out, z2'h.out, z3'h.out]; rfl, hOr'h.out.old⟩
  · have e1 : looksR g h = [] := by unfold looksR; rw [if_neg h0]
    have z1 : findE g key h = looksE g h := by unfold findE; rw [if_neg h0]
    have z2 : findN g key h = 0 := by unfold findN; rw [z1, if_neg h0]
    have z3 : findL g key h = 0 := by unfold findL; rw [z1, if_neg h0]
    rw [z1, z2, z3]
    rw [e1] at L
    have hz : ((looksE g h : Int) != 0) = true := by simp; omega
    generalize looksE g h = z at *
    have L'h := Lib.hid L
    have hO'h := Lib.hid hO
    have z1'h := Lib.hid z1
    have z2'h := Lib.hid z2
    have z3'h := Lib.hid z3
    have e1'h := Lib.hid e1
    have hg'h := Lib.hid hg
    have hk'h := Lib.hid hk
    have hh'h := Lib.hid hh
    have h0'h := Lib.hid h0
    clear L hO z1 z2 z3 e1 hg hk hh h0
    go_enter Try.func32, Try.ntmps32
    go_upto_region 1 with fail
    rw [← hW]
    clear hW
    go_wp2_with (first | (refine wpList_load_row rfl _ _ rfl w.heap.size rfl 70 (gpA g) (0, 0) _ hO'h.out.rows.2.1 Try.underlying70 rfl infoGp ?_) | (go_at_call 59; refine (L'h.out _).mono ?_; rintro e w2 ⟨sp, n, cap, rfl, hb2, hrow⟩))
    refine bodyPost_ret (v := .tuple #[.int .i64 0, .int .i64 0, .int .i64 z]) (by simp [results, Try.results32, go_sem]) rfl ⟨rfl, (hO'h.out.next hb2).old⟩
end Go.Proofs.Ytoklgjlmjkhmbaa

/-
  Package group: what full slots are; how many slots are free; the same groups.
-/
set_option linter.unusedSimpArgs false
set_option linter.unusedVariables false
set_option maxRecDepth 100000
namespace Go.Proofs.Ytoklgjlmjkhmbaa
open Go.RowKit

theorem wp_region_heldF {P : Program} {id : Nat} {Q : Exit → Act → World → Prop} {a : Act} {w : World} {ol : List Oper} (S : World → Prop) (L : Nat) (hm : P.follows .mixedOrders = true)
    (h : wpAnyF P .any ol.toArray Q S L ol.toArray.size (Array.replicate ol.toArray.size false) a w.drew) :
    (Code.region id ol.toArray true).wp P Q a w := wp_region_any hm (wpAny_of_heldF _ _ _ _ h)
theorem run_load_agg {P : Program} {e : Operand → Value} {o : Oper} {w : World} {ty : TypeId} {x : Operand} (ho : o.op = .load ty x) {g : Nat} (hx : e x = .pointer (some ⟨g, 0, none⟩)) {t : TypeId} {cs : Array Value} {fr : Nat × Nat} {d : TypeDesc}
    (hg : w.heap[g]? = some (.cells cs t fr)) (hu : P.underlying ty = some d) (hd : (match d with | .struct _ | .array _ _ => true | _ => false) = true) (hi : (P.info? ty).map (·.size) = some cs.size) : (execOp e o).run P w = .ok (.value (.agg cs)) w := by
  unfold execOp
  simp only [ho, hx, Instr.loadAt, Instr.sureAddr, Sem.run_bind, Sem.run_pure, Result.andThen_ok, run_loadVar_row w g t ty cs fr d hg hu hd hi]
def sls (l : List Sl3) : List Value := l.flatMap slL
def liveR (g : Gp) : List Sl3 := if rightG g = true then liveG g else []
end Go.Proofs.Ytoklgjlmjkhmbaa

/-
  Package group: how many slots are empty, and deleted.
-/
set_option linter.unusedSimpArgs false
set_option linter.unusedVariables false
set_option maxRecDepth 100000
namespace Go.Proofs.Ytoklgjlmjkhmbaa
open Go.RowKit

def cntA (n0 n1 k : Nat) : Array Value := #[.int .i64 ((if k = 0 then 0 else n0 : Nat) : Int), .int .i64 ((if k = 2 then n1 else 0 : Nat) : Int)]
def cntR (n0 k j : Nat) : Array Value := #[.int .i64 ((if k = 0 then j else n0 : Nat) : Int), .int .i64 ((if k = 0 then 0 else j : Nat) : Int)]
theorem cntR_at (n0 k j : Nat) (hk : k < 2) : (cntR n0 k j)[k]? = some (.int .i64 j) := by
  obtain rfl | rfl : k = 0 ∨ k = 1 := by omega
  · rfl
  · rfl
theorem cntR_set (n0 k j : Nat) (hk : k < 2) : (cntR n0 k j).setIfInBounds k (.int .i64 ((j + 1 : Nat) : Int)) = cntR n0 k (j + 1) := by
  obtain rfl | rfl : k = 0 ∨ k = 1 := by omega
  · rfl
  · rfl
def gnoXl (_c : Code) (_k : Nat) (_S : Nat → Prop) (_W : World) : Prop := False
theorem gnoXl_stable (c : Code) (k : Nat) : Stable (gnoXl c k) := fun _ _ _ _ h _ => h
structure CntM (n0 n1 M k : Nat) (w : World) (bs : List Nat) (W : World) : Prop where
  many : W.heap[M]? = some (.cells (cntA n0 n1 k) 106 (0, 0))
  nd : bs.Nodup
  marks : ∀ D ∈ bs, w.heap.size ≤ D ∧ W.heap[D]? = some (.deferred (some []))
  old : Below w.heap.size w W
  low : w.heap.size ≤ M
structure CntR (n0 M k I : Nat) (w : World) (bs : List Nat) (j : Nat) (S : Nat → Prop) (W : World) : Prop where
  many : W.heap[M]? = some (.cells (cntR n0 k j) 106 (0, 0))
  minm : ¬ S M
  box : Own1 ⟨I, 0, none⟩ (.int .i64 k) S W
  marks : ∀ D ∈ bs, w.heap.size ≤ D ∧ W.heap[D]? = some (.deferred (some [])) ∧ ¬ S D
  nd : bs.Nodup
  old : Old w.heap.size w S W
  low : w.heap.size ≤ M ∧ M ≠ I
theorem CntR.stable (n0 M k I : Nat) (w : World) (bs : List Nat) (j : Nat) : Stable (CntR n0 M k I w bs j) := fun S S' W W' i f =>
  ⟨f.heap' i.minm i.many, f.not (lt_of_heap i.many) i.minm, Own1.stable _ _ _ _ _ _ i.box f, fun D hD => ⟨(i.marks D hD).1, f.heap' (i.marks D hD).2.2 (i.marks D hD).2.1, f.not (lt_of_heap (i.marks D hD).2.1) (i.marks D hD).2.2⟩, i.nd, Old.stable _ _ _ _ _ _ i.old f, i.low⟩
def freeN (g : Gp) (k : Nat) : Nat := if rightG g = true then (if k = 0 then emptyN g else deadN g) else 0
theorem gfree_any (g : Gp) (w : World) (hg : GpOk g) : Calls Try.prog 34 #[.agg (gpA g)] w fun e w' => e = .returned (.tuple #[.int .i64 (freeN g 0), .int .i64 (freeN g 1)]) ∧ Below w.heap.size w w' := by
  have C := fun w => gcheck_any g w hg
  unfold gchkE at C
  obtain ⟨W, hW⟩ : ∃ W, W = w.alloc (.cells (gpA g) 70) := ⟨_, rfl⟩
  have hO := (Hs.nil w).new (gpA g) 70
  rw [← hW] at hO
  cases hr : rightG g with
  | false =>
    have e1 : ∀ k, freeN g k = 0 := fun k => by unfold freeN; rw [hr]; rfl
    rw [e1, e1]
    rw [hr] at C
    simp only [Bool.false_eq_true, if_false] at C
    have C'h := Lib.hid C
    have hO'h := Lib.hid hO
    have e1'h := Lib.hid e1
    have hr'h := Lib.hid hr
    have hg'h := Lib.hid hg
    clear C hO e1 hr hg
    refine (callsIn_wide (n := 0)).1 ?_
    refine callsIn_of_wp_marks Try.func34 rfl trivial ?_
    simp only [Try.ntmps34, List.size_toArray, List.length_cons, List.length_nil, Nat.reduceAdd, Nat.reduceSub, Array.replicate_succ, Array.replicate_zero, List.push_toArray, List.append_toArray, List.nil_append, List.cons_append]
    refine wpIn_wide.2 ?_
    go_upto_region 1 with fail
    rw [← hW]
    clear hW
    go_wp2_with (first | (refine wpList_load_row rfl _ _ rfl w.heap.size rfl 70 (gpA g) (0, 0) _ hO'h.out.rows.1 Try.underlying70 rfl infoGp ?_) | (go_at_call 61; refine (C'h.out _).mono ?_; rintro e w2 ⟨rfl, hb2⟩))
    exact post_marks (bs := []) (.inl rfl) List.nodup_nil (fun D hD => (by cases hD)) (v := .tuple #[.int .i64 0, .int .i64 0]) (by simp [results, Try.results34, go_sem, shutAll]) ⟨rfl, below_next hO'h.out.old hb2⟩
  | true =>
    have hrw := rightG_word hr
    have e0 : freeN g 0 = (lanesOf (setM g.c 1)).length := by
      have : setM g.c 1 = equalM g.c 128 := by unfold setM; rw [if_pos hrw]; rfl
      rw [this, equalL_eq]; unfold freeN; rw [hr]; rfl
    have e1 : freeN g 1 = (lanesOf (setM g.c 2)).length := by
      have : setM g.c 2 = equalM g.c 254 := by unfold setM; rw [if_pos hrw]; rfl
      rw [this, equalL_eq]; unfold freeN; rw [hr]; rfl
    have hm1 : setM g.c 1 < 256 := by unfold setM; rw [if_pos hrw]; exact equalM_lt' _ _
    have hm2 : setM g.c 2 < 256 := by unfold setM; rw [if_pos hrw]; exact equalM_lt' _ _
    have S := fun w => sets_any g.c w hg.c
    have E := fun m w => geach_any m w
    have L1 := length_lanesOf (setM g.c 1)
    have L2 := length_lanesOf (setM g.c 2)
    rw [e0, e1]
    rw [hr] at C
    simp only [if_true] at C
    generalize setM g.c 0 = m0 at *
    generalize setM g.c 1 = m1 at *
    generalize setM g.c 2 = m2 at *
    generalize h0 : (lanesOf m1).length = n0 at *
    generalize h1 : (lanesOf m2).length = n1 at *
    have C'h := Lib.hid C
    have hO'h := Lib.hid hO
    have e0'h := Lib.hid e0
    have e1'h := Lib.hid e1
    have hr'h := Lib.hid hr
    have hg'h := Lib.hid hg
    have hrw'h := Lib.hid hrw
    have hm1'h := Lib.hid hm1
    have hm2'h := Lib.hid hm2
    have S'h := Lib.hid S
    have E'h := Lib.hid E
    have h0'h := Lib.hid h0
    have h1'h := Lib.hid h1
    have L1'h := Lib.hid L1
    have L2'h := Lib.hid L2
    clear C hO e0 e1 hr hg hrw hm1 hm2 S E h0 h1 L1 L2
    refine (callsIn_wide (n := 0)).1 ?_
    refine callsIn_of_wp_marks Try.func34 rfl trivial ?_
    simp only [Try.ntmps34, List.size_toArray, List.length_cons, List.length_nil, Nat.reduceAdd, Nat.reduceSub, Array.replicate_succ, Array.replicate_zero, List.push_toArray, List.append_toArray, List.nil_append, List.cons_append]
    refine wpIn_wide.2 ?_
    go_upto_region 1 with fail
    rw [← hW]
    clear hW
    go_upto_region 4 with (first | (refine wpList_load_row rfl _ _ rfl w.heap.size rfl 70 (gpA g) (0, 0) _ hO'h.out.rows.1 Try.underlying70 rfl infoGp ?_) | (go_at_call 61; refine (C'h.out _).mono ?_; rintro e w2 ⟨rfl, hb2⟩; have hO2 := hO'h.out.next hb2; have c2 := gp_ctrl hO2.rows.1; have hO2'h := Lib.hid hO2; clear hO2 hb2) | (go_at_call 62; refine (S'h.out _).mono ?_; rintro e w3 ⟨rfl, hb3⟩; clear c2; have hO3 := hO2'h.out.next hb3; have hO3'h := Lib.hid hO3; clear hO3 hb3))
    have hM0 : CntM n0 n1 w3.heap.size 0 w [] (w3.alloc (.cells (cntA n0 n1 0) 106)) :=
      ⟨World.alloc_heap_new _ _, List.nodup_nil, fun D hD => (by cases hD), hO3'h.out.old.alloc hO3'h.out.old.size _, hO3'h.out.old.size⟩
    have hM0'h := Lib.hid hM0
    clear hM0
    go_wp2
    change Code.wp _ _ _ _ (w3.alloc (.cells (cntA n0 n1 0) 106))
    generalize w3.alloc _ = W4 at *
    refine wp_loop_ghost_k (fun q a' W => ∃ (k : Nat) (bs : List Nat) (u8 u9 u24 u25 u26 u27 u28 u35 : Value), a' = { tmps := #[.agg (gpA g), .pointer (some ⟨w.heap.size, 0, none⟩), .int .i64 0, .int .i64 0, .int .u8 m0, .int .u8 m1, .int .u8 m2, .pointer (some ⟨w3.heap.size, 0, none⟩), u8, u9, .agg (gpA g), .int .i64 0, .bool false, .tuple #[.int .u8 m0, .int .u8 m1, .int .u8 m2], .pointer (some ⟨w.heap.size, 0, none⟩), .int .u64 g.c, .tuple #[.int .u8 m0, .int .u8 m1, .int .u8 m2], .int .u8 m0, .int .u8 m1, .int .u8 m2, .int .u8 m1, .int .u8 m2, .agg #[.int .u8 m1, .int .u8 m2], .int .i64 k, u24, u25, u26, u27, u28, undef, undef, undef, undef, undef, undef, u35, undef, undef, undef, undef], defers := marksOf bs } ∧ k + q = 2 ∧ CntM n0 n1 w3.heap.size k w bs W) 2 ?_ ?_
    · exact ⟨0, [], _, _, _, _, _, _, _, _, rfl, rfl, hM0'h.out⟩
    · rintro q a' W ⟨k, bs, u8, u9, u24, u25, u26, u27, u28, u35, rfl, hkq, hM⟩ J K hJ hKK
      by_cases hlt : k < 2
      · obtain ⟨n, hn⟩ : ∃ n, n = if k = 0 then n0 else n1 := ⟨_, rfl⟩
        obtain ⟨m, hm⟩ : ∃ m, m = if k = 0 then m1 else m2 := ⟨_, rfl⟩
        have hmn : m < 256 ∧ (lanesOf m).length = n ∧ n ≤ 8 := by
          rw [hn, hm]
          split
          · exact ⟨hm1'h.out, h0'h.out, by have := L1'h.out; have := h0'h.out; omega⟩
          · exact ⟨hm2'h.out, h1'h.out, by have := L2'h.out; have := h1'h.out; omega⟩
        have hcn : cntA n0 n1 (k + 1) = cntR n0 k n := by
          rw [hn]
          obtain rfl | rfl : k = 0 ∨ k = 1 := by omega
          · rfl
          · rfl
        have hc0 : cntA n0 n1 k = cntR n0 k 0 := by
          obtain rfl | rfl : k = 0 ∨ k = 1 := by omega
          · rfl
          · rfl
        obtain ⟨W1, hW1⟩ : ∃ W1, W1 = (W.alloc (.cells #[.int .i64 k] 3)).alloc (.cells #[.int .u8 m] 31) := ⟨_, rfl⟩
        have hb1 : Below W.heap.size W W1 := by rw [hW1]; exact ((Below.refl _ _).alloc (Nat.le_refl _) _).alloc (by simp) _
        have hz1 : W1.heap.size = W.heap.size + 2 := by rw [hW1]; simp
        have e1 : W1.heap[W.heap.size]? = some (.cells #[.int .i64 k] 3 (0, 0)) := by rw [hW1]; exact (Below.heap_alloc _ _ _ (by simp)).trans (World.alloc_heap_new _ _)
        have e2 : W1.heap[W.heap.size + 1]? = some (.cells #[.int .u8 m] 31 (0, 0)) := by rw [hW1]; exact heap_alloc2_new W _ _
        have hR0 : CntR n0 w3.heap.size k W.heap.size w bs 0 (fun _ => False) W1 :=
          ⟨by rw [← hc0]; exact heap_below hb1 hM.many (lt_of_heap hM.many), fun h => h, ⟨blk_cell e1 rfl, blk_free 0 e1, fun h => h⟩, fun D hD => ⟨(hM.marks D hD).1, heap_below hb1 (hM.marks D hD).2 (lt_of_heap (hM.marks D hD).2), fun h => h⟩, hM.nd,
            ⟨hM.old.trans (hb1.mono (hM.old.size)), Nat.le_refl _, fun b hb h => h⟩, hM.low, by have := lt_of_heap hM.many; omega⟩
        have hix : ∀ w : World, (Instr.index 107 (.agg #[.int .u8 m1, .int .u8 m2]) (.int .i64 k)).run Try.prog w = .ok (.int .u8 m) w := fun w => by
          rw [hm]
          obtain rfl | rfl : k = 0 ∨ k = 1 := by omega
          · kernel_rfl
          · kernel_rfl
        have hwW : w.heap.size ≤ W.heap.size := hM.old.size
        have hk2 : (k : Int) < 2 := by omega
        clear hc0
        have hkq'h := Lib.hid hkq
        have hlt'h := Lib.hid hlt
        have hmn'h := Lib.hid hmn
        have hcn'h := Lib.hid hcn
        have hb1'h := Lib.hid hb1
        have hz1'h := Lib.hid hz1
        have e1'h := Lib.hid e1
        have e2'h := Lib.hid e2
        have hR0'h := Lib.hid hR0
        have hn'h := Lib.hid hn
        have hm'h := Lib.hid hm
        have hwW'h := Lib.hid hwW
        have hM'h := Lib.hid hM
        clear hkq hlt hmn hcn hb1 hz1 e1 e2 hR0 hn hm hwW hM
        go_wp2_with (first | (go_at_call 63; refine (E'h.out _ _).mono ?_; rintro e w5 ⟨rfl, hw5⟩; obtain rfl := hw5.symm))
        rw [← hW1]
        clear hW1 hix
        obtain ⟨hm256, hml, hn8⟩ := hmn'h.out
        have hit := geach_it m (W.heap.size + 1) hm256 W1 e2'h.out
        have hit'h := Lib.hid hit
        clear hit
        refine (wpIn_wide (n := 0)).1 ?_
        refine' wpIn_range rfl (fun h => by cases h) rfl trivial enters_geach hit'h.out (fun b hb => False.elim hb) (fun _ => rfl) (fun c hc => ⟨by have := hz1'h.out; omega, fun h => h⟩)
          (CntR n0 w3.heap.size k W.heap.size w bs) gnoXl (CntR.stable _ _ _ _ _ _) gnoXl_stable hR0'h.out
          (AxOf _ (CntR n0 w3.heap.size k W.heap.size w bs)) (AxOf.stable (CntR.stable _ _ _ _ _ _)) ?assign ?body ?done (fun _ _ _ _ _ _ _ _ _ h _ => h.elim)
        case assign =>
          intro l1 j S W2 hj hSl hr hSb hI
          rw [nthN_eq hj]
          clear hr
          gi_wp2
          exact ⟨⟨rfl, hI⟩, Kept.refl _ _⟩
        case body =>
          rintro l1 j S a W2 r hj hSl hlr hr hSb ⟨rfl, hI⟩
          have c1 := hI.box.cell
          have c2 : W2.cell? ⟨w3.heap.size, k, none⟩ = some (.int .i64 j) := blk_cell hI.many (cntR_at n0 k j hlt'h.out)
          have f2 : W2.frozen? ⟨w3.heap.size, k, none⟩ = false := blk_free k hI.many
          have hj8 : j < 8 := by omega
          have h0k : (0 : Int) ≤ (k : Int) := by omega
          clear hr hlr
          have hI'h := Lib.hid hI
          have hSb'h := Lib.hid hSb
          have hSl'h := Lib.hid hSl
          have hj'h := Lib.hid hj
          have hm256'h := Lib.hid hm256
          have hml'h := Lib.hid hml
          clear hI hSb hSl hj hm256 hml
          gi_wp2
          have hI := hI'h.out
          have hlow := hI.low
          have hset : (W2.setCell ⟨w3.heap.size, k, none⟩ (.int .i64 ((j + 1 : Nat) : Int))).heap[w3.heap.size]? = some (.cells (cntR n0 k (j + 1)) 106 (0, 0)) := by
            rw [← cntR_set n0 k j hlt'h.out]; exact blk_set (i := k) _ hI.many
          have hoth : ∀ b, b ≠ w3.heap.size → (W2.setCell ⟨w3.heap.size, k, none⟩ (.int .i64 ((j + 1 : Nat) : Int))).heap[b]? = W2.heap[b]? := fun b hb => Below.heap_setCell _ _ _ _ hb
          have hwW := hwW'h.out
          have hM3 := lt_of_heap hM'h.out.many
          rw [show ((j : Int) + 1) = ((j + 1 : Nat) : Int) by omega]
          refine ⟨Kept.setCell _ _ _ _ ?_, ⟨hset, hI.minm, ⟨cell_of_heap (W := W2) (hoth _ (fun e => hlow.2 e.symm)) hI.box.cell, (World.frozen?_of_block (w := W2) (hoth _ (fun e => hlow.2 e.symm))).trans hI.box.free, hI.box.mine⟩, fun D hD => ⟨(hI.marks D hD).1, (hoth D (fun e => ?_)).trans (hI.marks D hD).2.1, (hI.marks D hD).2.2⟩, hI.nd, hI.old.set (p := ⟨w3.heap.size, k, none⟩) hlow.1 _, hlow⟩⟩
          · rintro (h | h)
            · simp at h; omega
            · exact hI.minm h
          · have := (hI.marks D hD).2.1
            rw [e, hI.many] at this; cases this
        case done =>
          rintro D S W3 hD hSD hr hI hK3
          rw [hml] at hI
          have hMn : CntM n0 n1 w3.heap.size (k + 1) w (D :: bs) W3 := by
            refine ⟨by rw [hcn'h.out]; exact hI.many, List.nodup_cons.2 ⟨fun hm => (hI.marks D hm).2.2 hSD, hI.nd⟩, fun D' hD' => ?_, hI.old.below, hI.low.1⟩
            rcases List.mem_cons.1 hD' with rfl | hD'
            · exact ⟨by have := hz1'h.out; have := hwW'h.out; omega, hK3⟩
            · exact ⟨(hI.marks D' hD').1, (hI.marks D' hD').2.1⟩
          clear hr hI hK3
          have hk3 : k < 2 := hlt'h.out
          have hMn'h := Lib.hid hMn
          have hm256'h := Lib.hid hm256
          have hml'h := Lib.hid hml
          have hn8'h := Lib.hid hn8
          clear hMn hm256 hml hn8
          go_wp2
          exact Handed.intro (q - 1) (by have := hkq'h.out; omega) (hJ _ _ _ ⟨k + 1, D :: bs, _, _, _, _, _, _, _, _, rfl, by have := hkq'h.out; omega, hMn'h.out⟩)
      · have hkk : k = 2 := by omega
        subst hkk
        have d0 : W.cell? ⟨w3.heap.size, 0, none⟩ = some (.int .i64 n0) := blk_cell hM.many rfl
        have d1 : W.cell? ⟨w3.heap.size, 1, none⟩ = some (.int .i64 n1) := blk_cell hM.many rfl
        have hM'h := Lib.hid hM
        clear hM
        go_wp2
        go_quiet (fail)
        have hM := hM'h.out
        go_wp2
        refine post_marks (.inl rfl) hM.nd (fun D hD => (hM.marks D hD).2) (v := .tuple #[.int .i64 n0, .int .i64 n1]) (by simp [results, Try.results34, go_sem]) ⟨rfl, below_shutAll (hM.old.trans (below_drewN' _ _)) (fun D hD => (hM.marks D hD).1)⟩
end Go.Proofs.Ytoklgjlmjkhmbaa

