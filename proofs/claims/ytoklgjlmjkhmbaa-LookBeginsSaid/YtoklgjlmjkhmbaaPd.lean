/-
  Several texts of mine in one: Look LookB LookC LookD.
-/
import Derived.Test.YtoklgjlmjkhmbaaPc
import Derived.Test.YtoklgjlmjkhmbaaPa
import Derived.Test.YtoklgjlmjkhmbaaPb
import Derived.StillTailTactics
import Derived.Deep.RegionHeld3
import Derived.Laws.StructEq
import Derived.BigQuiet
import Derived.Deep.QuietTactic
/-
  Package look: who looks for a key.
-/
set_option linter.unusedSimpArgs false
set_option linter.unusedVariables false
set_option maxRecDepth 100000
namespace Go.Proofs.Ytoklgjlmjkhmbaa
open Go.RowKit

section
variable {P : Program}
theorem wpStill_load_row {ops : Array Oper} {rest : List Oper} {o : Oper} {a : Act} {w : World} {Q : Act → Prop} (hgd : o.guard = none) (ty : TypeId) (x : Operand) (ho : o.op = .load ty x)
    (g : Nat) (hx : a.eval x = .pointer (some ⟨g, 0, none⟩)) (t : TypeId) (cs : Array Value) (fr : Nat × Nat) (d : TypeDesc) (hg : w.heap[g]? = some (.cells cs t fr))
    (hu : P.underlying ty = some d) (hd : (match d with | .struct _ | .array _ _ => true | _ => false) = true) (hi : (P.info? ty).map (·.size) = some cs.size)
    (h : wpStill P ops w Q rest (a.put o.dst (.agg cs))) : wpStill P ops w Q (o :: rest) a := by
  refine wpStill_step fun K hK => ?_
  have hw : Region.wanted o (yielded ops a.tmps) = true := by simp [Region.wanted, hgd]
  rw [if_pos hw]
  unfold Oper.still execOp
  simp only [ho, hx, Instr.loadAt, Instr.sureAddr, Sem.run_bind, Sem.run_pure, Result.andThen_ok, run_loadVar_row w g t ty cs fr d hg hu hd hi]
  rw [Oper.stillUpon_value]
  exact hK _ h
end
theorem infoSg : (Try.prog.info? 33).map (·.size) = some 10 := by kernel_rfl
theorem infoSi : (Try.prog.info? 88).map (·.size) = some 10 := by kernel_rfl
theorem sgA_one (s : Sg) : (sgA s).all (·.oneCell') = true := by unfold sgA; kernel_rfl
theorem u64_low (x : Nat) (hx : x < 2 ^ 64) : bits .and .u64 (x : Int) 1 = ((x % 2 : Nat) : Int) := by
  have := u64_and_nat x 1 (by simpa using hx) (by decide)
  rw [Nat.and_one_is_mod] at this
  exact this
theorem lcells_any (sp : Option Addr) (n cap : Nat) (w : World) (hn : n ≤ 9223372036854775807) : Calls Try.prog 52 #[.slice sp n cap] w fun e w' => e = .returned (.bool (decide (1 ≤ n ∧ n ≤ 8192))) ∧ w' = w := by
  by_cases h1 : 1 ≤ n
  · by_cases h2 : n ≤ 8192
    · have e : decide (1 ≤ n ∧ n ≤ 8192) = true := by simp; omega
      have d1 : decide ((1 : Int) ≤ (n : Int)) = true := by simp; omega
      have d2 : decide ((n : Int) ≤ 8192) = true := by simp; omega
      rw [e]
      go_enter Try.func52, Try.ntmps52
      go_wp2
      go_ret
      exact ⟨rfl, rfl⟩
    · have e : decide (1 ≤ n ∧ n ≤ 8192) = false := by simp; omega
      have d1 : decide ((1 : Int) ≤ (n : Int)) = true := by simp; omega
      have d2 : decide ((n : Int) ≤ 8192) = false := by simp; omega
      rw [e]
      go_enter Try.func52, Try.ntmps52
      go_wp2
      go_ret
      exact ⟨rfl, rfl⟩
  · have e : decide (1 ≤ n ∧ n ≤ 8192) = false := by simp; omega
    have d1 : decide ((1 : Int) ≤ (n : Int)) = false := by simp; omega
    rw [e]
    go_enter Try.func52, Try.ntmps52
    go_wp2
    go_ret
    exact ⟨rfl, rfl⟩
theorem cell_yes (slab word : Nat) (w : World) (hs : slab < 128) (hw : word < 40) : Calls Try.prog 29 #[.int .i64 slab, .int .i64 word] w fun e w' => e = .returned (.tuple #[.int .i64 ((16 + 40 * slab + word : Nat) : Int), .int .i64 0]) ∧ w' = w := by
  have e : ((16 + 40 * slab + word : Nat) : Int) = 16 + (slab : Int) * 40 + (word : Int) := by omega
  rw [e]
  have d1 : decide ((slab : Int) < 0) = false := by simp
  have d2 : decide ((128 : Int) ≤ (slab : Int)) = false := by simp; omega
  have d3 : decide ((word : Int) < 0) = false := by simp
  have d4 : decide ((40 : Int) ≤ (word : Int)) = false := by simp; omega
  have b1 : (slab : Int) < 128 := by omega
  have b2 : (word : Int) < 40 := by omega
  clear e
  go_enter Try.func29, Try.ntmps29
  go_wp2
  go_ret2
  exact ⟨rfl, rfl⟩
theorem cell_no (slab : Int) (word : Nat) (w : World) (hs : ¬ (0 ≤ slab ∧ slab < 128)) : Calls Try.prog 29 #[.int .i64 slab, .int .i64 word] w fun e w' => e = .returned (.tuple #[.int .i64 0, .int .i64 2]) ∧ w' = w := by
  by_cases h0 : slab < 0
  · have d1 : decide (slab < 0) = true := by simpa using h0
    have hs'h := Lib.hid hs
    have h0'h := Lib.hid h0
    clear hs h0
    go_enter Try.func29, Try.ntmps29
    go_wp2
    go_ret2
    exact ⟨rfl, rfl⟩
  · have d1 : decide (slab < 0) = false := by simpa using h0
    have d2 : decide ((128 : Int) ≤ slab) = true := by simp; omega
    have hs'h := Lib.hid hs
    have h0'h := Lib.hid h0
    clear hs h0
    go_enter Try.func29, Try.ntmps29
    go_wp2
    go_ret2
    exact ⟨rfl, rfl⟩
/-- What Check says. -/
def lcheckE (s : Sg) : Int := if rightS s = true then 0 else 280
theorem lcheckE_yes {s : Sg} (h : SgRight s) : lcheckE s = 0 := by unfold lcheckE; rw [if_pos ((rightS_iff s).2 h)]
theorem lcheckE_no {s : Sg} (h : ¬ SgRight s) : lcheckE s = 280 := by unfold lcheckE; rw [if_neg (fun e => h ((rightS_iff s).1 e))]
set_option maxHeartbeats 8000000 in
theorem lcheck_any (s : Sg) (w : World) (h : SgOk s) : Calls Try.prog 21 #[.agg (sgA s)] w fun e w' => e = .returned (.int .i64 (lcheckE s)) ∧ Below w.heap.size w w' := by
  have hy := @lcheckE_yes s
  have hn := @lcheckE_no s
  obtain ⟨ph, sl, ky, ha, be, gr, ct, le, va, fo⟩ := s
  obtain ⟨b1, b2, b3, b4, b5, b6, b7, b8, b9⟩ := h
  simp only at b1 b2 b3 b4 b5 b6 b7 b8 b9
  have hand := u64_low be b5
  generalize lcheckE ⟨ph, sl, ky, ha, be, gr, ct, le, va, fo⟩ = z at *
  unfold sgA
  obtain ⟨m, hm⟩ : ∃ m, m = be % 2 := ⟨_, rfl⟩
  rw [← hm] at hand
  have hyy : (0 ≤ ph ∧ ph ≤ 6) → (0 ≤ sl ∧ sl < 128) → m = 0 → (0 ≤ gr ∧ gr ≤ 1) → (le ≠ 0 ∨ (ph ≠ 2 ∧ ph ≠ 3)) → z = 0 := fun q1 q2 q3 q4 q5 => hy ⟨q1, q2, by simp only; omega, q4, q5⟩
  have hnn : ¬ ((0 ≤ ph ∧ ph ≤ 6) ∧ (0 ≤ sl ∧ sl < 128) ∧ m = 0 ∧ (0 ≤ gr ∧ gr ≤ 1) ∧ (le ≠ 0 ∨ (ph ≠ 2 ∧ ph ≠ 3))) → z = 280 := fun hh => hn fun ⟨q1, q2, q3, q4, q5⟩ => hh ⟨q1, q2, by simp only at q3; omega, q4, q5⟩
  have hm1 : m ≤ 1 := by omega
  have hcases : ph < 0 ∨ (0 ≤ ph ∧ 6 < ph) ∨ (0 ≤ ph ∧ ph ≤ 6 ∧ sl < 0) ∨ (0 ≤ ph ∧ ph ≤ 6 ∧ 0 ≤ sl ∧ 128 ≤ sl) ∨ (0 ≤ ph ∧ ph ≤ 6 ∧ 0 ≤ sl ∧ sl < 128 ∧ m = 1) ∨ (0 ≤ ph ∧ ph ≤ 6 ∧ 0 ≤ sl ∧ sl < 128 ∧ m = 0 ∧ gr < 0) ∨
      (0 ≤ ph ∧ ph ≤ 6 ∧ 0 ≤ sl ∧ sl < 128 ∧ m = 0 ∧ 0 ≤ gr ∧ 2 ≤ gr) ∨ (0 ≤ ph ∧ ph ≤ 6 ∧ 0 ≤ sl ∧ sl < 128 ∧ m = 0 ∧ 0 ≤ gr ∧ gr < 2 ∧ le ≠ 0) ∨ (0 ≤ ph ∧ ph ≤ 6 ∧ 0 ≤ sl ∧ sl < 128 ∧ m = 0 ∧ 0 ≤ gr ∧ gr < 2 ∧ le = 0 ∧ ph = 2) ∨
      (0 ≤ ph ∧ ph ≤ 6 ∧ 0 ≤ sl ∧ sl < 128 ∧ m = 0 ∧ 0 ≤ gr ∧ gr < 2 ∧ le = 0 ∧ ph = 3) ∨ (0 ≤ ph ∧ ph ≤ 6 ∧ 0 ≤ sl ∧ sl < 128 ∧ m = 0 ∧ 0 ≤ gr ∧ gr < 2 ∧ le = 0 ∧ ph ≠ 2 ∧ ph ≠ 3) := by
    clear hy hn hyy hnn hand
    by_cases g1 : ph < 0
    · exact .inl g1
    refine .inr ?_
    by_cases g2 : 6 < ph
    · exact .inl ⟨by omega, g2⟩
    refine .inr ?_
    by_cases g3 : sl < 0
    · exact .inl ⟨by omega, by omega, g3⟩
    refine .inr ?_
    by_cases g4 : 128 ≤ sl
    · exact .inl ⟨by omega, by omega, by omega, g4⟩
    refine .inr ?_
    by_cases g5 : m = 1
    · exact .inl ⟨by omega, by omega, by omega, by omega, g5⟩
    refine .inr ?_
    by_cases g6 : gr < 0
    · exact .inl ⟨by omega, by omega, by omega, by omega, by omega, g6⟩
    refine .inr ?_
    by_cases g7 : 2 ≤ gr
    · exact .inl ⟨by omega, by omega, by omega, by omega, by omega, by omega, g7⟩
    refine .inr ?_
    by_cases g8 : le ≠ 0
    · exact .inl ⟨by omega, by omega, by omega, by omega, by omega, by omega, by omega, g8⟩
    refine .inr ?_
    by_cases g9 : ph = 2
    · exact .inl ⟨by omega, by omega, by omega, by omega, by omega, by omega, by omega, by omega, g9⟩
    refine .inr ?_
    by_cases g10 : ph = 3
    · exact .inl ⟨by omega, by omega, by omega, by omega, by omega, by omega, by omega, by omega, g10⟩
    exact .inr ⟨by omega, by omega, by omega, by omega, by omega, by omega, by omega, by omega, g9, g10⟩
  clear hy hn hm b3 b4 b7 b8 b9 b5
  rcases hcases with c | c | c | c | c | c | c | c | c | c | c
  all_goals
    first
      | (have hz : z = 0 := hyy (by omega) (by omega) (by omega) (by omega) (by omega))
      | (have hz : z = 280 := hnn (by omega))
    first | (have e0 : decide (ph < 0) = true := by simp; omega) | (have e0 : decide (ph < 0) = false := by simp; omega) | skip
    first | (have e1 : decide (6 < ph) = true := by simp; omega) | (have e1 : decide (6 < ph) = false := by simp; omega) | skip
    first | (have e2 : decide (sl < 0) = true := by simp; omega) | (have e2 : decide (sl < 0) = false := by simp; omega) | skip
    first | (have e3 : decide (128 ≤ sl) = true := by simp; omega) | (have e3 : decide (128 ≤ sl) = false := by simp; omega) | skip
    first | (have e4 : ((m : Int) == 1) = true := by simp; omega) | (have e4 : ((m : Int) == 1) = false := by simp; omega) | skip
    first | (have e5 : decide (gr < 0) = true := by simp; omega) | (have e5 : decide (gr < 0) = false := by simp; omega) | skip
    first | (have e6 : decide (2 ≤ gr) = true := by simp; omega) | (have e6 : decide (2 ≤ gr) = false := by simp; omega) | skip
    first | (have e7 : ((le : Int) != 0) = true := by simp; omega) | (have e7 : ((le : Int) != 0) = false := by simp; omega) | skip
    first | (have e8 : (ph != 2) = true := by simp; omega) | (have e8 : (ph != 2) = false := by simp; omega) | skip
    first | (have e9 : (ph != 3) = true := by simp; omega) | (have e9 : (ph != 3) = false := by simp; omega) | skip
    have hyy'h := Lib.hid hyy
    have hnn'h := Lib.hid hnn
    have hz'h := Lib.hid hz
    have c'h := Lib.hid c
    clear hyy hnn hz c
    go_enter Try.func21, Try.ntmps21
    go_wp2
    all_goals
      go_ret
      exact ⟨by rw [hz'h.out]; rfl, (Below.refl _ _).alloc (Nat.le_refl _) _⟩
end Go.Proofs.Ytoklgjlmjkhmbaa

/-
  Package look: which load, and what is made of it.
-/
set_option linter.unusedSimpArgs false
set_option linter.unusedVariables false
set_option maxRecDepth 100000
namespace Go.Proofs.Ytoklgjlmjkhmbaa
open Go.RowKit

abbrev SiB (s : Sg) : Obj := .cells (sgA s) 88 (0, 0)
theorem prB2 (x i : Nat) : prB 2 x i < 2 := by unfold prB; exact Nat.mod_lt _ (by decide)
theorem slot_any (s : Sg) (g : Nat) (w : World) (h : SgOk s) (hr : SgRight s) (hg : w.heap[g]? = some (SiB s)) :
    Calls Try.prog 73 #[.pointer (some ⟨g, 0, none⟩)] w fun e w' => e = .returned (.int .i64 ((8 * grpS s + firstLane s.left : Nat) : Int)) ∧ Below w.heap.size w w' := by
  have c3 : w.cell? ⟨g, 3, none⟩ = some (.int .u64 s.hash) := blk_cell hg rfl
  have c5 : w.cell? ⟨g, 5, none⟩ = some (.int .i64 s.grp) := blk_cell hg rfl
  have c7 : w.cell? ⟨g, 7, none⟩ = some (.int .u8 s.left) := blk_cell hg rfl
  have hgn : ((s.grp.toNat : Nat) : Int) = s.grp := by have := hr.grp; omega
  have A := fun w => at_yes 2 (s.hash / 128) s.grp.toNat w rfl (by have := h.hash; omega) (by have := hr.grp; omega)
  rw [hgn] at A
  have H := fun w => h1_any s.hash w
  have F := fun w => first_any s.left h.left w
  have hp : grpS s < 2 := grpS_lt s
  have hl : firstLane s.left < 8 := firstLane_lt' h.left
  have hgr : prB 2 (s.hash / 128) s.grp.toNat = grpS s := rfl
  rw [hgr] at A
  generalize grpS s = p at *
  generalize firstLane s.left = l at *
  generalize someLane s.left = sm at *
  generalize s.hash / 128 = h1 at *
  generalize s.hash = ha at *
  generalize s.grp = gr at *
  generalize s.left = le at *
  have hp' : (p : Int) < 2 := by omega
  have hl' : (l : Int) < 8 := by omega
  have hcast : ((8 * p + l : Nat) : Int) = (p : Int) * 8 + (l : Int) := by omega
  rw [hcast]
  clear hgn hgr hg h hr hcast hp hl
  have A'h := Lib.hid A
  have H'h := Lib.hid H
  have F'h := Lib.hid F
  clear A H F
  go_enter Try.func73, Try.ntmps73
  go_wp2
  go_quiet ((first | (go_at_call 31; exact Calls.quiet_of_same (H'h.out _)) | (go_at_call 72; exact Calls.quiet_of_same (A'h.out _))))
  go_wp2_with (go_at_call 99; refine (F'h.out _).mono ?_; rintro e w2 ⟨rfl, hb2⟩)
  go_ret
  exact ⟨rfl, (below_drewN' _ _).trans hb2⟩
theorem word_any (s : Sg) (g : Nat) (w : World) (h : SgOk s) (hr : SgRight s) (hg : w.heap[g]? = some (SiB s)) :
    Calls Try.prog 46 #[.pointer (some ⟨g, 0, none⟩)] w fun e w' => e = .returned (.int .i64 (wordS s)) ∧ Below w.heap.size w w' := by
  have c0 : w.cell? ⟨g, 0, none⟩ = some (.int .i64 s.phase) := blk_cell hg rfl
  have S := slot_any s g w h hr hg
  have hp : grpS s < 2 := grpS_lt s
  have hl : firstLane s.left < 8 := firstLane_lt' h.left
  by_cases p1 : s.phase = 1
  · have ew : wordS s = 4 + grpS s := by unfold wordS; rw [if_pos p1]
    rw [ew]
    have c3 : w.cell? ⟨g, 3, none⟩ = some (.int .u64 s.hash) := blk_cell hg rfl
    have c5 : w.cell? ⟨g, 5, none⟩ = some (.int .i64 s.grp) := blk_cell hg rfl
    have hgn : ((s.grp.toNat : Nat) : Int) = s.grp := by have := hr.grp; omega
    have A := fun w => at_yes 2 (s.hash / 128) s.grp.toNat w rfl (by have := h.hash; omega) (by have := hr.grp; omega)
    rw [hgn] at A
    have H := fun w => h1_any s.hash w
    have hgr : prB 2 (s.hash / 128) s.grp.toNat = grpS s := rfl
    rw [hgr] at A
    have d1 : (s.phase == 1) = true := by simp [p1]
    generalize grpS s = p at *
    generalize s.hash / 128 = h1 at *
    generalize s.hash = ha at *
    generalize s.grp = gr at *
    generalize s.phase = ph at *
    have hp' : (p : Int) < 2 := by omega
    have hcast : ((4 + p : Nat) : Int) = 4 + (p : Int) := by omega
    rw [hcast]
    clear hgn hgr hg h hr hcast hp hl S ew
    have A'h := Lib.hid A
    have H'h := Lib.hid H
    have p1'h := Lib.hid p1
    clear A H p1
    go_enter Try.func46, Try.ntmps46
    go_wp2
    go_quiet ((first | (go_at_call 31; exact Calls.quiet_of_same (H'h.out _)) | (go_at_call 72; exact Calls.quiet_of_same (A'h.out _))))
    go_wp2
    go_ret
    exact ⟨rfl, below_drewN' _ _⟩
  · have d1 : (s.phase == 1) = false := by simpa using p1
    by_cases p2 : s.phase = 2
    · have ew : wordS s = 6 + (8 * grpS s + firstLane s.left) := by unfold wordS; rw [if_neg p1, if_pos p2]
      rw [ew]
      have d2 : (s.phase == 2) = true := by simp [p2]
      generalize hz : 8 * grpS s + firstLane s.left = z at *
      have hz' : (z : Int) < 100 := by omega
      have hcast : ((6 + z : Nat) : Int) = 6 + (z : Int) := by omega
      rw [hcast]
      generalize s.phase = ph at *
      clear hz hg h hr hcast ew hp hl
      have S'h := Lib.hid S
      have p1'h := Lib.hid p1
      have p2'h := Lib.hid p2
      clear S p1 p2
      go_enter Try.func46, Try.ntmps46
      go_wp2_with (go_at_call 73; refine S'h.out.mono ?_; rintro e w2 ⟨rfl, hb2⟩)
      go_ret
      exact ⟨rfl, hb2⟩
    · have d2 : (s.phase == 2) = false := by simpa using p2
      by_cases p3 : s.phase = 3
      · have ew : wordS s = 22 + (8 * grpS s + firstLane s.left) := by unfold wordS; rw [if_neg p1, if_neg p2, if_pos p3]
        rw [ew]
        have d3 : (s.phase == 3) = true := by simp [p3]
        generalize hz : 8 * grpS s + firstLane s.left = z at *
        have hz' : (z : Int) < 100 := by omega
        have hcast : ((22 + z : Nat) : Int) = 22 + (z : Int) := by omega
        rw [hcast]
        generalize s.phase = ph at *
        clear hz hg h hr hcast ew hp hl
        have S'h := Lib.hid S
        have p1'h := Lib.hid p1
        have p2'h := Lib.hid p2
        have p3'h := Lib.hid p3
        clear S p1 p2 p3
        go_enter Try.func46, Try.ntmps46
        go_wp2_with (go_at_call 73; refine S'h.out.mono ?_; rintro e w2 ⟨rfl, hb2⟩)
        go_ret
        exact ⟨rfl, hb2⟩
      · have d3 : (s.phase == 3) = false := by simpa using p3
        have ew : wordS s = 0 := by unfold wordS; rw [if_neg p1, if_neg p2, if_neg p3]
        rw [ew]
        generalize s.phase = ph at *
        clear hg h hr ew hp hl
        have S'h := Lib.hid S
        have p1'h := Lib.hid p1
        have p2'h := Lib.hid p2
        have p3'h := Lib.hid p3
        clear S p1 p2 p3
        go_enter Try.func46, Try.ntmps46
        go_wp2
        go_ret
        exact ⟨rfl, Below.refl _ _⟩
end Go.Proofs.Ytoklgjlmjkhmbaa

/-
  Package look: Need, and one load.
-/
set_option linter.unusedSimpArgs false
set_option linter.unusedVariables false
set_option maxRecDepth 100000
namespace Go.Proofs.Ytoklgjlmjkhmbaa
open Go.RowKit

theorem lcheck_yes (s : Sg) (w : World) (h : SgOk s) (hr : SgRight s) : Calls Try.prog 21 #[.agg (sgA s)] w fun e w' => e = .returned (.int .i64 0) ∧ Below w.heap.size w w' := by
  have := lcheck_any s w h
  rwa [lcheckE_yes hr] at this
theorem lcheck_no (s : Sg) (w : World) (h : SgOk s) (hr : ¬ SgRight s) : Calls Try.prog 21 #[.agg (sgA s)] w fun e w' => e = .returned (.int .i64 280) ∧ Below w.heap.size w w' := by
  have := lcheck_any s w h
  rwa [lcheckE_no hr] at this
section
variable {P : Program}
theorem wpStill_value {ops : Array Oper} {rest : List Oper} {o : Oper} {a : Act} {w : World} {Q : Act → Prop} (hgd : o.guard = none) (v : Value) (hrun : (execOp a.eval o).run P w = .ok (.value v) w)
    (h : wpStill P ops w Q rest (a.put o.dst v)) : wpStill P ops w Q (o :: rest) a := by
  refine wpStill_step fun K hK => ?_
  have hw : Region.wanted o (yielded ops a.tmps) = true := by simp [Region.wanted, hgd]
  rw [if_pos hw]
  unfold Oper.still
  rw [hrun, Oper.stillUpon_value]
  exact hK _ h
theorem wpList_value {ops : Array Oper} {rest : List Oper} {o : Oper} {a : Act} {w : World} {Q : Exit → Act → World → Prop} (hgd : o.guard = none) (v : Value) (hrun : (execOp a.eval o).run P w = .ok (.value v) w)
    (h : wpList P ops Q rest (a.put o.dst v) w) : wpList P ops Q (o :: rest) a w :=
  wpList_plain hgd fun K hK => by
    unfold Oper.wp
    rw [hrun]
    exact hK _ _ h
end
theorem built_si (s : Sg) (w : World) : (Instr.build 88 #[(0, .agg (sgA s))]).run Try.prog w = .ok (.agg (sgA s)) w := by
  unfold sgA; kernel_rfl
theorem need_wrong (s : Sg) (w : World) (h : SgOk s) (hr : ¬ SgRight s) :
    Calls Try.prog 22 #[.agg (sgA s)] w fun e w' => e = .returned (.tuple #[.int .i64 0, .bool false]) ∧ Below w.heap.size w w' := by
  have C := fun w => lcheck_no s w h hr
  have hb0 : Below w.heap.size w (w.alloc (.cells (sgA s) 33)) := (Below.refl _ _).alloc (Nat.le_refl _) _
  have C'h := Lib.hid C
  have h'h := Lib.hid h
  have hr'h := Lib.hid hr
  have hb0'h := Lib.hid hb0
  clear C h hr hb0
  go_enter Try.func22, Try.ntmps22
  go_wp2_with (first | (refine wpList_load_row rfl _ _ rfl w.heap.size rfl 33 (sgA s) (0, 0) _ (World.alloc_heap_new _ _) Try.underlying33 rfl infoSg ?_) | (go_at_call 21; refine (C'h.out _).mono ?_; rintro e w2 ⟨rfl, hb2⟩))
  go_ret2
  exact ⟨rfl, below_next hb0'h.out hb2⟩
theorem need_over (s : Sg) (w : World) (h : SgOk s) (hr : SgRight s) (hh : hasS s = false) :
    Calls Try.prog 22 #[.agg (sgA s)] w fun e w' => e = .returned (.tuple #[.int .i64 0, .bool false]) ∧ Below w.heap.size w w' := by
  have C := fun w => lcheck_yes s w h hr
  have hb0 : Below w.heap.size w (w.alloc (.cells (sgA s) 33)) := (Below.refl _ _).alloc (Nat.le_refl _) _
  have hlt : w.heap.size < (w.alloc (.cells (sgA s) 33)).heap.size := by simp
  have hp : decide (4 < s.phase) = true := by unfold hasS at hh; simp at hh ⊢; omega
  generalize hph : s.phase = ph at *
  have C'h := Lib.hid C
  have h'h := Lib.hid h
  have hr'h := Lib.hid hr
  have hb0'h := Lib.hid hb0
  have hh'h := Lib.hid hh
  have hlt'h := Lib.hid hlt
  have hph'h := Lib.hid hph
  clear C h hr hb0 hh hlt hph
  go_enter Try.func22, Try.ntmps22
  go_wp2_with (first | (refine wpList_load_row rfl _ _ rfl w.heap.size rfl 33 (sgA s) (0, 0) _ (World.alloc_heap_new _ _) Try.underlying33 rfl infoSg ?_) | (go_at_call 21; refine (C'h.out _).mono ?_; rintro e w2 ⟨rfl, hb2⟩; have c0 : w2.cell? ⟨w.heap.size, 0, none⟩ = some (.int .i64 ph) := by { rw [← hph'h.out]; exact blk_cell (heap_below hb2 (World.alloc_heap_new _ _) hlt'h.out) rfl }))
  go_ret2
  exact ⟨rfl, below_next hb0'h.out hb2⟩
/-- The cells of one who reads. -/
def SgC (s : Sg) (b : Nat) (W : World) : Prop :=
  W.cell? ⟨b, 0, none⟩ = some (.int .i64 s.phase) ∧ W.cell? ⟨b, 1, none⟩ = some (.int .i64 s.slab) ∧ W.cell? ⟨b, 2, none⟩ = some (.int .u64 s.key) ∧ W.cell? ⟨b, 3, none⟩ = some (.int .u64 s.hash) ∧ W.cell? ⟨b, 4, none⟩ = some (.int .u64 s.began) ∧
  W.cell? ⟨b, 5, none⟩ = some (.int .i64 s.grp) ∧ W.cell? ⟨b, 6, none⟩ = some (.int .u64 s.ctrl) ∧ W.cell? ⟨b, 7, none⟩ = some (.int .u8 s.left) ∧ W.cell? ⟨b, 8, none⟩ = some (.int .u64 s.value) ∧ W.cell? ⟨b, 9, none⟩ = some (.bool s.found)
theorem SgC.of {s : Sg} {b : Nat} {W : World} {t : TypeId} (h : W.heap[b]? = some (.cells (sgA s) t (0, 0))) : SgC s b W :=
  ⟨blk_cell h rfl, blk_cell h rfl, blk_cell h rfl, blk_cell h rfl, blk_cell h rfl, blk_cell h rfl, blk_cell h rfl, blk_cell h rfl, blk_cell h rfl, blk_cell h rfl⟩
set_option maxHeartbeats 2000000 in
theorem need_yes' (s : Sg) (w : World) (h : SgOk s) (hr : SgRight s) (hh : hasS s = true) :
    Calls Try.prog 22 #[.agg (sgA s)] w fun e w' => e = .returned (.tuple #[.int .i64 (cellS s), .bool true]) ∧ Below w.heap.size w w' := by
  have C := fun w => lcheck_yes s w h hr
  have hb0 : Below w.heap.size w (w.alloc (.cells (sgA s) 33)) := (Below.refl _ _).alloc (Nat.le_refl _) _
  have hlt : w.heap.size < (w.alloc (.cells (sgA s) 33)).heap.size := by simp
  have hp : decide (4 < s.phase) = false := by unfold hasS at hh; simp at hh ⊢; omega
  have W := fun g w hg => word_any s g w h hr hg
  have hsl : ((s.slab.toNat : Nat) : Int) = s.slab := by have := hr.slab; omega
  have L := fun w => cell_yes s.slab.toNat (wordS s) w (by have := hr.slab; omega) (by have := wordS_lt h; omega)
  rw [hsl] at L
  have hcl : 16 + 40 * s.slab.toNat + wordS s = cellS s := rfl
  rw [hcl] at L
  generalize wordS s = wd at *
  generalize cellS s = cl at *
  clear hcl hsl
  obtain ⟨ph, sl, ky, ha, be, gr, ct, le, va, fo⟩ := s
  simp only [sgA] at *
  have C'h := Lib.hid C
  have h'h := Lib.hid h
  have hr'h := Lib.hid hr
  have hb0'h := Lib.hid hb0
  have hh'h := Lib.hid hh
  have hlt'h := Lib.hid hlt
  have L'h := Lib.hid L
  have W'h := Lib.hid W
  clear C h hr hb0 hh hlt L W
  go_enter Try.func22, Try.ntmps22
  go_wp2_with (first | (refine wpList_load_row rfl _ _ rfl w.heap.size rfl 33 _ (0, 0) _ (World.alloc_heap_new _ _) Try.underlying33 rfl infoSg ?_) | (go_at_call 21; refine (C'h.out _).mono ?_; rintro e w2 ⟨rfl, hb2⟩; have c0 : w2.cell? ⟨w.heap.size, 0, none⟩ = some (.int .i64 ph) := blk_cell (heap_below hb2 (World.alloc_heap_new _ _) hlt'h.out) rfl))
  have hg2 := heap_below hb2 (World.alloc_heap_new w _) hlt'h.out
  have hB2 := below_next hb0'h.out hb2
  have hc2 : SgC ⟨ph, sl, ky, ha, be, gr, ct, le, va, fo⟩ w.heap.size w2 := SgC.of hg2
  clear hb2 c0
  have hlt2 : w.heap.size < w2.heap.size := lt_of_heap hg2
  have hkeep : ∀ W' : World, Below w2.heap.size w2 W' → (SgC ⟨ph, sl, ky, ha, be, gr, ct, le, va, fo⟩ w.heap.size W' ∧ Below w2.heap.size w2 W') := fun W' h => ⟨SgC.of (heap_below h hg2 hlt2), h⟩
  have hnew : (w2.alloc (.cells #[.int .i64 ph, .int .i64 sl, .int .u64 ky, .int .u64 ha, .int .u64 be, .int .i64 gr, .int .u64 ct, .int .u8 le, .int .u64 va, .bool fo] 88)).drew.heap[w2.heap.size]? = some (SiB ⟨ph, sl, ky, ha, be, gr, ct, le, va, fo⟩) := World.alloc_heap_new w2 _
  have hB2'h := Lib.hid hB2
  have hg2'h := Lib.hid hg2
  have hkeep'h := Lib.hid hkeep
  have hlt2'h := Lib.hid hlt2
  have hnew'h := Lib.hid hnew
  clear hB2 hg2 hkeep hlt2 hnew
  simp only [SgC] at hc2 hkeep'h
  obtain ⟨c0, c1, c2, c3, c4, c5, c6, c7, c8, c9⟩ := hc2
  have k2 := Below.refl w2.heap.size w2
  go_region_held3 (fun W' => (W'.cell? ⟨w.heap.size, 0, none⟩ = some (.int .i64 ph) ∧ W'.cell? ⟨w.heap.size, 1, none⟩ = some (.int .i64 sl) ∧ W'.cell? ⟨w.heap.size, 2, none⟩ = some (.int .u64 ky) ∧ W'.cell? ⟨w.heap.size, 3, none⟩ = some (.int .u64 ha) ∧ W'.cell? ⟨w.heap.size, 4, none⟩ = some (.int .u64 be) ∧ W'.cell? ⟨w.heap.size, 5, none⟩ = some (.int .i64 gr) ∧ W'.cell? ⟨w.heap.size, 6, none⟩ = some (.int .u64 ct) ∧ W'.cell? ⟨w.heap.size, 7, none⟩ = some (.int .u8 le) ∧ W'.cell? ⟨w.heap.size, 8, none⟩ = some (.int .u64 va) ∧ W'.cell? ⟨w.heap.size, 9, none⟩ = some (.bool fo)) ∧ Below w2.heap.size w2 W') (first | exact hkeep'h.out _ (by assumption) | exact hkeep'h.out _ (Below.drew (by assumption)) | exact hkeep'h.out _ (Below.drew (Below.alloc (by assumption) (Nat.le_refl _) _)) | (go_split_ands; first | exact hkeep'h.out _ (by assumption) | exact hkeep'h.out _ (Below.drew (by assumption)) | exact hkeep'h.out _ (below_next (by assumption) (by assumption))) | fail) (first | (go_at_call 46; refine (W'h.out _ _ hnew'h.out).mono ?_; rintro e w3 ⟨rfl, hb3⟩) | (go_at_call 29; refine (L'h.out _).mono ?_; rintro e w4 ⟨rfl, rfl⟩) | fail)
  have hB3 := hB2'h.out.trans (Below.mono (below_next (Below.drew (Below.alloc (Below.refl _ w2) (Nat.le_refl _) _)) hb3) hB2'h.out.size)
  clear hb3 k2 c0 c1 c2 c3 c4 c5 c6 c7 c8 c9
  have hB3'h := Lib.hid hB3
  clear hB3
  go_wp2
  go_ret2
  exact ⟨rfl, hB3'h.out⟩

/-! ### What is made of a load -/
theorem set_phase (s : Sg) (v : Int) : (sgA s).setIfInBounds 0 (.int .i64 v) = sgA { s with phase := v } := rfl
theorem set_began (s : Sg) (v : Nat) : (sgA s).setIfInBounds 4 (.int .u64 v) = sgA { s with began := v } := rfl
theorem set_grp (s : Sg) (v : Int) : (sgA s).setIfInBounds 5 (.int .i64 v) = sgA { s with grp := v } := rfl
theorem set_ctrl (s : Sg) (v : Nat) : (sgA s).setIfInBounds 6 (.int .u64 v) = sgA { s with ctrl := v } := rfl
theorem set_left (s : Sg) (v : Nat) : (sgA s).setIfInBounds 7 (.int .u8 v) = sgA { s with left := v } := rfl
theorem set_value (s : Sg) (v : Nat) : (sgA s).setIfInBounds 8 (.int .u64 v) = sgA { s with value := v } := rfl
theorem set_found (s : Sg) (v : Bool) : (sgA s).setIfInBounds 9 (.bool v) = sgA { s with found := v } := rfl
theorem on_any (s : Sg) (g : Nat) (w : World) (hgr : 0 ≤ s.grp ∧ s.grp ≤ 1) (hct : s.ctrl < 2 ^ 64) (hg : w.heap[g]? = some (SiB s)) :
    Calls Try.prog 100 #[.pointer (some ⟨g, 0, none⟩)] w fun e w' => e = .returned (.tuple #[]) ∧ w'.heap[g]? = some (SiB (onS s)) ∧ OnlyB g w w' := by
  have c0 : w.cell? ⟨g, 0, none⟩ = some (.int .i64 s.phase) := blk_cell hg rfl
  have c5 : w.cell? ⟨g, 5, none⟩ = some (.int .i64 s.grp) := blk_cell hg rfl
  have c6 : w.cell? ⟨g, 6, none⟩ = some (.int .u64 s.ctrl) := blk_cell hg rfl
  have c7 : w.cell? ⟨g, 7, none⟩ = some (.int .u8 s.left) := blk_cell hg rfl
  have f0 : w.frozen? ⟨g, 0, none⟩ = false := blk_free 0 hg
  have f5 : w.frozen? ⟨g, 5, none⟩ = false := blk_free 5 hg
  by_cases hl : s.left = 0
  · have d1 : ((s.left : Int) != 0) = false := by simp [hl]
    have E := equal_any s.ctrl 128 w hct (by decide)
    by_cases he : equalM s.ctrl 128 = 0
    · have d2 : ((equalM s.ctrl 128 : Int) != 0) = false := by simp [he]
      by_cases h1 : s.grp = 1
      · have d3 : (s.grp == 1) = true := by simp [h1]
        have hfin : onS s = { s with phase := 4 } := by unfold onS; rw [if_neg (by simpa using hl), if_pos (.inr h1)]
        rw [hfin, SiB, ← set_phase]
        generalize equalM s.ctrl 128 = m at *
        generalize s.grp = gr at *
        generalize s.left = le at *
        generalize s.ctrl = ct at *
        generalize s.phase = ph at *
        have hg'h := Lib.hid hg
        have hfin'h := Lib.hid hfin
        have hl'h := Lib.hid hl
        have he'h := Lib.hid he
        have h1'h := Lib.hid h1
        have hct'h := Lib.hid hct
        have hgr'h := Lib.hid hgr
        have E'h := Lib.hid E
        clear hg hfin hl he h1 hct hgr E
        go_enter Try.func100, Try.ntmps100
        go_wp2_with (go_at_call 40; refine E'h.out.mono ?_; rintro e w2 ⟨rfl, rfl⟩)
        go_end0
        exact ⟨rfl, blk_set _ hg'h.out, (OnlyB.refl _ _).set _ _⟩
      · have d3 : (s.grp == 1) = false := by simpa using h1
        have h0 : s.grp = 0 := by omega
        have hfin : onS s = { s with phase := 1, grp := 1 } := by unfold onS; rw [if_neg (by simpa using hl), if_neg (by rintro (h | h); exact h he; exact h1 h), h0]; rfl
        rw [hfin, SiB, ← set_grp { s with phase := 1 } 1, ← set_phase]
        rw [h0] at c5 d3
        generalize equalM s.ctrl 128 = m at *
        generalize s.grp = gr at *
        generalize s.left = le at *
        generalize s.ctrl = ct at *
        generalize s.phase = ph at *
        have hg'h := Lib.hid hg
        have hfin'h := Lib.hid hfin
        have hl'h := Lib.hid hl
        have he'h := Lib.hid he
        have h1'h := Lib.hid h1
        have hct'h := Lib.hid hct
        have hgr'h := Lib.hid hgr
        have E'h := Lib.hid E
        have h0'h := Lib.hid h0
        clear hg hfin hl he h1 hct hgr E h0
        go_enter Try.func100, Try.ntmps100
        go_wp2_with (go_at_call 40; refine E'h.out.mono ?_; rintro e w2 ⟨rfl, rfl⟩)
        go_end0
        exact ⟨rfl, blk_set _ (blk_set _ hg'h.out), ((OnlyB.refl _ _).set _ _).set _ _⟩
    · have d2 : ((equalM s.ctrl 128 : Int) != 0) = true := by simp; omega
      have hfin : onS s = { s with phase := 4 } := by unfold onS; rw [if_neg (by simpa using hl), if_pos (.inl he)]
      rw [hfin, SiB, ← set_phase]
      generalize equalM s.ctrl 128 = m at *
      generalize s.grp = gr at *
      generalize s.left = le at *
      generalize s.ctrl = ct at *
      generalize s.phase = ph at *
      have hg'h := Lib.hid hg
      have hfin'h := Lib.hid hfin
      have hl'h := Lib.hid hl
      have he'h := Lib.hid he
      have hct'h := Lib.hid hct
      have hgr'h := Lib.hid hgr
      have E'h := Lib.hid E
      clear hg hfin hl he hct hgr E
      go_enter Try.func100, Try.ntmps100
      go_wp2_with (go_at_call 40; refine E'h.out.mono ?_; rintro e w2 ⟨rfl, rfl⟩)
      go_end0
      exact ⟨rfl, blk_set _ hg'h.out, (OnlyB.refl _ _).set _ _⟩
  · have d1 : ((s.left : Int) != 0) = true := by simp; omega
    have hfin : onS s = { s with phase := 2 } := by unfold onS; rw [if_pos hl]
    rw [hfin, SiB, ← set_phase]
    generalize s.grp = gr at *
    generalize s.left = le at *
    generalize s.ctrl = ct at *
    generalize s.phase = ph at *
    have hg'h := Lib.hid hg
    have hfin'h := Lib.hid hfin
    have hl'h := Lib.hid hl
    have hct'h := Lib.hid hct
    have hgr'h := Lib.hid hgr
    clear hg hfin hl hct hgr
    go_enter Try.func100, Try.ntmps100
    go_wp2
    go_end0
    exact ⟨rfl, blk_set _ hg'h.out, (OnlyB.refl _ _).set _ _⟩
end Go.Proofs.Ytoklgjlmjkhmbaa

/-
  Package look: one load.
-/
set_option linter.unusedSimpArgs false
set_option linter.unusedVariables false
set_option maxRecDepth 100000
namespace Go.Proofs.Ytoklgjlmjkhmbaa
open Go.RowKit

theorem lfirst_any (s : Sg) (x g : Nat) (w : World) (h : SgOk s) (hr : SgRight s) (hx : x < 2 ^ 64) (hp : s.phase = 0) (hg : w.heap[g]? = some (SiB s)) :
    Calls Try.prog 74 #[.pointer (some ⟨g, 0, none⟩), .int .u64 x] w fun e w' => e = .returned (.tuple #[]) ∧ w'.heap[g]? = some (SiB (takeS s x)) ∧ OnlyB g w w' := by
  have c0 : w.cell? ⟨g, 0, none⟩ = some (.int .i64 s.phase) := blk_cell hg rfl
  have c4 : w.cell? ⟨g, 4, none⟩ = some (.int .u64 s.began) := blk_cell hg rfl
  have c5 : w.cell? ⟨g, 5, none⟩ = some (.int .i64 s.grp) := blk_cell hg rfl
  have f0 : w.frozen? ⟨g, 0, none⟩ = false := blk_free 0 hg
  have f4 : w.frozen? ⟨g, 4, none⟩ = false := blk_free 4 hg
  have f5 : w.frozen? ⟨g, 5, none⟩ = false := blk_free 5 hg
  have hand := u64_low x hx
  obtain ⟨m, hm⟩ : ∃ m, m = x % 2 := ⟨_, rfl⟩
  rw [← hm] at hand
  by_cases h1 : x % 2 = 1
  · have d1 : ((m : Int) == 1) = true := by simp; omega
    have hfin : takeS s x = { s with phase := 6 } := by unfold takeS; rw [if_pos hp, if_pos h1]
    rw [hfin, SiB, ← set_phase]
    generalize s.phase = ph at *
    generalize s.began = be at *
    generalize s.grp = gr at *
    have h'h := Lib.hid h
    have hr'h := Lib.hid hr
    have hx'h := Lib.hid hx
    have hp'h := Lib.hid hp
    have hg'h := Lib.hid hg
    have hm'h := Lib.hid hm
    have h1'h := Lib.hid h1
    have hfin'h := Lib.hid hfin
    clear h hr hx hp hg hm h1 hfin
    go_enter Try.func74, Try.ntmps74
    go_wp2
    refine bodyPost_ret (results_none rfl _ _ _) rfl ?_
    exact ⟨rfl, blk_set _ hg'h.out, (OnlyB.refl _ _).set _ _⟩
  · have d1 : ((m : Int) == 1) = false := by simp; omega
    have hfin : takeS s x = { s with phase := 1, began := x, grp := 0 } := by unfold takeS; rw [if_pos hp, if_neg h1]
    rw [hfin, SiB, ← set_grp { s with phase := 1, began := x } 0, ← set_began { s with phase := 1 } x, ← set_phase]
    generalize s.phase = ph at *
    generalize s.began = be at *
    generalize s.grp = gr at *
    have h'h := Lib.hid h
    have hr'h := Lib.hid hr
    have hx'h := Lib.hid hx
    have hp'h := Lib.hid hp
    have hg'h := Lib.hid hg
    have hm'h := Lib.hid hm
    have h1'h := Lib.hid h1
    have hfin'h := Lib.hid hfin
    clear h hr hx hp hg hm h1 hfin
    go_enter Try.func74, Try.ntmps74
    go_wp2
    go_end0
    exact ⟨rfl, blk_set _ (blk_set _ (blk_set _ hg'h.out)), (((OnlyB.refl _ _).set _ _).set _ _).set _ _⟩
theorem lctrl_any (s : Sg) (x g : Nat) (w : World) (h : SgOk s) (hr : SgRight s) (hx : x < 2 ^ 64) (hp : s.phase = 1) (hg : w.heap[g]? = some (SiB s)) :
    Calls Try.prog 75 #[.pointer (some ⟨g, 0, none⟩), .int .u64 x] w fun e w' => e = .returned (.tuple #[]) ∧ w'.heap[g]? = some (SiB (takeS s x)) ∧ OnlyB g w w' := by
  have c3 : w.cell? ⟨g, 3, none⟩ = some (.int .u64 s.hash) := blk_cell hg rfl
  have c6 : w.cell? ⟨g, 6, none⟩ = some (.int .u64 s.ctrl) := blk_cell hg rfl
  have c7 : w.cell? ⟨g, 7, none⟩ = some (.int .u8 s.left) := blk_cell hg rfl
  have f6 : w.frozen? ⟨g, 6, none⟩ = false := blk_free 6 hg
  have f7 : w.frozen? ⟨g, 7, none⟩ = false := blk_free 7 hg
  have hfin : takeS s x = onS { s with ctrl := x, left := equalM x (s.hash % 128) } := by unfold takeS; rw [if_neg (by omega), if_pos hp]
  rw [hfin]
  have H := fun w => h2_any s.hash w h.hash
  have E := fun w => equal_any x (s.hash % 128) w hx (by omega)
  have hset := blk_set (i := 7) (.int .u8 (equalM x (s.hash % 128))) (blk_set (i := 6) (.int .u64 x) hg)
  rw [set_ctrl, set_left] at hset
  have O := on_any { s with ctrl := x, left := equalM x (s.hash % 128) } g _ hr.grp hx hset
  have hO := (((OnlyB.refl g w).set 6 (.int .u64 x)).set 7 (.int .u8 (equalM x (s.hash % 128))))
  generalize onS { s with ctrl := x, left := equalM x (s.hash % 128) } = s2 at *
  generalize equalM x (s.hash % 128) = m at *
  generalize s.hash % 128 = h2 at *
  generalize s.hash = ha at *
  generalize s.ctrl = ct at *
  generalize s.left = le at *
  clear hset
  have h'h := Lib.hid h
  have hr'h := Lib.hid hr
  have hx'h := Lib.hid hx
  have hp'h := Lib.hid hp
  have hg'h := Lib.hid hg
  have hfin'h := Lib.hid hfin
  have H'h := Lib.hid H
  have E'h := Lib.hid E
  have O'h := Lib.hid O
  have hO'h := Lib.hid hO
  clear h hr hx hp hg hfin H E O hO
  go_enter Try.func75, Try.ntmps75
  go_wp2_with (first | (go_at_call 33; refine (H'h.out _).mono ?_; rintro e w2 ⟨rfl, rfl⟩) | (go_at_call 40; refine (E'h.out _).mono ?_; rintro e w2 ⟨rfl, rfl⟩) | (go_at_call 100; refine O'h.out.mono ?_; rintro e w3 ⟨rfl, hg3, hO3⟩))
  go_end0
  exact ⟨rfl, hg3, hO'h.out.trans hO3⟩
theorem lkey_any (s : Sg) (x g : Nat) (w : World) (h : SgOk s) (hr : SgRight s) (hx : x < 2 ^ 64) (hp : s.phase = 2) (hg : w.heap[g]? = some (SiB s)) :
    Calls Try.prog 76 #[.pointer (some ⟨g, 0, none⟩), .int .u64 x] w fun e w' => e = .returned (.tuple #[]) ∧ w'.heap[g]? = some (SiB (takeS s x)) ∧ OnlyB g w w' := by
  have c0 : w.cell? ⟨g, 0, none⟩ = some (.int .i64 s.phase) := blk_cell hg rfl
  have c2 : w.cell? ⟨g, 2, none⟩ = some (.int .u64 s.key) := blk_cell hg rfl
  have c7 : w.cell? ⟨g, 7, none⟩ = some (.int .u8 s.left) := blk_cell hg rfl
  have f0 : w.frozen? ⟨g, 0, none⟩ = false := blk_free 0 hg
  have f7 : w.frozen? ⟨g, 7, none⟩ = false := blk_free 7 hg
  by_cases hk : x = s.key
  · have d1 : ((x : Int) == (s.key : Int)) = true := by simp [hk]
    have hfin : takeS s x = { s with phase := 3 } := by unfold takeS; rw [if_neg (by omega), if_neg (by omega), if_pos hp, if_pos hk]
    rw [hfin, SiB, ← set_phase]
    generalize s.phase = ph at *
    generalize s.key = ky at *
    have h'h := Lib.hid h
    have hr'h := Lib.hid hr
    have hx'h := Lib.hid hx
    have hp'h := Lib.hid hp
    have hg'h := Lib.hid hg
    have hk'h := Lib.hid hk
    have hfin'h := Lib.hid hfin
    clear h hr hx hp hg hk hfin
    go_enter Try.func76, Try.ntmps76
    go_wp2
    refine bodyPost_ret (results_none rfl _ _ _) rfl ?_
    exact ⟨rfl, blk_set _ hg'h.out, (OnlyB.refl _ _).set _ _⟩
  · have d1 : ((x : Int) == (s.key : Int)) = false := by simp; omega
    have hfin : takeS s x = onS { s with left := dropM s.left } := by unfold takeS; rw [if_neg (by omega), if_neg (by omega), if_pos hp, if_neg hk]
    rw [hfin]
    have hl0 : s.left ≠ 0 := by rcases hr.left with h | h
                                · exact h
                                · exact absurd hp h.1
    have hsub : IntKind.u8.wrap ((s.left : Int) - 1) = ((s.left - 1 : Nat) : Int) := by rw [IntKind.wrap_u8]; have := h.left; omega
    have hand : bits .and .u8 (s.left : Int) ((s.left - 1 : Nat) : Int) = ((dropM s.left : Nat) : Int) := u8_and_nat _ _ h.left (by have := h.left; omega)
    have hset := blk_set (i := 7) (.int .u8 (dropM s.left)) (show w.drew.heap[g]? = _ from hg)
    rw [set_left] at hset
    have O := on_any { s with left := dropM s.left } g _ hr.grp h.ctrl hset
    have hO := ((OnlyB.refl g w).drew.set 7 (.int .u8 (dropM s.left)))
    generalize onS { s with left := dropM s.left } = s2 at *
    generalize dropM s.left = dm at *
    generalize s.left - 1 = l1 at *
    generalize s.left = le at *
    generalize s.phase = ph at *
    generalize s.key = ky at *
    clear hset
    have h'h := Lib.hid h
    have hr'h := Lib.hid hr
    have hx'h := Lib.hid hx
    have hp'h := Lib.hid hp
    have hg'h := Lib.hid hg
    have hfin'h := Lib.hid hfin
    have O'h := Lib.hid O
    have hO'h := Lib.hid hO
    have hk'h := Lib.hid hk
    have hl0'h := Lib.hid hl0
    clear h hr hx hp hg hfin O hO hk hl0
    go_enter Try.func76, Try.ntmps76
    go_wp2
    go_still_tail 15, (by kernel_rfl)
    change wpList _ _ _ _ _ w.drew
    go_wp2_with (go_at_call 100; refine O'h.out.mono ?_; rintro e w3 ⟨rfl, hg3, hO3⟩)
    go_end0
    exact ⟨rfl, hg3, hO'h.out.trans hO3⟩
theorem lvalue_any (s : Sg) (x g : Nat) (w : World) (h : SgOk s) (hr : SgRight s) (hx : x < 2 ^ 64) (hp : s.phase = 3) (hg : w.heap[g]? = some (SiB s)) :
    Calls Try.prog 77 #[.pointer (some ⟨g, 0, none⟩), .int .u64 x] w fun e w' => e = .returned (.tuple #[]) ∧ w'.heap[g]? = some (SiB (takeS s x)) ∧ OnlyB g w w' := by
  have c0 : w.cell? ⟨g, 0, none⟩ = some (.int .i64 s.phase) := blk_cell hg rfl
  have c8 : w.cell? ⟨g, 8, none⟩ = some (.int .u64 s.value) := blk_cell hg rfl
  have c9 : w.cell? ⟨g, 9, none⟩ = some (.bool s.found) := blk_cell hg rfl
  have f0 : w.frozen? ⟨g, 0, none⟩ = false := blk_free 0 hg
  have f8 : w.frozen? ⟨g, 8, none⟩ = false := blk_free 8 hg
  have f9 : w.frozen? ⟨g, 9, none⟩ = false := blk_free 9 hg
  have hfin : takeS s x = { s with value := x, found := true, phase := 4 } := by unfold takeS; rw [if_neg (by omega), if_neg (by omega), if_neg (by omega), if_pos hp]
  rw [hfin, SiB, ← set_phase { s with value := x, found := true } 4, ← set_found { s with value := x } true, ← set_value]
  generalize s.phase = ph at *
  generalize s.value = va at *
  generalize s.found = fo at *
  have h'h := Lib.hid h
  have hr'h := Lib.hid hr
  have hx'h := Lib.hid hx
  have hp'h := Lib.hid hp
  have hg'h := Lib.hid hg
  have hfin'h := Lib.hid hfin
  clear h hr hx hp hg hfin
  go_enter Try.func77, Try.ntmps77
  go_wp2
  go_end0
  exact ⟨rfl, blk_set _ (blk_set _ (blk_set _ hg'h.out)), (((OnlyB.refl _ _).set _ _).set _ _).set _ _⟩
theorem llast_any (s : Sg) (x g : Nat) (w : World) (h : SgOk s) (hr : SgRight s) (hx : x < 2 ^ 64) (hp : s.phase = 4) (hg : w.heap[g]? = some (SiB s)) :
    Calls Try.prog 78 #[.pointer (some ⟨g, 0, none⟩), .int .u64 x] w fun e w' => e = .returned (.tuple #[]) ∧ w'.heap[g]? = some (SiB (takeS s x)) ∧ OnlyB g w w' := by
  have c0 : w.cell? ⟨g, 0, none⟩ = some (.int .i64 s.phase) := blk_cell hg rfl
  have c4 : w.cell? ⟨g, 4, none⟩ = some (.int .u64 s.began) := blk_cell hg rfl
  have f0 : w.frozen? ⟨g, 0, none⟩ = false := blk_free 0 hg
  have hfin0 : takeS s x = { s with phase := if x = s.began then 5 else 6 } := by unfold takeS; rw [if_neg (by omega), if_neg (by omega), if_neg (by omega), if_neg (by omega)]
  by_cases hb : x = s.began
  · have d1 : ((x : Int) != (s.began : Int)) = false := by simp [hb]
    have hfin : takeS s x = { s with phase := 5 } := by rw [hfin0, if_pos hb]
    rw [hfin, SiB, ← set_phase]
    generalize s.phase = ph at *
    generalize s.began = be at *
    have h'h := Lib.hid h
    have hr'h := Lib.hid hr
    have hx'h := Lib.hid hx
    have hp'h := Lib.hid hp
    have hg'h := Lib.hid hg
    have hfin'h := Lib.hid hfin
    have hfin0'h := Lib.hid hfin0
    have hb'h := Lib.hid hb
    clear h hr hx hp hg hfin hfin0 hb
    go_enter Try.func78, Try.ntmps78
    go_wp2
    go_end0
    exact ⟨rfl, blk_set _ hg'h.out, (OnlyB.refl _ _).set _ _⟩
  · have d1 : ((x : Int) != (s.began : Int)) = true := by simp; omega
    have hfin : takeS s x = { s with phase := 6 } := by rw [hfin0, if_neg hb]
    rw [hfin, SiB, ← set_phase { s with phase := 5 } 6, ← set_phase]
    generalize s.phase = ph at *
    generalize s.began = be at *
    have h'h := Lib.hid h
    have hr'h := Lib.hid hr
    have hx'h := Lib.hid hx
    have hp'h := Lib.hid hp
    have hg'h := Lib.hid hg
    have hfin'h := Lib.hid hfin
    have hfin0'h := Lib.hid hfin0
    have hb'h := Lib.hid hb
    clear h hr hx hp hg hfin hfin0 hb
    go_enter Try.func78, Try.ntmps78
    go_wp2
    go_end0
    exact ⟨rfl, blk_set _ (blk_set _ hg'h.out), ((OnlyB.refl _ _).set _ _).set _ _⟩
theorem infoWays : (Try.prog.info? 120).map (·.size) = some 5 := by kernel_rfl
theorem take0_any (s : Sg) (x g : Nat) (w : World) (h : SgOk s) (hr : SgRight s) (hx : x < 2 ^ 64) (hp : s.phase = 0) (hg : w.heap[g]? = some (SiB s)) :
    Calls Try.prog 49 #[.pointer (some ⟨g, 0, none⟩), .int .u64 x] w fun e w' => e = .returned (.tuple #[]) ∧ w'.heap[g]? = some (SiB (takeS s x)) ∧ OnlyB g w w' := by
  have hgl := lt_of_heap hg
  have hn := World.alloc_heap_new w (.cells #[.nilFunc, .nilFunc, .nilFunc, .nilFunc, .nilFunc] 120)
  have hb0 : Below w.heap.size w ((w.alloc (.cells #[.nilFunc, .nilFunc, .nilFunc, .nilFunc, .nilFunc] 120)).setRow w.heap.size #[.func (.func 74) #[] #[], .func (.func 75) #[] #[], .func (.func 76) #[] #[], .func (.func 77) #[] #[], .func (.func 78) #[] #[]]) :=
    below_setRow' ((Below.refl _ _).alloc (Nat.le_refl _) _) (Nat.le_refl _) _
  have hh := setRow_heap _ _ _ #[.func (.func 74) #[] #[], .func (.func 75) #[] #[], .func (.func 76) #[] #[], .func (.func 77) #[] #[], .func (.func 78) #[] #[]] _ _ hn
  obtain ⟨W, hW⟩ : ∃ W, W = (w.alloc (.cells #[.nilFunc, .nilFunc, .nilFunc, .nilFunc, .nilFunc] 120)).setRow w.heap.size #[.func (.func 74) #[] #[], .func (.func 75) #[] #[], .func (.func 76) #[] #[], .func (.func 77) #[] #[], .func (.func 78) #[] #[]] := ⟨_, rfl⟩
  rw [← hW] at hh hb0
  have hgW := heap_below hb0 hg hgl
  have c0 : W.cell? ⟨g, 0, none⟩ = some (.int .i64 0) := by rw [← hp]; exact blk_cell hgW rfl
  have cf : W.cell? ⟨w.heap.size, 0, none⟩ = some (.func (.func 74) #[] #[]) := blk_cell hh rfl
  have F := lfirst_any s x g W h hr hx hp hgW
  have hone : (#[.func (.func 74) #[] #[], .func (.func 75) #[] #[], .func (.func 76) #[] #[], .func (.func 77) #[] #[], .func (.func 78) #[] #[]] : Array Value).all (·.oneCell') = true := by kernel_rfl
  clear hgW hh
  have h'h := Lib.hid h
  have hr'h := Lib.hid hr
  have hx'h := Lib.hid hx
  have hp'h := Lib.hid hp
  have hg'h := Lib.hid hg
  have hgl'h := Lib.hid hgl
  have hn'h := Lib.hid hn
  have hb0'h := Lib.hid hb0
  have hW'h := Lib.hid hW
  have F'h := Lib.hid F
  have hone'h := Lib.hid hone
  clear h hr hx hp hg hgl hn hb0 hW F hone
  go_enter Try.func49, Try.ntmps49
  go_wp2_with (first | (refine wpList_store_row rfl _ _ _ rfl w.heap.size _ rfl rfl 120 _ hn'h.out infoWays rfl hone'h.out ?_; rw [← hW'h.out]))
  go_wp2_with fail
  refine F'h.out.mono ?_
  rintro e w2 ⟨rfl, hg2, hO2⟩
  have hO := OnlyB.old hb0'h.out hO2 hgl'h.out
  clear hO2
  have hg2'h := Lib.hid hg2
  have hO'h := Lib.hid hO
  clear hg2 hO
  go_wp2
  go_end0
  exact ⟨rfl, hg2'h.out, hO'h.out⟩
theorem take1_any (s : Sg) (x g : Nat) (w : World) (h : SgOk s) (hr : SgRight s) (hx : x < 2 ^ 64) (hp : s.phase = 1) (hg : w.heap[g]? = some (SiB s)) :
    Calls Try.prog 49 #[.pointer (some ⟨g, 0, none⟩), .int .u64 x] w fun e w' => e = .returned (.tuple #[]) ∧ w'.heap[g]? = some (SiB (takeS s x)) ∧ OnlyB g w w' := by
  have hgl := lt_of_heap hg
  have hn := World.alloc_heap_new w (.cells #[.nilFunc, .nilFunc, .nilFunc, .nilFunc, .nilFunc] 120)
  have hb0 : Below w.heap.size w ((w.alloc (.cells #[.nilFunc, .nilFunc, .nilFunc, .nilFunc, .nilFunc] 120)).setRow w.heap.size #[.func (.func 74) #[] #[], .func (.func 75) #[] #[], .func (.func 76) #[] #[], .func (.func 77) #[] #[], .func (.func 78) #[] #[]]) :=
    below_setRow' ((Below.refl _ _).alloc (Nat.le_refl _) _) (Nat.le_refl _) _
  have hh := setRow_heap _ _ _ #[.func (.func 74) #[] #[], .func (.func 75) #[] #[], .func (.func 76) #[] #[], .func (.func 77) #[] #[], .func (.func 78) #[] #[]] _ _ hn
  obtain ⟨W, hW⟩ : ∃ W, W = (w.alloc (.cells #[.nilFunc, .nilFunc, .nilFunc, .nilFunc, .nilFunc] 120)).setRow w.heap.size #[.func (.func 74) #[] #[], .func (.func 75) #[] #[], .func (.func 76) #[] #[], .func (.func 77) #[] #[], .func (.func 78) #[] #[]] := ⟨_, rfl⟩
  rw [← hW] at hh hb0
  have hgW := heap_below hb0 hg hgl
  have c0 : W.cell? ⟨g, 0, none⟩ = some (.int .i64 1) := by rw [← hp]; exact blk_cell hgW rfl
  have cf : W.cell? ⟨w.heap.size, 1, none⟩ = some (.func (.func 75) #[] #[]) := blk_cell hh rfl
  have F := lctrl_any s x g W h hr hx hp hgW
  have hone : (#[.func (.func 74) #[] #[], .func (.func 75) #[] #[], .func (.func 76) #[] #[], .func (.func 77) #[] #[], .func (.func 78) #[] #[]] : Array Value).all (·.oneCell') = true := by kernel_rfl
  clear hgW hh
  have h'h := Lib.hid h
  have hr'h := Lib.hid hr
  have hx'h := Lib.hid hx
  have hp'h := Lib.hid hp
  have hg'h := Lib.hid hg
  have hgl'h := Lib.hid hgl
  have hn'h := Lib.hid hn
  have hb0'h := Lib.hid hb0
  have hW'h := Lib.hid hW
  have F'h := Lib.hid F
  have hone'h := Lib.hid hone
  clear h hr hx hp hg hgl hn hb0 hW F hone
  go_enter Try.func49, Try.ntmps49
  go_wp2_with (first | (refine wpList_store_row rfl _ _ _ rfl w.heap.size _ rfl rfl 120 _ hn'h.out infoWays rfl hone'h.out ?_; rw [← hW'h.out]))
  go_wp2_with fail
  refine F'h.out.mono ?_
  rintro e w2 ⟨rfl, hg2, hO2⟩
  have hO := OnlyB.old hb0'h.out hO2 hgl'h.out
  clear hO2
  have hg2'h := Lib.hid hg2
  have hO'h := Lib.hid hO
  clear hg2 hO
  go_wp2
  go_end0
  exact ⟨rfl, hg2'h.out, hO'h.out⟩
theorem take2_any (s : Sg) (x g : Nat) (w : World) (h : SgOk s) (hr : SgRight s) (hx : x < 2 ^ 64) (hp : s.phase = 2) (hg : w.heap[g]? = some (SiB s)) :
    Calls Try.prog 49 #[.pointer (some ⟨g, 0, none⟩), .int .u64 x] w fun e w' => e = .returned (.tuple #[]) ∧ w'.heap[g]? = some (SiB (takeS s x)) ∧ OnlyB g w w' := by
  have hgl := lt_of_heap hg
  have hn := World.alloc_heap_new w (.cells #[.nilFunc, .nilFunc, .nilFunc, .nilFunc, .nilFunc] 120)
  have hb0 : Below w.heap.size w ((w.alloc (.cells #[.nilFunc, .nilFunc, .nilFunc, .nilFunc, .nilFunc] 120)).setRow w.heap.size #[.func (.func 74) #[] #[], .func (.func 75) #[] #[], .func (.func 76) #[] #[], .func (.func 77) #[] #[], .func (.func 78) #[] #[]]) :=
    below_setRow' ((Below.refl _ _).alloc (Nat.le_refl _) _) (Nat.le_refl _) _
  have hh := setRow_heap _ _ _ #[.func (.func 74) #[] #[], .func (.func 75) #[] #[], .func (.func 76) #[] #[], .func (.func 77) #[] #[], .func (.func 78) #[] #[]] _ _ hn
  obtain ⟨W, hW⟩ : ∃ W, W = (w.alloc (.cells #[.nilFunc, .nilFunc, .nilFunc, .nilFunc, .nilFunc] 120)).setRow w.heap.size #[.func (.func 74) #[] #[], .func (.func 75) #[] #[], .func (.func 76) #[] #[], .func (.func 77) #[] #[], .func (.func 78) #[] #[]] := ⟨_, rfl⟩
  rw [← hW] at hh hb0
  have hgW := heap_below hb0 hg hgl
  have c0 : W.cell? ⟨g, 0, none⟩ = some (.int .i64 2) := by rw [← hp]; exact blk_cell hgW rfl
  have cf : W.cell? ⟨w.heap.size, 2, none⟩ = some (.func (.func 76) #[] #[]) := blk_cell hh rfl
  have F := lkey_any s x g W h hr hx hp hgW
  have hone : (#[.func (.func 74) #[] #[], .func (.func 75) #[] #[], .func (.func 76) #[] #[], .func (.func 77) #[] #[], .func (.func 78) #[] #[]] : Array Value).all (·.oneCell') = true := by kernel_rfl
  clear hgW hh
  have h'h := Lib.hid h
  have hr'h := Lib.hid hr
  have hx'h := Lib.hid hx
  have hp'h := Lib.hid hp
  have hg'h := Lib.hid hg
  have hgl'h := Lib.hid hgl
  have hn'h := Lib.hid hn
  have hb0'h := Lib.hid hb0
  have hW'h := Lib.hid hW
  have F'h := Lib.hid F
  have hone'h := Lib.hid hone
  clear h hr hx hp hg hgl hn hb0 hW F hone
  go_enter Try.func49, Try.ntmps49
  go_wp2_with (first | (refine wpList_store_row rfl _ _ _ rfl w.heap.size _ rfl rfl 120 _ hn'h.out infoWays rfl hone'h.out ?_; rw [← hW'h.out]))
  go_wp2_with fail
  refine F'h.out.mono ?_
  rintro e w2 ⟨rfl, hg2, hO2⟩
  have hO := OnlyB.old hb0'h.out hO2 hgl'h.out
  clear hO2
  have hg2'h := Lib.hid hg2
  have hO'h := Lib.hid hO
  clear hg2 hO
  go_wp2
  go_end0
  exact ⟨rfl, hg2'h.out, hO'h.out⟩
theorem take3_any (s : Sg) (x g : Nat) (w : World) (h : SgOk s) (hr : SgRight s) (hx : x < 2 ^ 64) (hp : s.phase = 3) (hg : w.heap[g]? = some (SiB s)) :
    Calls Try.prog 49 #[.pointer (some ⟨g, 0, none⟩), .int .u64 x] w fun e w' => e = .returned (.tuple #[]) ∧ w'.heap[g]? = some (SiB (takeS s x)) ∧ OnlyB g w w' := by
  have hgl := lt_of_heap hg
  have hn := World.alloc_heap_new w (.cells #[.nilFunc, .nilFunc, .nilFunc, .nilFunc, .nilFunc] 120)
  have hb0 : Below w.heap.size w ((w.alloc (.cells #[.nilFunc, .nilFunc, .nilFunc, .nilFunc, .nilFunc] 120)).setRow w.heap.size #[.func (.func 74) #[] #[], .func (.func 75) #[] #[], .func (.func 76) #[] #[], .func (.func 77) #[] #[], .func (.func 78) #[] #[]]) :=
    below_setRow' ((Below.refl _ _).alloc (Nat.le_refl _) _) (Nat.le_refl _) _
  have hh := setRow_heap _ _ _ #[.func (.func 74) #[] #[], .func (.func 75) #[] #[], .func (.func 76) #[] #[], .func (.func 77) #[] #[], .func (.func 78) #[] #[]] _ _ hn
  obtain ⟨W, hW⟩ : ∃ W, W = (w.alloc (.cells #[.nilFunc, .nilFunc, .nilFunc, .nilFunc, .nilFunc] 120)).setRow w.heap.size #[.func (.func 74) #[] #[], .func (.func 75) #[] #[], .func (.func 76) #[] #[], .func (.func 77) #[] #[], .func (.func 78) #[] #[]] := ⟨_, rfl⟩
  rw [← hW] at hh hb0
  have hgW := heap_below hb0 hg hgl
  have c0 : W.cell? ⟨g, 0, none⟩ = some (.int .i64 3) := by rw [← hp]; exact blk_cell hgW rfl
  have cf : W.cell? ⟨w.heap.size, 3, none⟩ = some (.func (.func 77) #[] #[]) := blk_cell hh rfl
  have F := lvalue_any s x g W h hr hx hp hgW
  have hone : (#[.func (.func 74) #[] #[], .func (.func 75) #[] #[], .func (.func 76) #[] #[], .func (.func 77) #[] #[], .func (.func 78) #[] #[]] : Array Value).all (·.oneCell') = true := by kernel_rfl
  clear hgW hh
  have h'h := Lib.hid h
  have hr'h := Lib.hid hr
  have hx'h := Lib.hid hx
  have hp'h := Lib.hid hp
  have hg'h := Lib.hid hg
  have hgl'h := Lib.hid hgl
  have hn'h := Lib.hid hn
  have hb0'h := Lib.hid hb0
  have hW'h := Lib.hid hW
  have F'h := Lib.hid F
  have hone'h := Lib.hid hone
  clear h hr hx hp hg hgl hn hb0 hW F hone
  go_enter Try.func49, Try.ntmps49
  go_wp2_with (first | (refine wpList_store_row rfl _ _ _ rfl w.heap.size _ rfl rfl 120 _ hn'h.out infoWays rfl hone'h.out ?_; rw [← hW'h.out]))
  go_wp2_with fail
  refine F'h.out.mono ?_
  rintro e w2 ⟨rfl, hg2, hO2⟩
  have hO := OnlyB.old hb0'h.out hO2 hgl'h.out
  clear hO2
  have hg2'h := Lib.hid hg2
  have hO'h := Lib.hid hO
  clear hg2 hO
  go_wp2
  go_end0
  exact ⟨rfl, hg2'h.out, hO'h.out⟩
theorem take4_any (s : Sg) (x g : Nat) (w : World) (h : SgOk s) (hr : SgRight s) (hx : x < 2 ^ 64) (hp : s.phase = 4) (hg : w.heap[g]? = some (SiB s)) :
    Calls Try.prog 49 #[.pointer (some ⟨g, 0, none⟩), .int .u64 x] w fun e w' => e = .returned (.tuple #[]) ∧ w'.heap[g]? = some (SiB (takeS s x)) ∧ OnlyB g w w' := by
  have hgl := lt_of_heap hg
  have hn := World.alloc_heap_new w (.cells #[.nilFunc, .nilFunc, .nilFunc, .nilFunc, .nilFunc] 120)
  have hb0 : Below w.heap.size w ((w.alloc (.cells #[.nilFunc, .nilFunc, .nilFunc, .nilFunc, .nilFunc] 120)).setRow w.heap.size #[.func (.func 74) #[] #[], .func (.func 75) #[] #[], .func (.func 76) #[] #[], .func (.func 77) #[] #[], .func (.func 78) #[] #[]]) :=
    below_setRow' ((Below.refl _ _).alloc (Nat.le_refl _) _) (Nat.le_refl _) _
  have hh := setRow_heap _ _ _ #[.func (.func 74) #[] #[], .func (.func 75) #[] #[], .func (.func 76) #[] #[], .func (.func 77) #[] #[], .func (.func 78) #[] #[]] _ _ hn
  obtain ⟨W, hW⟩ : ∃ W, W = (w.alloc (.cells #[.nilFunc, .nilFunc, .nilFunc, .nilFunc, .nilFunc] 120)).setRow w.heap.size #[.func (.func 74) #[] #[], .func (.func 75) #[] #[], .func (.func 76) #[] #[], .func (.func 77) #[] #[], .func (.func 78) #[] #[]] := ⟨_, rfl⟩
  rw [← hW] at hh hb0
  have hgW := heap_below hb0 hg hgl
  have c0 : W.cell? ⟨g, 0, none⟩ = some (.int .i64 4) := by rw [← hp]; exact blk_cell hgW rfl
  have cf : W.cell? ⟨w.heap.size, 4, none⟩ = some (.func (.func 78) #[] #[]) := blk_cell hh rfl
  have F := llast_any s x g W h hr hx hp hgW
  have hone : (#[.func (.func 74) #[] #[], .func (.func 75) #[] #[], .func (.func 76) #[] #[], .func (.func 77) #[] #[], .func (.func 78) #[] #[]] : Array Value).all (·.oneCell') = true := by kernel_rfl
  clear hgW hh
  have h'h := Lib.hid h
  have hr'h := Lib.hid hr
  have hx'h := Lib.hid hx
  have hp'h := Lib.hid hp
  have hg'h := Lib.hid hg
  have hgl'h := Lib.hid hgl
  have hn'h := Lib.hid hn
  have hb0'h := Lib.hid hb0
  have hW'h := Lib.hid hW
  have F'h := Lib.hid F
  have hone'h := Lib.hid hone
  clear h hr hx hp hg hgl hn hb0 hW F hone
  go_enter Try.func49, Try.ntmps49
  go_wp2_with (first | (refine wpList_store_row rfl _ _ _ rfl w.heap.size _ rfl rfl 120 _ hn'h.out infoWays rfl hone'h.out ?_; rw [← hW'h.out]))
  go_wp2_with fail
  refine F'h.out.mono ?_
  rintro e w2 ⟨rfl, hg2, hO2⟩
  have hO := OnlyB.old hb0'h.out hO2 hgl'h.out
  clear hO2
  have hg2'h := Lib.hid hg2
  have hO'h := Lib.hid hO
  clear hg2 hO
  go_wp2
  go_end0
  exact ⟨rfl, hg2'h.out, hO'h.out⟩
theorem ltake_any (s : Sg) (x g : Nat) (w : World) (h : SgOk s) (hr : SgRight s) (hh : hasS s = true) (hx : x < 2 ^ 64) (hg : w.heap[g]? = some (SiB s)) :
    Calls Try.prog 49 #[.pointer (some ⟨g, 0, none⟩), .int .u64 x] w fun e w' => e = .returned (.tuple #[]) ∧ w'.heap[g]? = some (SiB (takeS s x)) ∧ OnlyB g w w' := by
  have hp := hr.phase
  have h4 : s.phase ≤ 4 := by simpa [hasS] using hh
  by_cases p0 : s.phase = 0
  · exact take0_any s x g w h hr hx p0 hg
  by_cases p1 : s.phase = 1
  · exact take1_any s x g w h hr hx p1 hg
  by_cases p2 : s.phase = 2
  · exact take2_any s x g w h hr hx p2 hg
  by_cases p3 : s.phase = 3
  · exact take3_any s x g w h hr hx p3 hg
  exact take4_any s x g w h hr hx (by omega) hg
end Go.Proofs.Ytoklgjlmjkhmbaa

