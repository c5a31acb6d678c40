/-
  Package look: who looks for a key.
-/
import Derived.Test.YtoklgjlmjkhmbaaLookPure
import Derived.Test.YtoklgjlmjkhmbaaOnly
import Derived.Test.YtoklgjlmjkhmbaaCommon
import Derived.Test.YtoklgjlmjkhmbaaHash
import Derived.Test.YtoklgjlmjkhmbaaProbeC
import Derived.Test.YtoklgjlmjkhmbaaLanesC
import Derived.StillTailTactics
import Derived.Deep.RegionHeld3
import Derived.Laws.StructEq
set_option linter.unusedSimpArgs false
set_option linter.unusedVariables false
set_option maxRecDepth 100000
namespace Go.Proofs.Ytoklgjlmjkhmbaa
open Go.RowKit

section
variable {P : Program}
theorem wpStill_load_row {ops : Array Oper} {rest : List Oper} {o : Oper} {a : Act} {w : World} {Q : Act → Prop} (hgd : o.guard = none) (ty : TypeId) (x : Operand) (ho : o.op = .load ty x)
    (g : Nat) (hx : a.eval x = .pointer (some ⟨g, 0, none⟩)) (t : TypeId) (cs : Array Value) (fr : Nat × Nat) (d : TypeDesc) (hg : w.heap[g]? = some (.cells cs t fr))
    (hu : P.underlying ty = some d) (hd : (match d with | .struct _ | .array _ _ => true | _ => false) = true) (hi : (P.info? ty).map (·.size) = some cs.size)
    (h : wpStill P ops w Q rest (a.put o.dst (.agg cs))) : wpStill P ops w Q (o :: rest) a := by
  refine wpStill_step fun K hK => ?_
  have hw : Region.wanted o (yielded ops a.tmps) = true := by simp [Region.wanted, hgd]
  rw [if_pos hw]
  unfold Oper.still execOp
  simp only [ho, hx, Instr.loadAt, Instr.sureAddr, Sem.run_bind, Sem.run_pure, Result.andThen_ok, run_loadVar_row w g t ty cs fr d hg hu hd hi]
  rw [Oper.stillUpon_value]
  exact hK _ h
end
theorem infoSg : (Try.prog.info? 33).map (·.size) = some 10 := by kernel_rfl
theorem infoSi : (Try.prog.info? 88).map (·.size) = some 10 := by kernel_rfl
theorem sgA_one (s : Sg) : (sgA s).all (·.oneCell') = true := by unfold sgA; kernel_rfl
theorem u64_low (x : Nat) (hx : x < 2 ^ 64) : bits .and .u64 (x : Int) 1 = ((x % 2 : Nat) : Int) := by
  have := u64_and_nat x 1 (by simpa using hx) (by decide)
  rw [Nat.and_one_is_mod] at this
  exact this
theorem lcells_any (sp : Option Addr) (n cap : Nat) (w : World) (hn : n ≤ 9223372036854775807) : Calls Try.prog 52 #[.slice sp n cap] w fun e w' => e = .returned (.bool (decide (1 ≤ n ∧ n ≤ 8192))) ∧ w' = w := by
  by_cases h1 : 1 ≤ n
  · by_cases h2 : n ≤ 8192
    · have e : decide (1 ≤ n ∧ n ≤ 8192) = true := by simp; omega
      have d1 : decide ((1 : Int) ≤ (n : Int)) = true := by simp; omega
      have d2 : decide ((n : Int) ≤ 8192) = true := by simp; omega
      rw [e]
      go_enter Try.func52, Try.ntmps52
      go_wp2
      go_ret
      exact ⟨rfl, rfl⟩
    · have e : decide (1 ≤ n ∧ n ≤ 8192) = false := by simp; omega
      have d1 : decide ((1 : Int) ≤ (n : Int)) = true := by simp; omega
      have d2 : decide ((n : Int) ≤ 8192) = false := by simp; omega
      rw [e]
      go_enter Try.func52, Try.ntmps52
      go_wp2
      go_ret
      exact ⟨rfl, rfl⟩
  · have e : decide (1 ≤ n ∧ n ≤ 8192) = false := by simp; omega
    have d1 : decide ((1 : Int) ≤ (n : Int)) = false := by simp; omega
    rw [e]
    go_enter Try.func52, Try.ntmps52
    go_wp2
    go_ret
    exact ⟨rfl, rfl⟩
theorem cell_yes (slab word : Nat) (w : World) (hs : slab < 128) (hw : word < 40) : Calls Try.prog 29 #[.int .i64 slab, .int .i64 word] w fun e w' => e = .returned (.tuple #[.int .i64 ((16 + 40 * slab + word : Nat) : Int), .int .i64 0]) ∧ w' = w := by
  have e : ((16 + 40 * slab + word : Nat) : Int) = 16 + (slab : Int) * 40 + (word : Int) := by omega
  rw [e]
  have d1 : decide ((slab : Int) < 0) = false := by simp
  have d2 : decide ((128 : Int) ≤ (slab : Int)) = false := by simp; omega
  have d3 : decide ((word : Int) < 0) = false := by simp
  have d4 : decide ((40 : Int) ≤ (word : Int)) = false := by simp; omega
  have b1 : (slab : Int) < 128 := by omega
  have b2 : (word : Int) < 40 := by omega
  clear e
  go_enter Try.func29, Try.ntmps29
  go_wp2
  go_ret2
  exact ⟨rfl, rfl⟩
theorem cell_no (slab : Int) (word : Nat) (w : World) (hs : ¬ (0 ≤ slab ∧ slab < 128)) : Calls Try.prog 29 #[.int .i64 slab, .int .i64 word] w fun e w' => e = .returned (.tuple #[.int .i64 0, .int .i64 2]) ∧ w' = w := by
  by_cases h0 : slab < 0
  · have d1 : decide (slab < 0) = true := by simpa using h0
    have hs'h := Lib.hid hs
    have h0'h := Lib.hid h0
    clear hs h0
    go_enter Try.func29, Try.ntmps29
    go_wp2
    go_ret2
    exact ⟨rfl, rfl⟩
  · have d1 : decide (slab < 0) = false := by simpa using h0
    have d2 : decide ((128 : Int) ≤ slab) = true := by simp; omega
    have hs'h := Lib.hid hs
    have h0'h := Lib.hid h0
    clear hs h0
    go_enter Try.func29, Try.ntmps29
    go_wp2
    go_ret2
    exact ⟨rfl, rfl⟩
/-- What Check says. -/
def lcheckE (s : Sg) : Int := if rightS s = true then 0 else 280
theorem lcheckE_yes {s : Sg} (h : SgRight s) : lcheckE s = 0 := by unfold lcheckE; rw [if_pos ((rightS_iff s).2 h)]
theorem lcheckE_no {s : Sg} (h : ¬ SgRight s) : lcheckE s = 280 := by unfold lcheckE; rw [if_neg (fun e => h ((rightS_iff s).1 e))]
set_option maxHeartbeats 8000000 in
theorem lcheck_any (s : Sg) (w : World) (h : SgOk s) : Calls Try.prog 21 #[.agg (sgA s)] w fun e w' => e = .returned (.int .i64 (lcheckE s)) ∧ Below w.heap.size w w' := by
  have hy := @lcheckE_yes s
  have hn := @lcheckE_no s
  obtain ⟨ph, sl, ky, ha, be, gr, ct, le, va, fo⟩ := s
  obtain ⟨b1, b2, b3, b4, b5, b6, b7, b8, b9⟩ := h
  simp only at b1 b2 b3 b4 b5 b6 b7 b8 b9
  have hand := u64_low be b5
  generalize lcheckE ⟨ph, sl, ky, ha, be, gr, ct, le, va, fo⟩ = z at *
  unfold sgA
  obtain ⟨m, hm⟩ : ∃ m, m = be % 2 := ⟨_, rfl⟩
  rw [← hm] at hand
  have hyy : (0 ≤ ph ∧ ph ≤ 6) → (0 ≤ sl ∧ sl < 128) → m = 0 → (0 ≤ gr ∧ gr ≤ 1) → (le ≠ 0 ∨ (ph ≠ 2 ∧ ph ≠ 3)) → z = 0 := fun q1 q2 q3 q4 q5 => hy ⟨q1, q2, by simp only; omega, q4, q5⟩
  have hnn : ¬ ((0 ≤ ph ∧ ph ≤ 6) ∧ (0 ≤ sl ∧ sl < 128) ∧ m = 0 ∧ (0 ≤ gr ∧ gr ≤ 1) ∧ (le ≠ 0 ∨ (ph ≠ 2 ∧ ph ≠ 3))) → z = 280 := fun hh => hn fun ⟨q1, q2, q3, q4, q5⟩ => hh ⟨q1, q2, by simp only at q3; omega, q4, q5⟩
  have hm1 : m ≤ 1 := by omega
  have hcases : ph < 0 ∨ (0 ≤ ph ∧ 6 < ph) ∨ (0 ≤ ph ∧ ph ≤ 6 ∧ sl < 0) ∨ (0 ≤ ph ∧ ph ≤ 6 ∧ 0 ≤ sl ∧ 128 ≤ sl) ∨ (0 ≤ ph ∧ ph ≤ 6 ∧ 0 ≤ sl ∧ sl < 128 ∧ m = 1) ∨ (0 ≤ ph ∧ ph ≤ 6 ∧ 0 ≤ sl ∧ sl < 128 ∧ m = 0 ∧ gr < 0) ∨
      (0 ≤ ph ∧ ph ≤ 6 ∧ 0 ≤ sl ∧ sl < 128 ∧ m = 0 ∧ 0 ≤ gr ∧ 2 ≤ gr) ∨ (0 ≤ ph ∧ ph ≤ 6 ∧ 0 ≤ sl ∧ sl < 128 ∧ m = 0 ∧ 0 ≤ gr ∧ gr < 2 ∧ le ≠ 0) ∨ (0 ≤ ph ∧ ph ≤ 6 ∧ 0 ≤ sl ∧ sl < 128 ∧ m = 0 ∧ 0 ≤ gr ∧ gr < 2 ∧ le = 0 ∧ ph = 2) ∨
      (0 ≤ ph ∧ ph ≤ 6 ∧ 0 ≤ sl ∧ sl < 128 ∧ m = 0 ∧ 0 ≤ gr ∧ gr < 2 ∧ le = 0 ∧ ph = 3) ∨ (0 ≤ ph ∧ ph ≤ 6 ∧ 0 ≤ sl ∧ sl < 128 ∧ m = 0 ∧ 0 ≤ gr ∧ gr < 2 ∧ le = 0 ∧ ph ≠ 2 ∧ ph ≠ 3) := by
    clear hy hn hyy hnn hand
    by_cases g1 : ph < 0
    · exact .inl g1
    refine .inr ?_
    by_cases g2 : 6 < ph
    · exact .inl ⟨by omega, g2⟩
    refine .inr ?_
    by_cases g3 : sl < 0
    · exact .inl ⟨by omega, by omega, g3⟩
    refine .inr ?_
    by_cases g4 : 128 ≤ sl
    · exact .inl ⟨by omega, by omega, by omega, g4⟩
    refine .inr ?_
    by_cases g5 : m = 1
    · exact .inl ⟨by omega, by omega, by omega, by omega, g5⟩
    refine .inr ?_
    by_cases g6 : gr < 0
    · exact .inl ⟨by omega, by omega, by omega, by omega, by omega, g6⟩
    refine .inr ?_
    by_cases g7 : 2 ≤ gr
    · exact .inl ⟨by omega, by omega, by omega, by omega, by omega, by omega, g7⟩
    refine .inr ?_
    by_cases g8 : le ≠ 0
    · exact .inl ⟨by omega, by omega, by omega, by omega, by omega, by omega, by omega, g8⟩
    refine .inr ?_
    by_cases g9 : ph = 2
    · exact .inl ⟨by omega, by omega, by omega, by omega, by omega, by omega, by omega, by omega, g9⟩
    refine .inr ?_
    by_cases g10 : ph = 3
    · exact .inl ⟨by omega, by omega, by omega, by omega, by omega, by omega, by omega, by omega, g10⟩
    exact .inr ⟨by omega, by omega, by omega, by omega, by omega, by omega, by omega, by omega, g9, g10⟩
  clear hy hn hm b3 b4 b7 b8 b9 b5
  rcases hcases with c | c | c | c | c | c | c | c | c | c | c
  all_goals
    first
      | (have hz : z = 0 := hyy (by omega) (by omega) (by omega) (by omega) (by omega))
      | (have hz : z = 280 := hnn (by omega))
    first | (have e0 : decide (ph < 0) = true := by simp; omega) | (have e0 : decide (ph < 0) = false := by simp; omega) | skip
    first | (have e1 : decide (6 < ph) = true := by simp; omega) | (have e1 : decide (6 < ph) = false := by simp; omega) | skip
    first | (have e2 : decide (sl < 0) = true := by simp; omega) | (have e2 : decide (sl < 0) = false := by simp; omega) | skip
    first | (have e3 : decide (128 ≤ sl) = true := by simp; omega) | (have e3 : decide (128 ≤ sl) = false := by simp; omega) | skip
    first | (have e4 : ((m : Int) == 1) = true := by simp; omega) | (have e4 : ((m : Int) == 1) = false := by simp; omega) | skip
    first | (have e5 : decide (gr < 0) = true := by simp; omega) | (have e5 : decide (gr < 0) = false := by simp; omega) | skip
    first | (have e6 : decide (2 ≤ gr) = true := by simp; omega) | (have e6 : decide (2 ≤ gr) = false := by simp; omega) | skip
    first | (have e7 : ((le : Int) != 0) = true := by simp; omega) | (have e7 : ((le : Int) != 0) = false := by simp; omega) | skip
    first | (have e8 : (ph != 2) = true := by simp; omega) | (have e8 : (ph != 2) = false := by simp; omega) | skip
    first | (have e9 : (ph != 3) = true := by simp; omega) | (have e9 : (ph != 3) = false := by simp; omega) | skip
    have hyy'h := Lib.hid hyy
    have hnn'h := Lib.hid hnn
    have hz'h := Lib.hid hz
    have c'h := Lib.hid c
    clear hyy hnn hz c
    go_enter Try.func21, Try.ntmps21
    go_wp2
    all_goals
      go_ret
      exact ⟨by rw [hz'h.out]; rfl, (Below.refl _ _).alloc (Nat.le_refl _) _⟩
end Go.Proofs.Ytoklgjlmjkhmbaa
