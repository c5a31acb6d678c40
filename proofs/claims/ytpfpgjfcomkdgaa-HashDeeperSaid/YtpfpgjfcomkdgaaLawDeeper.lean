/-
  HashDeeper, walked.
-/
import Derived.Test.YtpfpgjfcomkdgaaHashW
set_option linter.unusedSimpArgs false
set_option linter.unusedVariables false
namespace Go.Proofs.Ytpfpgjfcomkdgaa
open Go.RowKit

theorem mod64 (x : Int) : ∃ m : Nat, m < 64 ∧ wrap64 ((IntKind.u64.wrap x).tmod 64) = (m : Int) := by
  refine ⟨(x % 64).toNat, by omega, ?_⟩
  rw [IntKind.wrap_u64, Int.tmod_eq_emod_of_nonneg (by omega)]
  unfold wrap64; omega
theorem prefix_beq {a b n : Nat} (ha : a < 2 ^ 64) (hb : b < 2 ^ 64) (hn : n ≤ 64) : ((hPrefix a n : Int) == (hPrefix b n : Int)) = decide ((n : Int) ≤ (hParts a b : Int)) := by
  rw [Bool.eq_iff_iff, beq_iff_eq, decide_eq_true_eq]
  have := prefix_eq_iff ha hb hn
  omega
theorem parts_beq {a b : Nat} (ha : a < 2 ^ 64) (hb : b < 2 ^ 64) : ((hParts a b : Int) == 64) = ((a : Int) == (b : Int)) := by
  rw [Bool.eq_iff_iff, beq_iff_eq, beq_iff_eq]
  have := parts_all ha hb
  omega
set_option maxRecDepth 100000 in
set_option maxHeartbeats 1000000 in
theorem walk_HashDeeper (a0 a1 a2 : Int) (w : World) (w0 : (Lit.int .u64 a0).wf = true) (w1 : (Lit.int .u64 a1).wf = true) (w2 : (Lit.int .i64 a2).wf = true) :
    Calls Try.prog 6 #[.int .u64 a0, .int .u64 a1, .int .i64 a2] w fun e w' => e = .returned (.bool true) ∧ Below w.heap.size w w' := by
  obtain ⟨a, rfl, ha⟩ := nat_of_u64 w0
  obtain ⟨b, rfl, hb⟩ := nat_of_u64 w1
  obtain ⟨m, hm, hmw⟩ := mod64 a2
  have P1 := Lib.hid (fun w => prefix_yes a m w ha (by omega))
  have P2 : RowKit.Hid (∀ w, Calls Try.prog 18 #[.int .u64 a, .int .i64 ((m : Int) + 1)] w fun e w' => e = .returned (.tuple #[.int .u64 (hPrefix a (m + 1)), .int .i64 0]) ∧ w' = w) := Lib.hid (fun w => prefix_yes a (m + 1) w ha (by omega))
  have P3 := Lib.hid (fun w => prefix_yes b m w hb (by omega))
  have Q1 := Lib.hid (fun w => parts_any a b w ha hb)
  have Q2 := Lib.hid (fun w => parts_any b a w hb ha)
  rw [parts_comm b a] at Q2
  have hhalf : ((hPrefix a (m + 1) : Nat) : Int) / 2 = (hPrefix a m : Int) := by have := prefix_half (a := a) hm; omega
  have heq := prefix_beq ha hb (show m ≤ 64 by omega)
  have hall := parts_beq ha hb
  have hle := parts_le a b
  have hp := hPrefix_lt (m + 1) ha
  have HE := Lib.hid heq
  have HA := Lib.hid hall
  have HH := Lib.hid hhalf
  have HM := Lib.hid hmw
  clear ha hb w0 w1 w2 heq hall hhalf hmw
  generalize hPrefix a (m + 1) = q at *
  generalize hPrefix a m = p at *
  generalize hPrefix b m = r at *
  generalize hParts a b = d at *
  have hd1 : decide ((0 : Int) ≤ (d : Int)) = true := by simp
  have hd2 : decide ((d : Int) ≤ 64) = true := by simp; omega
  go_enter Try.func6, Try.ntmps6
  go_wp2_with fail
  refine (wakes_any _).mono ?_
  rintro e w1 ⟨rfl, hb1⟩
  go_wp2_with fail
  rw [HM.out]
  refine (P1.out _).mono ?_
  rintro e w' ⟨rfl, rfl⟩
  go_wp2_with fail
  refine (P2.out _).mono ?_
  rintro e w' ⟨rfl, rfl⟩
  go_wp2_with fail
  refine (P3.out _).mono ?_
  rintro e w' ⟨rfl, rfl⟩
  have hh := HH.out
  go_wp2_with fail
  refine (Q1.out _).mono ?_
  rintro e w' ⟨rfl, rfl⟩
  have he := HE.out
  have ha := HA.out
  go_wp2_with fail
  refine (Q2.out _).mono ?_
  rintro e w' ⟨rfl, rfl⟩
  go_wp2
  go_ret
  exact ⟨rfl, hb1⟩
end Go.Proofs.Ytpfpgjfcomkdgaa
