/-
  HashBack and HashDeeper, walked.
-/
import Derived.Test.YtpfpgjfcomkdgaaHashW
set_option linter.unusedSimpArgs false
set_option linter.unusedVariables false
namespace Go.Proofs.Ytpfpgjfcomkdgaa
open Go.RowKit

theorem shl_h1 {h : Nat} (hh : h < 2 ^ 64) : IntKind.u64.wrap (((h / 128 : Nat) : Int) * 2 ^ 7) = ((h / 128 * 128 : Nat) : Int) := by
  rw [IntKind.wrap_u64]; omega
theorem nat_beq (a b : Nat) : ((a : Int) == (b : Int)) = (a == b) := by
  rw [Bool.eq_iff_iff, beq_iff_eq, beq_iff_eq]; omega
set_option maxRecDepth 100000 in
set_option maxHeartbeats 1000000 in
theorem walk_HashBack (a0 a1 a2 : Int) (w : World) (w0 : (Lit.int .u64 a0).wf = true) (w1 : (Lit.int .u64 a1).wf = true) (w2 : (Lit.int .u64 a2).wf = true) :
    Calls Try.prog 5 #[.int .u64 a0, .int .u64 a1, .int .u64 a2] w fun e w' => e = .returned (.bool true) ∧ Below w.heap.size w w' := by
  obtain ⟨seed, rfl, hs⟩ := nat_of_u64 w0
  obtain ⟨a, rfl, ha⟩ := nat_of_u64 w1
  obtain ⟨b, rfl, hb⟩ := nat_of_u64 w2
  have hx64 := hOf_lt seed a
  have hy64 := hOf_lt seed b
  have O1 := Lib.hid (fun w => of_any seed a w hs ha)
  have O2 := Lib.hid (fun w => of_any seed b w hs hb)
  have K1 := Lib.hid (fun w => key_any seed (hOf seed a) w hs hx64)
  have K2 := Lib.hid (fun w => key_any seed a w hs ha)
  have O3 := Lib.hid (fun w => of_any seed (hKey seed a) w hs (hKey_lt a hs))
  have H1 := Lib.hid (fun w => h1_any (hOf seed a) w)
  have H2 := Lib.hid (fun w => h2_any (hOf seed a) w hx64)
  have O4 : RowKit.Hid (∀ w, Calls Try.prog 10 #[.int .u64 0, .int .u64 ((a ^^^ seed : Nat) : Int)] w fun e w' => e = .returned (.int .u64 (hOf 0 (a ^^^ seed))) ∧ w' = w) := Lib.hid (fun w => of_any 0 (a ^^^ seed) w (by decide) (Nat.xor_lt_two_pow ha hs))
  rw [key_of hs ha] at K1
  rw [of_key hs ha] at O3
  rw [of_nought seed a] at O4
  have hne : ((a : Int) != a) = false := by simp
  have heq : ((hOf seed a : Int) == hOf seed b) = ((a : Int) == b) := by
    rw [nat_beq, nat_beq, Bool.eq_iff_iff, beq_iff_eq, beq_iff_eq]
    exact ⟨fun h => of_inj hs ha hb h, fun h => by rw [h]⟩
  have hsh := shl_h1 hx64
  have hor : bits .or .u64 ((hOf seed a / 128 * 128 : Nat) : Int) ((hOf seed a % 128 : Nat) : Int) = (hOf seed a : Int) := by
    rw [or_u64_lit _ _ (by omega) (by omega), h1_or_h2]
  have hor2 : bits .or .u64 (IntKind.u64.wrap (((hOf seed a / 128 : Nat) : Int) * 128)) ((hOf seed a % 128 : Nat) : Int) = (hOf seed a : Int) := by
    rw [show (((hOf seed a / 128 : Nat) : Int) * 128) = (((hOf seed a / 128 : Nat) : Int) * 2 ^ 7) by omega, hsh, hor]
  have hxr := xor_u64_lit a seed ha hs
  have hlt : decide (((hOf seed a % 128 : Nat) : Int) < 128) = true := by rw [decide_eq_true_eq]; omega
  have hwr : IntKind.u64.wrap ((hOf seed a % 128 : Nat) : Int) = ((hOf seed a % 128 : Nat) : Int) := by rw [IntKind.wrap_u64]; omega
  have HO := Lib.hid hor2
  have HX := Lib.hid hxr
  have HE := Lib.hid heq
  clear hs ha hb hx64 hy64 w0 w1 w2 hsh hor hor2 hxr heq
  generalize hOf seed a / 128 = q at *
  generalize hOf seed a % 128 = r at *
  generalize hOf seed a = x at *
  generalize hOf seed b = y at *
  generalize hKey seed a = z at *
  generalize a ^^^ seed = u at *
  go_enter Try.func5, Try.ntmps5
  go_wp2_with fail
  refine (wakes_any _).mono ?_
  rintro e w1 ⟨rfl, hb1⟩
  go_wp2_with fail
  refine (O1.out _).mono ?_
  rintro e w' ⟨rfl, rfl⟩
  go_wp2_with fail
  refine (O2.out _).mono ?_
  rintro e w' ⟨rfl, rfl⟩
  go_wp2_with fail
  refine (K1.out _).mono ?_
  rintro e w' ⟨rfl, rfl⟩
  go_wp2_with fail
  refine (K2.out _).mono ?_
  rintro e w' ⟨rfl, rfl⟩
  go_wp2_with fail
  refine (O3.out _).mono ?_
  rintro e w' ⟨rfl, rfl⟩
  by_cases hab : ((a : Int) == b) = true
  · have h1 := HE.out
    rw [hab] at h1
    go_wp2_with fail
    refine (H1.out _).mono ?_
    rintro e w' ⟨rfl, rfl⟩
    have hor := HO.out
    go_wp2_with fail
    refine (H2.out _).mono ?_
    rintro e w' ⟨rfl, rfl⟩
    go_wp2_with fail
    refine (H2.out _).mono ?_
    rintro e w' ⟨rfl, rfl⟩
    go_wp2_with fail
    rw [HX.out]
    refine (O4.out _).mono ?_
    rintro e w' ⟨rfl, rfl⟩
    go_wp2
    go_ret
    exact ⟨rfl, hb1⟩
  · have hab' : ((a : Int) == b) = false := by simpa using hab
    clear hab
    have h1 := HE.out
    rw [hab'] at h1
    go_wp2_with fail
    refine (H1.out _).mono ?_
    rintro e w' ⟨rfl, rfl⟩
    have hor := HO.out
    go_wp2_with fail
    refine (H2.out _).mono ?_
    rintro e w' ⟨rfl, rfl⟩
    go_wp2_with fail
    refine (H2.out _).mono ?_
    rintro e w' ⟨rfl, rfl⟩
    go_wp2_with fail
    rw [HX.out]
    refine (O4.out _).mono ?_
    rintro e w' ⟨rfl, rfl⟩
    go_wp2
    go_ret
    exact ⟨rfl, hb1⟩
end Go.Proofs.Ytpfpgjfcomkdgaa
