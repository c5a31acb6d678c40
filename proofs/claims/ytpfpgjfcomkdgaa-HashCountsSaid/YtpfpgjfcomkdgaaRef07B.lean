/-
  The document's answers of layer 7, each by its contract.
-/
import Derived.Test.YtpfpgjfcomkdgaaRef07
set_option linter.unusedSimpArgs false
set_option linter.unusedVariables false
namespace Go.Proofs.Ytpfpgjfcomkdgaa
open Go.RowKit

theorem mul_one' (x : Nat) : IntKind.u64.wrap ((x : Int) * 13787848793156543929) = ((hMul x hOne : Nat) : Int) := wrap_mul x hOne
theorem mul_two' (x : Nat) : IntKind.u64.wrap ((x : Int) * 10723151780598845931) = ((hMul x hTwo : Nat) : Int) := wrap_mul x hTwo
theorem ref_of (seed key : Nat) (w : World) (hs : seed < 2 ^ 64) (hk : key < 2 ^ 64) : Calls Try.prog 11 #[.int .u64 seed, .int .u64 key] w fun e w' => e = .returned (.int .u64 (hOf seed key)) ∧ w' = w := by
  have T := ref_turned key seed w hk hs
  have F1 := ref_folded (hMul (key ^^^ seed) hOne) 32 w (hMul_lt _ _) (by decide)
  have F2 := ref_folded (hMul (hFold (hMul (key ^^^ seed) hOne) 32) hTwo) 29 w (hMul_lt _ _) (by decide)
  have hd : hFold (hMul (hFold (hMul (key ^^^ seed) hOne) 32) hTwo) 29 = hOf seed key := rfl
  have m1 := mul_one' (key ^^^ seed)
  have m2 := mul_two' (hFold (hMul (key ^^^ seed) hOne) 32)
  rw [hd] at F2
  clear hd
  generalize hFold (hMul (key ^^^ seed) hOne) 32 = y at *
  generalize hMul (key ^^^ seed) hOne = x at *
  generalize key ^^^ seed = u at *
  generalize hMul y hTwo = z at *
  generalize hOf seed key = r at *
  have hs'h := Lib.hid hs
  have hk'h := Lib.hid hk
  have T'h := Lib.hid T
  have F1'h := Lib.hid F1
  have F2'h := Lib.hid F2
  have m1'h := Lib.hid m1
  have m2'h := Lib.hid m2
  clear hs hk T F1 F2 m1 m2
  go_enter Try.func11, Try.ntmps11
  go_wp2_with fail
  refine (T'h.out).mono ?_
  rintro e w' ⟨rfl, rfl⟩
  go_wp2_with fail
  rw [m1'h.out]
  refine F1'h.out.mono ?_
  rintro e w' ⟨rfl, rfl⟩
  go_wp2_with fail
  rw [m2'h.out]
  refine F2'h.out.mono ?_
  rintro e w' ⟨rfl, rfl⟩
  go_wp2
  go_ret
  exact ⟨rfl, rfl⟩
theorem ref_key (seed h : Nat) (w : World) (hs : seed < 2 ^ 64) (hh : h < 2 ^ 64) : Calls Try.prog 13 #[.int .u64 seed, .int .u64 h] w fun e w' => e = .returned (.int .u64 (hKey seed h)) ∧ w' = w := by
  have U1 := ref_unfolded h 29 w hh (.inl rfl)
  have l1 := hUnfold_lt 29 hh
  have O1 := ref_over (hUnfold h 29) hTwo (hMul (hUnfold h 29) hTwoBack) w l1 (hMul_lt _ _) (by decide) (mul_back l1 (by rw [Nat.mul_comm]; exact two_back))
  have U2 := ref_unfolded (hMul (hUnfold h 29) hTwoBack) 32 w (hMul_lt _ _) (.inr rfl)
  have l2 := hUnfold_lt 32 (hMul_lt (hUnfold h 29) hTwoBack)
  have O2 := ref_over (hUnfold (hMul (hUnfold h 29) hTwoBack) 32) hOne (hMul (hUnfold (hMul (hUnfold h 29) hTwoBack) 32) hOneBack) w l2 (hMul_lt _ _) (by decide) (mul_back l2 (by rw [Nat.mul_comm]; exact one_back))
  have T := ref_turned (hMul (hUnfold (hMul (hUnfold h 29) hTwoBack) 32) hOneBack) seed w (hMul_lt _ _) hs
  have hd : hMul (hUnfold (hMul (hUnfold h 29) hTwoBack) 32) hOneBack ^^^ seed = hKey seed h := rfl
  rw [hd] at T
  have hs'h := Lib.hid hs
  have hh'h := Lib.hid hh
  have U1'h := Lib.hid U1
  have O1'h := Lib.hid O1
  have U2'h := Lib.hid U2
  have O2'h := Lib.hid O2
  have T'h := Lib.hid T
  have l1'h := Lib.hid l1
  have l2'h := Lib.hid l2
  have hd'h := Lib.hid hd
  clear hs hh U1 O1 U2 O2 T l1 l2 hd
  go_enter Try.func13, Try.ntmps13
  go_wp2_with fail
  refine (U1'h.out).mono ?_
  rintro e w' ⟨rfl, rfl⟩
  go_wp2_with fail
  refine (O1'h.out).mono ?_
  rintro e w' ⟨rfl, rfl⟩
  go_wp2_with fail
  refine (U2'h.out).mono ?_
  rintro e w' ⟨rfl, rfl⟩
  go_wp2_with fail
  refine (O2'h.out).mono ?_
  rintro e w' ⟨rfl, rfl⟩
  go_wp2_with fail
  refine (T'h.out).mono ?_
  rintro e w' ⟨rfl, rfl⟩
  go_wp2
  go_ret
  exact ⟨rfl, rfl⟩
theorem ref_h1 (h : Nat) (w : World) (hh : h < 2 ^ 64) : Calls Try.prog 15 #[.int .u64 h] w fun e w' => e = .returned (.int .u64 (h / 128 : Nat)) ∧ w' = w := by
  have hw : IntKind.u64.wrap ((h : Int) / 128) = ((h / 128 : Nat) : Int) := wrap_div (p := 128) hh
  have hh'h := Lib.hid hh
  have hw'h := Lib.hid hw
  clear hh hw
  go_enter Try.func15, Try.ntmps15
  go_wp2
  go_ret
  exact ⟨ret_u64 (by have := hw'h.out; have := hh'h.out; omega), rfl⟩
theorem ref_h2 (h : Nat) (w : World) (hh : h < 2 ^ 64) : Calls Try.prog 17 #[.int .u64 h] w fun e w' => e = .returned (.int .u8 (h % 128 : Nat)) ∧ w' = w := by
  have hh'h := Lib.hid hh
  clear hh
  go_enter Try.func17, Try.ntmps17
  go_wp2
  go_ret
  refine ⟨ret_u8 ?_, rfl⟩
  first | omega | (rw [Int.tmod_eq_emod_of_nonneg (Int.natCast_nonneg _), IntKind.wrap_u8]; omega)
theorem ref_may (n : Int) (w : World) : Calls Try.prog 19 #[.int .i64 n] w fun e w' => e = .returned (.bool (mayN n)) ∧ w' = w := by
  by_cases h0 : 0 ≤ n
  · have h0' : decide (0 ≤ n) = true := by simpa using h0
    go_enter Try.func19, Try.ntmps19
    go_wp2
    go_ret
    exact ⟨ret_bool (by simp [mayN, h0]), rfl⟩
  · have h0' : decide (0 ≤ n) = false := by simpa using h0
    go_enter Try.func19, Try.ntmps19
    go_wp2
    go_ret
    exact ⟨ret_bool (by simp [mayN]; omega), rfl⟩
theorem prefix_step {h k : Nat} (hh : h < 2 ^ 64) (hk : k < 64) : (h.testBit (63 - k) = true → IntKind.u64.wrap (IntKind.u64.wrap (2 * (hPrefix h k : Int)) + 1) = (hPrefix h (k + 1) : Int)) ∧ (h.testBit (63 - k) = false → IntKind.u64.wrap (2 * (hPrefix h k : Int)) = (hPrefix h (k + 1) : Int)) := by
  have hn := prefix_next (a := h) hk
  have hl := hPrefix_lt (k + 1) hh
  simp only [IntKind.wrap_u64]
  refine ⟨fun e => ?_, fun e => ?_⟩
  · rw [e, if_pos rfl] at hn; omega
  · rw [e] at hn; simp at hn; omega
theorem prefix_none {h : Nat} (hh : h < 2 ^ 64) : hPrefix h 0 = 0 := Nat.div_eq_of_lt hh
theorem ref_prefix (h n : Nat) (w : World) (hh : h < 2 ^ 64) (hn : n ≤ 64) : Calls Try.prog 20 #[.int .u64 h, .int .i64 n] w fun e w' => e = .returned (.int .u64 (hPrefix h n)) ∧ w' = w := by
  have hh'h := Lib.hid hh
  clear hh
  go_enter Try.func20, Try.ntmps20
  go_wp2
  go_loopg [5, 8] n (fun q o i wr => ∃ k : Nat, k + q = n ∧ i = .int .i64 k ∧ o = .int .u64 (hPrefix h k) ∧ wr = w)
  case atStart => exact ⟨0, by omega, rfl, by rw [prefix_none hh'h.out]; rfl, rfl⟩
  case round =>
    obtain ⟨k, hk, rfl, rfl, rfl⟩ := hrel
    by_cases h8 : k < n
    · have Bx := ref_has h (63 - k) wr hh'h.out
      have e : ((63 - k : Nat) : Int) = 63 - (k : Int) := by omega
      rw [e] at Bx
      have hs := prefix_step (k := k) hh'h.out (by omega)
      have hk63 : k ≤ 63 := by omega
      cases hv : h.testBit (63 - k)
      all_goals
        rw [hv] at Bx
        have hk'h := Lib.hid hk
        have hs'h := Lib.hid hs
        have hv'h := Lib.hid hv
        have Bx'h := Lib.hid Bx
        have e'h := Lib.hid e
        clear hk hs hv Bx e
        go_wp2_with fail
        refine (Bx'h.out).mono ?_
        rintro e w' ⟨rfl, rfl⟩
        go_wp2
        go_roundg (gk - 1)
        case measure => have := hk'h.out; omega
        case rel => exact ⟨k + 1, by have := hk'h.out; omega, by go_num, by first | rw [hs'h.out.2 hv'h.out] | rw [hs'h.out.1 hv'h.out], rfl⟩
    · have hkk : k = n := by omega
      have hk'h := Lib.hid hk
      have hkk'h := Lib.hid hkk
      clear hk hkk
      go_wp2
      go_ret
      exact ⟨ret_u64 (by rw [hkk'h.out]), rfl⟩
theorem ref_parts (a b : Nat) (w : World) (ha : a < 2 ^ 64) (hb : b < 2 ^ 64) : Calls Try.prog 22 #[.int .u64 a, .int .u64 b] w fun e w' => e = .returned (.int .i64 (hParts a b)) ∧ w' = w := by
  have hsame := fun n (hn : n < hParts a b) => parts_same ha hb hn
  have hother := fun (hn : hParts a b < 64) => parts_other ha hb hn
  have hle := parts_le a b
  generalize hParts a b = d at *
  have ha'h := Lib.hid ha
  have hb'h := Lib.hid hb
  have hsame'h := Lib.hid hsame
  have hother'h := Lib.hid hother
  clear ha hb hsame hother
  go_enter Try.func22, Try.ntmps22
  go_wp2
  go_loopg [5] d (fun q i wr => ∃ k : Nat, k + q = d ∧ i = .int .i64 k ∧ wr = w)
  case atStart => exact ⟨0, by omega, rfl, rfl⟩
  case round =>
    obtain ⟨k, hk, rfl, rfl⟩ := hrel
    have hkd : k ≤ d := by omega
    by_cases h8 : k < 64
    · have hd : decide ((k : Int) < 64) = true := by rw [decide_eq_true_eq]; omega
      have Ba := ref_has a (63 - k) wr ha'h.out
      have Bb := ref_has b (63 - k) wr hb'h.out
      have e : ((63 - k : Nat) : Int) = 63 - (k : Int) := by omega
      rw [e] at Ba Bb
      by_cases hkk : k < d
      · rw [← hsame'h.out k hkk] at Bb
        cases hv : a.testBit (63 - k)
        all_goals
          rw [hv] at Ba Bb
          have hk'h := Lib.hid hk
          have Ba'h := Lib.hid Ba
          have Bb'h := Lib.hid Bb
          have e'h := Lib.hid e
          have hv'h := Lib.hid hv
          clear hk Ba Bb e hv
          go_wp2_with fail
          refine (Ba'h.out).mono ?_
          rintro e w' ⟨rfl, rfl⟩
          go_wp2_with fail
          refine (Bb'h.out).mono ?_
          rintro e w' ⟨rfl, rfl⟩
          go_wp2
          go_roundg (gk - 1)
          case measure => have := hk'h.out; omega
          case rel => exact ⟨k + 1, by have := hk'h.out; omega, by go_num, rfl⟩
      · obtain rfl : d = k := by omega
        have ho := hother'h.out h8
        cases hv : a.testBit (63 - d) <;> cases hv' : b.testBit (63 - d)
        · rw [hv, hv'] at ho; exact absurd rfl ho
        · rw [hv] at Ba
          rw [hv'] at Bb
          have hk'h := Lib.hid hk
          have Ba'h := Lib.hid Ba
          have Bb'h := Lib.hid Bb
          have e'h := Lib.hid e
          have hv'h := Lib.hid hv
          have hv''h := Lib.hid hv'
          have ho'h := Lib.hid ho
          have hkk'h := Lib.hid hkk
          clear hk Ba Bb e hv hv' ho hkk
          go_wp2_with fail
          refine (Ba'h.out).mono ?_
          rintro e w' ⟨rfl, rfl⟩
          go_wp2_with fail
          refine (Bb'h.out).mono ?_
          rintro e w' ⟨rfl, rfl⟩
          go_wp2
          go_ret
          exact ⟨rfl, rfl⟩
        · rw [hv] at Ba
          rw [hv'] at Bb
          have hk'h := Lib.hid hk
          have Ba'h := Lib.hid Ba
          have Bb'h := Lib.hid Bb
          have e'h := Lib.hid e
          have hv'h := Lib.hid hv
          have hv''h := Lib.hid hv'
          have ho'h := Lib.hid ho
          have hkk'h := Lib.hid hkk
          clear hk Ba Bb e hv hv' ho hkk
          go_wp2_with fail
          refine (Ba'h.out).mono ?_
          rintro e w' ⟨rfl, rfl⟩
          go_wp2_with fail
          refine (Bb'h.out).mono ?_
          rintro e w' ⟨rfl, rfl⟩
          go_wp2
          go_ret
          exact ⟨rfl, rfl⟩
        · rw [hv, hv'] at ho; exact absurd rfl ho
    · have hd : decide ((k : Int) < 64) = false := by rw [decide_eq_false_iff_not]; omega
      obtain rfl : d = k := by omega
      have hk'h := Lib.hid hk
      have hle'h := Lib.hid hle
      have hkd'h := Lib.hid hkd
      have h8'h := Lib.hid h8
      clear hk hle hkd h8
      go_wp2
      go_ret
      exact ⟨rfl, rfl⟩
end Go.Proofs.Ytpfpgjfcomkdgaa
