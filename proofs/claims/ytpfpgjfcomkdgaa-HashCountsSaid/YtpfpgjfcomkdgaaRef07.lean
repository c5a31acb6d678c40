/-
  The document's functions of layer 7, each by its contract.
-/
import Derived.Test.YtpfpgjfcomkdgaaHash
set_option linter.unusedSimpArgs false
set_option linter.unusedVariables false
namespace Go.Proofs.Ytpfpgjfcomkdgaa
open Go.RowKit

def powN (k : Nat) : Nat := 2 ^ k
def lowN (x k : Nat) : Nat := x % 2 ^ k
def highN (x k : Nat) : Nat := x / 2 ^ k * 2 ^ k
theorem two_pow_lt {k : Nat} (h : k < 64) : 2 ^ k < 2 ^ 64 := Nat.pow_lt_pow_right (by decide) h
theorem ref_bit (n : Nat) (w : World) (hn : n < 64) : Calls Try.prog 51 #[.int .i64 n] w fun e w' => e = .returned (.int .u64 (powN n)) ∧ w' = w := by
  go_enter Try.func51, Try.ntmps51
  go_wp2
  go_loopg [3, 5] n (fun q y i wr => ∃ k : Nat, k + q = n ∧ i = .int .i64 k ∧ y = .int .u64 (powN k) ∧ wr = w)
  case atStart => exact ⟨0, by omega, rfl, rfl, rfl⟩
  case round =>
    obtain ⟨k, hk, rfl, rfl, rfl⟩ := hrel
    have hkn : k ≤ n := by omega
    have hk0 := two_pow_lt (show k < 64 by omega)
    by_cases h8 : k < n
    · have hk1 := two_pow_lt (show k + 1 < 64 by omega)
      have hw : IntKind.u64.wrap (2 * (powN k : Int)) = (powN (k + 1) : Int) := by unfold powN; rw [IntKind.wrap_u64]; rw [Nat.pow_succ] at hk1 ⊢; omega
      have hk'h := Lib.hid hk
      have hw'h := Lib.hid hw
      have hk0'h := Lib.hid hk0
      have hk1'h := Lib.hid hk1
      clear hk hw hk0 hk1
      go_wp2
      go_roundg (gk - 1)
      case measure => have := hk'h.out; omega
      case rel => exact ⟨k + 1, by have := hk'h.out; omega, by go_num, by rw [← hw'h.out], rfl⟩
    · have hkk : k = n := by omega
      have hk'h := Lib.hid hk
      have hk0'h := Lib.hid hk0
      have hkk'h := Lib.hid hkk
      clear hk hk0 hkk
      go_wp2
      go_ret
      exact ⟨ret_u64 (by rw [hkk'h.out]), rfl⟩

theorem has_val {x p : Nat} {t : Bool} (hq : x / p < 2 ^ 64) (ht : (x / p % 2 == 1) = t) : ((IntKind.u64.wrap ((x : Int) / (p : Int))).tmod 2 == 1) = t := by
  rw [← ht, Bool.eq_iff_iff, beq_iff_eq, beq_iff_eq, ← Int.natCast_ediv, wrap_u64_nat _ hq, Int.tmod_eq_emod_of_nonneg (Int.natCast_nonneg _)]; omega
theorem ref_has (x n : Nat) (w : World) (hx : x < 2 ^ 64) : Calls Try.prog 41 #[.int .u64 x, .int .i64 n] w fun e w' => e = .returned (.bool (x.testBit n)) ∧ w' = w := by
  by_cases h : n < 64
  · have hp := Nat.two_pow_pos n
    have B := ref_bit n w h
    unfold powN at B
    have ht : (x / 2 ^ n % 2 == 1) = x.testBit n := by rw [Nat.testBit_eq_decide_div_mod_eq]; rfl
    generalize 2 ^ n = p at *
    generalize x.testBit n = t at *
    have hd : decide ((n : Int) < 64) = true := by rw [decide_eq_true_eq]; omega
    have hq : x / p < 2 ^ 64 := Nat.lt_of_le_of_lt (Nat.div_le_self _ _) hx
    have hv := has_val hq ht
    have B'h := Lib.hid B
    have hv'h := Lib.hid hv
    have hx'h := Lib.hid hx
    have h'h := Lib.hid h
    have ht'h := Lib.hid ht
    have hq'h := Lib.hid hq
    clear B hv hx h ht hq
    go_enter Try.func41, Try.ntmps41
    go_wp2_with fail
    refine (B'h.out).mono ?_
    rintro e w' ⟨rfl, rfl⟩
    go_wp2
    go_ret
    exact ⟨ret_bool hv'h.out, rfl⟩
  · have hd : decide ((n : Int) < 64) = false := by rw [decide_eq_false_iff_not]; omega
    have ht := high_false hx (show 64 ≤ n by omega)
    have ht'h := Lib.hid ht
    have hx'h := Lib.hid hx
    have h'h := Lib.hid h
    clear ht hx h
    go_enter Try.func41, Try.ntmps41
    go_wp2
    go_ret
    exact ⟨ret_bool ht'h.out.symm, rfl⟩

theorem mod_two_pow_lt (x k : Nat) (h : k ≤ 64) : x % 2 ^ k < 2 ^ 64 := Nat.lt_of_lt_of_le (Nat.mod_lt _ (Nat.two_pow_pos _)) (Nat.pow_le_pow_right (by decide) h)
theorem wrap_add {a b c : Nat} (h : c = a + b) (hc : c < 2 ^ 64) : IntKind.u64.wrap ((a : Int) + (b : Int)) = (c : Int) := by
  rw [IntKind.wrap_u64]; omega
theorem low_step {r k : Nat} (hk : k < 64) : (r.testBit k = true → IntKind.u64.wrap ((lowN r k : Int) + (powN k : Int)) = (lowN r (k + 1) : Int)) ∧ (r.testBit k = false → lowN r k = lowN r (k + 1)) := by
  have hn := low_next r k
  have hl1 := mod_two_pow_lt r (k + 1) (by omega)
  unfold lowN powN
  refine ⟨fun h => ?_, fun h => ?_⟩
  · rw [h, if_pos rfl] at hn; exact wrap_add hn hl1
  · rw [h] at hn; simpa using hn.symm
theorem low_all {r : Nat} (hr : r < 2 ^ 64) : lowN r 64 = r := Nat.mod_eq_of_lt hr
theorem low_none (r : Nat) : lowN r 0 = 0 := Nat.mod_one r
theorem ref_turned (x y : Nat) (w : World) (hx : x < 2 ^ 64) (hy : y < 2 ^ 64) : Calls Try.prog 34 #[.int .u64 x, .int .u64 y] w fun e w' => e = .returned (.int .u64 (x ^^^ y : Nat)) ∧ w' = w := by
  have hr := Nat.xor_lt_two_pow hx hy
  have hbit : ∀ i, (x ^^^ y).testBit i = (x.testBit i ^^ y.testBit i) := fun i => Nat.testBit_xor ..
  generalize x ^^^ y = r at *
  have hx'h := Lib.hid hx
  have hy'h := Lib.hid hy
  have hr'h := Lib.hid hr
  have hbit'h := Lib.hid hbit
  clear hx hy hr hbit
  go_enter Try.func34, Try.ntmps34
  go_wp2
  go_loopg [5, 7] 64 (fun q o i wr => ∃ k : Nat, k + q = 64 ∧ i = .int .i64 k ∧ o = .int .u64 (lowN r k) ∧ wr = w)
  case atStart => exact ⟨0, by omega, rfl, by rw [low_none]; rfl, rfl⟩
  case round =>
    obtain ⟨k, hk, rfl, rfl, rfl⟩ := hrel
    by_cases h8 : k < 64
    · have Bx := ref_has x k wr hx'h.out
      have By := ref_has y k wr hy'h.out
      have Bb := ref_bit k wr h8
      have hb := hbit'h.out k
      have hs := low_step (r := r) h8
      cases hvx : x.testBit k <;> cases hvy : y.testBit k
      all_goals
        rw [hvx] at Bx hb
        rw [hvy] at By hb
        simp only [Bool.xor_false, Bool.xor_true, Bool.not_false, Bool.not_true] at hb
        have hk'h := Lib.hid hk
        have hb'h := Lib.hid hb
        have hs'h := Lib.hid hs
        have hvx'h := Lib.hid hvx
        have hvy'h := Lib.hid hvy
        have Bx'h := Lib.hid Bx
        have By'h := Lib.hid By
        have Bb'h := Lib.hid Bb
        clear hk hb hs hvx hvy Bx By Bb
        go_wp2_with fail
        refine (Bx'h.out).mono ?_
        rintro e w' ⟨rfl, rfl⟩
        go_wp2_with fail
        refine (By'h.out).mono ?_
        rintro e w' ⟨rfl, rfl⟩
        go_wp2_with (refine Bb'h.out.mono ?_; rintro e w' ⟨rfl, rfl⟩)
        go_roundg (gk - 1)
        case measure => have := hk'h.out; omega
        case rel => exact ⟨k + 1, by have := hk'h.out; omega, by go_num, by first | rw [hs'h.out.2 hb'h.out] | rw [hs'h.out.1 hb'h.out], rfl⟩
    · have hkk : k = 64 := by omega
      have hk'h := Lib.hid hk
      have hkk'h := Lib.hid hkk
      clear hk hkk
      go_wp2
      go_ret
      exact ⟨ret_u64 (by rw [hkk'h.out, low_all hr'h.out]), rfl⟩

theorem wrap_div {x p : Nat} (hx : x < 2 ^ 64) : IntKind.u64.wrap ((x : Int) / (p : Int)) = ((x / p : Nat) : Int) := by
  rw [← Int.natCast_ediv, wrap_u64_nat _ (Nat.lt_of_le_of_lt (Nat.div_le_self _ _) hx)]
theorem ref_folded (x b : Nat) (w : World) (hx : x < 2 ^ 64) (hb : b < 64) : Calls Try.prog 33 #[.int .u64 x, .int .i64 b] w fun e w' => e = .returned (.int .u64 (hFold x b)) ∧ w' = w := by
  have B := ref_bit b w hb
  have hq : x / powN b < 2 ^ 64 := Nat.lt_of_le_of_lt (Nat.div_le_self _ _) hx
  have T := ref_turned x (x / powN b) w hx hq
  have hw := wrap_div (p := powN b) hx
  have hp : 0 < powN b := Nat.two_pow_pos b
  have he : x ^^^ x / powN b = hFold x b := rfl
  rw [he] at T
  have hx'h := Lib.hid hx
  have hq'h := Lib.hid hq
  have T'h := Lib.hid T
  have B'h := Lib.hid B
  have hw'h := Lib.hid hw
  have he'h := Lib.hid he
  have hb'h := Lib.hid hb
  clear hx hq T B hw he hb
  go_enter Try.func33, Try.ntmps33
  go_wp2_with fail
  refine (B'h.out).mono ?_
  rintro e w' ⟨rfl, rfl⟩
  go_wp2_with fail
  rw [hw'h.out]
  refine T'h.out.mono ?_
  rintro e w' ⟨rfl, rfl⟩
  go_wp2
  go_ret
  exact ⟨rfl, rfl⟩

theorem high_step {r k : Nat} (hr : r < 2 ^ 64) : (r.testBit k = true → IntKind.u64.wrap ((highN r (k + 1) : Int) + (powN k : Int)) = (highN r k : Int)) ∧ (r.testBit k = false → highN r (k + 1) = highN r k) := by
  have hn := high_next r k
  have hl : r / 2 ^ k * 2 ^ k < 2 ^ 64 := Nat.lt_of_le_of_lt (Nat.div_mul_le_self _ _) hr
  unfold highN powN
  refine ⟨fun h => ?_, fun h => ?_⟩
  · rw [h, if_pos rfl] at hn; exact wrap_add hn hl
  · rw [h] at hn; simpa using hn.symm
theorem high_all {r : Nat} : highN r 0 = r := by unfold highN; simp
theorem high_none {r : Nat} (hr : r < 2 ^ 64) : highN r 64 = 0 := by unfold highN; rw [Nat.div_eq_of_lt hr, Nat.zero_mul]
theorem high_lt {r : Nat} (k : Nat) (hr : r < 2 ^ 64) : highN r k < 2 ^ 64 := Nat.lt_of_le_of_lt (Nat.div_mul_le_self _ _) hr
set_option maxHeartbeats 400000 in
theorem ref_unfolded (x b : Nat) (w : World) (hx : x < 2 ^ 64) (hb : b = 29 ∨ b = 32) : Calls Try.prog 38 #[.int .u64 x, .int .i64 b] w fun e w' => e = .returned (.int .u64 (hUnfold x b)) ∧ w' = w := by
  have hr := hUnfold_lt b hx
  have hbit := unfold_bit (b := b) hx (by omega)
  generalize hUnfold x b = r at *
  have hb2 : 1 ≤ b ∧ b ≤ 32 := by omega
  obtain ⟨hb1, hb2⟩ := hb2
  have hx'h := Lib.hid hx
  have hr'h := Lib.hid hr
  have hbit'h := Lib.hid hbit
  have hb'h := Lib.hid hb
  clear hx hr hbit hb
  go_enter Try.func38, Try.ntmps38
  go_wp2
  go_loopg [5, 6] 64 (fun q o i wr => q ≤ 64 ∧ i = .int .i64 ((q : Int) - 1) ∧ o = .int .u64 (highN r q) ∧ wr = w)
  case atStart => exact ⟨by omega, rfl, by rw [high_none hr'h.out]; rfl, rfl⟩
  case round =>
    obtain ⟨hk, rfl, rfl, rfl⟩ := hrel
    by_cases h8 : 0 < gk
    · obtain ⟨k, rfl⟩ : ∃ k, gk = k + 1 := ⟨gk - 1, by omega⟩
      have e : ((k + 1 : Nat) : Int) - 1 = (k : Int) := by omega
      rw [e]
      have Bx := ref_has x k wr hx'h.out
      have By := ref_has (highN r (k + 1)) (k + b) wr (high_lt _ hr'h.out)
      have Bb := ref_bit k wr (by omega)
      have hb := hbit'h.out k
      have hs := high_step (k := k) hr'h.out
      have hh : (highN r (k + 1)).testBit (k + b) = r.testBit (k + b) := high_bit (by omega)
      rw [hh, Int.natCast_add] at By
      have hk64 : k < 64 := by omega
      have hk0 : (0 : Int) ≤ (k : Int) := by omega
      have he : (k : Int) - 1 = (k : Int) - 1 := rfl
      cases hvx : x.testBit k <;> cases hvy : r.testBit (k + b)
      all_goals
        rw [hvx] at Bx hb
        rw [hvy] at By hb
        simp only [Bool.xor_false, Bool.xor_true, Bool.not_false, Bool.not_true] at hb
        have hk'h := Lib.hid hk
        have hb'h := Lib.hid hb
        have hs'h := Lib.hid hs
        have hvx'h := Lib.hid hvx
        have hvy'h := Lib.hid hvy
        have Bx'h := Lib.hid Bx
        have By'h := Lib.hid By
        have Bb'h := Lib.hid Bb
        have hh'h := Lib.hid hh
        have e'h := Lib.hid e
        have he'h := Lib.hid he
        clear hk hb hs hvx hvy Bx By Bb hh e he
        go_wp2_with fail
        refine (Bx'h.out).mono ?_
        rintro e w' ⟨rfl, rfl⟩
        go_wp2_with fail
        refine (By'h.out).mono ?_
        rintro e w' ⟨rfl, rfl⟩
        go_wp2_with (refine Bb'h.out.mono ?_; rintro e w' ⟨rfl, rfl⟩)
        go_roundg k
        case measure => omega
        case rel => exact ⟨by omega, rfl, by first | rw [hs'h.out.2 hb'h.out] | rw [hs'h.out.1 hb'h.out], rfl⟩
    · have hkk : gk = 0 := by omega
      subst hkk
      go_wp2
      go_ret
      exact ⟨ret_u64 (by rw [high_all]), rfl⟩

theorem wrap_mul (a c : Nat) : IntKind.u64.wrap ((a : Int) * (c : Int)) = ((a * c % 2 ^ 64 : Nat) : Int) := by
  rw [IntKind.wrap_u64, ← Int.natCast_mul]; omega
set_option maxHeartbeats 400000 in
/-- What, times c, is x. -/
theorem ref_over (x c r : Nat) (w : World) (hx : x < 2 ^ 64) (hr : r < 2 ^ 64) (hc : c % 2 = 1) (he : hMul r c = x) : Calls Try.prog 37 #[.int .u64 x, .int .u64 c] w fun e w' => e = .returned (.int .u64 r) ∧ w' = w := by
  have hbit := fun n (hn : n < 64) => over_bit hc he hn
  have hx'h := Lib.hid hx
  have hr'h := Lib.hid hr
  have hbit'h := Lib.hid hbit
  have hc'h := Lib.hid hc
  have he'h := Lib.hid he
  clear hx hr hbit hc he
  go_enter Try.func37, Try.ntmps37
  go_wp2
  go_loopg [5, 7] 64 (fun q o i wr => ∃ k : Nat, k + q = 64 ∧ i = .int .i64 k ∧ o = .int .u64 (lowN r k) ∧ wr = w)
  case atStart => exact ⟨0, by omega, rfl, by rw [low_none]; rfl, rfl⟩
  case round =>
    obtain ⟨k, hk, rfl, rfl, rfl⟩ := hrel
    by_cases h8 : k < 64
    · have Bx := ref_has (lowN r k * c % 2 ^ 64) k wr (Nat.mod_lt _ (by decide))
      have By := ref_has x k wr hx'h.out
      have Bb := ref_bit k wr h8
      have hb := hbit'h.out k h8
      have hs := low_step (r := r) h8
      have hm := wrap_mul (lowN r k) c
      unfold lowN at Bx hm
      generalize hy : r % 2 ^ k * c % 2 ^ 64 = y at *
      have hm2 : IntKind.u64.wrap ((lowN r k : Int) * (c : Int)) = (y : Int) := hm
      cases hvx : y.testBit k <;> cases hvy : x.testBit k
      all_goals
        rw [hvx] at Bx hb
        rw [hvy] at By hb
        simp only [Bool.xor_false, Bool.xor_true, Bool.not_false, Bool.not_true] at hb
        have hk'h := Lib.hid hk
        have hb'h := Lib.hid hb
        have hs'h := Lib.hid hs
        have hvx'h := Lib.hid hvx
        have hvy'h := Lib.hid hvy
        have Bx'h := Lib.hid Bx
        have By'h := Lib.hid By
        have Bb'h := Lib.hid Bb
        have hm'h := Lib.hid hm
        have hm2'h := Lib.hid hm2
        have hy'h := Lib.hid hy
        clear hk hb hs hvx hvy Bx By Bb hm hm2 hy
        go_wp2_with fail
        rw [hm2'h.out]
        refine Bx'h.out.mono ?_
        rintro e w' ⟨rfl, rfl⟩
        go_wp2_with fail
        refine (By'h.out).mono ?_
        rintro e w' ⟨rfl, rfl⟩
        go_wp2_with (refine Bb'h.out.mono ?_; rintro e w' ⟨rfl, rfl⟩)
        go_roundg (gk - 1)
        case measure => have := hk'h.out; omega
        case rel => exact ⟨k + 1, by have := hk'h.out; omega, by go_num, by first | rw [hs'h.out.2 hb'h.out] | rw [hs'h.out.1 hb'h.out], rfl⟩
    · have hkk : k = 64 := by omega
      have hk'h := Lib.hid hk
      have hkk'h := Lib.hid hkk
      clear hk hkk
      go_wp2
      go_ret
      exact ⟨ret_u64 (by rw [hkk'h.out, low_all hr'h.out]), rfl⟩
end Go.Proofs.Ytpfpgjfcomkdgaa
