/-
  Plain laws of hashes: no program in sight.
-/
import Derived.Lib.BitFns
set_option linter.unusedSimpArgs false
set_option linter.unusedVariables false
namespace Go.Proofs.Ytpfpgjfcomkdgaa

def hOne : Nat := 0xbf58476d1ce4e5b9
def hTwo : Nat := 0x94d049bb133111eb
def hOneBack : Nat := 0x96de1b173f119089
def hTwoBack : Nat := 0x319642b2d24d8ec3
theorem one_back : hOne * hOneBack % 2 ^ 64 = 1 := by decide +kernel
theorem two_back : hTwo * hTwoBack % 2 ^ 64 = 1 := by decide +kernel

def hMul (a b : Nat) : Nat := a * b % 2 ^ 64
def hFold (x b : Nat) : Nat := x ^^^ x / 2 ^ b
def hUnfold (x b : Nat) : Nat := x ^^^ (x ^^^ x / 2 ^ b) / 2 ^ b
def hOf (seed key : Nat) : Nat := hFold (hMul (hFold (hMul (key ^^^ seed) hOne) 32) hTwo) 29
def hKey (seed h : Nat) : Nat := hMul (hUnfold (hMul (hUnfold h 29) hTwoBack) 32) hOneBack ^^^ seed
def hPrefix (h n : Nat) : Nat := h / 2 ^ (64 - n)
def hParts (a b : Nat) : Nat := 64 - Lib.bitLen (a ^^^ b)

theorem hMul_lt (a b : Nat) : hMul a b < 2 ^ 64 := Nat.mod_lt _ (by decide)
theorem hFold_lt {x : Nat} (b : Nat) (h : x < 2 ^ 64) : hFold x b < 2 ^ 64 := Nat.xor_lt_two_pow h (Nat.lt_of_le_of_lt (Nat.div_le_self _ _) h)
theorem hUnfold_lt {x : Nat} (b : Nat) (h : x < 2 ^ 64) : hUnfold x b < 2 ^ 64 := Nat.xor_lt_two_pow h (Nat.lt_of_le_of_lt (Nat.div_le_self _ _) (hFold_lt b h))
theorem hOf_lt (seed key : Nat) : hOf seed key < 2 ^ 64 := hFold_lt _ (hMul_lt _ _)
theorem hKey_lt {seed : Nat} (h : Nat) (hs : seed < 2 ^ 64) : hKey seed h < 2 ^ 64 := Nat.xor_lt_two_pow (hMul_lt _ _) hs
theorem hPrefix_lt {h : Nat} (n : Nat) (hh : h < 2 ^ 64) : hPrefix h n < 2 ^ 64 := Nat.lt_of_le_of_lt (Nat.div_le_self _ _) hh

/-- A bit of a word divided by a power of two. -/
theorem testBit_div (x b i : Nat) : (x / 2 ^ b).testBit i = x.testBit (i + b) := by
  rw [← Nat.shiftRight_eq_div_pow, Nat.testBit_shiftRight, Nat.add_comm]
theorem testBit_fold (x b i : Nat) : (hFold x b).testBit i = (x.testBit i ^^ x.testBit (i + b)) := by
  unfold hFold; rw [Nat.testBit_xor, testBit_div]
theorem testBit_unfold (x b i : Nat) : (hUnfold x b).testBit i = (x.testBit i ^^ (x.testBit (i + b) ^^ x.testBit (i + b + b))) := by
  unfold hUnfold; rw [Nat.testBit_xor, testBit_div, Nat.testBit_xor, testBit_div]
theorem high_false {x : Nat} (h : x < 2 ^ 64) {i : Nat} (hi : 64 ≤ i) : x.testBit i = false := Nat.testBit_lt_two_pow (Nat.lt_of_lt_of_le h (Nat.pow_le_pow_right (by decide) hi))

theorem unfold_fold {x b : Nat} (h : x < 2 ^ 64) (hb : 64 ≤ b + b + b) : hUnfold (hFold x b) b = x := by
  refine Nat.eq_of_testBit_eq fun i => ?_
  rw [testBit_unfold, testBit_fold, testBit_fold, testBit_fold, high_false h (show 64 ≤ i + b + b + b by omega)]
  cases x.testBit i <;> cases x.testBit (i + b) <;> cases x.testBit (i + b + b) <;> rfl
theorem fold_unfold {x b : Nat} (h : x < 2 ^ 64) (hb : 64 ≤ b + b + b) : hFold (hUnfold x b) b = x := by
  refine Nat.eq_of_testBit_eq fun i => ?_
  rw [testBit_fold, testBit_unfold, testBit_unfold, high_false h (show 64 ≤ i + b + b + b by omega)]
  cases x.testBit i <;> cases x.testBit (i + b) <;> cases x.testBit (i + b + b) <;> rfl
/-- What was folded: each bit by the one above. -/
theorem unfold_bit {x b : Nat} (h : x < 2 ^ 64) (hb : 64 ≤ b + b + b) (i : Nat) : (hUnfold x b).testBit i = (x.testBit i ^^ (hUnfold x b).testBit (i + b)) := by
  rw [testBit_unfold, testBit_unfold, high_false h (show 64 ≤ i + b + b + b by omega)]
  simp

theorem mul_mul_mod (a b c : Nat) : hMul (hMul a b) c = a * (b * c) % 2 ^ 64 := by
  unfold hMul; rw [Nat.mod_mul_mod, Nat.mul_assoc]
theorem mul_back {a b c : Nat} (ha : a < 2 ^ 64) (h : b * c % 2 ^ 64 = 1) : hMul (hMul a b) c = a := by
  rw [mul_mul_mod, Nat.mul_mod, h, Nat.mul_one, Nat.mod_mod, Nat.mod_eq_of_lt ha]

theorem xor_twice (a b : Nat) : (a ^^^ b) ^^^ b = a := by
  rw [Nat.xor_assoc, Nat.xor_self, Nat.xor_zero]

theorem key_of {seed key : Nat} (hs : seed < 2 ^ 64) (hk : key < 2 ^ 64) : hKey seed (hOf seed key) = key := by
  unfold hKey hOf
  rw [unfold_fold (hMul_lt _ _) (by decide), mul_back (hFold_lt _ (hMul_lt _ _)) two_back, unfold_fold (hMul_lt _ _) (by decide), mul_back (Nat.xor_lt_two_pow hk hs) one_back, xor_twice]
theorem of_key {seed h : Nat} (hs : seed < 2 ^ 64) (hh : h < 2 ^ 64) : hOf seed (hKey seed h) = h := by
  unfold hKey hOf
  rw [xor_twice, mul_back (hUnfold_lt _ (hMul_lt _ _)) (by rw [Nat.mul_comm]; exact one_back), fold_unfold (hMul_lt _ _) (by decide), mul_back (hUnfold_lt _ hh) (by rw [Nat.mul_comm]; exact two_back), fold_unfold hh (by decide)]
theorem of_inj {seed a b : Nat} (hs : seed < 2 ^ 64) (ha : a < 2 ^ 64) (hb : b < 2 ^ 64) (h : hOf seed a = hOf seed b) : a = b := by
  rw [← key_of hs ha, h, key_of hs hb]
theorem of_nought (seed a : Nat) : hOf 0 (a ^^^ seed) = hOf seed a := by
  unfold hOf; rw [Nat.xor_zero]
theorem h1_h2 (x : Nat) : x / 128 * 128 + x % 128 = x := by omega
theorem h1_or_h2 (x : Nat) : x / 128 * 128 ||| x % 128 = x := by
  rw [show x / 128 * 128 = (x / 128) <<< 7 by rw [Nat.shiftLeft_eq], ← Nat.shiftLeft_add_eq_or_of_lt (by omega : x % 128 < 2 ^ 7), Nat.shiftLeft_eq]; omega

/-! ### Where hashes part -/
theorem bitLen_zero : Lib.bitLen 0 = 0 := by decide
theorem bitLen_lt : ∀ (x : Nat), x < 2 ^ 64 → x < 2 ^ Lib.bitLen x := by
  intro x
  induction x using Nat.strongRecOn with
  | _ x ih =>
    intro h
    by_cases h0 : x = 0
    · subst h0; rw [bitLen_zero]; decide
    · have := ih (x / 2) (by omega) (by omega)
      rw [Lib.bitLen_half x h0 h, Nat.pow_add]
      omega
theorem bitLen_le_iff {x k : Nat} (h : x < 2 ^ 64) (hk : k ≤ 64) : Lib.bitLen x ≤ k ↔ x < 2 ^ k :=
  ⟨fun hl => Nat.lt_of_lt_of_le (bitLen_lt x h) (Nat.pow_le_pow_right (by decide) hl), Lib.bitLen_le x k hk⟩
theorem bitLen_le64 {x : Nat} (h : x < 2 ^ 64) : Lib.bitLen x ≤ 64 := (bitLen_le_iff h (Nat.le_refl _)).2 h

theorem xor_nought {a b : Nat} : a ^^^ b = 0 ↔ a = b :=
  ⟨fun h => by have := congrArg (fun x => x ^^^ b) h; simpa [xor_twice] using this, fun h => by rw [h, Nat.xor_self]⟩
theorem div_eq_iff {a b k : Nat} : a / 2 ^ k = b / 2 ^ k ↔ a ^^^ b < 2 ^ k := by
  rw [← Nat.div_eq_zero_iff_lt (Nat.two_pow_pos k), ← Nat.shiftRight_eq_div_pow, ← Nat.shiftRight_eq_div_pow, ← Nat.shiftRight_eq_div_pow, Nat.shiftRight_xor_distrib, xor_nought]
theorem parts_le (a b : Nat) : hParts a b ≤ 64 := Nat.sub_le _ _
theorem prefix_eq_iff {a b n : Nat} (ha : a < 2 ^ 64) (hb : b < 2 ^ 64) (hn : n ≤ 64) : hPrefix a n = hPrefix b n ↔ n ≤ hParts a b := by
  unfold hPrefix hParts
  have h := Nat.xor_lt_two_pow ha hb
  rw [div_eq_iff, ← bitLen_le_iff h (by omega)]
  have := bitLen_le64 h
  omega
theorem prefix_next {a n : Nat} (hn : n < 64) : hPrefix a (n + 1) = 2 * hPrefix a n + (if a.testBit (63 - n) then 1 else 0) := by
  unfold hPrefix
  rw [show 64 - n = (63 - n) + 1 by omega, show 64 - (n + 1) = 63 - n by omega, Nat.pow_succ, ← Nat.div_div_eq_div_mul, Nat.testBit_eq_decide_div_mod_eq]
  simp only [decide_eq_true_eq]
  split <;> omega
theorem prefix_half {a n : Nat} (hn : n < 64) : hPrefix a (n + 1) / 2 = hPrefix a n := by
  rw [prefix_next hn]; split <;> omega
theorem parts_comm (a b : Nat) : hParts a b = hParts b a := by unfold hParts; rw [Nat.xor_comm]
theorem parts_all {a b : Nat} (ha : a < 2 ^ 64) (hb : b < 2 ^ 64) : hParts a b = 64 ↔ a = b := by
  have h := prefix_eq_iff ha hb (Nat.le_refl 64)
  have e : ∀ x, hPrefix x 64 = x := fun x => by unfold hPrefix; simp
  rw [e, e] at h
  have := parts_le a b
  omega
/-- Up to where they part they have the same bits; there they have not. -/
theorem parts_same {a b n : Nat} (ha : a < 2 ^ 64) (hb : b < 2 ^ 64) (hn : n < hParts a b) : a.testBit (63 - n) = b.testBit (63 - n) := by
  have hl := parts_le a b
  have h0 := (prefix_eq_iff ha hb (show n ≤ 64 by omega)).2 (by omega)
  have h1 := (prefix_eq_iff ha hb (show n + 1 ≤ 64 by omega)).2 (by omega)
  rw [prefix_next (by omega), prefix_next (by omega), h0] at h1
  cases h : a.testBit (63 - n) <;> cases h' : b.testBit (63 - n) <;> simp [h, h'] at h1 <;> rfl
theorem parts_other {a b : Nat} (ha : a < 2 ^ 64) (hb : b < 2 ^ 64) (hn : hParts a b < 64) : a.testBit (63 - hParts a b) ≠ b.testBit (63 - hParts a b) := by
  intro e
  have h0 := (prefix_eq_iff ha hb (parts_le a b)).2 (Nat.le_refl _)
  have h1 : hPrefix a (hParts a b + 1) = hPrefix b (hParts a b + 1) := by rw [prefix_next hn, prefix_next hn, h0, e]
  have := (prefix_eq_iff ha hb (show hParts a b + 1 ≤ 64 by omega)).1 h1
  omega

/-! ### The document's rounds -/
/-- A word of the lowest bits of another, and the next bit. -/
theorem low_next (x k : Nat) : x % 2 ^ (k + 1) = x % 2 ^ k + (if x.testBit k then 2 ^ k else 0) := by
  rw [Nat.mod_pow_succ, Nat.testBit_eq_decide_div_mod_eq]
  simp only [decide_eq_true_eq]
  split
  · rename_i h; rw [h, Nat.mul_one]
  · rename_i h; rw [show x / 2 ^ k % 2 = 0 by omega, Nat.mul_zero]
theorem high_next (x k : Nat) : x / 2 ^ k * 2 ^ k = x / 2 ^ (k + 1) * 2 ^ (k + 1) + (if x.testBit k then 2 ^ k else 0) := by
  rw [Nat.testBit_eq_decide_div_mod_eq]
  simp only [decide_eq_true_eq]
  have e : x / 2 ^ (k + 1) = x / 2 ^ k / 2 := by rw [Nat.pow_succ, Nat.div_div_eq_div_mul]
  rw [e, Nat.pow_succ]
  generalize x / 2 ^ k = y
  have h := Nat.div_add_mod y 2
  split
  · rename_i h1
    rw [h1] at h
    conv => lhs; rw [← h]
    rw [Nat.add_mul, Nat.one_mul, Nat.mul_comm 2 (y / 2), Nat.mul_assoc, Nat.mul_comm 2]
  · have h0 : y % 2 = 0 := by omega
    rw [h0] at h
    conv => lhs; rw [← h]
    rw [Nat.add_zero, Nat.add_zero, Nat.mul_comm 2 (y / 2), Nat.mul_assoc, Nat.mul_comm 2]
/-- A bit of the highest ones of a word. -/
theorem high_bit {x k i : Nat} (h : k ≤ i) : (x / 2 ^ k * 2 ^ k).testBit i = x.testBit i := by
  rw [← Nat.shiftLeft_eq, Nat.testBit_shiftLeft]
  simp only [ge_iff_le, h, decide_true, Bool.true_and]
  rw [testBit_div]; congr 1; omega
theorem parity_mul {m c : Nat} (hc : c % 2 = 1) : m * c % 2 = m % 2 := by rw [Nat.mul_mod, hc, Nat.mul_one, Nat.mod_mod]
/-- The bits of a product with an odd one, from the lowest on. -/
theorem over_bit {r c w n : Nat} (hc : c % 2 = 1) (h : hMul r c = w) (hn : n < 64) : r.testBit n = (((r % 2 ^ n) * c % 2 ^ 64).testBit n ^^ w.testBit n) := by
  have hw : w.testBit n = (r * c).testBit n := by rw [← h]; unfold hMul; rw [Nat.testBit_mod_two_pow]; simp [hn]
  rw [hw, Nat.testBit_mod_two_pow]
  simp only [hn, decide_true, Bool.true_and]
  have e : r * c = r % 2 ^ n * c + 2 ^ n * (r / 2 ^ n * c) := by
    conv => lhs; rw [← Nat.mod_add_div r (2 ^ n)]
    rw [Nat.add_mul, Nat.mul_assoc]
  have hp := parity_mul (m := r / 2 ^ n) hc
  simp only [Nat.testBit_eq_decide_div_mod_eq]
  rw [e, Nat.add_mul_div_left _ _ (Nat.two_pow_pos n)]
  generalize r / 2 ^ n * c = p at hp
  generalize r % 2 ^ n * c / 2 ^ n = q
  generalize r / 2 ^ n = s at hp
  by_cases h1 : s % 2 = 1 <;> by_cases h2 : q % 2 = 1 <;> by_cases h3 : (q + p) % 2 = 1 <;> simp [h1, h2, h3] <;> omega
end Go.Proofs.Ytpfpgjfcomkdgaa
