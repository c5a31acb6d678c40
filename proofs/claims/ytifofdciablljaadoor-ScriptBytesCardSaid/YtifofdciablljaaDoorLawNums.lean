/-
  Layer 3 (script): no number's bytes begin another one's; a greater number has no fewer.
-/
import Derived.Test.YtifofdciablljaaDoorQ5
set_option linter.unusedSimpArgs false
set_option linter.unusedVariables false
set_option maxRecDepth 100000
namespace Go.Proofs.YtifofdciablljaaDoor
open Go.RowKit

theorem rdN_num : ∀ (n i acc : Nat) (r : List Nat), (i = 0 ∨ 0 < n) → n * 128 ^ i < 2 ^ 64 → rdN i acc (numB n ++ r) = some (acc + n * 128 ^ i, r) := by
  intro n
  induction n using Nat.strongRecOn with
  | ind n ih =>
    intro i acc r h0 hlt
    have hi : i < 10 := by
      rcases h0 with h0 | h0
      · omega
      · refine Nat.lt_of_not_le fun h10 => ?_
        have h1 : (128 : Nat) ^ 10 ≤ 128 ^ i := Nat.pow_le_pow_right (by decide) h10
        have h2 : 1 * 128 ^ i ≤ n * 128 ^ i := Nat.mul_le_mul_right _ h0
        have h3 : (2 : Nat) ^ 64 ≤ 128 ^ 10 := by decide
        omega
    have h9 : 9 ≤ i → n < 2 := by
      intro h9
      have e : i = 9 := by omega
      subst e
      refine Nat.lt_of_not_le fun h2 => ?_
      have h1 : 2 * 128 ^ 9 ≤ n * 128 ^ 9 := Nat.mul_le_mul_right _ h2
      have h3 : (2 : Nat) ^ 64 ≤ 2 * 128 ^ 9 := by decide
      omega
    by_cases hs : n < 128
    · rw [numB_small hs, List.singleton_append, rdN_cons, if_neg (by intro h; rcases h with h | ⟨h1, h2⟩; omega; have := h9 h1; omega), if_pos hs, if_pos (by omega), Nat.mod_eq_of_lt hs]
    · rw [numB_great hs, List.cons_append, rdN_cons, if_neg (by intro h; rcases h with h | ⟨h1, h2⟩; omega; have := h9 h1; omega), if_neg (by omega)]
      have hp : n / 128 * 128 ^ (i + 1) = n / 128 * 128 * 128 ^ i := by rw [Nat.pow_succ, Nat.mul_assoc, Nat.mul_comm (128 ^ i) 128]
      have hd : n = n / 128 * 128 + n % 128 := by omega
      rw [ih (n / 128) (by omega) (i + 1) _ r (.inr (by omega)) (by
        rw [hp]
        refine Nat.lt_of_le_of_lt (Nat.mul_le_mul_right _ ?_) hlt
        omega)]
      have hm : (n % 128 + 128) % 128 = n % 128 := by omega
      have hx : acc + n % 128 * 128 ^ i + n / 128 * 128 ^ (i + 1) = acc + n * 128 ^ i := by
        rw [hp]
        conv => rhs; rw [hd, Nat.add_mul]
        omega
      rw [hm, hx]
theorem readN_num {n : Nat} (h : n < 2 ^ 64) (r : List Nat) : readN (numB n ++ r) = some (n, r) := by
  unfold readN
  rw [rdN_num n 0 0 r (.inl rfl) (by simpa using h)]
  simp
theorem numB_pre {a b : Nat} (ha : a < 2 ^ 64) (hb : b < 2 ^ 64) (hne : a ≠ b) : preB (numB a) (numB b) = false := by
  unfold preB
  by_cases hl : (numB b).length ≤ (numB a).length
  · rw [decide_eq_true hl, Bool.true_and, decide_eq_false]
    intro ht
    have h1 := readN_num hb ((numB a).drop (numB b).length)
    have h2 := readN_num ha []
    rw [List.append_nil] at h2
    have h3 : numB b ++ (numB a).drop (numB b).length = numB a := by
      conv => lhs; lhs; rw [← ht]
      exact List.take_append_drop _ _
    rw [h3, h2] at h1
    injection h1 with h1
    injection h1 with h1 _
    exact hne h1
  · rw [decide_eq_false hl, Bool.false_and]
theorem numB_mono : ∀ (b a : Nat), a ≤ b → (numB a).length ≤ (numB b).length := by
  intro b
  induction b using Nat.strongRecOn with
  | ind b ih =>
    intro a hab
    by_cases ha : a < 128
    · rw [numB_small ha]; exact numB_pos b
    · have hb : ¬ b < 128 := by omega
      rw [numB_great ha, numB_great hb, List.length_cons, List.length_cons]
      have := ih (b / 128) (by omega) (a / 128) (by omega)
      omega

set_option maxHeartbeats 4000000 in
theorem numbers_true (a b : Nat) (w : World) (hT : Tks w) (ha : a < 2 ^ 64) (hb : b < 2 ^ 64) :
    Calls Tryd.prog 6 #[.int .u64 (a : Int), .int .u64 (b : Int)] w fun e w' => e = .returned (.bool true) ∧ Below w.heap.size w w' := by
  have h1 := numB_pos a
  have h2 := numB_pos b
  have h3 := numB_ten ha
  have h4 := numB_ten hb
  have hT'h := Lib.hid hT
  have ha'h := Lib.hid ha
  have hb'h := Lib.hid hb
  clear hT ha hb
  go_enter Tryd.func6, Tryd.ntmps6
  go_wp2_with fail
  refine (wakes_any w hT'h.out).mono ?_
  rintro e w1 ⟨rfl, hB1⟩
  have hB1'h := Lib.hid hB1
  clear hB1
  go_wp2_with fail
  refine (number_any a w1 ha'h.out).mono ?_
  rintro e w2 ⟨va, rfl, hrow2, hB2⟩
  obtain ⟨ap, ac, rfl, hca, hna, -⟩ := row_form hrow2
  have hSa := Sl.of_row hrow2 (by unfold maxLen; omega)
  have hB2' := hB1'h.out.trans (hB2.mono hB1'h.out.size)
  clear hB2 hrow2
  have hSa'h := Lib.hid hSa
  have hna'h := Lib.hid hna
  have hB2''h := Lib.hid hB2'
  have hca'h := Lib.hid hca
  clear hSa hna hB2' hca
  go_wp2_with fail
  refine (number_any b w2 hb'h.out).mono ?_
  rintro e w3 ⟨vb, rfl, hrow3, hB3⟩
  obtain ⟨bp, bc, rfl, hcb, hnb, -⟩ := row_form hrow3
  have hSb := Sl.of_row hrow3 (by unfold maxLen; omega)
  have hSa3 := hSa'h.out.below hB3
  have hB3' := hB2''h.out.trans (hB3.mono hB2''h.out.size)
  have E := eqB_any ap bp _ _ ac bc (numB a) (numB b) w3 hSa3 hSb (numB_byte a) (numB_byte b)
  have P1 := hasB_any ap bp _ _ ac bc (numB a) (numB b) w3 hSa3 hSb (numB_byte a) (numB_byte b) hca'h.out hna'h.out
  have P2 := hasB_any bp ap _ _ bc ac (numB b) (numB a) w3 hSb hSa3 (numB_byte b) (numB_byte a) hcb hnb
  clear hrow3 hB3 hSa3 hSb hcb hnb hSa'h hna'h hca'h
  by_cases hab : a = b
  · subst hab
    rw [decide_eq_true rfl] at E
    have hz : ((a : Int) == (a : Int)) = true := by simp
    clear P1 P2
    have E'h := Lib.hid E
    have hB3''h := Lib.hid hB3'
    have h1'h := Lib.hid h1
    have h2'h := Lib.hid h2
    have h3'h := Lib.hid h3
    have h4'h := Lib.hid h4
    clear E hB3' h1 h2 h3 h4
    go_wp2_with (go_at_call 20; refine E'h.out.mono ?_; rintro e w' ⟨rfl, hw⟩; obtain rfl := hw.symm)
    go_ret
    exact ⟨rfl, hB3''h.out⟩
  · rw [numB_pre ha'h.out hb'h.out hab] at P1
    rw [numB_pre hb'h.out ha'h.out (fun e => hab e.symm)] at P2
    have hz : ((a : Int) == (b : Int)) = false := by simpa using fun e => hab (by omega)
    have hm : a < b → (numB a).length ≤ (numB b).length := fun h => numB_mono b a (by omega)
    generalize (numB a).length = x at *
    generalize (numB b).length = y at *
    clear E
    have j1 : (1 : Int) ≤ (x : Int) := by omega
    have j2 : (x : Int) ≤ 10 := by omega
    have j3 : (1 : Int) ≤ (y : Int) := by omega
    have j4 : (y : Int) ≤ 10 := by omega
    by_cases hl : a < b
    · have i1 : (a : Int) < (b : Int) := by omega
      have i2 : y < x ↔ False := ⟨fun h => by have := hm hl; omega, False.elim⟩
      have i3 : (y : Int) < (x : Int) ↔ False := ⟨fun h => by have := hm hl; omega, False.elim⟩
      clear hm h1 h2 h3 h4
      have P1'h := Lib.hid P1
      have P2'h := Lib.hid P2
      have hB3''h := Lib.hid hB3'
      clear P1 P2 hB3'
      go_wp2_with (first | (go_at_call 28; with_reducible refine P1'h.out.mono ?_; rintro e w' ⟨rfl, hw⟩; obtain rfl := hw.symm) | (go_at_call 28; with_reducible refine P2'h.out.mono ?_; rintro e w' ⟨rfl, hw⟩; obtain rfl := hw.symm))
      go_ret
      exact ⟨rfl, hB3''h.out⟩
    · have i1 : ¬ (a : Int) < (b : Int) := by omega
      clear hm h1 h2 h3 h4
      have P1'h := Lib.hid P1
      have P2'h := Lib.hid P2
      have hB3''h := Lib.hid hB3'
      clear P1 P2 hB3'
      go_wp2_with (first | (go_at_call 28; with_reducible refine P1'h.out.mono ?_; rintro e w' ⟨rfl, hw⟩; obtain rfl := hw.symm) | (go_at_call 28; with_reducible refine P2'h.out.mono ?_; rintro e w' ⟨rfl, hw⟩; obtain rfl := hw.symm))
      go_ret
      exact ⟨rfl, hB3''h.out⟩
theorem walk_ScriptNumbers (a0 a1 : Int) (w : World) (hT : Tks w) (w0 : (Lit.int .u64 a0).wf = true) (w1 : (Lit.int .u64 a1).wf = true) :
    Calls Tryd.prog 6 #[.int .u64 a0, .int .u64 a1] w fun e w' => e = .returned (.bool true) ∧ Below w.heap.size w w' := by
  obtain ⟨a, rfl, ha⟩ := nat_of_u64 w0
  obtain ⟨b, rfl, hb⟩ := nat_of_u64 w1
  exact numbers_true a b w hT ha hb
end Go.Proofs.YtifofdciablljaaDoor
