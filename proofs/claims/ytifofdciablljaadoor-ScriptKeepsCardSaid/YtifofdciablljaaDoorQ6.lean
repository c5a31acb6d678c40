/-
  Several texts of mine in one: LawNums ScrS LawBack03 LawKeeps03.
-/
import Derived.Test.YtifofdciablljaaDoorQ5
/-
  Layer 3 (script): no number's bytes begin another one's; a greater number has no fewer.
-/
set_option linter.unusedSimpArgs false
set_option linter.unusedVariables false
set_option maxRecDepth 100000
namespace Go.Proofs.YtifofdciablljaaDoor
open Go.RowKit

theorem rdN_num : ∀ (n i acc : Nat) (r : List Nat), (i = 0 ∨ 0 < n) → n * 128 ^ i < 2 ^ 64 → rdN i acc (numB n ++ r) = some (acc + n * 128 ^ i, r) := by
  intro n
  induction n using Nat.strongRecOn with
  | ind n ih =>
    intro i acc r h0 hlt
    have hi : i < 10 := by
      rcases h0 with h0 | h0
      · omega
      · refine Nat.lt_of_not_le fun h10 => ?_
        have h1 : (128 : Nat) ^ 10 ≤ 128 ^ i := Nat.pow_le_pow_right (by decide) h10
        have h2 : 1 * 128 ^ i ≤ n * 128 ^ i := Nat.mul_le_mul_right _ h0
        have h3 : (2 : Nat) ^ 64 ≤ 128 ^ 10 := by decide
        omega
    have h9 : 9 ≤ i → n < 2 := by
      intro h9
      have e : i = 9 := by omega
      subst e
      refine Nat.lt_of_not_le fun h2 => ?_
      have h1 : 2 * 128 ^ 9 ≤ n * 128 ^ 9 := Nat.mul_le_mul_right _ h2
      have h3 : (2 : Nat) ^ 64 ≤ 2 * 128 ^ 9 := by decide
      omega
    by_cases hs : n < 128
    · rw [numB_small hs, List.singleton_append, rdN_cons, if_neg (by intro h; rcases h with h | ⟨h1, h2⟩; omega; have := h9 h1; omega), if_pos hs, if_pos (by omega), Nat.mod_eq_of_lt hs]
    · rw [numB_great hs, List.cons_append, rdN_cons, if_neg (by intro h; rcases h with h | ⟨h1, h2⟩; omega; have := h9 h1; omega), if_neg (by omega)]
      have hp : n / 128 * 128 ^ (i + 1) = n / 128 * 128 * 128 ^ i := by rw [Nat.pow_succ, Nat.mul_assoc, Nat.mul_comm (128 ^ i) 128]
      have hd : n = n / 128 * 128 + n % 128 := by omega
      rw [ih (n / 128) (by omega) (i + 1) _ r (.inr (by omega)) (by
        rw [hp]
        refine Nat.lt_of_le_of_lt (Nat.mul_le_mul_right _ ?_) hlt
        omega)]
      have hm : (n % 128 + 128) % 128 = n % 128 := by omega
      have hx : acc + n % 128 * 128 ^ i + n / 128 * 128 ^ (i + 1) = acc + n * 128 ^ i := by
        rw [hp]
        conv => rhs; rw [hd, Nat.add_mul]
        omega
      rw [hm, hx]
theorem readN_num {n : Nat} (h : n < 2 ^ 64) (r : List Nat) : readN (numB n ++ r) = some (n, r) := by
  unfold readN
  rw [rdN_num n 0 0 r (.inl rfl) (by simpa using h)]
  simp
theorem numB_pre {a b : Nat} (ha : a < 2 ^ 64) (hb : b < 2 ^ 64) (hne : a ≠ b) : preB (numB a) (numB b) = false := by
  unfold preB
  by_cases hl : (numB b).length ≤ (numB a).length
  · rw [decide_eq_true hl, Bool.true_and, decide_eq_false]
    intro ht
    have h1 := readN_num hb ((numB a).drop (numB b).length)
    have h2 := readN_num ha []
    rw [List.append_nil] at h2
    have h3 : numB b ++ (numB a).drop (numB b).length = numB a := by
      conv => lhs; lhs; rw [← ht]
      exact List.take_append_drop _ _
    rw [h3, h2] at h1
    injection h1 with h1
    injection h1 with h1 _
    exact hne h1
  · rw [decide_eq_false hl, Bool.false_and]
theorem numB_mono : ∀ (b a : Nat), a ≤ b → (numB a).length ≤ (numB b).length := by
  intro b
  induction b using Nat.strongRecOn with
  | ind b ih =>
    intro a hab
    by_cases ha : a < 128
    · rw [numB_small ha]; exact numB_pos b
    · have hb : ¬ b < 128 := by omega
      rw [numB_great ha, numB_great hb, List.length_cons, List.length_cons]
      have := ih (b / 128) (by omega) (a / 128) (by omega)
      omega

set_option maxHeartbeats 4000000 in
theorem numbers_true (a b : Nat) (w : World) (hT : Tks w) (ha : a < 2 ^ 64) (hb : b < 2 ^ 64) :
    Calls Tryd.prog 6 #[.int .u64 (a : Int), .int .u64 (b : Int)] w fun e w' => e = .returned (.bool true) ∧ Below w.heap.size w w' := by
  have h1 := numB_pos a
  have h2 := numB_pos b
  have h3 := numB_ten ha
  have h4 := numB_ten hb
  have hT'h := Lib.hid hT
  have ha'h := Lib.hid ha
  have hb'h := Lib.hid hb
  clear hT ha hb
  go_enter Tryd.func6, Tryd.ntmps6
  go_wp2_with fail
  refine (wakes_any w hT'h.out).mono ?_
  rintro e w1 ⟨rfl, hB1⟩
  have hB1'h := Lib.hid hB1
  clear hB1
  go_wp2_with fail
  refine (number_any a w1 ha'h.out).mono ?_
  rintro e w2 ⟨va, rfl, hrow2, hB2⟩
  obtain ⟨ap, ac, rfl, hca, hna, -⟩ := row_form hrow2
  have hSa := Sl.of_row hrow2 (by unfold maxLen; omega)
  have hB2' := hB1'h.out.trans (hB2.mono hB1'h.out.size)
  clear hB2 hrow2
  have hSa'h := Lib.hid hSa
  have hna'h := Lib.hid hna
  have hB2''h := Lib.hid hB2'
  have hca'h := Lib.hid hca
  clear hSa hna hB2' hca
  go_wp2_with fail
  refine (number_any b w2 hb'h.out).mono ?_
  rintro e w3 ⟨vb, rfl, hrow3, hB3⟩
  obtain ⟨bp, bc, rfl, hcb, hnb, -⟩ := row_form hrow3
  have hSb := Sl.of_row hrow3 (by unfold maxLen; omega)
  have hSa3 := hSa'h.out.below hB3
  have hB3' := hB2''h.out.trans (hB3.mono hB2''h.out.size)
  have E := eqB_any ap bp _ _ ac bc (numB a) (numB b) w3 hSa3 hSb (numB_byte a) (numB_byte b)
  have P1 := hasB_any ap bp _ _ ac bc (numB a) (numB b) w3 hSa3 hSb (numB_byte a) (numB_byte b) hca'h.out hna'h.out
  have P2 := hasB_any bp ap _ _ bc ac (numB b) (numB a) w3 hSb hSa3 (numB_byte b) (numB_byte a) hcb hnb
  clear hrow3 hB3 hSa3 hSb hcb hnb hSa'h hna'h hca'h
  by_cases hab : a = b
  · subst hab
    rw [decide_eq_true rfl] at E
    have hz : ((a : Int) == (a : Int)) = true := by simp
    clear P1 P2
    have E'h := Lib.hid E
    have hB3''h := Lib.hid hB3'
    have h1'h := Lib.hid h1
    have h2'h := Lib.hid h2
    have h3'h := Lib.hid h3
    have h4'h := Lib.hid h4
    clear E hB3' h1 h2 h3 h4
    go_wp2_with (go_at_call 20; refine E'h.out.mono ?_; rintro e w' ⟨rfl, hw⟩; obtain rfl := hw.symm)
    go_ret
    exact ⟨rfl, hB3''h.out⟩
  · rw [numB_pre ha'h.out hb'h.out hab] at P1
    rw [numB_pre hb'h.out ha'h.out (fun e => hab e.symm)] at P2
    have hz : ((a : Int) == (b : Int)) = false := by simpa using fun e => hab (by omega)
    have hm : a < b → (numB a).length ≤ (numB b).length := fun h => numB_mono b a (by omega)
    generalize (numB a).length = x at *
    generalize (numB b).length = y at *
    clear E
    have j1 : (1 : Int) ≤ (x : Int) := by omega
    have j2 : (x : Int) ≤ 10 := by omega
    have j3 : (1 : Int) ≤ (y : Int) := by omega
    have j4 : (y : Int) ≤ 10 := by omega
    by_cases hl : a < b
    · have i1 : (a : Int) < (b : Int) := by omega
      have i2 : y < x ↔ False := ⟨fun h => by have := hm hl; omega, False.elim⟩
      have i3 : (y : Int) < (x : Int) ↔ False := ⟨fun h => by have := hm hl; omega, False.elim⟩
      clear hm h1 h2 h3 h4
      have P1'h := Lib.hid P1
      have P2'h := Lib.hid P2
      have hB3''h := Lib.hid hB3'
      clear P1 P2 hB3'
      go_wp2_with (first | (go_at_call 28; with_reducible refine P1'h.out.mono ?_; rintro e w' ⟨rfl, hw⟩; obtain rfl := hw.symm) | (go_at_call 28; with_reducible refine P2'h.out.mono ?_; rintro e w' ⟨rfl, hw⟩; obtain rfl := hw.symm))
      go_ret
      exact ⟨rfl, hB3''h.out⟩
    · have i1 : ¬ (a : Int) < (b : Int) := by omega
      clear hm h1 h2 h3 h4
      have P1'h := Lib.hid P1
      have P2'h := Lib.hid P2
      have hB3''h := Lib.hid hB3'
      clear P1 P2 hB3'
      go_wp2_with (first | (go_at_call 28; with_reducible refine P1'h.out.mono ?_; rintro e w' ⟨rfl, hw⟩; obtain rfl := hw.symm) | (go_at_call 28; with_reducible refine P2'h.out.mono ?_; rintro e w' ⟨rfl, hw⟩; obtain rfl := hw.symm))
      go_ret
      exact ⟨rfl, hB3''h.out⟩
theorem walk_ScriptNumbers (a0 a1 : Int) (w : World) (hT : Tks w) (w0 : (Lit.int .u64 a0).wf = true) (w1 : (Lit.int .u64 a1).wf = true) :
    Calls Tryd.prog 6 #[.int .u64 a0, .int .u64 a1] w fun e w' => e = .returned (.bool true) ∧ Below w.heap.size w w' := by
  obtain ⟨a, rfl, ha⟩ := nat_of_u64 w0
  obtain ⟨b, rfl, hb⟩ := nat_of_u64 w1
  exact numbers_true a b w hT ha hb
end Go.Proofs.YtifofdciablljaaDoor

/-
  Layer 3 (script), plain: what is read is what was written, and the bytes that were read are those of what was read.
-/
set_option linter.unusedSimpArgs false
set_option linter.unusedVariables false
set_option maxRecDepth 100000
namespace Go.Proofs.YtifofdciablljaaDoor
open Go.RowKit

/-! ### The bytes that were read -/
theorem rdN_inv : ∀ (l : List Nat) (i acc n : Nat) (r : List Nat), (∀ b ∈ l, b < 256) → rdN i acc l = some (n, r) → ∃ k, n = acc + k * 128 ^ i ∧ (i = 0 ∨ 0 < k) ∧ l = numB k ++ r
  | [], _, _, _, _, _, h => by cases h
  | b :: l, i, acc, n, r, hb, h => by
    rw [rdN_cons] at h
    split at h
    · cases h
    · split at h
      · rename_i hs
        split at h
        · rename_i h0
          injection h with h
          injection h with h1 h2
          exact ⟨b, by rw [← h1, Nat.mod_eq_of_lt hs], h0.symm, by rw [numB_small hs, ← h2]; rfl⟩
        · cases h
      · rename_i hg
        obtain ⟨k, hn, hk, hl⟩ := rdN_inv l _ _ _ _ (fun x hx => hb x (List.mem_cons_of_mem _ hx)) h
        have hb256 := hb b (List.mem_cons_self ..)
        have hk0 : 0 < k := by rcases hk with hk | hk; omega; exact hk
        refine ⟨b % 128 + 128 * k, ?_, .inr (by omega), ?_⟩
        · rw [hn, Nat.pow_succ, Nat.add_mul, Nat.add_assoc, Nat.mul_comm 128 k, Nat.mul_assoc k 128, Nat.mul_comm 128 (128 ^ i)]
        · rw [numB_great (by omega), show (b % 128 + 128 * k) % 128 + 128 = b by omega, show (b % 128 + 128 * k) / 128 = k by omega, hl]
          rfl
theorem readN_inv {l : List Nat} {n : Nat} {r : List Nat} (hb : ∀ b ∈ l, b < 256) (h : readN l = some (n, r)) : l = numB n ++ r := by
  obtain ⟨k, hn, -, hl⟩ := rdN_inv l 0 0 n r hb h
  have : n = k := by simpa using hn
  rw [this]; exact hl
theorem right_bytes {l r : List Nat} {n : Nat} (hb : ∀ b ∈ l, b < 256) (h : l = numB n ++ r) : ∀ b ∈ r, b < 256 := fun b hr => hb b (by rw [h]; exact List.mem_append_right _ hr)
theorem readW_inv : ∀ (k : Nat) (l ws r : List Nat), (∀ b ∈ l, b < 256) → readW k l = some (ws, r) → ws.length = k ∧ l = ws.flatMap numB ++ r ∧ (∀ b ∈ r, b < 256)
  | 0, l, ws, r, hb, h => by simp [readW] at h; obtain ⟨rfl, rfl⟩ := h; exact ⟨rfl, rfl, hb⟩
  | k + 1, l, ws, r, hb, h => by
    rw [readW] at h
    cases hn : readN l with
    | none => rw [hn] at h; cases h
    | some x =>
      obtain ⟨n, l'⟩ := x
      rw [hn] at h
      simp only at h
      have hl := readN_inv hb hn
      have hb' := right_bytes hb hl
      cases hw : readW k l' with
      | none => rw [hw] at h; cases h
      | some y =>
        obtain ⟨ns, l''⟩ := y
        rw [hw] at h
        injection h with h
        injection h with h1 h2
        obtain ⟨i1, i2, i3⟩ := readW_inv k l' ns l'' hb' hw
        subst h1 h2
        exact ⟨by simp [i1], by rw [hl, i2, List.flatMap_cons, List.append_assoc], i3⟩
theorem takes_three (o : Int) : (takesI o).toNat ≤ 3 := by have := takesI_range o; omega
theorem words_of {o : Nat} {ws : List Nat} (h : ws.length ≤ 3) : (wordsC (calOf o ws)).take ws.length = ws := by
  unfold wordsC calOf
  match ws, h with
  | [], _ => rfl
  | [_], _ => rfl
  | [_, _], _ => rfl
  | [_, _, _], _ => rfl
  | _ :: _ :: _ :: _ :: _, h => simp at h
theorem callR_inv {l : List Nat} {c : Cal} {r : List Nat} (hb : ∀ b ∈ l, b < 256) (h : callR l = some (c, r)) : l = (encC c).flatMap numB ++ r ∧ (∀ b ∈ r, b < 256) := by
  unfold callR at h
  cases hm : mostR 7 l with
  | none => rw [hm] at h; cases h
  | some x =>
    obtain ⟨o, l1⟩ := x
    rw [hm] at h
    simp only at h
    have hl := readN_inv hb (mostR_le hm).2
    have hb' := right_bytes hb hl
    split at h
    · cases h
    · cases hw : readW (takesI (o : Int)).toNat l1 with
      | none => rw [hw] at h; cases h
      | some y =>
        obtain ⟨ws, l2⟩ := y
        rw [hw] at h
        injection h with h
        injection h with h1 h2
        obtain ⟨i1, i2, i3⟩ := readW_inv _ _ _ _ hb' hw
        subst h1 h2
        refine ⟨?_, i3⟩
        have e : encC (calOf o ws) = o :: ws := by
          unfold encC
          show (o : Int).toNat :: (wordsC (calOf o ws)).take (takesI (o : Int)).toNat = _
          rw [← i1, words_of (by rw [i1]; exact takes_three _)]
          rfl
        rw [e, List.flatMap_cons, hl, i2, List.append_assoc]
theorem listR_inv : ∀ (k : Nat) (l : List Nat) (cs : List Cal) (r : List Nat), (∀ b ∈ l, b < 256) → listR k l = some (cs, r) → cs.length = k ∧ l = (cs.flatMap encC).flatMap numB ++ r ∧ (∀ b ∈ r, b < 256)
  | 0, l, cs, r, hb, h => by simp [listR] at h; obtain ⟨rfl, rfl⟩ := h; exact ⟨rfl, rfl, hb⟩
  | k + 1, l, cs, r, hb, h => by
    rw [listR] at h
    cases hn : callR l with
    | none => rw [hn] at h; cases h
    | some x =>
      obtain ⟨c, l'⟩ := x
      rw [hn] at h
      simp only at h
      obtain ⟨hl, hb'⟩ := callR_inv hb hn
      cases hw : listR k l' with
      | none => rw [hw] at h; cases h
      | some y =>
        obtain ⟨ns, l''⟩ := y
        rw [hw] at h
        injection h with h
        injection h with h1 h2
        obtain ⟨i1, i2, i3⟩ := listR_inv k l' ns l'' hb' hw
        subst h1 h2
        exact ⟨by simp [i1], by rw [hl, i2, List.flatMap_cons, List.flatMap_append, List.append_assoc], i3⟩
theorem listsR_inv : ∀ (g left : Nat) (l : List Nat) (ls : List (List Cal)) (r : List Nat), (∀ b ∈ l, b < 256) → listsR g left l = some (ls, r) → l = (ls.flatMap encL).flatMap numB ++ r ∧ (∀ b ∈ r, b < 256)
  | 0, _, l, ls, r, hb, h => by simp [listsR] at h; obtain ⟨rfl, rfl⟩ := h; exact ⟨rfl, hb⟩
  | g + 1, left, l, ls, r, hb, h => by
    rw [listsR] at h
    cases hm : mostR left l with
    | none => rw [hm] at h; cases h
    | some x =>
      obtain ⟨n, l1⟩ := x
      rw [hm] at h
      simp only at h
      have hl := readN_inv hb (mostR_le hm).2
      have hb1 := right_bytes hb hl
      cases hw : listR n l1 with
      | none => rw [hw] at h; cases h
      | some y =>
        obtain ⟨cs, l2⟩ := y
        rw [hw] at h
        simp only at h
        obtain ⟨i1, i2, i3⟩ := listR_inv _ _ _ _ hb1 hw
        cases hz : listsR g (left - n) l2 with
        | none => rw [hz] at h; cases h
        | some z =>
          obtain ⟨ls', l3⟩ := z
          rw [hz] at h
          injection h with h
          injection h with h1 h2
          obtain ⟨j1, j2⟩ := listsR_inv g _ _ _ _ i3 hz
          subst h1 h2
          refine ⟨?_, j2⟩
          rw [List.flatMap_cons, List.flatMap_append]
          unfold encL
          rw [List.flatMap_cons, i1, hl, i2, j1]
          simp only [List.append_assoc]
          rfl
theorem scriptR_inv {l : List Nat} {s : Scr} {r : List Nat} (hb : ∀ b ∈ l, b < 256) (h : scriptR l = some (s, r)) : rightS s = true ∧ l = bytesS s ++ r := by
  unfold scriptR at h
  cases hm1 : mostR 8 l with
  | none => rw [hm1] at h; cases h
  | some x1 =>
    obtain ⟨g, l1⟩ := x1
    rw [hm1] at h
    simp only at h
    have e1 := readN_inv hb (mostR_le hm1).2
    have b1 := right_bytes hb e1
    cases hm2 : mostR 128 l1 with
    | none => rw [hm2] at h; cases h
    | some x2 =>
      obtain ⟨sb, l2⟩ := x2
      rw [hm2] at h
      simp only at h
      have e2 := readN_inv b1 (mostR_le hm2).2
      have b2 := right_bytes b1 e2
      cases hm3 : readN l2 with
      | none => rw [hm3] at h; cases h
      | some x3 =>
        obtain ⟨seed, l3⟩ := x3
        rw [hm3] at h
        simp only at h
        have e3 := readN_inv b2 hm3
        have b3 := right_bytes b2 e3
        unfold restR at h
        cases hm4 : listsR g 64 l3 with
        | none => rw [hm4] at h; cases h
        | some x4 =>
          obtain ⟨ls, l4⟩ := x4
          rw [hm4] at h
          simp only at h
          obtain ⟨e4, b4⟩ := listsR_inv _ _ _ _ _ b3 hm4
          unfold endR at h
          cases hm5 : mostR 4096 l4 with
          | none => rw [hm5] at h; cases h
          | some x5 =>
            obtain ⟨n, l5⟩ := x5
            rw [hm5] at h
            simp only at h
            have e5 := readN_inv b4 (mostR_le hm5).2
            have b5 := right_bytes b4 e5
            cases hm6 : readW n l5 with
            | none => rw [hm6] at h; cases h
            | some x6 =>
              obtain ⟨ps, l6⟩ := x6
              rw [hm6] at h
              simp only [List.nil_append] at h
              obtain ⟨k1, e6, b6⟩ := readW_inv _ _ _ _ b5 hm6
              split at h
              · rename_i hr
                injection h with h
                injection h with h1 h2
                subst h1 h2
                refine ⟨hr, ?_⟩
                unfold bytesS encS
                simp only [Int.toNat_natCast, List.flatMap_cons, List.flatMap_append, List.append_assoc]
                rw [e1, e2, e3, e4, e5, e6, k1]
              · cases h

theorem listR_ok : ∀ (k : Nat) (l : List Nat) (cs : List Cal) (r : List Nat), (∀ b ∈ l, b < 256) → listR k l = some (cs, r) → ∀ c ∈ cs, CalOk c
  | 0, l, cs, r, hb, h => by simp [listR] at h; obtain ⟨rfl, rfl⟩ := h; intro c hc; cases hc
  | k + 1, l, cs, r, hb, h => by
    rw [listR] at h
    cases hn : callR l with
    | none => rw [hn] at h; cases h
    | some x =>
      obtain ⟨c, l'⟩ := x
      rw [hn] at h
      simp only at h
      obtain ⟨hl, hb'⟩ := callR_inv hb hn
      cases hw : listR k l' with
      | none => rw [hw] at h; cases h
      | some y =>
        obtain ⟨ns, l''⟩ := y
        rw [hw] at h
        injection h with h
        injection h with h1 h2
        subst h1
        intro d hd
        rcases List.mem_cons.1 hd with rfl | hd
        · exact callR_ok hb hn
        · exact listR_ok k l' ns l'' hb' hw d hd
theorem listsR_ok : ∀ (g left : Nat) (l : List Nat) (ls : List (List Cal)) (r : List Nat), (∀ b ∈ l, b < 256) → listsR g left l = some (ls, r) → ∀ l ∈ ls, ∀ c ∈ l, CalOk c
  | 0, _, l, ls, r, hb, h => by simp [listsR] at h; obtain ⟨rfl, rfl⟩ := h; intro c hc; cases hc
  | g + 1, left, l, ls, r, hb, h => by
    rw [listsR] at h
    cases hm : mostR left l with
    | none => rw [hm] at h; cases h
    | some x =>
      obtain ⟨n, l1⟩ := x
      rw [hm] at h
      simp only at h
      have hb1 := right_bytes hb (readN_inv hb (mostR_le hm).2)
      cases hw : listR n l1 with
      | none => rw [hw] at h; cases h
      | some y =>
        obtain ⟨cs, l2⟩ := y
        rw [hw] at h
        simp only at h
        have i3 := (listR_inv _ _ _ _ hb1 hw).2.2
        cases hz : listsR g (left - n) l2 with
        | none => rw [hz] at h; cases h
        | some z =>
          obtain ⟨ls', l3⟩ := z
          rw [hz] at h
          injection h with h
          injection h with h1 h2
          subst h1
          intro x hx
          rcases List.mem_cons.1 hx with rfl | hx
          · exact listR_ok _ _ _ _ hb1 hw
          · exact listsR_ok g _ _ _ _ i3 hz x hx
theorem scriptR_ok {l : List Nat} {s : Scr} {r : List Nat} (hb : ∀ b ∈ l, b < 256) (h : scriptR l = some (s, r)) : (∀ l ∈ s.lists, ∀ c ∈ l, CalOk c) ∧ s.seed < 2 ^ 64 ∧ W64 s.picks := by
  unfold scriptR at h
  cases hm1 : mostR 8 l with
  | none => rw [hm1] at h; cases h
  | some x1 =>
    obtain ⟨g, l1⟩ := x1
    rw [hm1] at h
    simp only at h
    have b1 := right_bytes hb (readN_inv hb (mostR_le hm1).2)
    cases hm2 : mostR 128 l1 with
    | none => rw [hm2] at h; cases h
    | some x2 =>
      obtain ⟨sb, l2⟩ := x2
      rw [hm2] at h
      simp only at h
      have b2 := right_bytes b1 (readN_inv b1 (mostR_le hm2).2)
      cases hm3 : readN l2 with
      | none => rw [hm3] at h; cases h
      | some x3 =>
        obtain ⟨seed, l3⟩ := x3
        rw [hm3] at h
        simp only at h
        have b3 := right_bytes b2 (readN_inv b2 hm3)
        have hs := readN_lt b2 hm3
        unfold restR at h
        cases hm4 : listsR g 64 l3 with
        | none => rw [hm4] at h; cases h
        | some x4 =>
          obtain ⟨ls, l4⟩ := x4
          rw [hm4] at h
          simp only at h
          have hok := listsR_ok _ _ _ _ _ b3 hm4
          obtain ⟨e4, b4⟩ := listsR_inv _ _ _ _ _ b3 hm4
          unfold endR at h
          cases hm5 : mostR 4096 l4 with
          | none => rw [hm5] at h; cases h
          | some x5 =>
            obtain ⟨n, l5⟩ := x5
            rw [hm5] at h
            simp only at h
            have b5 := right_bytes b4 (readN_inv b4 (mostR_le hm5).2)
            cases hm6 : readW n l5 with
            | none => rw [hm6] at h; cases h
            | some x6 =>
              obtain ⟨ps, l6⟩ := x6
              rw [hm6] at h
              simp only [List.nil_append] at h
              have hp := (readW_some _ _ _ _ b5 hm6).2.1
              split at h
              · injection h with h
                injection h with h1 h2
                subst h1
                exact ⟨hok, hs, hp⟩
              · cases h

/-! ### What was written -/
theorem mostR_num {n limit : Nat} (h : n < 2 ^ 64) (hl : n ≤ limit) (r : List Nat) : mostR limit (numB n ++ r) = some (n, r) := by
  unfold mostR; rw [readN_num h]; simp only; rw [if_pos hl]
theorem readW_num : ∀ (ws r : List Nat), W64 ws → readW ws.length (ws.flatMap numB ++ r) = some (ws, r)
  | [], r, _ => rfl
  | n :: ws, r, h => by
    rw [List.length_cons, readW, List.flatMap_cons, List.append_assoc, readN_num (h n (List.mem_cons_self ..))]
    simp only
    rw [readW_num ws r fun x hx => h x (List.mem_cons_of_mem _ hx)]
theorem calOf_words {c : Cal} (h : rightC c = true) : calOf c.op.toNat ((wordsC c).take (takesI c.op).toNat) = c := by
  unfold rightC at h
  simp only [Bool.and_eq_true, decide_eq_true_eq] at h
  obtain ⟨h0, h1⟩ := h
  obtain ⟨o1, o7⟩ := takesI_some h0
  have h3 := takes_three c.op
  obtain ⟨op, key, a, b⟩ := c
  simp only at *
  have ho : ((op.toNat : Nat) : Int) = op := by omega
  generalize (takesI op).toNat = t at *
  unfold calOf wordsC
  simp only [ho]
  unfold wordsC at h1
  match t, h3 with
  | 0, _ => simp at h1; simp [h1]
  | 1, _ => simp at h1; simp [h1]
  | 2, _ => simp at h1; simp [h1]
  | 3, _ => simp
theorem callR_num {c : Cal} (h : rightC c = true) (ho : CalOk c) (r : List Nat) : callR ((encC c).flatMap numB ++ r) = some (c, r) := by
  have hc := calOf_words h
  unfold rightC at h
  simp only [Bool.and_eq_true, decide_eq_true_eq] at h
  obtain ⟨o1, o7⟩ := takesI_some h.1
  have e : ((c.op.toNat : Nat) : Int) = c.op := by omega
  unfold callR encC
  rw [List.flatMap_cons, List.append_assoc, mostR_num (by omega) (by omega)]
  simp only
  rw [if_neg (by omega), e]
  have hw : W64 ((wordsC c).take (takesI c.op).toNat) := fun x hx => by
    have := List.mem_of_mem_take hx
    unfold wordsC at this
    simp only [List.mem_cons, List.mem_nil_iff, or_false] at this
    rcases this with rfl | rfl | rfl
    · exact ho.key
    · exact ho.a
    · exact ho.b
  have hl : ((wordsC c).take (takesI c.op).toNat).length = (takesI c.op).toNat := by
    rw [List.length_take]; have := takes_three c.op; unfold wordsC; simp; omega
  have := readW_num _ r hw
  rw [hl] at this
  rw [this]
  simp only
  rw [hc]
theorem listR_num : ∀ (cs : List Cal) (r : List Nat), (∀ c ∈ cs, rightC c = true ∧ CalOk c) → listR cs.length ((cs.flatMap encC).flatMap numB ++ r) = some (cs, r)
  | [], r, _ => rfl
  | c :: cs, r, h => by
    have hc := h c (List.mem_cons_self ..)
    rw [List.length_cons, listR, List.flatMap_cons, List.flatMap_append, List.append_assoc, callR_num hc.1 hc.2]
    simp only
    rw [listR_num cs r fun x hx => h x (List.mem_cons_of_mem _ hx)]
theorem listsR_num : ∀ (ls : List (List Cal)) (left : Nat) (r : List Nat), (∀ l ∈ ls, ∀ c ∈ l, rightC c = true ∧ CalOk c) → ls.flatten.length ≤ left → left ≤ 64 → listsR ls.length left ((ls.flatMap encL).flatMap numB ++ r) = some (ls, r)
  | [], left, r, _, _, _ => rfl
  | l :: ls, left, r, h, hl, h64 => by
    rw [List.flatten_cons, List.length_append] at hl
    rw [List.length_cons, listsR, List.flatMap_cons, List.flatMap_append]
    unfold encL
    rw [List.flatMap_cons, List.append_assoc, List.append_assoc, mostR_num (by omega) (by omega)]
    simp only
    rw [listR_num l _ (h l (List.mem_cons_self ..))]
    simp only
    have := listsR_num ls (left - l.length) r (fun x hx => h x (List.mem_cons_of_mem _ hx)) (by omega) (by omega)
    unfold encL at this
    rw [this]
theorem scriptR_num {s : Scr} (hr : rightS s = true) (hok : ∀ l ∈ s.lists, ∀ c ∈ l, CalOk c) (hseed : s.seed < 2 ^ 64) (hp : W64 s.picks) (r : List Nat) : scriptR (bytesS s ++ r) = some (s, r) := by
  have hr0 := hr
  unfold rightS at hr
  unfold headS sizesS at hr
  simp only [Bool.and_eq_true, decide_eq_true_eq, List.all_eq_true] at hr
  obtain ⟨⟨⟨⟨⟨⟨g1, g8⟩, s2⟩, s128⟩, hlen⟩, hpl⟩, h64, hall⟩ := hr
  have eg : ((s.goers.toNat : Nat) : Int) = s.goers := by omega
  have es : ((s.slabs.toNat : Nat) : Int) = s.slabs := by omega
  have hL := listsR_num s.lists 64 ((s.picks.length :: s.picks).flatMap numB ++ r) (fun l hl c hc => ⟨hall c (List.mem_flatten.2 ⟨l, hl, hc⟩), hok l hl c hc⟩) h64 (Nat.le_refl _)
  rw [show s.lists.length = s.goers.toNat by omega] at hL
  unfold scriptR bytesS encS
  simp only [List.flatMap_cons, List.flatMap_append, List.append_assoc] at hL ⊢
  rw [mostR_num (by omega) (by omega)]
  simp only
  rw [mostR_num (by omega) (by omega)]
  simp only
  rw [readN_num hseed]
  simp only
  unfold restR
  rw [hL]
  simp only
  unfold endR
  rw [mostR_num (by omega) hpl]
  simp only
  rw [readW_num _ r hp]
  simp only [List.nil_append]
  rw [eg, es, if_pos hr0]
theorem bytesS_ne (s : Scr) : 1 ≤ (bytesS s).length := by
  unfold bytesS encS
  rw [List.flatMap_cons, List.length_append]
  have := numB_pos s.goers.toNat
  omega
/-- Fewer bytes by one are no script's. -/
theorem scriptR_less {s : Scr} (hr : rightS s = true) (hok : ∀ l ∈ s.lists, ∀ c ∈ l, CalOk c) (hseed : s.seed < 2 ^ 64) (hp : W64 s.picks) (hb : ∀ b ∈ bytesS s, b < 256) : scriptR ((bytesS s).take ((bytesS s).length - 1)) = none := by
  cases hx : scriptR ((bytesS s).take ((bytesS s).length - 1)) with
  | none => rfl
  | some x =>
    obtain ⟨s', r'⟩ := x
    exfalso
    obtain ⟨h1, h2⟩ := scriptR_inv (fun b hbm => hb b (List.mem_of_mem_take hbm)) hx
    have hne := bytesS_ne s
    have h3 := scriptR_num hr hok hseed hp []
    rw [List.append_nil] at h3
    obtain ⟨q1, q2⟩ := scriptR_inv hb h3
    have hsplit : bytesS s = bytesS s' ++ (r' ++ (bytesS s).drop ((bytesS s).length - 1)) := by
      rw [← List.append_assoc, ← h2, List.take_append_drop]
    obtain ⟨k1, k2, k3⟩ := scriptR_ok (fun b hbm => hb b (List.mem_of_mem_take hbm)) hx
    have h4 := scriptR_num h1 k1 k2 k3 (r' ++ (bytesS s).drop ((bytesS s).length - 1))
    rw [← hsplit, h3] at h4
    injection h4 with h4
    injection h4 with _ h4
    have h5 := congrArg List.length h4
    rw [List.length_append, List.length_drop] at h5
    simp only [List.length_nil] at h5
    omega
end Go.Proofs.YtifofdciablljaaDoor

/-
  Layer 3 (script): Decode of Encode is the script, Encode of Decode the bytes that were read.
-/
set_option linter.unusedSimpArgs false
set_option linter.unusedVariables false
set_option maxRecDepth 100000
namespace Go.Proofs.YtifofdciablljaaDoor
open Go.RowKit

theorem wf_u8 {z : Int} (h : (Lit.int .u8 z).wf = true) : 0 ≤ z ∧ z < 256 := by
  have h1 : IntKind.u8.min = 0 := rfl
  have h2 : IntKind.u8.max = 255 := rfl
  simp only [Lit.wf, h1, h2, Bool.and_eq_true, decide_eq_true_eq] at h
  omega
theorem cells5 {W : World} {b : Nat} {v0 v1 v2 v3 v4 : Value} {t : TypeId} (h : W.heap[b]? = some (.cells #[v0, v1, v2, v3, v4] t (0, 0))) :
    W.cell? ⟨b, 0, none⟩ = some v0 ∧ W.cell? ⟨b, 1, none⟩ = some v1 ∧ W.cell? ⟨b, 2, none⟩ = some v2 ∧ W.cell? ⟨b, 3, none⟩ = some v3 ∧ W.cell? ⟨b, 4, none⟩ = some v4 :=
  ⟨blk_cell (i := 0) h rfl, blk_cell (i := 1) h rfl, blk_cell (i := 2) h rfl, blk_cell (i := 3) h rfl, blk_cell (i := 4) h rfl⟩
theorem u8s_take (l : List Nat) (k : Nat) : (u8s l).take k = u8s (l.take k) := by unfold u8s; rw [List.map_take]
theorem bytesS_byte (s : Scr) : ∀ b ∈ bytesS s, b < 256 := fun b hb => by
  unfold bytesS at hb
  obtain ⟨n, -, hn⟩ := List.mem_flatMap.1 hb
  exact numB_byte n b hn
theorem SmIn.bytes {w : World} {s : Sm} (h : SmIn w s) (hr : rightS s.scr = true) : (bytesS s.scr).length ≤ 44000 := by
  have h1 := flat_numB (encS s.scr) (encS_lt h)
  have h2 := encS_len hr
  unfold bytesS
  omega
theorem SmIn.ok {w : World} {s : Sm} (h : SmIn w s) : ∀ l ∈ s.scr.lists, ∀ c ∈ l, CalOk c := fun l hl c hc => by
  obtain ⟨r, hr, rfl⟩ := List.mem_map.1 (show l ∈ s.rows.map (·.cs) from hl)
  exact h.rows.ok r hr c hc
set_option maxHeartbeats 8000000 in
theorem back_true (xs : Sm) (mp : Option Addr) (mn mc : Nat) (ms : List Nat) (w : World) (hT : Tks w) (h : SmArg w xs) (hm : Sl w mp mn (u8s ms)) (hle : mn ≤ mc) (hnil : mp = none → mc = 0) (hb : ∀ b ∈ ms, b < 256) :
    Calls Tryd.prog 5 #[.agg (smA xs), .slice mp mn mc] w fun e w' => e = .returned (.bool true) ∧ Below w.heap.size w w' := by
  obtain ⟨k, hk⟩ : ∃ k : Nat, min (mn : Int) 2000 = (k : Int) := ⟨(min (mn : Int) 2000).toNat, by omega⟩
  have hk2000 : k ≤ 2000 := by omega
  have hkn : k ≤ mn := by omega
  have hkmc : k ≤ mc := by omega
  have k1 : (k : Int) ≤ (mc : Int) := by omega
  have k2 : ¬ (k : Int) < 0 := by omega
  obtain ⟨M, hM⟩ : ∃ M, M = ms.take k := ⟨_, rfl⟩
  have hMb : ∀ b ∈ M, b < 256 := fun b hbm => hb b (List.mem_of_mem_take (by rw [← hM]; exact hbm))
  have hm0 := hm.take k hkn
  rw [u8s_take, ← hM] at hm0
  have hMl : M.length = k := by have := hm0.1; rw [u8s_length] at this; exact this.symm
  obtain ⟨g, sb, seed, lp, ln, lc, rows, pp, pn, pc, ps⟩ := xs
  obtain ⟨xs, hxs⟩ : ∃ s : Sm, s = ⟨g, sb, seed, lp, ln, lc, rows, pp, pn, pc, ps⟩ := ⟨_, rfl⟩
  have hX : smA xs = #[.int .i64 g, .int .i64 sb, .int .u64 (seed : Int), .slice lp ln lc, .slice pp pn pc] := by rw [hxs]; rfl
  rw [← hxs] at h ⊢
  rw [hX]
  have hB0 := (Below.refl w.heap.size w).alloc (Nat.le_refl _) (.cells #[.int .i64 g, .int .i64 sb, .int .u64 (seed : Int), .slice lp ln lc, .slice pp pn pc] 26)
  have hb0 := World.alloc_heap_new w (.cells #[.int .i64 g, .int .i64 sb, .int .u64 (seed : Int), .slice lp ln lc, .slice pp pn pc] 26)
  have W0 := wakes_any _ (hT.next hB0)
  clear hxs hM hm hb
  have hT'h := Lib.hid hT
  have h'h := Lib.hid h
  have hm0'h := Lib.hid hm0
  have hle'h := Lib.hid hle
  have hnil'h := Lib.hid hnil
  have hk2000'h := Lib.hid hk2000
  have hkn'h := Lib.hid hkn
  have hkmc'h := Lib.hid hkmc
  have hMb'h := Lib.hid hMb
  have hMl'h := Lib.hid hMl
  have hX'h := Lib.hid hX
  have hB0'h := Lib.hid hB0
  have hb0'h := Lib.hid hb0
  have W0'h := Lib.hid W0
  clear hT h hm0 hle hnil hk2000 hkn hkmc hMb hMl hX hB0 hb0 W0
  go_enter Tryd.func5, Tryd.ntmps5
  go_wp2_with fail
  refine W0'h.out.mono ?_
  rintro e w1 ⟨rfl, hB1⟩
  have hb1 := heap_below hB1 hb0'h.out (lt_of_heap hb0'h.out)
  have hB01 := below_next hB0'h.out hB1
  have hT1 := hT'h.out.next hB01
  have hA1 := h'h.out.below hB01
  have hm1 := hm0'h.out.below hB01
  have O := own_any xs w1 hA1
  rw [hX'h.out] at O
  obtain ⟨x0, x1, x2, x3, x4⟩ := cells5 hb1
  clear hB1 hA1 hb0'h hB0'h W0'h hT'h h'h hm0'h
  have hb1'h := Lib.hid hb1
  have hB01'h := Lib.hid hB01
  have hT1'h := Lib.hid hT1
  have hm1'h := Lib.hid hm1
  have O'h := Lib.hid O
  clear hb1 hB01 hT1 hm1 O
  go_wp2_with fail
  refine O'h.out.mono ?_
  clear x0 x1 x2 x3 x4
  rintro e w2 ⟨sm, rfl, hB2, hIn2, hs2⟩
  have hT2 := hT1'h.out.next hB2
  have hm2 := hm1'h.out.below hB2
  have hB02 := below_next hB01'h.out hB2
  clear hB2 O'h hT1'h hm1'h hB01'h hb1'h hs2
  obtain ⟨g2, sb2, seed2, lp2, ln2, lc2, rows2, pp2, pn2, pc2, ps2⟩ := sm
  obtain ⟨sm, hsm⟩ : ∃ s : Sm, s = ⟨g2, sb2, seed2, lp2, ln2, lc2, rows2, pp2, pn2, pc2, ps2⟩ := ⟨_, rfl⟩
  have hA : smA sm = #[.int .i64 g2, .int .i64 sb2, .int .u64 (seed2 : Int), .slice lp2 ln2 lc2, .slice pp2 pn2 pc2] := by rw [hsm]; rfl
  rw [← hsm] at hIn2 ⊢
  rw [hA]
  have hB3 := (Below.refl w2.heap.size w2).alloc (Nat.le_refl _) (.cells #[.int .i64 g2, .int .i64 sb2, .int .u64 (seed2 : Int), .slice lp2 ln2 lc2, .slice pp2 pn2 pc2] 26)
  have hb3 := World.alloc_heap_new w2 (.cells #[.int .i64 g2, .int .i64 sb2, .int .u64 (seed2 : Int), .slice lp2 ln2 lc2, .slice pp2 pn2 pc2] 26)
  have hT3 := hT2.next hB3
  have hm3 := hm2.below hB3
  have hB03 := below_next hB02 hB3
  have hIn3 := hIn2.below hB3
  have EN := encode_no sm _ hT3 hIn3
  have EY := encode_yes sm _ hT3 hIn3
  rw [hA] at EN EY
  clear hB3 hT2 hm2 hB02 hIn2 hsm
  cases hr : rightS sm.scr with
  | false =>
    have E := EN hr
    clear EN EY hb3 hIn3 hr
    have E'h := Lib.hid E
    have hT3'h := Lib.hid hT3
    have hm3'h := Lib.hid hm3
    have hB03'h := Lib.hid hB03
    have hA'h := Lib.hid hA
    clear E hT3 hm3 hB03 hA
    go_wp2_with fail
    refine E'h.out.mono ?_
    rintro e w4 ⟨rfl, hB4⟩
    have hT4 := hT3'h.out.next hB4
    have hm4 := hm3'h.out.below hB4
    have hB04 := below_next hB03'h.out hB4
    clear hB4 E'h hT3'h hm3'h hB03'h hA'h
    have hT4'h := Lib.hid hT4
    have hm4'h := Lib.hid hm4
    have hB04'h := Lib.hid hB04
    clear hT4 hm4 hB04
    have D := decode_any mp k mc M w4 hT4'h.out hm4'h.out hMb'h.out (by have := hk2000'h.out; omega)
    cases hR : scriptR M with
    | none =>
      rw [hR] at D
      have D'h := Lib.hid D
      clear D
      go_wp2_with fail
      refine D'h.out.mono ?_
      rintro e wd ⟨hBd, hd⟩
      simp only at hd
      subst hd
      have hBe := below_next hB04'h.out hBd
      have hBf := below_next hBe ((Below.refl wd.heap.size wd).alloc (Nat.le_refl _) (.cells zeroSm 26))
      clear D'h hBd hBe
      have hBf'h := Lib.hid hBf
      clear hBf
      go_wp2
      go_ret
      exact ⟨rfl, hBf'h.out⟩
    | some x =>
      obtain ⟨sd, rest⟩ := x
      rw [hR] at D
      obtain ⟨hrd, hinv⟩ := scriptR_inv hMb'h.out hR
      have hMl := hMl'h.out
      have hlen : (bytesS sd).length = k - rest.length ∧ rest.length ≤ k := by
        have := congrArg List.length hinv
        rw [List.length_append] at this
        omega
      have htake : M.take (bytesS sd).length = bytesS sd := by rw [hinv, List.take_left']; rfl
      have hne := bytesS_ne sd
      have D'h := Lib.hid D
      have hrd'h := Lib.hid hrd
      have hinv'h := Lib.hid hinv
      have hlen'h := Lib.hid hlen
      have htake'h := Lib.hid htake
      clear D hrd hinv hlen htake
      clear hR
      go_wp2_with fail
      refine D'h.out.mono ?_
      rintro e wd ⟨hBd, smd, rfl, hInd, hsd, -⟩
      have hMd := (hm4'h.out).below hBd
      have hTd := (hT4'h.out).next hBd
      have hBe := below_next hB04'h.out hBd
      clear D'h hBd
      rw [← hlen'h.out.1]
      obtain ⟨nb, hnb⟩ : ∃ nb, nb = (bytesS sd).length := ⟨_, rfl⟩
      rw [← hnb] at hne htake'h ⊢
      have hnk : nb ≤ k := by have := hlen'h.out; omega
      obtain ⟨g3, sb3, seed3, lp3, ln3, lc3, rows3, pp3, pn3, pc3, ps3⟩ := smd
      obtain ⟨smd, hsmd⟩ : ∃ s : Sm, s = ⟨g3, sb3, seed3, lp3, ln3, lc3, rows3, pp3, pn3, pc3, ps3⟩ := ⟨_, rfl⟩
      have hAd : smA smd = #[.int .i64 g3, .int .i64 sb3, .int .u64 (seed3 : Int), .slice lp3 ln3 lc3, .slice pp3 pn3 pc3] := by rw [hsmd]; rfl
      rw [← hsmd] at hInd hsd ⊢
      rw [hAd]
      have hBg := (Below.refl wd.heap.size wd).alloc (Nat.le_refl _) (.cells #[.int .i64 g3, .int .i64 sb3, .int .u64 (seed3 : Int), .slice lp3 ln3 lc3, .slice pp3 pn3 pc3] 26)
      have E := encode_yes smd _ (hTd.next hBg) (hInd.below hBg) (by rw [hsd]; exact hrd'h.out)
      rw [hsd, hAd, ← hnb] at E
      have hMg := hMd.below hBg
      have hBh := below_next hBe hBg
      clear hBg hMd hBe hsmd hAd hInd hTd hsd
      have q1 : ¬ ((nb : Int) = 0) := by omega
      have q2 : (nb : Int) ≤ (k : Int) := by omega
      have q3 : (nb : Int) ≤ (mc : Int) := by have := hkmc'h.out; omega
      have q4 : ¬ (nb : Int) < 0 := by omega
      have hMg'h := Lib.hid hMg
      have hBh'h := Lib.hid hBh
      have E'h := Lib.hid E
      have hnb'h := Lib.hid hnb
      have hne'h := Lib.hid hne
      have hnk'h := Lib.hid hnk
      clear hMg hBh E hnb hne hnk
      go_wp2_with fail
      refine E'h.out.mono ?_
      rintro e wg ⟨v, rfl, hBi, hrow⟩
      obtain ⟨vp, vc, rfl⟩ := row_slice' hrow
      have hSv := Sl.of_row hrow (by have := hnk'h.out; have := hk2000'h.out; unfold maxLen; omega)
      have hMi := (hMg'h.out.below hBi).take nb hnk'h.out
      rw [u8s_take] at hMi
      have hBj := below_next hBh'h.out hBi
      have Q := eqB_any vp mp nb nb vc mc (bytesS sd) (M.take nb) wg hSv hMi (bytesS_byte sd) (fun b hb => hMb'h.out b (List.mem_of_mem_take hb))
      rw [htake'h.out, decide_eq_true rfl] at Q
      clear hrow hSv hMi hBi E'h
      have hBj'h := Lib.hid hBj
      have Q'h := Lib.hid Q
      clear hBj Q
      go_wp2_with (go_at_call 20; refine Q'h.out.mono ?_; rintro e w' ⟨rfl, hw⟩; obtain rfl := hw.symm)
      go_ret
      exact ⟨rfl, hBj'h.out⟩
  | true =>
    have E := EY hr
    have hnb := hIn3.bytes hr
    have hne := bytesS_ne sm.scr
    clear EN EY
    have E'h := Lib.hid E
    have hT3'h := Lib.hid hT3
    have hm3'h := Lib.hid hm3
    have hB03'h := Lib.hid hB03
    have hA'h := Lib.hid hA
    have hIn3'h := Lib.hid hIn3
    have hb3'h := Lib.hid hb3
    have hr'h := Lib.hid hr
    clear E hT3 hm3 hB03 hA hIn3 hb3 hr
    go_wp2_with fail
    refine E'h.out.mono ?_
    rintro e w4 ⟨v, rfl, hB4, hrow4⟩
    obtain ⟨Bs, hBs⟩ : ∃ Bs, Bs = bytesS sm.scr := ⟨_, rfl⟩
    have hBb : ∀ b ∈ Bs, b < 256 := by rw [hBs]; exact bytesS_byte _
    rw [← hBs] at hrow4 hnb hne
    have hfw := fun r => scriptR_num hr'h.out hIn3'h.out.ok hIn3'h.out.seed hIn3'h.out.w64 r
    have hls := scriptR_less hr'h.out hIn3'h.out.ok hIn3'h.out.seed hIn3'h.out.w64 (bytesS_byte _)
    rw [← hBs] at hfw hls
    obtain ⟨bn, hbn⟩ : ∃ bn, bn = Bs.length := ⟨_, rfl⟩
    rw [← hbn] at hrow4 hnb hne hls
    obtain ⟨vp, vc, rfl, hvl, hvn, -⟩ := row_form hrow4
    have hS4 := Sl.of_row hrow4 (by unfold maxLen; omega)
    have hT4 := hT3'h.out.next hB4
    have hm4 := hm3'h.out.below hB4
    have hIn4 := hIn3'h.out.below hB4
    have hb4 := heap_below hB4 hb3'h.out (lt_of_heap hb3'h.out)
    have hB04 := below_next hB03'h.out hB4
    clear hB4 hrow4 E'h hT3'h hm3'h hIn3'h hb3'h hB03'h hBs
    have hS4'h := Lib.hid hS4
    have hT4'h := Lib.hid hT4
    have hm4'h := Lib.hid hm4
    have hIn4'h := Lib.hid hIn4
    have hb4'h := Lib.hid hb4
    have hB04'h := Lib.hid hB04
    have hfw'h := Lib.hid hfw
    have hls'h := Lib.hid hls
    have hbn'h := Lib.hid hbn
    have hnb'h := Lib.hid hnb
    have hne'h := Lib.hid hne
    have hvl'h := Lib.hid hvl
    have hvn'h := Lib.hid hvn
    have hBb'h := Lib.hid hBb
    clear hS4 hT4 hm4 hIn4 hb4 hB04 hfw hls hbn hnb hne hvl hvn hBb
    obtain ⟨i0, hi, hz, hs, hby⟩ := info_parts info_clone8
    go_wp2_with fail
    refine (clone8_any vp bn vc (u8s Bs) w4 (by have := hnb'h.out; omega) (u8s_one _) hvn'h.out hS4'h.out).mono ?_
    rintro e w5 ⟨cp, cc, rfl, hB5, hrow5⟩
    have hm5 := SlK.of_sl (hm4'h.out.below hB5)
    have hb5 := hB5.size
    have hm5'h := Lib.hid hm5
    have hb5'h := Lib.hid hb5
    have hB5'h := Lib.hid hB5
    have hrow5'h := Lib.hid hrow5
    clear hm5 hb5 hB5 hrow5
    go_wp2_with (at_builtin; refine wpList_append_slk _ rfl (.tmp 37) (.tmp 38) 38 rfl w4.heap.size 5 i0 (.int .u8 0) 1 1 Tryd.underlying38 hi hz hs hby rfl (by decide) (.slice cp bn cc) bn (u8s Bs) rfl hrow5'h.out mp k mc (u8s M) rfl hm5'h.out (u8s_one _) (by have := hnb'h.out; have := hk2000'h.out; unfold maxLen; omega) (by have := hnb'h.out; have := hk2000'h.out; omega) hb5'h.out ?_; intro v' w6 hown' hgrow hwh; obtain ⟨dp, dc, hv', -, -, -⟩ := row_form hown'; subst hv'; have hS6 := Sl.of_row hown' (by have := hnb'h.out; have := hk2000'h.out; unfold maxLen; omega); have hB46 := hB5'h.out.trans ((Below.refl w4.heap.size _).grown hgrow hb5'h.out (fun q hq => (hrow5'h.out.lt q hq).1)); clear hown' hgrow hwh; have hS6'h := Lib.hid hS6; have hB46'h := Lib.hid hB46; clear hS6 hB46)
    have hS6 := hS6'h.out
    rw [u8s_app] at hS6
    have hT6 := hT4'h.out.next hB46'h.out
    have D := decode_any dp (bn + k) dc (Bs ++ M) w6 hT6 hS6 (by
      intro b hb
      rcases List.mem_append.1 hb with hb | hb
      · exact hBb'h.out b hb
      · exact hMb'h.out b hb) (by have := hnb'h.out; have := hk2000'h.out; omega)
    rw [hfw'h.out M] at D
    have hm6 := hm4'h.out.below hB46'h.out
    have hS6b := hS4'h.out.below hB46'h.out
    have hIn6 := hIn4'h.out.below hB46'h.out
    have hb6 := heap_below hB46'h.out hb4'h.out (lt_of_heap hb4'h.out)
    have hB06 := below_next hB04'h.out hB46'h.out
    clear hS6 hm5'h hb5'h hB5'h hrow5'h hS6'h hB46'h hT4'h hm4'h hS4'h hIn4'h hb4'h hB04'h hfw'h
    have D'h := Lib.hid D
    have hT6'h := Lib.hid hT6
    have hm6'h := Lib.hid hm6
    have hS6b'h := Lib.hid hS6b
    have hIn6'h := Lib.hid hIn6
    have hb6'h := Lib.hid hb6
    have hB06'h := Lib.hid hB06
    clear D hT6 hm6 hS6b hIn6 hb6 hB06
    refine D'h.out.mono ?_
    rintro e w7 ⟨hB7, sm7, rfl, hIn7, hs7, -⟩
    rw [show bn + k - M.length = bn by rw [hMl'h.out]; omega]
    obtain ⟨g7, sb7, seed7, lp7, ln7, lc7, rows7, pp7, pn7, pc7, ps7⟩ := sm7
    obtain ⟨sm7, hsm7⟩ : ∃ s : Sm, s = ⟨g7, sb7, seed7, lp7, ln7, lc7, rows7, pp7, pn7, pc7, ps7⟩ := ⟨_, rfl⟩
    have hA7 : smA sm7 = #[.int .i64 g7, .int .i64 sb7, .int .u64 (seed7 : Int), .slice lp7 ln7 lc7, .slice pp7 pn7 pc7] := by rw [hsm7]; rfl
    rw [← hsm7] at hIn7 hs7 ⊢
    rw [hA7]
    have hB8 := (Below.refl w7.heap.size w7).alloc (Nat.le_refl _) (.cells #[.int .i64 g7, .int .i64 sb7, .int .u64 (seed7 : Int), .slice lp7 ln7 lc7, .slice pp7 pn7 pc7] 26)
    have hB68 := below_next hB7 hB8
    have hT8 := hT6'h.out.next hB68
    have hm8 := hm6'h.out.below hB68
    have hS8 := hS6b'h.out.below hB68
    have hb8 := heap_below hB68 hb6'h.out (lt_of_heap hb6'h.out)
    have hB08 := below_next hB06'h.out hB68
    have SA := same_any sm7 sm _ (hIn7.below hB8) (hIn6'h.out.below hB68)
    rw [hs7, decide_eq_true rfl, hA7, hA'h.out] at SA
    obtain ⟨x0, x1, x2, x3, x4⟩ := cells5 hb8
    have hfr : ¬ w2.heap.size = w7.heap.size := by
      have h1 := lt_of_heap hb6'h.out
      have h2 := hB7.size
      omega
    have n1 : ¬ ((0 : Int) = 131) := by decide
    clear hB7 hB8 hB68 hIn7 hs7 hsm7 D'h hT6'h hm6'h hS6b'h hIn6'h hb6'h hB06'h hb8
    have hT8'h := Lib.hid hT8
    have hm8'h := Lib.hid hm8
    have hS8'h := Lib.hid hS8
    have hB08'h := Lib.hid hB08
    have SA'h := Lib.hid SA
    have hfr'h := Lib.hid hfr
    clear hT8 hm8 hS8 hB08 SA hfr
    go_wp2_with fail
    refine SA'h.out.mono ?_
    clear x0 x1 x2 x3 x4
    rintro e w9 ⟨rfl, hB9⟩
    have hS9 := (hS8'h.out.below hB9).take (bn - 1) (by omega)
    rw [u8s_take] at hS9
    have hT9 := hT8'h.out.next hB9
    have hm9 := hm8'h.out.below hB9
    have hB09 := below_next hB08'h.out hB9
    have D := decode_any vp (bn - 1) vc (Bs.take (bn - 1)) w9 hT9 hS9 (fun b hb => hBb'h.out b (List.mem_of_mem_take hb)) (by have := hnb'h.out; omega)
    rw [hls'h.out] at D
    obtain ⟨pn1, hp1⟩ : ∃ p, p = bn - 1 := ⟨_, rfl⟩
    rw [← hp1] at D
    have q1 : (bn : Int) - 1 = (pn1 : Int) := by have := hne'h.out; omega
    have q2 : (pn1 : Int) ≤ (vc : Int) := by have := hvl'h.out; omega
    have q3 : ¬ (pn1 : Int) < 0 := by omega
    have q4 : RowKit.wrap64 ((bn : Int) - 1) = (pn1 : Int) := by
      rw [q1]; exact (Go.IntWalk.i64_left _).symm.trans (Go.IntWalk.i64_in _ (by have := hnb'h.out; omega))
    clear hS9 hB9 SA'h hT8'h hm8'h hS8'h hB08'h hls'h hfr'h q1
    have D'h := Lib.hid D
    have hT9'h := Lib.hid hT9
    have hm9'h := Lib.hid hm9
    have hB09'h := Lib.hid hB09
    have hp1'h := Lib.hid hp1
    clear D hT9 hm9 hB09 hp1
    go_wp2_with fail
    refine D'h.out.mono ?_
    rintro e w10 ⟨hB10, h10⟩
    simp only at h10
    subst h10
    have hBx := below_next hB10 ((Below.refl w10.heap.size w10).alloc (Nat.le_refl _) (.cells zeroSm 26))
    have hTx := hT9'h.out.next hBx
    have hmx := hm9'h.out.below hBx
    have hB0x := below_next hB09'h.out hBx
    clear hB10 hBx D'h hT9'h hm9'h hB09'h
    have hTx'h := Lib.hid hTx
    have hmx'h := Lib.hid hmx
    have hB0x'h := Lib.hid hB0x
    clear hTx hmx hB0x
    have D := decode_any mp k mc M (w10.alloc (.cells zeroSm 26)) hTx'h.out hmx'h.out hMb'h.out (by have := hk2000'h.out; omega)
    cases hR : scriptR M with
    | none =>
      rw [hR] at D
      have D'h := Lib.hid D
      clear D
      go_wp2_with fail
      refine D'h.out.mono ?_
      rintro e wd ⟨hBd, hd⟩
      simp only at hd
      subst hd
      have hBe := below_next hB0x'h.out hBd
      have hBf := below_next hBe ((Below.refl wd.heap.size wd).alloc (Nat.le_refl _) (.cells zeroSm 26))
      clear D'h hBd hBe
      have hBf'h := Lib.hid hBf
      clear hBf
      go_wp2
      go_ret
      exact ⟨rfl, hBf'h.out⟩
    | some x =>
      obtain ⟨sd, rest⟩ := x
      rw [hR] at D
      obtain ⟨hrd, hinv⟩ := scriptR_inv hMb'h.out hR
      have hMl := hMl'h.out
      have hlen : (bytesS sd).length = k - rest.length ∧ rest.length ≤ k := by
        have := congrArg List.length hinv
        rw [List.length_append] at this
        omega
      have htake : M.take (bytesS sd).length = bytesS sd := by rw [hinv, List.take_left']; rfl
      have hne := bytesS_ne sd
      have D'h := Lib.hid D
      have hrd'h := Lib.hid hrd
      have hinv'h := Lib.hid hinv
      have hlen'h := Lib.hid hlen
      have htake'h := Lib.hid htake
      clear D hrd hinv hlen htake
      clear hR
      go_wp2_with fail
      refine D'h.out.mono ?_
      rintro e wd ⟨hBd, smd, rfl, hInd, hsd, -⟩
      have hMd := (hmx'h.out).below hBd
      have hTd := (hTx'h.out).next hBd
      have hBe := below_next hB0x'h.out hBd
      clear D'h hBd
      rw [← hlen'h.out.1]
      obtain ⟨nb, hnb⟩ : ∃ nb, nb = (bytesS sd).length := ⟨_, rfl⟩
      rw [← hnb] at hne htake'h ⊢
      have hnk : nb ≤ k := by have := hlen'h.out; omega
      obtain ⟨g3, sb3, seed3, lp3, ln3, lc3, rows3, pp3, pn3, pc3, ps3⟩ := smd
      obtain ⟨smd, hsmd⟩ : ∃ s : Sm, s = ⟨g3, sb3, seed3, lp3, ln3, lc3, rows3, pp3, pn3, pc3, ps3⟩ := ⟨_, rfl⟩
      have hAd : smA smd = #[.int .i64 g3, .int .i64 sb3, .int .u64 (seed3 : Int), .slice lp3 ln3 lc3, .slice pp3 pn3 pc3] := by rw [hsmd]; rfl
      rw [← hsmd] at hInd hsd ⊢
      rw [hAd]
      have hBg := (Below.refl wd.heap.size wd).alloc (Nat.le_refl _) (.cells #[.int .i64 g3, .int .i64 sb3, .int .u64 (seed3 : Int), .slice lp3 ln3 lc3, .slice pp3 pn3 pc3] 26)
      have E := encode_yes smd _ (hTd.next hBg) (hInd.below hBg) (by rw [hsd]; exact hrd'h.out)
      rw [hsd, hAd, ← hnb] at E
      have hMg := hMd.below hBg
      have hBh := below_next hBe hBg
      clear hBg hMd hBe hsmd hAd hInd hTd hsd
      have q1 : ¬ ((nb : Int) = 0) := by omega
      have q2 : (nb : Int) ≤ (k : Int) := by omega
      have q3 : (nb : Int) ≤ (mc : Int) := by have := hkmc'h.out; omega
      have q4 : ¬ (nb : Int) < 0 := by omega
      have hMg'h := Lib.hid hMg
      have hBh'h := Lib.hid hBh
      have E'h := Lib.hid E
      have hnb'h := Lib.hid hnb
      have hne'h := Lib.hid hne
      have hnk'h := Lib.hid hnk
      clear hMg hBh E hnb hne hnk
      go_wp2_with fail
      refine E'h.out.mono ?_
      rintro e wg ⟨v, rfl, hBi, hrow⟩
      obtain ⟨vp, vc, rfl⟩ := row_slice' hrow
      have hSv := Sl.of_row hrow (by have := hnk'h.out; have := hk2000'h.out; unfold maxLen; omega)
      have hMi := (hMg'h.out.below hBi).take nb hnk'h.out
      rw [u8s_take] at hMi
      have hBj := below_next hBh'h.out hBi
      have Q := eqB_any vp mp nb nb vc mc (bytesS sd) (M.take nb) wg hSv hMi (bytesS_byte sd) (fun b hb => hMb'h.out b (List.mem_of_mem_take hb))
      rw [htake'h.out, decide_eq_true rfl] at Q
      clear hrow hSv hMi hBi E'h
      have hBj'h := Lib.hid hBj
      have Q'h := Lib.hid Q
      clear hBj Q
      go_wp2_with (go_at_call 20; refine Q'h.out.mono ?_; rintro e w' ⟨rfl, hw⟩; obtain rfl := hw.symm)
      go_ret
      exact ⟨rfl, hBj'h.out⟩
theorem walk_ScriptBack (xs : Sm) (mp : Option Addr) (mn mc : Nat) (zs : List Int) (w : World) (hT : Tks w) (h : SmArg w xs) (hnil : mp = none → mc = 0) (hle : mn ≤ mc) (hm : Sl w mp mn (zs.map (Value.int .u8))) (hz : ∀ z ∈ zs, (Lit.int .u8 z).wf = true) :
    Calls Tryd.prog 5 #[.agg (smA xs), .slice mp mn mc] w fun e w' => e = .returned (.bool true) ∧ Below w.heap.size w w' := by
  have e : zs.map (Value.int .u8) = u8s (nats zs) := by
    unfold u8s nats
    rw [List.map_map]
    refine List.map_congr_left fun z hzm => ?_
    have := wf_u8 (hz z hzm)
    simp only [Function.comp]
    congr 1
    omega
  rw [e] at hm
  refine back_true xs mp mn mc (nats zs) w hT h hm hle hnil fun b hb => ?_
  unfold nats at hb
  obtain ⟨z, hzm, rfl⟩ := List.mem_map.1 hb
  have := wf_u8 (hz z hzm)
  omega
end Go.Proofs.YtifofdciablljaaDoor

/-
  Layer 3 (script): what is cut may be; cut of all it is the script; cut twice is cut once to the lesser.
-/
set_option linter.unusedSimpArgs false
set_option linter.unusedVariables false
set_option maxRecDepth 100000
namespace Go.Proofs.YtifofdciablljaaDoor
open Go.RowKit

/-- What lies there while the law goes on. -/
structure KAt (w0 : World) (bp : Nat) (p0 p1 : Int) (gp : Option Addr) (k : Nat) (G : List Int) (L : List (Nat × Sm)) (W : World) : Prop where
  tks : Tks W
  low : Below w0.heap.size w0 W
  pair : W.heap[bp]? = some (.cells #[.int .i64 p0, .int .i64 p1] 59 (0, 0))
  goers : Sl W gp k (G.map (Value.int .i64))
  each : ∀ x ∈ L, W.heap[x.1]? = some (.cells (smA x.2) 26 (0, 0)) ∧ SmIn W x.2
section
variable {w0 : World} {bp : Nat} {p0 p1 : Int} {gp : Option Addr} {k : Nat} {G : List Int} {L : List (Nat × Sm)} {W W' : World}
theorem KAt.next (h : KAt w0 bp p0 p1 gp k G L W) (hb : Below W.heap.size W W') : KAt w0 bp p0 p1 gp k G L W' :=
  ⟨h.tks.next hb, below_next h.low hb, heap_below hb h.pair (lt_of_heap h.pair), h.goers.below hb, fun x hx => ⟨heap_below hb (h.each x hx).1 (lt_of_heap (h.each x hx).1), (h.each x hx).2.below hb⟩⟩
theorem KAt.box {s : Sm} {cs : Array Value} (h : KAt w0 bp p0 p1 gp k G L W) (hs : SmIn W s) (he : smA s = cs) : KAt w0 bp p0 p1 gp k G ((W.heap.size, s) :: L) (W.alloc (.cells cs 26)) := by
  have hB := (Below.refl W.heap.size W).alloc (Nat.le_refl _) (.cells cs 26)
  have h1 := h.next hB
  refine ⟨h1.tks, h1.low, h1.pair, h1.goers, fun x hx => ?_⟩
  rcases List.mem_cons.1 hx with rfl | hx
  · exact ⟨by rw [he]; exact World.alloc_heap_new _ _, hs.below hB⟩
  · exact h1.each x hx
theorem KAt.cells {b : Nat} {s : Sm} {v0 v1 v2 v3 v4 : Value} (h : KAt w0 bp p0 p1 gp k G L W) (hx : (b, s) ∈ L) (hA : smA s = #[v0, v1, v2, v3, v4]) : W.heap[b]? = some (.cells #[v0, v1, v2, v3, v4] 26 (0, 0)) := by
  have := (h.each _ hx).1
  rw [hA] at this
  exact this
theorem KAt.cut (h : KAt w0 bp p0 p1 gp k G L W) {b : Nat} {s : Sm} {cs : Array Value} (hx : (b, s) ∈ L) (he : smA s = cs) (p : Int) (gc : Nat) : Calls Tryd.prog 30 #[.agg cs, .int .i64 p, .slice gp k gc] W fun e w' => CutAt W (cutS s.scr p G) e w' := by
  rw [← he]; exact cut_any s p gp k gc G W (h.each _ hx).2 h.goers
theorem KAt.keys (h : KAt w0 bp p0 p1 gp k G L W) {b : Nat} {s : Sm} {cs : Array Value} (hx : (b, s) ∈ L) (he : smA s = cs) : Calls Tryd.prog 18 #[.agg cs] W fun e w' => ∃ sp n c, e = .returned (.slice sp n c) ∧ Below W.heap.size W w' ∧ w'.ownsRow W.heap.size 22 1 (.slice sp n c) n (u64s (keysL s.scr.lists.flatten)) := by
  rw [← he]; exact keys_any s W h.tks (h.each _ hx).2
theorem KAt.check (h : KAt w0 bp p0 p1 gp k G L W) {b : Nat} {s : Sm} {cs : Array Value} (hx : (b, s) ∈ L) (he : smA s = cs) : Calls Tryd.prog 13 #[.agg cs] W fun e w' => e = .returned (.int .i64 (chkS s.scr)) ∧ Below W.heap.size W w' := by
  rw [← he]; exact check_any s W h.tks (h.each _ hx).2
end
theorem contains_nat (l : List Nat) (x : Nat) : (l.map Int.ofNat).contains (x : Int) = l.contains x := by
  rw [Bool.eq_iff_iff, List.contains_iff_mem, List.contains_iff_mem, List.mem_map]
  exact ⟨fun ⟨y, hy, e⟩ => by
    have e : (y : Int) = (x : Int) := e
    have : y = x := by omega
    rw [← this]; exact hy, fun h => ⟨x, h, rfl⟩⟩
theorem keysL_len (cs : List Cal) : (keysL cs).length ≤ cs.length := by
  unfold keysL
  rw [sorted64_length]
  have := keyL_len cs cs.length
  rw [List.take_length] at this
  exact Nat.le_trans (once_le _) this
set_option maxHeartbeats 8000000 in
theorem keeps_true (xs : Sm) (p0 p1 : Int) (gp : Option Addr) (gn gc : Nat) (gs : List Int) (w : World) (hT : Tks w) (h : SmArg w xs) (hg : Sl w gp gn (gs.map (Value.int .i64))) (hle : gn ≤ gc) :
    Calls Tryd.prog 8 #[.agg (smA xs), .agg #[.int .i64 p0, .int .i64 p1], .slice gp gn gc] w fun e w' => e = .returned (.bool true) ∧ Below w.heap.size w w' := by
  obtain ⟨k, hk⟩ : ∃ k : Nat, min (gn : Int) 8 = (k : Int) := ⟨(min (gn : Int) 8).toNat, by omega⟩
  have hkn : k ≤ gn := by omega
  have k1 : (k : Int) ≤ (gc : Int) := by omega
  have k2 : ¬ (k : Int) < 0 := by omega
  obtain ⟨G, hG⟩ : ∃ G, G = gs.take k := ⟨_, rfl⟩
  have hg0 := hg.take k hkn
  rw [← List.map_take, ← hG] at hg0
  clear hG hg hkn
  obtain ⟨g0, sb0, seed0, lp0, ln0, lc0, rows0, pp0, pn0, pc0, ps0⟩ := xs
  obtain ⟨xs, hsm0⟩ : ∃ s : Sm, s = ⟨g0, sb0, seed0, lp0, ln0, lc0, rows0, pp0, pn0, pc0, ps0⟩ := ⟨_, rfl⟩
  have hA0 : smA xs = #[.int .i64 g0, .int .i64 sb0, .int .u64 (seed0 : Int), .slice lp0 ln0 lc0, .slice pp0 pn0 pc0] := by rw [hsm0]; rfl
  have hpn0 : xs.pn = pn0 := by rw [hsm0]
  rw [← hsm0] at h ⊢
  rw [hA0]
  clear hsm0
  obtain ⟨W0, hW0⟩ : ∃ W0, W0 = (w.alloc (.cells #[.int .i64 g0, .int .i64 sb0, .int .u64 (seed0 : Int), .slice lp0 ln0 lc0, .slice pp0 pn0 pc0] 26)).alloc (.cells #[.int .i64 p0, .int .i64 p1] 59) := ⟨_, rfl⟩
  have hB0 : Below w.heap.size w W0 := by rw [hW0]; exact ((Below.refl _ _).alloc (Nat.le_refl _) _).alloc (by simp) _
  have hbx : W0.heap[w.heap.size]? = some (.cells #[.int .i64 g0, .int .i64 sb0, .int .u64 (seed0 : Int), .slice lp0 ln0 lc0, .slice pp0 pn0 pc0] 26 (0, 0)) := by rw [hW0]; exact (Below.heap_alloc _ _ _ (by simp)).trans (World.alloc_heap_new _ _)
  have hbp : W0.heap[w.heap.size + 1]? = some (.cells #[.int .i64 p0, .int .i64 p1] 59 (0, 0)) := by rw [hW0]; exact heap_alloc2_new w _ _
  have K0 : KAt w (w.heap.size + 1) p0 p1 gp k G [] W0 := ⟨hT.next hB0, hB0, hbp, hg0.below hB0, fun x hx => by cases hx⟩
  have hS0 := h.below hB0
  have WK := wakes_any _ K0.tks
  clear hT h hg0 hB0 hbp
  have K0'h := Lib.hid K0
  have hS0'h := Lib.hid hS0
  have hbx'h := Lib.hid hbx
  have WK'h := Lib.hid WK
  have hle'h := Lib.hid hle
  clear K0 hS0 hbx WK hle
  go_enter Tryd.func8, Tryd.ntmps8
  go_upto_region 1 with fail
  change Code.wp _ _ _ _ ((w.alloc (.cells #[.int .i64 g0, .int .i64 sb0, .int .u64 (seed0 : Int), .slice lp0 ln0 lc0, .slice pp0 pn0 pc0] 26)).alloc (.cells #[.int .i64 p0, .int .i64 p1] 59))
  rw [← hW0]
  clear hW0
  go_wp2_with fail
  refine WK'h.out.mono ?_
  rintro e w1 ⟨rfl, hB1⟩
  have hb1 := heap_below hB1 hbx'h.out (lt_of_heap hbx'h.out)
  have K1 := K0'h.out.next hB1
  have O := own_any xs w1 (hS0'h.out.below hB1)
  rw [hA0] at O
  obtain ⟨x0, x1, x2, x3, x4⟩ := cells5 hb1
  clear hB1 hS0'h K0'h hbx'h WK'h hb1
  have K1'h := Lib.hid K1
  have O'h := Lib.hid O
  clear K1 O
  go_wp2_with fail
  refine O'h.out.mono ?_
  clear x0 x1 x2 x3 x4
  rintro e w2 ⟨s, rfl, hB2, hIn2, hs2⟩
  have K2 := K1'h.out.next hB2
  clear hB2 hs2 O'h K1'h hA0 hpn0
  obtain ⟨g1, sb1, seed1, lp1, ln1, lc1, rows1, pp1, pn1, pc1, ps1⟩ := s
  obtain ⟨s, hsm1⟩ : ∃ s : Sm, s = ⟨g1, sb1, seed1, lp1, ln1, lc1, rows1, pp1, pn1, pc1, ps1⟩ := ⟨_, rfl⟩
  have hA1 : smA s = #[.int .i64 g1, .int .i64 sb1, .int .u64 (seed1 : Int), .slice lp1 ln1 lc1, .slice pp1 pn1 pc1] := by rw [hsm1]; rfl
  have hpn1 : s.pn = pn1 := by rw [hsm1]
  rw [← hsm1] at hIn2 ⊢
  rw [hA1]
  clear hsm1
  have K3 := K2.box hIn2 hA1
  have C := K3.check (List.mem_cons_self ..) hA1
  clear K2
  obtain ⟨c0, hc0⟩ : ∃ c, c = chkS s.scr := ⟨_, rfl⟩
  rw [← hc0] at C
  cases hr : rightS s.scr with
  | false =>
    have n1 : c0 = 130 := by rw [hc0]; unfold chkS; rw [hr]; rfl
    subst n1
    clear hIn2
    have K3'h := Lib.hid K3
    have C'h := Lib.hid C
    clear K3 C
    go_wp2_with fail
    refine C'h.out.mono ?_
    rintro e w4 ⟨rfl, hB4⟩
    have hlow := (K3'h.out.next hB4).low
    clear hB4 K3'h C'h
    have hlow'h := Lib.hid hlow
    clear hlow
    go_wp2
    go_ret
    exact ⟨rfl, hlow'h.out⟩
  | true =>
    have n1 : c0 = 0 := by rw [hc0]; unfold chkS; rw [hr]; rfl
    subst n1
    have hpm : s.pn = s.scr.picks.length := hIn2.pn
    have hsl : s.scr.lists.flatten.length ≤ 64 := by
      have := hr
      unfold rightS at this
      simp only [Bool.and_eq_true, decide_eq_true_eq] at this
      exact this.2.1
    clear hIn2 hc0
    have K3'h := Lib.hid K3
    have C'h := Lib.hid C
    have hr'h := Lib.hid hr
    have hsl'h := Lib.hid hsl
    clear K3 C hr hsl
    go_wp2_with fail
    refine C'h.out.mono ?_
    rintro e w4 ⟨rfl, hB4⟩
    have K4 := K3'h.out.next hB4
    clear hB4 K3'h C'h
    obtain ⟨bs, hbs⟩ : ∃ bs, bs = w2.heap.size := ⟨_, rfl⟩
    rw [← hbs] at K4 ⊢
    clear hbs
    obtain ⟨x0, x1, x2, x3, x4⟩ := cells5 (K4.cells (List.mem_cons_self ..) hA1)
    have d0 : w4.cell? ⟨w.heap.size + 1, 0, none⟩ = some (.int .i64 p0) := blk_cell (i := 0) K4.pair rfl
    have C := K4.cut (List.mem_cons_self ..) hA1 p0 gc
    have K4'h := Lib.hid K4
    have C'h := Lib.hid C
    have hpm'h := Lib.hid hpm
    clear K4 C hpm
    go_wp2_with fail
    refine C'h.out.mono ?_
    clear x0 x1 x2 x3 x4 d0
    rintro e w5 ⟨a, rfl, hB5, hIn5, -, hs5⟩
    have K5 := K4'h.out.next hB5
    clear hB5 K4'h C'h k1 k2 hk
    obtain ⟨g2, sb2, seed2, lp2, ln2, lc2, rows2, pp2, pn2, pc2, ps2⟩ := a
    obtain ⟨a, hsm2⟩ : ∃ s : Sm, s = ⟨g2, sb2, seed2, lp2, ln2, lc2, rows2, pp2, pn2, pc2, ps2⟩ := ⟨_, rfl⟩
    have hA2 : smA a = #[.int .i64 g2, .int .i64 sb2, .int .u64 (seed2 : Int), .slice lp2 ln2 lc2, .slice pp2 pn2 pc2] := by rw [hsm2]; rfl
    have hpn2 : a.pn = pn2 := by rw [hsm2]
    rw [← hsm2] at hIn5 hs5 ⊢
    rw [hA2]
    clear hsm2
    have K6 := K5.box hIn5 hA2
    clear K5
    obtain ⟨ba, hba⟩ : ∃ ba, ba = w5.heap.size := ⟨_, rfl⟩
    rw [← hba] at K6
    obtain ⟨V6, hV6⟩ : ∃ V, V = w5.alloc (.cells #[.int .i64 g2, .int .i64 sb2, .int .u64 (seed2 : Int), .slice lp2 ln2 lc2, .slice pp2 pn2 pc2] 26) := ⟨_, rfl⟩
    rw [← hV6] at K6
    obtain ⟨x0, x1, x2, x3, x4⟩ := cells5 (K6.cells (List.mem_cons_self ..) hA2)
    have d1 : V6.cell? ⟨w.heap.size + 1, 1, none⟩ = some (.int .i64 p1) := blk_cell (i := 1) K6.pair rfl
    have C := K6.cut (List.mem_cons_self ..) hA2 p1 gc
    clear hIn5 hpn2
    have K6'h := Lib.hid K6
    have C'h := Lib.hid C
    have hs5'h := Lib.hid hs5
    clear K6 C hs5
    go_upto_region 8 with fail
    rw [← hba, ← hV6]
    clear hba hV6
    go_wp2_with fail
    refine C'h.out.mono ?_
    clear x0 x1 x2 x3 x4 d1
    rintro e w7 ⟨b, rfl, hB7, hIn7, -, hs7⟩
    have K7 := K6'h.out.next hB7
    clear hB7 K6'h C'h
    obtain ⟨g3, sb3, seed3, lp3, ln3, lc3, rows3, pp3, pn3, pc3, ps3⟩ := b
    obtain ⟨b, hsm3⟩ : ∃ s : Sm, s = ⟨g3, sb3, seed3, lp3, ln3, lc3, rows3, pp3, pn3, pc3, ps3⟩ := ⟨_, rfl⟩
    have hA3 : smA b = #[.int .i64 g3, .int .i64 sb3, .int .u64 (seed3 : Int), .slice lp3 ln3 lc3, .slice pp3 pn3 pc3] := by rw [hsm3]; rfl
    have hpn3 : b.pn = pn3 := by rw [hsm3]
    rw [← hsm3] at hIn7 hs7 ⊢
    rw [hA3]
    clear hsm3
    have K8 := K7.box hIn7 hA3
    clear K7
    obtain ⟨bb, hbb⟩ : ∃ bb, bb = w7.heap.size := ⟨_, rfl⟩
    rw [← hbb] at K8
    obtain ⟨V8, hV8⟩ : ∃ V, V = w7.alloc (.cells #[.int .i64 g3, .int .i64 sb3, .int .u64 (seed3 : Int), .slice lp3 ln3 lc3, .slice pp3 pn3 pc3] 26) := ⟨_, rfl⟩
    rw [← hV8] at K8
    obtain ⟨x0, x1, x2, x3, x4⟩ := cells5 (K8.cells (List.mem_cons_of_mem _ (List.mem_cons_of_mem _ (List.mem_cons_self ..))) hA1)
    have hB9 := (Below.refl V8.heap.size V8).alloc (Nat.le_refl _) (.cells #[.int .i64 0, .int .i64 1, .int .i64 2, .int .i64 3, .int .i64 4, .int .i64 5, .int .i64 6, .int .i64 7] 3)
    have hsl9 : Sl (V8.alloc (.cells #[.int .i64 0, .int .i64 1, .int .i64 2, .int .i64 3, .int .i64 4, .int .i64 5, .int .i64 6, .int .i64 7] 3)) (some ⟨V8.heap.size, 0, none⟩) 8 (([0, 1, 2, 3, 4, 5, 6, 7] : List Int).map (Value.int .i64)) := (SlK.of_blk (k := 1) (n := 8) (World.alloc_heap_new _ _) rfl (by decide)).sl
    have K9 := K8.next hB9
    have C := cut_any s (pn1 : Int) (some ⟨V8.heap.size, 0, none⟩) 8 8 [0, 1, 2, 3, 4, 5, 6, 7] _ (K9.each _ (List.mem_cons_of_mem _ (List.mem_cons_of_mem _ (List.mem_cons_self ..)))).2 hsl9
    rw [hA1] at C
    clear hIn7 hpn3 hB9 hsl9 K8
    have K9'h := Lib.hid K9
    have C'h := Lib.hid C
    have hs7'h := Lib.hid hs7
    clear K9 C hs7
    go_upto_region 9 with fail
    rw [← hbb, ← hV8]
    clear hbb hV8
    go_wp2_with fail
    refine C'h.out.mono ?_
    clear x0 x1 x2 x3 x4
    rintro e w10 ⟨c, rfl, hB10, hIn10, -, hs10⟩
    have K10 := K9'h.out.next hB10
    clear hB10 K9'h C'h
    obtain ⟨g4, sb4, seed4, lp4, ln4, lc4, rows4, pp4, pn4, pc4, ps4⟩ := c
    obtain ⟨c, hsm4⟩ : ∃ s : Sm, s = ⟨g4, sb4, seed4, lp4, ln4, lc4, rows4, pp4, pn4, pc4, ps4⟩ := ⟨_, rfl⟩
    have hA4 : smA c = #[.int .i64 g4, .int .i64 sb4, .int .u64 (seed4 : Int), .slice lp4 ln4 lc4, .slice pp4 pn4 pc4] := by rw [hsm4]; rfl
    have hpn4 : c.pn = pn4 := by rw [hsm4]
    rw [← hsm4] at hIn10 hs10 ⊢
    rw [hA4]
    clear hsm4
    have K11 := K10.box hIn10 hA4
    clear K10
    obtain ⟨bc, hbc⟩ : ∃ bc, bc = w10.heap.size := ⟨_, rfl⟩
    rw [← hbc] at K11
    obtain ⟨V11, hV11⟩ : ∃ V, V = w10.alloc (.cells #[.int .i64 g4, .int .i64 sb4, .int .u64 (seed4 : Int), .slice lp4 ln4 lc4, .slice pp4 pn4 pc4] 26) := ⟨_, rfl⟩
    rw [← hV11] at K11
    obtain ⟨x0, x1, x2, x3, x4⟩ := cells5 (K11.cells (List.mem_cons_of_mem _ (List.mem_cons_of_mem _ (List.mem_cons_self ..))) hA2)
    have C := K11.keys (List.mem_cons_of_mem _ (List.mem_cons_of_mem _ (List.mem_cons_self ..))) hA2
    have hsub : ∀ x ∈ keysL a.scr.lists.flatten, ((keysL s.scr.lists.flatten).map Int.ofNat).contains (x : Int) = true := fun x hx => by
      rw [contains_nat, List.contains_iff_mem, keysL_mem]
      rw [hs5'h.out, keysL_mem] at hx
      exact keyL_sub (fun c hc => cut_mem hc) hx
    have hal : a.scr.lists.flatten.length ≤ 64 := by
      rw [hs5'h.out]
      have := cut_right hr'h.out p0 G
      unfold rightS at this
      simp only [Bool.and_eq_true, decide_eq_true_eq] at this
      exact this.2.1
    have hra : chkS a.scr = 0 := by rw [hs5'h.out]; unfold chkS; rw [cut_right hr'h.out]; rfl
    have hec : decide (c.scr = s.scr) = true := by
      rw [decide_eq_true_eq, hs10, ← hpn1, hpm'h.out]
      exact cut_all hr'h.out
    have htw : ∀ d : Sm, d.scr = cutS s.scr (min p0 p1) G → decide (b.scr = d.scr) = true := fun d hd => by
      rw [decide_eq_true_eq, hd, hs7'h.out, hs5'h.out]
      exact cut_twice s.scr p0 p1 G
    clear hIn10 hpn4 hs10 hs7'h hs5'h hr'h hpm'h hpn1
    have K11'h := Lib.hid K11
    have C'h := Lib.hid C
    have hsub'h := Lib.hid hsub
    have hra'h := Lib.hid hra
    have hec'h := Lib.hid hec
    have htw'h := Lib.hid htw
    have hal'h := Lib.hid hal
    clear K11 C hsub hra hec htw hal
    go_upto_region 10 with fail
    rw [← hbc, ← hV11]
    clear hbc hV11
    go_wp2_with fail
    refine C'h.out.mono ?_
    clear x0 x1 x2 x3 x4
    rintro e w12 ⟨kp, kn, kc, rfl, hB12, hrow12⟩
    have K12 := K11'h.out.next hB12
    have hkl : kn = (keysL a.scr.lists.flatten).length := by have := hrow12.1; rw [u64s_length] at this; omega
    have hkm : kn ≤ 64 := by rw [hkl]; exact Nat.le_trans (keysL_len _) hal'h.out
    have hSk := Sl.of_row hrow12 (by unfold maxLen; omega)
    clear hB12 K11'h C'h hrow12
    have K12'h := Lib.hid K12
    have hSk'h := Lib.hid hSk
    have hkl'h := Lib.hid hkl
    have hkm'h := Lib.hid hkm
    clear K12 hSk hkl hkm
    go_wp2
    go_loopg [44] kn (fun q ix wr => ∃ j : Nat, j + q = kn ∧ ix = .int .i64 (j : Int) ∧ Below w12.heap.size w12 wr)
    case atStart => exact ⟨0, by omega, rfl, Below.refl _ _⟩
    case round =>
      obtain ⟨j, hj, rfl, hB⟩ := hrel
      have KR := K12'h.out.next hB
      by_cases hlt : j < kn
      · have i1 : (j : Int) < (kn : Int) := by omega
        have i2 : (0 : Int) ≤ (j : Int) := by omega
        obtain ⟨b0, o0, rfl, hc⟩ := (hSk'h.out.below hB).some' (by omega)
        have hjl : j < (keysL a.scr.lists.flatten).length := by have := hkl'h.out; omega
        obtain ⟨x, hx⟩ : ∃ x, (keysL a.scr.lists.flatten)[j]? = some x := ⟨_, List.getElem?_eq_getElem hjl⟩
        have c1 : wr.cell? ⟨b0, o0 + j, none⟩ = some (.int .u64 (x : Int)) := hc j _ (by unfold u64s; rw [List.getElem?_map, hx]; rfl)
        have hin := hsub'h.out x (List.mem_of_getElem? hx)
        obtain ⟨x0, x1, x2, x3, x4⟩ := cells5 (KR.cells (List.mem_cons_of_mem _ (List.mem_cons_of_mem _ (List.mem_cons_of_mem _ (List.mem_cons_self ..)))) hA1)
        have C := KR.keys (List.mem_cons_of_mem _ (List.mem_cons_of_mem _ (List.mem_cons_of_mem _ (List.mem_cons_self ..)))) hA1
        clear hc hx KR
        have C'h := Lib.hid C
        have hin'h := Lib.hid hin
        have hj'h := Lib.hid hj
        have hB'h := Lib.hid hB
        clear C hin hj hB
        go_wp2_with fail
        refine C'h.out.mono ?_
        rintro e w13 ⟨qp, qn, qc, rfl, hB13, hrow13⟩
        have hqn := hrow13.1
        have hqm : qn ≤ 2000 := by
          rw [u64s_length] at hqn
          have h1 := keysL_len s.scr.lists.flatten
          have h2 := hsl'h.out
          omega
        have hS13 := Sl.of_row hrow13 (by unfold maxLen; omega)
        rw [u64s_ints] at hS13
        have D := contains_u64 qp qn qc _ (x : Int) w13 hS13
        rw [hin'h.out] at D
        have hB14 := below_next hB'h.out hB13
        clear hS13 hrow13 hqn hqm hin'h C'h hB13 hB'h x0 x1 x2 x3 x4 c1
        have q1 : (j : Int) + 1 ≤ 100 := by have := hkm'h.out; omega
        have D'h := Lib.hid D
        have hB14'h := Lib.hid hB14
        clear D hB14
        go_wp2_with fail
        refine D'h.out.mono ?_
        rintro e w15 ⟨rfl, hw⟩
        obtain rfl := hw.symm
        go_wp2
        go_roundg (gk - 1)
        case measure => have := hj'h.out; omega
        case rel => exact ⟨j + 1, by have := hj'h.out; omega, by go_num, hB14'h.out⟩
      · have i1 : ¬ (j : Int) < (kn : Int) := by omega
        have zs := KR.cells (List.mem_cons_of_mem _ (List.mem_cons_of_mem _ (List.mem_cons_of_mem _ (List.mem_cons_self ..)))) hA1
        have za := KR.cells (List.mem_cons_of_mem _ (List.mem_cons_of_mem _ (List.mem_cons_self ..))) hA2
        have zb := KR.cells (List.mem_cons_of_mem _ (List.mem_cons_self ..)) hA3
        have zc := KR.cells (List.mem_cons_self ..) hA4
        have zp := KR.pair
        have KN := fun V (hV : Below wr.heap.size wr V) => KR.next hV
        have low := KR.low
        clear KR
        have KN'h := Lib.hid KN
        have low'h := Lib.hid low
        have hj'h := Lib.hid hj
        have hB'h := Lib.hid hB
        clear KN low hj hB
        go_upto_region 16 with fail
        refine wp_region_heldF (fun w' => Below wr.heap.size wr w') 99 (by kernel_rfl) ?_
        have R := (Below.refl wr.heap.size wr).drew
        generalize wr.drew = V0 at R ⊢
        refine wpAnyF_take (i := 0) (v := .agg #[.int .i64 g2, .int .i64 sb2, .int .u64 (seed2 : Int), .slice lp2 ln2 lc2, .slice pp2 pn2 pc2]) rfl (by kernel_rfl) (by kernel_rfl) (by kernel_rfl) (by kernel_rfl) (fun _ _ _ h => h) (Or.inl ⟨by kernel_rfl, fun w hSw => run_load_agg (by rfl) (by rfl) (heap_below hSw za (lt_of_heap za)) Tryd.underlying26 rfl info_sm⟩) R ?_; try simp only [Act.put, List.getElem_toArray, List.getElem_cons_succ, List.getElem_cons_zero, List.setIfInBounds_toArray, List.set_cons_zero, List.set_cons_succ]
        refine wpAnyF_one (i := 1) (by kernel_rfl) rfl (fun K hK => ?_); go_simp
        refine ((KN'h.out V0 R).check (List.mem_cons_of_mem _ (List.mem_cons_of_mem _ (List.mem_cons_self ..))) hA2).mono ?_
        rintro e V1 ⟨rfl, hV1⟩
        rw [hra'h.out]
        have R1 := below_next R hV1
        clear R hV1
        dsimp only
        refine hK.out _ _ (fun _ => R1) ?_; clear hK K; try simp only [Act.put, List.getElem_toArray, List.getElem_cons_succ, List.getElem_cons_zero, List.setIfInBounds_toArray, List.set_cons_zero, List.set_cons_succ]
        refine wpAnyF_take (i := 2) (v := .bool true) rfl (by kernel_rfl) (by kernel_rfl) (by kernel_rfl) (by kernel_rfl) (fun _ _ _ h => h) (Or.inl ⟨by kernel_rfl, fun w hSw => by (try dsimp only at hSw); go_simp⟩) R1 ?_; try simp only [Act.put, List.getElem_toArray, List.getElem_cons_succ, List.getElem_cons_zero, List.setIfInBounds_toArray, List.set_cons_zero, List.set_cons_succ]
        refine wpAnyF_take (i := 3) (v := .bool true) rfl (by kernel_rfl) (by kernel_rfl) (by kernel_rfl) (by kernel_rfl) (fun _ _ _ h => h) (Or.inl ⟨by kernel_rfl, fun w hSw => by (try dsimp only at hSw); go_simp⟩) R1 ?_; try simp only [Act.put, List.getElem_toArray, List.getElem_cons_succ, List.getElem_cons_zero, List.setIfInBounds_toArray, List.set_cons_zero, List.set_cons_succ]
        refine wpAnyF_take (i := 4) (v := .agg #[.int .i64 g4, .int .i64 sb4, .int .u64 (seed4 : Int), .slice lp4 ln4 lc4, .slice pp4 pn4 pc4]) rfl (by kernel_rfl) (by kernel_rfl) (by kernel_rfl) (by kernel_rfl) (fun _ _ _ h => h) (Or.inl ⟨by kernel_rfl, fun w hSw => run_load_agg (by rfl) (by rfl) (heap_below hSw zc (lt_of_heap zc)) Tryd.underlying26 rfl info_sm⟩) R1 ?_; try simp only [Act.put, List.getElem_toArray, List.getElem_cons_succ, List.getElem_cons_zero, List.setIfInBounds_toArray, List.set_cons_zero, List.set_cons_succ]
        refine wpAnyF_take (i := 5) (v := .agg #[.int .i64 g1, .int .i64 sb1, .int .u64 (seed1 : Int), .slice lp1 ln1 lc1, .slice pp1 pn1 pc1]) rfl (by kernel_rfl) (by kernel_rfl) (by kernel_rfl) (by kernel_rfl) (fun _ _ _ h => h) (Or.inl ⟨by kernel_rfl, fun w hSw => run_load_agg (by rfl) (by rfl) (heap_below hSw zs (lt_of_heap zs)) Tryd.underlying26 rfl info_sm⟩) R1 ?_; try simp only [Act.put, List.getElem_toArray, List.getElem_cons_succ, List.getElem_cons_zero, List.setIfInBounds_toArray, List.set_cons_zero, List.set_cons_succ]
        have C := same_any c s V1 ((KN'h.out V1 R1).each _ (List.mem_cons_self ..)).2 ((KN'h.out V1 R1).each _ (List.mem_cons_of_mem _ (List.mem_cons_of_mem _ (List.mem_cons_of_mem _ (List.mem_cons_self ..))))).2
        rw [hec'h.out, hA4, hA1] at C
        refine wpAnyF_one (i := 6) (by kernel_rfl) rfl (fun K hK => ?_); go_simp
        refine C.mono ?_
        rintro e V2 ⟨rfl, hV2⟩
        have R2 := below_next R1 hV2
        clear R1 hV2 C
        dsimp only
        refine hK.out _ _ (fun _ => R2) ?_; clear hK K; try simp only [Act.put, List.getElem_toArray, List.getElem_cons_succ, List.getElem_cons_zero, List.setIfInBounds_toArray, List.set_cons_zero, List.set_cons_succ]
        refine wpAnyF_take (i := 7) (v := .bool true) rfl (by kernel_rfl) (by kernel_rfl) (by kernel_rfl) (by kernel_rfl) (fun _ _ _ h => h) (Or.inl ⟨by kernel_rfl, fun w hSw => by (try dsimp only at hSw); go_simp⟩) R2 ?_; try simp only [Act.put, List.getElem_toArray, List.getElem_cons_succ, List.getElem_cons_zero, List.setIfInBounds_toArray, List.set_cons_zero, List.set_cons_succ]
        refine wpAnyF_take (i := 8) (v := .bool true) rfl (by kernel_rfl) (by kernel_rfl) (by kernel_rfl) (by kernel_rfl) (fun _ _ _ h => h) (Or.inl ⟨by kernel_rfl, fun w hSw => by (try dsimp only at hSw); go_simp⟩) R2 ?_; try simp only [Act.put, List.getElem_toArray, List.getElem_cons_succ, List.getElem_cons_zero, List.setIfInBounds_toArray, List.set_cons_zero, List.set_cons_succ]
        refine wpAnyF_take (i := 9) (v := .agg #[.int .i64 g3, .int .i64 sb3, .int .u64 (seed3 : Int), .slice lp3 ln3 lc3, .slice pp3 pn3 pc3]) rfl (by kernel_rfl) (by kernel_rfl) (by kernel_rfl) (by kernel_rfl) (fun _ _ _ h => h) (Or.inl ⟨by kernel_rfl, fun w hSw => run_load_agg (by rfl) (by rfl) (heap_below hSw zb (lt_of_heap zb)) Tryd.underlying26 rfl info_sm⟩) R2 ?_; try simp only [Act.put, List.getElem_toArray, List.getElem_cons_succ, List.getElem_cons_zero, List.setIfInBounds_toArray, List.set_cons_zero, List.set_cons_succ]
        refine wpAnyF_take (i := 10) (v := .agg #[.int .i64 g1, .int .i64 sb1, .int .u64 (seed1 : Int), .slice lp1 ln1 lc1, .slice pp1 pn1 pc1]) rfl (by kernel_rfl) (by kernel_rfl) (by kernel_rfl) (by kernel_rfl) (fun _ _ _ h => h) (Or.inl ⟨by kernel_rfl, fun w hSw => run_load_agg (by rfl) (by rfl) (heap_below hSw zs (lt_of_heap zs)) Tryd.underlying26 rfl info_sm⟩) R2 ?_; try simp only [Act.put, List.getElem_toArray, List.getElem_cons_succ, List.getElem_cons_zero, List.setIfInBounds_toArray, List.set_cons_zero, List.set_cons_succ]
        refine wpAnyF_take (i := 11) (v := .pointer (some ⟨w.heap.size + 1, 0, none⟩)) rfl (by kernel_rfl) (by kernel_rfl) (by kernel_rfl) (by kernel_rfl) (fun _ _ _ h => h) (Or.inl ⟨by kernel_rfl, fun w hSw => by (try dsimp only at hSw); go_simp⟩) R2 ?_; try simp only [Act.put, List.getElem_toArray, List.getElem_cons_succ, List.getElem_cons_zero, List.setIfInBounds_toArray, List.set_cons_zero, List.set_cons_succ]
        refine wpAnyF_take (i := 12) (v := .int .i64 p0) rfl (by kernel_rfl) (by kernel_rfl) (by kernel_rfl) (by kernel_rfl) (fun _ _ _ h => h) (Or.inl ⟨by kernel_rfl, fun w hSw => by have hcc := blk_cell (i := 0) (heap_below hSw zp (lt_of_heap zp)) rfl; (try dsimp only at hSw); go_simp⟩) R2 ?_; try simp only [Act.put, List.getElem_toArray, List.getElem_cons_succ, List.getElem_cons_zero, List.setIfInBounds_toArray, List.set_cons_zero, List.set_cons_succ]
        refine wpAnyF_take (i := 13) (v := .pointer (some ⟨w.heap.size + 1, 1, none⟩)) rfl (by kernel_rfl) (by kernel_rfl) (by kernel_rfl) (by kernel_rfl) (fun _ _ _ h => h) (Or.inl ⟨by kernel_rfl, fun w hSw => by (try dsimp only at hSw); go_simp⟩) R2 ?_; try simp only [Act.put, List.getElem_toArray, List.getElem_cons_succ, List.getElem_cons_zero, List.setIfInBounds_toArray, List.set_cons_zero, List.set_cons_succ]
        refine wpAnyF_take (i := 14) (v := .int .i64 p1) rfl (by kernel_rfl) (by kernel_rfl) (by kernel_rfl) (by kernel_rfl) (fun _ _ _ h => h) (Or.inl ⟨by kernel_rfl, fun w hSw => by have hcc := blk_cell (i := 1) (heap_below hSw zp (lt_of_heap zp)) rfl; (try dsimp only at hSw); go_simp⟩) R2 ?_; try simp only [Act.put, List.getElem_toArray, List.getElem_cons_succ, List.getElem_cons_zero, List.setIfInBounds_toArray, List.set_cons_zero, List.set_cons_succ]
        refine wpAnyF_take (i := 15) (v := .int .i64 (min p0 p1)) rfl (by kernel_rfl) (by kernel_rfl) (by kernel_rfl) (by kernel_rfl) (fun _ _ _ h => h) (Or.inl ⟨by kernel_rfl, fun w hSw => by (try dsimp only at hSw); go_simp⟩) R2 ?_; try simp only [Act.put, List.getElem_toArray, List.getElem_cons_succ, List.getElem_cons_zero, List.setIfInBounds_toArray, List.set_cons_zero, List.set_cons_succ]
        refine wpAnyF_take (i := 16) (v := .slice gp k gc) rfl (by kernel_rfl) (by kernel_rfl) (by kernel_rfl) (by kernel_rfl) (fun _ _ _ h => h) (Or.inl ⟨by kernel_rfl, fun w hSw => by (try dsimp only at hSw); go_simp⟩) R2 ?_; try simp only [Act.put, List.getElem_toArray, List.getElem_cons_succ, List.getElem_cons_zero, List.setIfInBounds_toArray, List.set_cons_zero, List.set_cons_succ]
        refine wpAnyF_one (i := 17) (by kernel_rfl) rfl (fun K hK => ?_); go_simp
        refine ((KN'h.out V2 R2).cut (List.mem_cons_of_mem _ (List.mem_cons_of_mem _ (List.mem_cons_of_mem _ (List.mem_cons_self ..)))) hA1 (min p0 p1) gc).mono ?_
        rintro e V3 ⟨d, rfl, hV3, hIn3, -, hsd⟩
        have R3 := below_next R2 hV3
        clear R2 hV3
        dsimp only
        have htd := htw'h.out d hsd
        clear hsd
        obtain ⟨g5, sb5, seed5, lp5, ln5, lc5, rows5, pp5, pn5, pc5, ps5⟩ := d
        obtain ⟨d, hsm5⟩ : ∃ s : Sm, s = ⟨g5, sb5, seed5, lp5, ln5, lc5, rows5, pp5, pn5, pc5, ps5⟩ := ⟨_, rfl⟩
        have hA5 : smA d = #[.int .i64 g5, .int .i64 sb5, .int .u64 (seed5 : Int), .slice lp5 ln5 lc5, .slice pp5 pn5 pc5] := by rw [hsm5]; rfl
        have hpn5 : d.pn = pn5 := by rw [hsm5]
        rw [← hsm5] at hIn3 htd ⊢
        rw [hA5]
        clear hsm5
        refine hK.out _ _ (fun _ => R3) ?_; clear hK K; try simp only [Act.put, List.getElem_toArray, List.getElem_cons_succ, List.getElem_cons_zero, List.setIfInBounds_toArray, List.set_cons_zero, List.set_cons_succ]
        have C := same_any b d V3 ((KN'h.out V3 R3).each _ (List.mem_cons_of_mem _ (List.mem_cons_self ..))).2 hIn3
        rw [htd, hA3, hA5] at C
        refine wpAnyF_one (i := 18) (by kernel_rfl) rfl (fun K hK => ?_); go_simp
        refine C.mono ?_
        rintro e V4 ⟨rfl, hV4⟩
        have R4 := below_next R3 hV4
        clear R3 hV4 C hIn3 htd
        dsimp only
        refine hK.out _ _ (fun _ => R4) ?_; clear hK K; try simp only [Act.put, List.getElem_toArray, List.getElem_cons_succ, List.getElem_cons_zero, List.setIfInBounds_toArray, List.set_cons_zero, List.set_cons_succ]
        refine wpAnyF_take (i := 19) (v := .bool true) rfl (by kernel_rfl) (by kernel_rfl) (by kernel_rfl) (by kernel_rfl) (fun _ _ _ h => h) (Or.inl ⟨by kernel_rfl, fun w hSw => by (try dsimp only at hSw); go_simp⟩) R4 ?_; try simp only [Act.put, List.getElem_toArray, List.getElem_cons_succ, List.getElem_cons_zero, List.setIfInBounds_toArray, List.set_cons_zero, List.set_cons_succ]
        refine wpAnyF_take (i := 20) (v := .bool true) rfl (by kernel_rfl) (by kernel_rfl) (by kernel_rfl) (by kernel_rfl) (fun _ _ _ h => h) (Or.inl ⟨by kernel_rfl, fun w hSw => by (try dsimp only at hSw); go_simp⟩) R4 ?_; try simp only [Act.put, List.getElem_toArray, List.getElem_cons_succ, List.getElem_cons_zero, List.setIfInBounds_toArray, List.set_cons_zero, List.set_cons_succ]
        refine wpAnyF_take (i := 21) (v := .agg #[.int .i64 g1, .int .i64 sb1, .int .u64 (seed1 : Int), .slice lp1 ln1 lc1, .slice pp1 pn1 pc1]) rfl (by kernel_rfl) (by kernel_rfl) (by kernel_rfl) (by kernel_rfl) (fun _ _ _ h => h) (Or.inl ⟨by kernel_rfl, fun w hSw => run_load_agg (by rfl) (by rfl) (heap_below hSw zs (lt_of_heap zs)) Tryd.underlying26 rfl info_sm⟩) R4 ?_; try simp only [Act.put, List.getElem_toArray, List.getElem_cons_succ, List.getElem_cons_zero, List.setIfInBounds_toArray, List.set_cons_zero, List.set_cons_succ]
        refine wpAnyF_one (i := 22) (by kernel_rfl) rfl (fun K hK => ?_); go_simp
        refine ((KN'h.out V4 R4).keys (List.mem_cons_of_mem _ (List.mem_cons_of_mem _ (List.mem_cons_of_mem _ (List.mem_cons_self ..)))) hA1).mono ?_
        rintro e V5 ⟨qp, qn, qc, rfl, hV5, hrow5⟩
        have R5 := below_next R4 hV5
        have hqn := hrow5.1
        rw [u64s_length] at hqn
        have hS5 := Sl.of_row hrow5 (by have h1 := keysL_len s.scr.lists.flatten; have h2 := hsl'h.out; unfold maxLen; omega)
        clear R4 hV5 hrow5
        dsimp only
        refine hK.out _ _ (fun _ => R5) ?_; clear hK K; try simp only [Act.put, List.getElem_toArray, List.getElem_cons_succ, List.getElem_cons_zero, List.setIfInBounds_toArray, List.set_cons_zero, List.set_cons_succ]
        have C := sorted_any qp qn qc _ V5 hS5 (sorted64_le _)
        refine wpAnyF_one (i := 23) (by kernel_rfl) rfl (fun K hK => ?_); go_simp
        refine C.mono ?_
        rintro e V6 ⟨rfl, hV6⟩
        have R6 := below_next R5 hV6
        clear R5 hV6 C hS5
        dsimp only
        refine hK.out _ _ (fun _ => R6) ?_; clear hK K; try simp only [Act.put, List.getElem_toArray, List.getElem_cons_succ, List.getElem_cons_zero, List.setIfInBounds_toArray, List.set_cons_zero, List.set_cons_succ]
        refine wpAnyF_take (i := 24) (v := .bool true) rfl (by kernel_rfl) (by kernel_rfl) (by kernel_rfl) (by kernel_rfl) (fun _ _ _ h => h) (Or.inl ⟨by kernel_rfl, fun w hSw => by (try dsimp only at hSw); go_simp⟩) R6 ?_; try simp only [Act.put, List.getElem_toArray, List.getElem_cons_succ, List.getElem_cons_zero, List.setIfInBounds_toArray, List.set_cons_zero, List.set_cons_succ]
        refine wpAnyF_take (i := 25) (v := .bool true) rfl (by kernel_rfl) (by kernel_rfl) (by kernel_rfl) (by kernel_rfl) (fun _ _ _ h => h) (Or.inl ⟨by kernel_rfl, fun w hSw => by (try dsimp only at hSw); go_simp⟩) R6 ?_; try simp only [Act.put, List.getElem_toArray, List.getElem_cons_succ, List.getElem_cons_zero, List.setIfInBounds_toArray, List.set_cons_zero, List.set_cons_succ]
        refine wpAnyF_done (by kernel_rfl) ?_ _
        have hlow := below_next low'h.out R6
        clear R6 zs za zb zc zp
        have hlow'h := Lib.hid hlow
        clear hlow
        go_wp2
        go_ret
        exact ⟨rfl, hlow'h.out⟩
theorem walk_ScriptKeeps (xs : Sm) (p0 p1 : Int) (gp : Option Addr) (gn gc : Nat) (gs : List Int) (w : World) (hT : Tks w) (h : SmArg w xs) (w0 : (Lit.int .i64 p0).wf = true) (w1 : (Lit.int .i64 p1).wf = true) (hnil : gp = none → gc = 0) (hle : gn ≤ gc) (hg : Sl w gp gn (gs.map (Value.int .i64))) (hz : ∀ z ∈ gs, (Lit.int .i64 z).wf = true) :
    Calls Tryd.prog 8 #[.agg (smA xs), .agg #[.int .i64 p0, .int .i64 p1], .slice gp gn gc] w fun e w' => e = .returned (.bool true) ∧ Below w.heap.size w w' :=
  keeps_true xs p0 p1 gp gn gc gs w hT h hg hle
end Go.Proofs.YtifofdciablljaaDoor

