/-
  Layer 3 (script), plain: what is read is what was written, and the bytes that were read are those of what was read.
-/
import Derived.Test.YtifofdciablljaaDoorLawNums
set_option linter.unusedSimpArgs false
set_option linter.unusedVariables false
set_option maxRecDepth 100000
namespace Go.Proofs.YtifofdciablljaaDoor
open Go.RowKit

/-! ### The bytes that were read -/
theorem rdN_inv : ∀ (l : List Nat) (i acc n : Nat) (r : List Nat), (∀ b ∈ l, b < 256) → rdN i acc l = some (n, r) → ∃ k, n = acc + k * 128 ^ i ∧ (i = 0 ∨ 0 < k) ∧ l = numB k ++ r
  | [], _, _, _, _, _, h => by cases h
  | b :: l, i, acc, n, r, hb, h => by
    rw [rdN_cons] at h
    split at h
    · cases h
    · split at h
      · rename_i hs
        split at h
        · rename_i h0
          injection h with h
          injection h with h1 h2
          exact ⟨b, by rw [← h1, Nat.mod_eq_of_lt hs], h0.symm, by rw [numB_small hs, ← h2]; rfl⟩
        · cases h
      · rename_i hg
        obtain ⟨k, hn, hk, hl⟩ := rdN_inv l _ _ _ _ (fun x hx => hb x (List.mem_cons_of_mem _ hx)) h
        have hb256 := hb b (List.mem_cons_self ..)
        have hk0 : 0 < k := by rcases hk with hk | hk; omega; exact hk
        refine ⟨b % 128 + 128 * k, ?_, .inr (by omega), ?_⟩
        · rw [hn, Nat.pow_succ, Nat.add_mul, Nat.add_assoc, Nat.mul_comm 128 k, Nat.mul_assoc k 128, Nat.mul_comm 128 (128 ^ i)]
        · rw [numB_great (by omega), show (b % 128 + 128 * k) % 128 + 128 = b by omega, show (b % 128 + 128 * k) / 128 = k by omega, hl]
          rfl
theorem readN_inv {l : List Nat} {n : Nat} {r : List Nat} (hb : ∀ b ∈ l, b < 256) (h : readN l = some (n, r)) : l = numB n ++ r := by
  obtain ⟨k, hn, -, hl⟩ := rdN_inv l 0 0 n r hb h
  have : n = k := by simpa using hn
  rw [this]; exact hl
theorem right_bytes {l r : List Nat} {n : Nat} (hb : ∀ b ∈ l, b < 256) (h : l = numB n ++ r) : ∀ b ∈ r, b < 256 := fun b hr => hb b (by rw [h]; exact List.mem_append_right _ hr)
theorem readW_inv : ∀ (k : Nat) (l ws r : List Nat), (∀ b ∈ l, b < 256) → readW k l = some (ws, r) → ws.length = k ∧ l = ws.flatMap numB ++ r ∧ (∀ b ∈ r, b < 256)
  | 0, l, ws, r, hb, h => by simp [readW] at h; obtain ⟨rfl, rfl⟩ := h; exact ⟨rfl, rfl, hb⟩
  | k + 1, l, ws, r, hb, h => by
    rw [readW] at h
    cases hn : readN l with
    | none => rw [hn] at h; cases h
    | some x =>
      obtain ⟨n, l'⟩ := x
      rw [hn] at h
      simp only at h
      have hl := readN_inv hb hn
      have hb' := right_bytes hb hl
      cases hw : readW k l' with
      | none => rw [hw] at h; cases h
      | some y =>
        obtain ⟨ns, l''⟩ := y
        rw [hw] at h
        injection h with h
        injection h with h1 h2
        obtain ⟨i1, i2, i3⟩ := readW_inv k l' ns l'' hb' hw
        subst h1 h2
        exact ⟨by simp [i1], by rw [hl, i2, List.flatMap_cons, List.append_assoc], i3⟩
theorem takes_three (o : Int) : (takesI o).toNat ≤ 3 := by have := takesI_range o; omega
theorem words_of {o : Nat} {ws : List Nat} (h : ws.length ≤ 3) : (wordsC (calOf o ws)).take ws.length = ws := by
  unfold wordsC calOf
  match ws, h with
  | [], _ => rfl
  | [_], _ => rfl
  | [_, _], _ => rfl
  | [_, _, _], _ => rfl
  | _ :: _ :: _ :: _ :: _, h => simp at h
theorem callR_inv {l : List Nat} {c : Cal} {r : List Nat} (hb : ∀ b ∈ l, b < 256) (h : callR l = some (c, r)) : l = (encC c).flatMap numB ++ r ∧ (∀ b ∈ r, b < 256) := by
  unfold callR at h
  cases hm : mostR 7 l with
  | none => rw [hm] at h; cases h
  | some x =>
    obtain ⟨o, l1⟩ := x
    rw [hm] at h
    simp only at h
    have hl := readN_inv hb (mostR_le hm).2
    have hb' := right_bytes hb hl
    split at h
    · cases h
    · cases hw : readW (takesI (o : Int)).toNat l1 with
      | none => rw [hw] at h; cases h
      | some y =>
        obtain ⟨ws, l2⟩ := y
        rw [hw] at h
        injection h with h
        injection h with h1 h2
        obtain ⟨i1, i2, i3⟩ := readW_inv _ _ _ _ hb' hw
        subst h1 h2
        refine ⟨?_, i3⟩
        have e : encC (calOf o ws) = o :: ws := by
          unfold encC
          show (o : Int).toNat :: (wordsC (calOf o ws)).take (takesI (o : Int)).toNat = _
          rw [← i1, words_of (by rw [i1]; exact takes_three _)]
          rfl
        rw [e, List.flatMap_cons, hl, i2, List.append_assoc]
theorem listR_inv : ∀ (k : Nat) (l : List Nat) (cs : List Cal) (r : List Nat), (∀ b ∈ l, b < 256) → listR k l = some (cs, r) → cs.length = k ∧ l = (cs.flatMap encC).flatMap numB ++ r ∧ (∀ b ∈ r, b < 256)
  | 0, l, cs, r, hb, h => by simp [listR] at h; obtain ⟨rfl, rfl⟩ := h; exact ⟨rfl, rfl, hb⟩
  | k + 1, l, cs, r, hb, h => by
    rw [listR] at h
    cases hn : callR l with
    | none => rw [hn] at h; cases h
    | some x =>
      obtain ⟨c, l'⟩ := x
      rw [hn] at h
      simp only at h
      obtain ⟨hl, hb'⟩ := callR_inv hb hn
      cases hw : listR k l' with
      | none => rw [hw] at h; cases h
      | some y =>
        obtain ⟨ns, l''⟩ := y
        rw [hw] at h
        injection h with h
        injection h with h1 h2
        obtain ⟨i1, i2, i3⟩ := listR_inv k l' ns l'' hb' hw
        subst h1 h2
        exact ⟨by simp [i1], by rw [hl, i2, List.flatMap_cons, List.flatMap_append, List.append_assoc], i3⟩
theorem listsR_inv : ∀ (g left : Nat) (l : List Nat) (ls : List (List Cal)) (r : List Nat), (∀ b ∈ l, b < 256) → listsR g left l = some (ls, r) → l = (ls.flatMap encL).flatMap numB ++ r ∧ (∀ b ∈ r, b < 256)
  | 0, _, l, ls, r, hb, h => by simp [listsR] at h; obtain ⟨rfl, rfl⟩ := h; exact ⟨rfl, hb⟩
  | g + 1, left, l, ls, r, hb, h => by
    rw [listsR] at h
    cases hm : mostR left l with
    | none => rw [hm] at h; cases h
    | some x =>
      obtain ⟨n, l1⟩ := x
      rw [hm] at h
      simp only at h
      have hl := readN_inv hb (mostR_le hm).2
      have hb1 := right_bytes hb hl
      cases hw : listR n l1 with
      | none => rw [hw] at h; cases h
      | some y =>
        obtain ⟨cs, l2⟩ := y
        rw [hw] at h
        simp only at h
        obtain ⟨i1, i2, i3⟩ := listR_inv _ _ _ _ hb1 hw
        cases hz : listsR g (left - n) l2 with
        | none => rw [hz] at h; cases h
        | some z =>
          obtain ⟨ls', l3⟩ := z
          rw [hz] at h
          injection h with h
          injection h with h1 h2
          obtain ⟨j1, j2⟩ := listsR_inv g _ _ _ _ i3 hz
          subst h1 h2
          refine ⟨?_, j2⟩
          rw [List.flatMap_cons, List.flatMap_append]
          unfold encL
          rw [List.flatMap_cons, i1, hl, i2, j1]
          simp only [List.append_assoc]
          rfl
theorem scriptR_inv {l : List Nat} {s : Scr} {r : List Nat} (hb : ∀ b ∈ l, b < 256) (h : scriptR l = some (s, r)) : rightS s = true ∧ l = bytesS s ++ r := by
  unfold scriptR at h
  cases hm1 : mostR 8 l with
  | none => rw [hm1] at h; cases h
  | some x1 =>
    obtain ⟨g, l1⟩ := x1
    rw [hm1] at h
    simp only at h
    have e1 := readN_inv hb (mostR_le hm1).2
    have b1 := right_bytes hb e1
    cases hm2 : mostR 128 l1 with
    | none => rw [hm2] at h; cases h
    | some x2 =>
      obtain ⟨sb, l2⟩ := x2
      rw [hm2] at h
      simp only at h
      have e2 := readN_inv b1 (mostR_le hm2).2
      have b2 := right_bytes b1 e2
      cases hm3 : readN l2 with
      | none => rw [hm3] at h; cases h
      | some x3 =>
        obtain ⟨seed, l3⟩ := x3
        rw [hm3] at h
        simp only at h
        have e3 := readN_inv b2 hm3
        have b3 := right_bytes b2 e3
        unfold restR at h
        cases hm4 : listsR g 64 l3 with
        | none => rw [hm4] at h; cases h
        | some x4 =>
          obtain ⟨ls, l4⟩ := x4
          rw [hm4] at h
          simp only at h
          obtain ⟨e4, b4⟩ := listsR_inv _ _ _ _ _ b3 hm4
          unfold endR at h
          cases hm5 : mostR 4096 l4 with
          | none => rw [hm5] at h; cases h
          | some x5 =>
            obtain ⟨n, l5⟩ := x5
            rw [hm5] at h
            simp only at h
            have e5 := readN_inv b4 (mostR_le hm5).2
            have b5 := right_bytes b4 e5
            cases hm6 : readW n l5 with
            | none => rw [hm6] at h; cases h
            | some x6 =>
              obtain ⟨ps, l6⟩ := x6
              rw [hm6] at h
              simp only [List.nil_append] at h
              obtain ⟨k1, e6, b6⟩ := readW_inv _ _ _ _ b5 hm6
              split at h
              · rename_i hr
                injection h with h
                injection h with h1 h2
                subst h1 h2
                refine ⟨hr, ?_⟩
                unfold bytesS encS
                simp only [Int.toNat_natCast, List.flatMap_cons, List.flatMap_append, List.append_assoc]
                rw [e1, e2, e3, e4, e5, e6, k1]
              · cases h

theorem listR_ok : ∀ (k : Nat) (l : List Nat) (cs : List Cal) (r : List Nat), (∀ b ∈ l, b < 256) → listR k l = some (cs, r) → ∀ c ∈ cs, CalOk c
  | 0, l, cs, r, hb, h => by simp [listR] at h; obtain ⟨rfl, rfl⟩ := h; intro c hc; cases hc
  | k + 1, l, cs, r, hb, h => by
    rw [listR] at h
    cases hn : callR l with
    | none => rw [hn] at h; cases h
    | some x =>
      obtain ⟨c, l'⟩ := x
      rw [hn] at h
      simp only at h
      obtain ⟨hl, hb'⟩ := callR_inv hb hn
      cases hw : listR k l' with
      | none => rw [hw] at h; cases h
      | some y =>
        obtain ⟨ns, l''⟩ := y
        rw [hw] at h
        injection h with h
        injection h with h1 h2
        subst h1
        intro d hd
        rcases List.mem_cons.1 hd with rfl | hd
        · exact callR_ok hb hn
        · exact listR_ok k l' ns l'' hb' hw d hd
theorem listsR_ok : ∀ (g left : Nat) (l : List Nat) (ls : List (List Cal)) (r : List Nat), (∀ b ∈ l, b < 256) → listsR g left l = some (ls, r) → ∀ l ∈ ls, ∀ c ∈ l, CalOk c
  | 0, _, l, ls, r, hb, h => by simp [listsR] at h; obtain ⟨rfl, rfl⟩ := h; intro c hc; cases hc
  | g + 1, left, l, ls, r, hb, h => by
    rw [listsR] at h
    cases hm : mostR left l with
    | none => rw [hm] at h; cases h
    | some x =>
      obtain ⟨n, l1⟩ := x
      rw [hm] at h
      simp only at h
      have hb1 := right_bytes hb (readN_inv hb (mostR_le hm).2)
      cases hw : listR n l1 with
      | none => rw [hw] at h; cases h
      | some y =>
        obtain ⟨cs, l2⟩ := y
        rw [hw] at h
        simp only at h
        have i3 := (listR_inv _ _ _ _ hb1 hw).2.2
        cases hz : listsR g (left - n) l2 with
        | none => rw [hz] at h; cases h
        | some z =>
          obtain ⟨ls', l3⟩ := z
          rw [hz] at h
          injection h with h
          injection h with h1 h2
          subst h1
          intro x hx
          rcases List.mem_cons.1 hx with rfl | hx
          · exact listR_ok _ _ _ _ hb1 hw
          · exact listsR_ok g _ _ _ _ i3 hz x hx
theorem scriptR_ok {l : List Nat} {s : Scr} {r : List Nat} (hb : ∀ b ∈ l, b < 256) (h : scriptR l = some (s, r)) : (∀ l ∈ s.lists, ∀ c ∈ l, CalOk c) ∧ s.seed < 2 ^ 64 ∧ W64 s.picks := by
  unfold scriptR at h
  cases hm1 : mostR 8 l with
  | none => rw [hm1] at h; cases h
  | some x1 =>
    obtain ⟨g, l1⟩ := x1
    rw [hm1] at h
    simp only at h
    have b1 := right_bytes hb (readN_inv hb (mostR_le hm1).2)
    cases hm2 : mostR 128 l1 with
    | none => rw [hm2] at h; cases h
    | some x2 =>
      obtain ⟨sb, l2⟩ := x2
      rw [hm2] at h
      simp only at h
      have b2 := right_bytes b1 (readN_inv b1 (mostR_le hm2).2)
      cases hm3 : readN l2 with
      | none => rw [hm3] at h; cases h
      | some x3 =>
        obtain ⟨seed, l3⟩ := x3
        rw [hm3] at h
        simp only at h
        have b3 := right_bytes b2 (readN_inv b2 hm3)
        have hs := readN_lt b2 hm3
        unfold restR at h
        cases hm4 : listsR g 64 l3 with
        | none => rw [hm4] at h; cases h
        | some x4 =>
          obtain ⟨ls, l4⟩ := x4
          rw [hm4] at h
          simp only at h
          have hok := listsR_ok _ _ _ _ _ b3 hm4
          obtain ⟨e4, b4⟩ := listsR_inv _ _ _ _ _ b3 hm4
          unfold endR at h
          cases hm5 : mostR 4096 l4 with
          | none => rw [hm5] at h; cases h
          | some x5 =>
            obtain ⟨n, l5⟩ := x5
            rw [hm5] at h
            simp only at h
            have b5 := right_bytes b4 (readN_inv b4 (mostR_le hm5).2)
            cases hm6 : readW n l5 with
            | none => rw [hm6] at h; cases h
            | some x6 =>
              obtain ⟨ps, l6⟩ := x6
              rw [hm6] at h
              simp only [List.nil_append] at h
              have hp := (readW_some _ _ _ _ b5 hm6).2.1
              split at h
              · injection h with h
                injection h with h1 h2
                subst h1
                exact ⟨hok, hs, hp⟩
              · cases h

/-! ### What was written -/
theorem mostR_num {n limit : Nat} (h : n < 2 ^ 64) (hl : n ≤ limit) (r : List Nat) : mostR limit (numB n ++ r) = some (n, r) := by
  unfold mostR; rw [readN_num h]; simp only; rw [if_pos hl]
theorem readW_num : ∀ (ws r : List Nat), W64 ws → readW ws.length (ws.flatMap numB ++ r) = some (ws, r)
  | [], r, _ => rfl
  | n :: ws, r, h => by
    rw [List.length_cons, readW, List.flatMap_cons, List.append_assoc, readN_num (h n (List.mem_cons_self ..))]
    simp only
    rw [readW_num ws r fun x hx => h x (List.mem_cons_of_mem _ hx)]
theorem calOf_words {c : Cal} (h : rightC c = true) : calOf c.op.toNat ((wordsC c).take (takesI c.op).toNat) = c := by
  unfold rightC at h
  simp only [Bool.and_eq_true, decide_eq_true_eq] at h
  obtain ⟨h0, h1⟩ := h
  obtain ⟨o1, o7⟩ := takesI_some h0
  have h3 := takes_three c.op
  obtain ⟨op, key, a, b⟩ := c
  simp only at *
  have ho : ((op.toNat : Nat) : Int) = op := by omega
  generalize (takesI op).toNat = t at *
  unfold calOf wordsC
  simp only [ho]
  unfold wordsC at h1
  match t, h3 with
  | 0, _ => simp at h1; simp [h1]
  | 1, _ => simp at h1; simp [h1]
  | 2, _ => simp at h1; simp [h1]
  | 3, _ => simp
theorem callR_num {c : Cal} (h : rightC c = true) (ho : CalOk c) (r : List Nat) : callR ((encC c).flatMap numB ++ r) = some (c, r) := by
  have hc := calOf_words h
  unfold rightC at h
  simp only [Bool.and_eq_true, decide_eq_true_eq] at h
  obtain ⟨o1, o7⟩ := takesI_some h.1
  have e : ((c.op.toNat : Nat) : Int) = c.op := by omega
  unfold callR encC
  rw [List.flatMap_cons, List.append_assoc, mostR_num (by omega) (by omega)]
  simp only
  rw [if_neg (by omega), e]
  have hw : W64 ((wordsC c).take (takesI c.op).toNat) := fun x hx => by
    have := List.mem_of_mem_take hx
    unfold wordsC at this
    simp only [List.mem_cons, List.mem_nil_iff, or_false] at this
    rcases this with rfl | rfl | rfl
    · exact ho.key
    · exact ho.a
    · exact ho.b
  have hl : ((wordsC c).take (takesI c.op).toNat).length = (takesI c.op).toNat := by
    rw [List.length_take]; have := takes_three c.op; unfold wordsC; simp; omega
  have := readW_num _ r hw
  rw [hl] at this
  rw [this]
  simp only
  rw [hc]
theorem listR_num : ∀ (cs : List Cal) (r : List Nat), (∀ c ∈ cs, rightC c = true ∧ CalOk c) → listR cs.length ((cs.flatMap encC).flatMap numB ++ r) = some (cs, r)
  | [], r, _ => rfl
  | c :: cs, r, h => by
    have hc := h c (List.mem_cons_self ..)
    rw [List.length_cons, listR, List.flatMap_cons, List.flatMap_append, List.append_assoc, callR_num hc.1 hc.2]
    simp only
    rw [listR_num cs r fun x hx => h x (List.mem_cons_of_mem _ hx)]
theorem listsR_num : ∀ (ls : List (List Cal)) (left : Nat) (r : List Nat), (∀ l ∈ ls, ∀ c ∈ l, rightC c = true ∧ CalOk c) → ls.flatten.length ≤ left → left ≤ 64 → listsR ls.length left ((ls.flatMap encL).flatMap numB ++ r) = some (ls, r)
  | [], left, r, _, _, _ => rfl
  | l :: ls, left, r, h, hl, h64 => by
    rw [List.flatten_cons, List.length_append] at hl
    rw [List.length_cons, listsR, List.flatMap_cons, List.flatMap_append]
    unfold encL
    rw [List.flatMap_cons, List.append_assoc, List.append_assoc, mostR_num (by omega) (by omega)]
    simp only
    rw [listR_num l _ (h l (List.mem_cons_self ..))]
    simp only
    have := listsR_num ls (left - l.length) r (fun x hx => h x (List.mem_cons_of_mem _ hx)) (by omega) (by omega)
    unfold encL at this
    rw [this]
theorem scriptR_num {s : Scr} (hr : rightS s = true) (hok : ∀ l ∈ s.lists, ∀ c ∈ l, CalOk c) (hseed : s.seed < 2 ^ 64) (hp : W64 s.picks) (r : List Nat) : scriptR (bytesS s ++ r) = some (s, r) := by
  have hr0 := hr
  unfold rightS at hr
  unfold headS sizesS at hr
  simp only [Bool.and_eq_true, decide_eq_true_eq, List.all_eq_true] at hr
  obtain ⟨⟨⟨⟨⟨⟨g1, g8⟩, s2⟩, s128⟩, hlen⟩, hpl⟩, h64, hall⟩ := hr
  have eg : ((s.goers.toNat : Nat) : Int) = s.goers := by omega
  have es : ((s.slabs.toNat : Nat) : Int) = s.slabs := by omega
  have hL := listsR_num s.lists 64 ((s.picks.length :: s.picks).flatMap numB ++ r) (fun l hl c hc => ⟨hall c (List.mem_flatten.2 ⟨l, hl, hc⟩), hok l hl c hc⟩) h64 (Nat.le_refl _)
  rw [show s.lists.length = s.goers.toNat by omega] at hL
  unfold scriptR bytesS encS
  simp only [List.flatMap_cons, List.flatMap_append, List.append_assoc] at hL ⊢
  rw [mostR_num (by omega) (by omega)]
  simp only
  rw [mostR_num (by omega) (by omega)]
  simp only
  rw [readN_num hseed]
  simp only
  unfold restR
  rw [hL]
  simp only
  unfold endR
  rw [mostR_num (by omega) hpl]
  simp only
  rw [readW_num _ r hp]
  simp only [List.nil_append]
  rw [eg, es, if_pos hr0]
theorem bytesS_ne (s : Scr) : 1 ≤ (bytesS s).length := by
  unfold bytesS encS
  rw [List.flatMap_cons, List.length_append]
  have := numB_pos s.goers.toNat
  omega
/-- Fewer bytes by one are no script's. -/
theorem scriptR_less {s : Scr} (hr : rightS s = true) (hok : ∀ l ∈ s.lists, ∀ c ∈ l, CalOk c) (hseed : s.seed < 2 ^ 64) (hp : W64 s.picks) (hb : ∀ b ∈ bytesS s, b < 256) : scriptR ((bytesS s).take ((bytesS s).length - 1)) = none := by
  cases hx : scriptR ((bytesS s).take ((bytesS s).length - 1)) with
  | none => rfl
  | some x =>
    obtain ⟨s', r'⟩ := x
    exfalso
    obtain ⟨h1, h2⟩ := scriptR_inv (fun b hbm => hb b (List.mem_of_mem_take hbm)) hx
    have hne := bytesS_ne s
    have h3 := scriptR_num hr hok hseed hp []
    rw [List.append_nil] at h3
    obtain ⟨q1, q2⟩ := scriptR_inv hb h3
    have hsplit : bytesS s = bytesS s' ++ (r' ++ (bytesS s).drop ((bytesS s).length - 1)) := by
      rw [← List.append_assoc, ← h2, List.take_append_drop]
    obtain ⟨k1, k2, k3⟩ := scriptR_ok (fun b hbm => hb b (List.mem_of_mem_take hbm)) hx
    have h4 := scriptR_num h1 k1 k2 k3 (r' ++ (bytesS s).drop ((bytesS s).length - 1))
    rw [← hsplit, h3] at h4
    injection h4 with h4
    injection h4 with _ h4
    have h5 := congrArg List.length h4
    rw [List.length_append, List.length_drop] at h5
    simp only [List.length_nil] at h5
    omega
end Go.Proofs.YtifofdciablljaaDoor
