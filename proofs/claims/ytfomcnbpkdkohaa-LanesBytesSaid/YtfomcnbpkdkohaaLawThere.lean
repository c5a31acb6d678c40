/-
  The walk of LanesThere: it answers true.
-/
import Derived.Test.YtfomcnbpkdkohaaLanesW
set_option linter.unusedSimpArgs false
set_option linter.unusedVariables false
namespace Go.Proofs.Ytfomcnbpkdkohaa
open Go.RowKit

theorem byteAt_setLane (x n b i : Nat) (hn : n < 8) (hb : b < 256) (hi : i < 8) : byteAt (setLane x n b) i = if i = n then b else byteAt x i := by
  unfold setLane
  have hy : Bytey ((bytes8 x).set n b) := by
    intro c hc
    rcases List.mem_or_eq_of_mem_set hc with h | h
    · exact bytes8_bytey _ _ h
    · omega
  rw [byteAt_word hy, List.getD_eq_getElem?_getD, List.getElem?_set, length_bytes8]
  by_cases h : n = i
  · subst h; simp [hn]
  · rw [if_neg h, if_neg (Ne.symm h), ← List.getD_eq_getElem?_getD, bytes8_getD _ _ hi]
theorem setLane_self (x n b : Nat) (hx : x < 2 ^ 64) (hn : n < 8) (hb : b < 256) (h : byteAt x n = b) : setLane x n b = x := by
  refine word_ext (setLane_lt _ _ _ hb) hx fun i hi => ?_
  rw [byteAt_setLane x n b i hn hb hi]
  split
  · subst i; exact h.symm
  · rfl
theorem alike_self (x : Nat) : alikeM x x = 255 := by
  unfold alikeM alikeL
  simp only [beq_self_eq_true]
  decide +kernel
theorem mask_but : ∀ n : Fin 8, maskOf ((List.range 8).map fun i => !(i == n.val)) = 255 - 2 ^ n.val := by decide +kernel
theorem alike_set (x n b : Nat) (hn : n < 8) (hb : b < 256) (h : byteAt x n ≠ b) : alikeM (setLane x n b) x = 255 - 2 ^ n := by
  rw [← mask_but ⟨n, hn⟩]
  unfold alikeM alikeL
  congr 1
  apply List.map_congr_left
  intro i hi
  rw [byteAt_setLane x n b i hn hb (List.mem_range.1 hi)]
  by_cases e : i = n
  · subst e
    rw [if_pos rfl]
    simp [Ne.symm h]
  · rw [if_neg e]; simp [e]
theorem testBit_maskOf : ∀ (l : List Bool) (n : Nat), (maskOf l).testBit n = l.getD n false
  | [], n => by simp [maskOf]
  | c :: r, 0 => by simp only [maskOf]; cases c <;> simp [Nat.testBit_zero] <;> omega
  | c :: r, n + 1 => by
    have := testBit_maskOf r n
    rw [Nat.testBit_succ, maskOf, show ((if c = true then 1 else 0) + 2 * maskOf r) / 2 = maskOf r by split <;> omega, this]
    simp
theorem maskOf_lt : ∀ (l : List Bool), l.length ≤ 8 → maskOf l < 256 := by
  intro l hl
  have key : ∀ l : List Bool, maskOf l < 2 ^ l.length := by
    intro l
    induction l with
    | nil => simp [maskOf]
    | cons c r ih => simp only [maskOf, List.length_cons, Nat.pow_succ]; split <;> omega
  exact Nat.lt_of_lt_of_le (key l) (Nat.le_trans (Nat.pow_le_pow_right (by decide) hl) (by decide))
theorem equal_set (x n b : Nat) (hn : n < 8) (hb : b < 256) : equalM (setLane x n b) b &&& 2 ^ n ≠ 0 := by
  have h : (equalM (setLane x n b) b).testBit n = true := by
    unfold equalM
    rw [testBit_maskOf, List.getD_eq_getElem?_getD, List.getElem?_map, List.getElem?_range hn]
    simp [byteAt_setLane x n b n hn hb hn]
  intro h0
  have := Nat.testBit_and (equalM (setLane x n b) b) (2 ^ n) n
  rw [h0, h, Nat.testBit_two_pow_self] at this
  simp at this
theorem ofW_bytes8 (x : Nat) (hx : x < 2 ^ 64) : ofW (bytes8 x) = x := by
  unfold ofW
  rw [List.take_of_length_le (by rw [length_bytes8]; exact Nat.le_refl _), word_bytes8 hx]
theorem u8s_bytes8 (x : Nat) : (bytesA x).toList = u8s (bytes8 x) := rfl

theorem get_in (x n : Nat) (w : World) (hn : n < 8) : Calls Try.prog 13 #[.int .u64 x, .int .i64 n] w fun e w' => e = .returned (.tuple #[.int .u8 (byteAt x n), .int .i64 0]) ∧ w' = w := by
  refine (get_any x n w).mono fun e w' ⟨he, hw⟩ => ⟨?_, hw⟩
  rw [he, if_pos (by omega), Int.toNat_natCast]

set_option maxHeartbeats 1000000 in
theorem there_yes (x b n : Nat) (w : World) (hx : x < 2 ^ 64) (hb : b < 256) (hn : n < 8) :
    Calls Try.prog 3 #[.int .u64 x, .int .u8 b, .int .i64 n] w fun e w' => e = .returned (.bool true) ∧ Below w.heap.size w w' := by
  have hP : setLane x n b < 2 ^ 64 := setLane_lt x n b hb
  have hall : allLanes [(n : Int)] = true := by simp [allLanes, isLane]; omega
  have hput : putX x b [(n : Int)] = setLane x n b := rfl
  have hget : byteAt (setLane x n b) n = b := by rw [byteAt_setLane x n b n hn hb hn, if_pos rfl]
  have HX := Lib.hid hx
  have HP := Lib.hid hP
  have HA := Lib.hid hall
  have HQ := Lib.hid hput
  have HG := Lib.hid hget
  have HO := Lib.hid (ofW_bytes8 x hx)
  clear hP hall hput hget
  clear hx
  go_enter Try.func3, Try.ntmps3
  go_wp2_with fail
  refine (wakes_any _).mono ?_
  rintro e w1 ⟨rfl, hb1⟩
  go_wp2_with fail
  refine (bytes_any x _).mono ?_
  rintro e w2 ⟨rfl, hb2⟩
  have hT : (w2.alloc (.cells #[.int .u8 0, .int .u8 0, .int .u8 0, .int .u8 0, .int .u8 0, .int .u8 0, .int .u8 0, .int .u8 0] 24)).heap[w2.heap.size]? = some (.cells #[.int .u8 0, .int .u8 0, .int .u8 0, .int .u8 0, .int .u8 0, .int .u8 0, .int .u8 0, .int .u8 0] 24 (0, 0)) := World.alloc_heap_new _ _
  have hb3 : Below w2.heap.size w2 ((w2.alloc (.cells #[.int .u8 0, .int .u8 0, .int .u8 0, .int .u8 0, .int .u8 0, .int .u8 0, .int .u8 0, .int .u8 0] 24)).setRow w2.heap.size (bytesA x)) := below_setRow' ((Below.refl _ _).alloc (Nat.le_refl _) _) (Nat.le_refl _) _
  have hR := setRow_heap (w2.alloc (.cells #[.int .u8 0, .int .u8 0, .int .u8 0, .int .u8 0, .int .u8 0, .int .u8 0, .int .u8 0, .int .u8 0] 24)) w2.heap.size #[.int .u8 0, .int .u8 0, .int .u8 0, .int .u8 0, .int .u8 0, .int .u8 0, .int .u8 0, .int .u8 0] (bytesA x) _ _ hT
  have hz3 : ((w2.alloc (.cells #[.int .u8 0, .int .u8 0, .int .u8 0, .int .u8 0, .int .u8 0, .int .u8 0, .int .u8 0, .int .u8 0] 24)).setRow w2.heap.size (bytesA x)).heap.size = w2.heap.size + 1 := by simp
  go_wp2_with (first | (refine wpList_store_row rfl 24 (.tmp 7) (.tmp 18) rfl w2.heap.size (bytesA x) rfl rfl 24 #[.int .u8 0, .int .u8 0, .int .u8 0, .int .u8 0, .int .u8 0, .int .u8 0, .int .u8 0, .int .u8 0] hT info_bytes rfl (sofarA_one x 8) ?_))
  obtain ⟨w3, hw3⟩ : ∃ w3, w3 = (w2.alloc (.cells #[.int .u8 0, .int .u8 0, .int .u8 0, .int .u8 0, .int .u8 0, .int .u8 0, .int .u8 0, .int .u8 0] 24)).setRow w2.heap.size (bytesA x) := ⟨_, rfl⟩
  rw [← hw3] at hb3 hR hz3
  have hS : Sl w3 (some ⟨w2.heap.size, 0, none⟩) 8 (u8s (bytes8 x)) := Sl.of_blk hR (by show 8 ≤ maxLen; decide)
  refine (of_any (some ⟨w2.heap.size, 0, none⟩) 8 8 (bytes8 x) _ (bytes8_bytey x) (by rw [← hw3]; exact hS)).mono ?_
  rw [← hw3, HO.out]
  clear hw3 hT
  rintro e w4 ⟨rfl, hb4⟩
  go_wp2_with fail
  have hPut := put_any x b (some ⟨w4.heap.size, 0, none⟩) 1 1 [(n : Int)] (w4.alloc (.cells #[.int .i64 n] 3)) HX.out hb (Sl.of_blk (World.alloc_heap_new _ _) (by simp [maxLen]))
  rw [HA.out, HQ.out, if_pos rfl] at hPut
  refine hPut.mono ?_
  clear hPut
  rintro e w5 ⟨rfl, hb5⟩
  have hgp := get_in (setLane x n b) n w5 hn
  rw [HG.out] at hgp
  have hal := alike_any (setLane x n b) x w5 HP.out HX.out
  have HAL := Lib.hid hal
  clear hal
  go_wp2_with fail
  refine hgp.mono ?_
  clear hgp
  rintro e w6 ⟨rfl, rfl⟩
  go_wp2_with (first | (go_at_call 14; refine (HAL.out).mono ?_; rintro e w' ⟨rfl, rfl⟩))
  refine (get_in x n _ hn).mono ?_
  rintro e w7 ⟨rfl, rfl⟩
  have hfin : Below w.heap.size w w7 := by
    have z1 := hb1.size
    have z2 := hb2.size
    have z4 := hb4.size
    exact (((hb1.trans (hb2.mono (by omega))).trans (hb3.mono (by omega))).trans ((hb4.mono (by omega)).alloc (by omega) _)).trans (hb5.mono (by simp; omega))
  clear hb1 hb2 hb3 hb4 hb5 hR hz3 hS
  by_cases hwas : byteAt x n = b
  · have hs1 := setLane_self x n b HX.out hn hb hwas
    have hs2 := alike_self x
    have hb1 : ((byteAt x n : Int) == (b : Int)) = true := by rw [hwas]; simp
    rw [hs1, hs2]
    clear HG HP HQ HAL hs1 hs2 hwas
    go_wp2
    go_ret
    exact ⟨rfl, hfin⟩
  · have hs2 := alike_set x n b hn hb hwas
    have hb1 : ((byteAt x n : Int) == (b : Int)) = false := by simp; omega
    have hqn : 2 ^ n ≤ 2 ^ 7 := Nat.pow_le_pow_right (by decide) (by omega)
    have heq := equal_any (setLane x n b) b
    have hne := equal_set x n b hn hb
    have hE : equalM (setLane x n b) b < 256 := by
      unfold equalM; exact maskOf_lt _ (by simp)
    obtain ⟨q, hq⟩ : ∃ q, q = 2 ^ n := ⟨_, rfl⟩
    have hsh : IntKind.u8.wrap (2 ^ n) = (q : Int) := by
      have e : (2 : Int) ^ n = (q : Int) := by rw [hq, Int.natCast_pow]; rfl
      rw [e, IntKind.wrap_u8]; omega
    have han : bits .andNot .u8 255 (q : Int) = ((255 - 2 ^ n : Nat) : Int) := by
      have h1 := u8_andNot_nat 255 q (by decide) (by omega)
      rw [show ((255 : Nat) : Int) = 255 by rfl] at h1
      rw [h1, hq]
      congr 1
      exact (show ∀ j : Fin 8, 255 &&& (255 - 2 ^ j.val) = 255 - 2 ^ j.val by decide) ⟨n, hn⟩
    have hand : bits .and .u8 (equalM (setLane x n b) b : Int) (q : Int) = ((equalM (setLane x n b) b &&& 2 ^ n : Nat) : Int) := by
      rw [u8_and_nat _ _ hE (by omega), hq]
    rw [hs2]
    generalize 255 - 2 ^ n = r at *
    generalize equalM (setLane x n b) b &&& 2 ^ n = z at *
    have hz : ((z : Int) != 0) = true := by simp; omega
    have HP2 := HP.out
    have HEQ := Lib.hid (fun w => heq w HP2 hb)
    clear HAL hs2 hwas hqn hq hne HP2 heq hE HX HP HA HQ HG HO
    go_wp2
    go_quiet ((go_at_call 15; exact Calls.quiet_of_same (HEQ.out _)))
    go_wp2
    go_ret
    exact ⟨rfl, hfin.trans (below_drewN' _ _)⟩

theorem there_no (x b : Nat) (n : Int) (w : World) (hx : x < 2 ^ 64) (hb : b < 256) (hn : ¬ (0 ≤ n ∧ n < 8)) :
    Calls Try.prog 3 #[.int .u64 x, .int .u8 b, .int .i64 n] w fun e w' => e = .returned (.bool true) ∧ Below w.heap.size w w' := by
  have hall : allLanes [n] = false := by simp [allLanes, isLane]; omega
  have HX := Lib.hid hx
  have HA := Lib.hid hall
  have HO := Lib.hid (ofW_bytes8 x hx)
  have HN := Lib.hid hn
  clear hall hx hn
  go_enter Try.func3, Try.ntmps3
  go_wp2_with fail
  refine (wakes_any _).mono ?_
  rintro e w1 ⟨rfl, hb1⟩
  go_wp2_with fail
  refine (bytes_any x _).mono ?_
  rintro e w2 ⟨rfl, hb2⟩
  have hT : (w2.alloc (.cells #[.int .u8 0, .int .u8 0, .int .u8 0, .int .u8 0, .int .u8 0, .int .u8 0, .int .u8 0, .int .u8 0] 24)).heap[w2.heap.size]? = some (.cells #[.int .u8 0, .int .u8 0, .int .u8 0, .int .u8 0, .int .u8 0, .int .u8 0, .int .u8 0, .int .u8 0] 24 (0, 0)) := World.alloc_heap_new _ _
  have hb3 : Below w2.heap.size w2 ((w2.alloc (.cells #[.int .u8 0, .int .u8 0, .int .u8 0, .int .u8 0, .int .u8 0, .int .u8 0, .int .u8 0, .int .u8 0] 24)).setRow w2.heap.size (bytesA x)) := below_setRow' ((Below.refl _ _).alloc (Nat.le_refl _) _) (Nat.le_refl _) _
  have hR := setRow_heap (w2.alloc (.cells #[.int .u8 0, .int .u8 0, .int .u8 0, .int .u8 0, .int .u8 0, .int .u8 0, .int .u8 0, .int .u8 0] 24)) w2.heap.size #[.int .u8 0, .int .u8 0, .int .u8 0, .int .u8 0, .int .u8 0, .int .u8 0, .int .u8 0, .int .u8 0] (bytesA x) _ _ hT
  have hz3 : ((w2.alloc (.cells #[.int .u8 0, .int .u8 0, .int .u8 0, .int .u8 0, .int .u8 0, .int .u8 0, .int .u8 0, .int .u8 0] 24)).setRow w2.heap.size (bytesA x)).heap.size = w2.heap.size + 1 := by simp
  go_wp2_with (first | (refine wpList_store_row rfl 24 (.tmp 7) (.tmp 18) rfl w2.heap.size (bytesA x) rfl rfl 24 #[.int .u8 0, .int .u8 0, .int .u8 0, .int .u8 0, .int .u8 0, .int .u8 0, .int .u8 0, .int .u8 0] hT info_bytes rfl (sofarA_one x 8) ?_))
  obtain ⟨w3, hw3⟩ : ∃ w3, w3 = (w2.alloc (.cells #[.int .u8 0, .int .u8 0, .int .u8 0, .int .u8 0, .int .u8 0, .int .u8 0, .int .u8 0, .int .u8 0] 24)).setRow w2.heap.size (bytesA x) := ⟨_, rfl⟩
  rw [← hw3] at hb3 hR hz3
  have hS : Sl w3 (some ⟨w2.heap.size, 0, none⟩) 8 (u8s (bytes8 x)) := Sl.of_blk hR (by show 8 ≤ maxLen; decide)
  refine (of_any (some ⟨w2.heap.size, 0, none⟩) 8 8 (bytes8 x) _ (bytes8_bytey x) (by rw [← hw3]; exact hS)).mono ?_
  rw [← hw3, HO.out]
  clear hw3 hT
  rintro e w4 ⟨rfl, hb4⟩
  go_wp2_with fail
  have hPut := put_any x b (some ⟨w4.heap.size, 0, none⟩) 1 1 [n] (w4.alloc (.cells #[.int .i64 n] 3)) HX.out hb (Sl.of_blk (World.alloc_heap_new _ _) (by simp [maxLen]))
  rw [HA.out, if_neg (by simp)] at hPut
  refine hPut.mono ?_
  clear hPut
  rintro e w5 ⟨rfl, hb5⟩
  have hfin : Below w.heap.size w w5 := by
    have z1 := hb1.size
    have z2 := hb2.size
    have z4 := hb4.size
    exact (((hb1.trans (hb2.mono (by omega))).trans (hb3.mono (by omega))).trans ((hb4.mono (by omega)).alloc (by omega) _)).trans (hb5.mono (by simp; omega))
  clear hb1 hb2 hb3 hb4 hb5 hR hz3 hS
  by_cases h0 : n < 0
  · have hd : decide (n < 0) = true := by simpa using h0
    go_wp2
    go_ret
    exact ⟨rfl, hfin⟩
  · have h8 : 8 ≤ n := by have := HN.out; omega
    have hd : decide (n < 0) = false := by simpa using h0
    have hd8 : decide (8 ≤ n) = true := by simpa using h8
    go_wp2
    go_ret
    exact ⟨rfl, hfin⟩

theorem walk_LanesThere (a0 a1 a2 : Int) (w : World) (w0 : (Lit.int .u64 a0).wf = true) (w1 : (Lit.int .u8 a1).wf = true) (w2 : (Lit.int .i64 a2).wf = true) :
    Calls Try.prog 3 #[.int .u64 a0, .int .u8 a1, .int .i64 a2] w fun e w' => e = .returned (.bool true) ∧ Below w.heap.size w w' := by
  obtain ⟨x, rfl, hx⟩ := nat_of_u64 w0
  obtain ⟨b, rfl, hb⟩ := nat_of_u8 w1
  by_cases hn : 0 ≤ a2 ∧ a2 < 8
  · obtain ⟨n, rfl⟩ := Int.eq_ofNat_of_zero_le hn.1
    exact there_yes x b n w hx hb (by omega)
  · exact there_no x b a2 w hx hb hn

end Go.Proofs.Ytfomcnbpkdkohaa
