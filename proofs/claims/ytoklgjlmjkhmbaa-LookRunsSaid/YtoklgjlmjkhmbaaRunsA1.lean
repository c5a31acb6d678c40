/-
  LookRuns: the slab may not be; the cells are some.
-/
import Derived.Test.YtoklgjlmjkhmbaaRunsC
set_option linter.unusedSimpArgs false
set_option linter.unusedVariables false
set_option maxRecDepth 100000
namespace Go.Proofs.Ytoklgjlmjkhmbaa
open Go.RowKit

set_option maxHeartbeats 4000000 in
theorem runsA1 (sp1 : Option Addr) (n1 cap1 : Nat) (xs : List Nat) (sl : Int) (sp2 : Option Addr) (n2 cap2 : Nat) (ks : List (Nat × Nat)) (w : World) (x64 : W64 xs) (p64 : P64 ks)
    (hS1 : Sl w sp1 n1 (u64s xs)) (hS2 : SlK w 2 sp2 n2 (prs ks)) (hc1 : sp1 = none → cap1 = 0) (hnc1 : n1 ≤ cap1) (hc2 : sp2 = none → cap2 = 0) (hnc2 : n2 ≤ cap2) (hn1 : n1 ≤ 9223372036854775807) (hn2 : n2 ≤ 9223372036854775807)
    (hs : ¬ (0 ≤ sl ∧ sl < 128)) (h1 : 1 ≤ min n1 140) :
    Calls Try.prog 3 #[.slice sp1 n1 cap1, .int .i64 sl, .slice sp2 n2 cap2] w fun e w' => e = .returned (.bool true) ∧ Below w.heap.size w w' := by
  obtain ⟨m1, hm1⟩ : ∃ m1, m1 = min n1 140 := ⟨_, rfl⟩
  rw [← hm1] at h1
  have O := fun w h => own_any sp1 n1 cap1 m1 xs w h hc1 hnc1 hm1 hn1
  obtain ⟨xs1, hxs1⟩ : ∃ xs1, xs1 = xs.take m1 := ⟨_, rfl⟩
  rw [← hxs1] at O
  have x164 : W64 xs1 := by rw [hxs1]; intro y hy; exact x64 y (List.mem_of_mem_take hy)
  obtain ⟨m2, hm2⟩ : ∃ m2, m2 = min n2 8 := ⟨_, rfl⟩
  have hmi := takes_min n2 m2 hm2
  have hS2m := hS2.take m2 (by omega)
  rw [prs_take] at hS2m
  obtain ⟨ks1, hks1⟩ : ∃ ks1, ks1 = ks.take m2 := ⟨_, rfl⟩
  rw [← hks1] at hS2m
  have ht : thereB m1 sl = false := by unfold thereB; simp; omega
  have SL := fun w => ref_slab sl w
  rw [show decide ((0 : Int) ≤ sl ∧ sl < 128) = false by simp; omega] at SL
  have hm1n : 1 ≤ m1 ∧ m1 ≤ 8192 := by omega
  have q2 : (0 : Int) ≤ (m2 : Int) := by omega
  have q3 : (m2 : Int) ≤ (cap2 : Int) := by omega
  have q4 : m2 ≤ cap2 := by omega
  have q5 : m2 ≤ 8 := by omega
  have CL := fun w h => clone2_any sp2 m2 cap2 (prs ks1) w (by omega) (prs_one _) hc2 h
  obtain ⟨i0, hi, hz0, hz1, hz2⟩ := info_parts info_clone2
  clear hm2
  have x64'h := Lib.hid x64
  have p64'h := Lib.hid p64
  have hS1'h := Lib.hid hS1
  have hS2'h := Lib.hid hS2
  have hc1'h := Lib.hid hc1
  have hnc1'h := Lib.hid hnc1
  have hc2'h := Lib.hid hc2
  have hnc2'h := Lib.hid hnc2
  have hn1'h := Lib.hid hn1
  have hn2'h := Lib.hid hn2
  have ht'h := Lib.hid ht
  have O'h := Lib.hid O
  have hxs1'h := Lib.hid hxs1
  have x164'h := Lib.hid x164
  have hm1'h := Lib.hid hm1
  have hS2m'h := Lib.hid hS2m
  have hks1'h := Lib.hid hks1
  have hs'h := Lib.hid hs
  have SL'h := Lib.hid SL
  have hm1n'h := Lib.hid hm1n
  have CL'h := Lib.hid CL
  have hi'h := Lib.hid hi
  have hz0'h := Lib.hid hz0
  have hz1'h := Lib.hid hz1
  have hz2'h := Lib.hid hz2
  clear x64 p64 hS1 hS2 hc1 hnc1 hc2 hnc2 hn1 hn2 ht O hxs1 x164 hm1 hS2m hks1 hs SL hm1n CL hi hz0 hz1 hz2
  go_enter Try.func3, Try.ntmps3
  go_upto_region 5 with (first | (go_at_call 7; refine (wakes18_any _).mono ?_; rintro e w2 ⟨rfl, hb2⟩) | (go_at_call 8; refine (O'h.out _ (hS1'h.out.below hb2)).mono ?_; rintro e w3 ⟨sp3, cap3, rfl, hb3, hrow3⟩; have hrow3'h := Lib.hid hrow3; clear hrow3) | (go_at_call 9; refine (SL'h.out _).mono ?_; rintro e w4 ⟨rfl, hw4⟩; obtain rfl := hw4.symm))
  have hS3 := Sl.of_row hrow3'h.out (by have := hm1n'h.out; unfold maxLen; omega)
  have hB3 := below_next hb2 hb3
  clear hb2 hb3
  have hS3'h := Lib.hid hS3
  have hB3'h := Lib.hid hB3
  clear hS3 hB3
  go_wp2_with (first | (go_at_call 11; refine (CL'h.out _ (hS2m'h.out.below hB3'h.out)).mono ?_; rintro e w6 ⟨sp6, cap6, rfl, hb6, hrow6⟩; have hrow6'h := Lib.hid hrow6; clear hrow6) | (at_builtin; refine wpList_append_slk _ rfl (.tmp 42) (.tmp 44) 23 rfl w3.heap.size 30 i0 (.agg #[.int .u64 0, .int .u64 0]) 2 16 Try.underlying23 hi'h.out hz0'h.out hz1'h.out hz2'h.out rfl (by decide) _ m2 (prs ks1) rfl (ownsRow_next hrow6'h.out ((Below.refl _ w6).alloc (Nat.le_refl _) _)) (some ⟨w6.heap.size, 0, none⟩) 1 1 [.int .u64 0, .int .u64 0] rfl (SlK.of_blk (World.alloc_heap_new w6 _) rfl (by decide)) (by decide) (by unfold maxLen; omega) (by omega) (by have := hb6.size; simp; omega) ?_; intro v7 w7 hown7 hgrow7 hat7; obtain ⟨sp7, cap7, rfl⟩ := row_slice' hown7; have hB7 : Below w3.heap.size w3 w7 := Below.grown (hb6.alloc (by have := hb6.size; omega) _) hgrow7 (by have := hb6.size; simp; omega) (fun j hj => (hrow6'h.out.lt j hj).1); have hown7'h := Lib.hid hown7; clear hown7))
  obtain ⟨g7, c7, hv7, _, hg7⟩ := hown7'h.out.form (by omega)
  injection hv7 with hv7 _ hv7c
  subst hv7 hv7c
  obtain ⟨kl, hkl⟩ : ∃ kl, kl = ks1 ++ [((0 : Nat), (0 : Nat))] := ⟨_, rfl⟩
  have hrow := SlK.of_row hown7'h.out (by unfold maxLen; omega)
  have e1 : prs ks1 ++ [.int .u64 0, .int .u64 0] = prs kl := by rw [hkl, prs_append]; rfl
  rw [e1] at hrow
  have hkn : m2 + 1 = kl.length := by have := hrow.1; rw [prs_length] at this; omega
  have hp64 : P64 kl := by
    intro y hy
    rw [hkl] at hy
    rcases List.mem_append.1 hy with hy | hy
    · exact p64'h.out y (by rw [hks1'h.out] at hy; exact List.mem_of_mem_take hy)
    · simp at hy; subst hy; decide
  clear hkl e1
  have hrow'h := Lib.hid hrow
  have hkn'h := Lib.hid hkn
  have hp64'h := Lib.hid hp64
  have hB7'h := Lib.hid hB7
  clear hrow hkn hp64 hB7
  go_loopg [47] (m2 + 1) (fun q i wr => ∃ k : Nat, k + q = m2 + 1 ∧ i = .int .i64 k ∧ Below w7.heap.size w7 wr)
  case atStart => exact ⟨0, by omega, rfl, Below.refl _ _⟩
  case round =>
    obtain ⟨k, hk, rfl, hbr⟩ := hrel
    by_cases hlt : k < m2 + 1
    · have hc := prs_at (ks := kl) (k := k) (by have := hkn'h.out; omega)
      have hp := hp64'h.out _ (nthP_mem (l := kl) (k := k) (by have := hkn'h.out; omega))
      have c0 := (hrow'h.out.below hbr).cell hc.1
      have c1 := (hrow'h.out.below hbr).cell hc.2
      rw [Nat.zero_add] at c0 c1
      generalize (nthP kl k).1 = k0 at *
      generalize (nthP kl k).2 = k1 at *
      clear hc
      have hbr'h := Lib.hid hbr
      have hp'h := Lib.hid hp
      have hk'h := Lib.hid hk
      clear hbr hp hk
      go_upto_region 8 with fail
      clear c0 c1
      have H8 := (Hs.nil wr).new #[.int .u64 k0, .int .u64 k1] 30
      have hSr := ((hS3'h.out.below hB7'h.out).below hbr'h.out)
      generalize World.alloc _ _ = W8 at H8 ⊢
      obtain ⟨a0, a1⟩ := two_of H8.rows.1
      have BG := fun w => begin_no sl k0 k1 w hs'h.out
      have RN := fun w => run_no sp3 m1 cap3 sl k0 k1 2 w (by have := hm1n'h.out; omega) (by rw [if_pos hm1n'h.out, if_neg (by rw [ht'h.out]; decide)]) (by decide)
      have MO := fun w => most_noZ sp3 m1 cap3 2 sl k1 w (by decide) (fun w => by have T := there_any sp3 m1 cap3 sl w (by have := hm1n'h.out; omega); rw [if_pos hm1n'h.out, if_neg (by rw [ht'h.out]; decide)] at T; exact T)
      have RL := fun w => ref_cells sp3 m1 cap3 w (by have := hm1n'h.out; omega)
      rw [show decide (1 ≤ m1 ∧ m1 ≤ 8192) = true by have := hm1n'h.out; simp; omega] at RL
      have H8'h := Lib.hid H8
      have hSr'h := Lib.hid hSr
      have BG'h := Lib.hid BG
      have RN'h := Lib.hid RN
      have MO'h := Lib.hid MO
      have RL'h := Lib.hid RL
      clear H8 hSr BG RN MO RL
      go_upto_region 9 with (first | (go_at_call 12; refine (BG'h.out _).mono ?_; rintro e w9 ⟨rfl, hb⟩) | (refine wpList_store_row rfl _ _ _ rfl w9.heap.size (sgA zeroS) rfl rfl 33 _ (World.alloc_heap_new _ _) infoSg rfl (sgA_one _) ?_))
      clear a0 a1
      obtain ⟨hs, hc⟩ := stored_s zeroS w9
      have H9 := H8'h.out.more (below_next hb hc) hs hb.size
      generalize World.setRow _ _ _ = W9 at H9 ⊢
      clear hs hc hb
      obtain ⟨a0, a1⟩ := two_of H9.rows.2.1
      have H9'h := Lib.hid H9
      clear H9
      go_upto_region 10 with (first | (go_at_call 13; refine (RN'h.out _).mono ?_; rintro e w10 ⟨rfl, hb⟩) | (refine wpList_store_row rfl _ _ _ rfl w10.heap.size (sgA zeroS) rfl rfl 33 _ (World.alloc_heap_new _ _) infoSg rfl (sgA_one _) ?_))
      clear a0 a1
      obtain ⟨hs, hc⟩ := stored_s zeroS w10
      have H10 := H9'h.out.more (below_next hb hc) hs hb.size
      generalize World.setRow _ _ _ = W10 at H10 ⊢
      clear hs hc hb
      obtain ⟨a0, a1⟩ := two_of H10.rows.2.2.1
      have H10'h := Lib.hid H10
      clear H10
      go_upto_region 12 with (go_at_call 14; refine (MO'h.out _).mono ?_; rintro e w11 ⟨rfl, hb⟩)
      clear a0 a1
      have H12 := (H10'h.out.next hb).new2 (sgA zeroS) (sgA zeroS) 33 33
      clear hb
      change Code.wp _ _ _ _ ((w11.alloc (.cells (sgA zeroS) 33)).alloc (.cells (sgA zeroS) 33))
      generalize (w11.alloc (.cells (sgA zeroS) 33)).alloc (.cells (sgA zeroS) 33) = W12 at H12 ⊢
      obtain ⟨a0, a1⟩ := two_of H12.rows.2.2.2.2.1
      have H12'h := Lib.hid H12
      clear H12
      clear a0 a1
      have eq1 := fun w => neq_sg zeroS w
      have eq2 := fun w => neq_sg zeroS w
      go_wp2_with (first | (go_at_call 9; refine (SL'h.out _).mono ?_; rintro e w13 ⟨rfl, hw13⟩; obtain rfl := hw13.symm) | (go_at_call 15; refine (RL'h.out _).mono ?_; rintro e w15 ⟨rfl, hw15⟩; obtain rfl := hw15.symm) | (refine wpList_load_row rfl _ _ rfl (w9.heap.size) rfl 33 _ (0, 0) _ (H12'h.out.rows.2.2.2.1) Try.underlying33 rfl infoSg ?_) | (refine wpList_load_row rfl _ _ rfl (w11.heap.size) rfl 33 _ (0, 0) _ (H12'h.out.rows.2.1) Try.underlying33 rfl infoSg ?_) | (refine wpList_load_row_w (by rfl) _ _ rfl (w10.heap.size) rfl 33 _ (0, 0) _ (H12'h.out.rows.2.2.1) Try.underlying33 rfl infoSg ?_) | (refine wpList_load_row_w (by rfl) _ _ rfl (w11.heap.size + 1) rfl 33 _ (0, 0) _ (H12'h.out.rows.1) Try.underlying33 rfl infoSg ?_))
      go_roundg (gk - 1)
      case measure => have := hk'h.out; omega
      case rel => exact ⟨k + 1, by have := hk'h.out; omega, by go_num, below_next hbr'h.out H12'h.out.old⟩
    · obtain rfl : k = m2 + 1 := by omega
      have hBr := below_next hB7'h.out hbr
      have hSr := hS3'h.out.below hBr
      have hBw := below_next hB3'h.out hBr
      have hBw'h := Lib.hid hBw
      have hSr'h := Lib.hid hSr
      clear hBw hSr
      clear hbr hBr
      go_wp2_with (first | (go_at_call 8; refine (O'h.out _ (hS1'h.out.below hBw'h.out)).mono ?_; rintro e w30 ⟨sp5, cap5, rfl, hb30, hrow5⟩; have hS5 := Sl.of_row hrow5 (by have := hm1n'h.out; unfold maxLen; omega); have hS5'h := Lib.hid hS5; clear hS5 hrow5) | (go_at_call 18; refine (same64 _ _ _ _ _ _ _ (hSr'h.out.below hb30) hS5'h.out).mono ?_; rintro e w31 ⟨rfl, d, rfl⟩))
      go_ret
      exact ⟨rfl, (below_next hBw'h.out hb30).trans (below_drewN' _ _)⟩
end Go.Proofs.Ytoklgjlmjkhmbaa
