/-
  GroupTells, where the group may not be; and all of it.
-/
import Derived.Test.YtfoohdjgnphdgaaTells10
set_option linter.unusedSimpArgs false
set_option linter.unusedVariables false
set_option maxRecDepth 100000
namespace Go.Proofs.Ytfoohdjgnphdgaa
open Go.RowKit

set_option maxHeartbeats 4000000 in
theorem tells_no (x y : Gp) (sp : Option Addr) (n cap : Nat) (l : List Sl3) (w : World) (hx : GpOk x) (hy : GpOk y) (hS : SlK w 3 sp n (sls l)) (hl : ∀ s ∈ l, Sl3Ok s) (hr : rightG x = false) :
    Calls Try.prog 3 #[.agg (gpA x), .agg (gpA y), .slice sp n cap] w fun e w' => e = .returned (.bool true) ∧ Below w.heap.size w w' := by
  have hlen := sls_len hS
  have hmax := hS.2.1
  unfold maxLen at hmax
  have WK := fun w => wakes10_any w
  have RX := fun w => rgright_any x w hx
  have CX := fun w => gcheck_any x w hx
  have NG := fun w => gnew_any w
  have NR := fun w => rgnew_any w
  have FX := fun w => gfree_any x w hx
  have LX := fun w => live_any x w hx
  have hneq : ∀ w, (binOp .neq 25 (.agg (gpA gpNew)) (.agg (gpA gpNew))).run Try.prog w = .ok (.bool false) w := fun w => by rw [neq_group gpNew_ok gpNew_ok, same_new]; rfl
  have hrn : ¬ rightG x = true := by rw [hr]; decide
  have e1 : gchkE x = 200 := by unfold gchkE; rw [if_neg hrn]
  have e2 : liveR x = [] := by unfold liveR; rw [if_neg hrn]
  have e3 : freeN x 0 = 0 := by unfold freeN; rw [if_neg hrn]
  have e4 : freeN x 1 = 0 := by unfold freeN; rw [if_neg hrn]
  rw [hr] at RX
  rw [e1] at CX
  rw [e2] at LX
  rw [e3, e4] at FX
  have hO := (Hs.nil w).new2 (gpA x) (gpA y) 25 25
  obtain ⟨W, hW⟩ : ∃ W, W = (w.alloc (.cells (gpA x) 25)).alloc (.cells (gpA y) 25) := ⟨_, rfl⟩
  rw [← hW] at hO
  clear e1 e2 e3 e4
  have hS'h := Lib.hid hS
  have hl'h := Lib.hid hl
  have hr'h := Lib.hid hr
  have hlen'h := Lib.hid hlen
  have hmax'h := Lib.hid hmax
  have WK'h := Lib.hid WK
  have RX'h := Lib.hid RX
  have CX'h := Lib.hid CX
  have NG'h := Lib.hid NG
  have NR'h := Lib.hid NR
  have FX'h := Lib.hid FX
  have LX'h := Lib.hid LX
  have hO'h := Lib.hid hO
  have hx'h := Lib.hid hx
  have hy'h := Lib.hid hy
  have hrn'h := Lib.hid hrn
  clear hS hl hr hlen hmax WK RX CX NG NR FX LX hO hx hy hrn
  go_enter Try.func3, Try.ntmps3
  go_upto_region 1 with fail
  change Code.wp _ _ _ _ ((w.alloc (.cells (gpA x) 25)).alloc (.cells (gpA y) 25))
  rw [← hW]
  clear hW
  go_upto_region 3 with (first | (go_at_call 8; refine (WK'h.out _).mono ?_; rintro e w1 ⟨rfl, hb1⟩))
  have H1 := hO'h.out.next hb1
  clear hb1
  have H1'h := Lib.hid H1
  clear H1
  go_upto_region 5 with (first | (refine wpList_load_row rfl _ _ rfl w.heap.size rfl 25 (gpA x) (0, 0) _ H1'h.out.rows.2.1 Try.underlying25 rfl infoGp ?_) | (go_at_call 9; refine (RX'h.out _).mono ?_; rintro e w2 ⟨rfl, hb2⟩; have H2 := H1'h.out.next hb2; have H2'h := Lib.hid H2; clear H2 hb2) | (refine wpList_load_row rfl _ _ rfl w.heap.size rfl 25 (gpA x) (0, 0) _ H2'h.out.rows.2.1 Try.underlying25 rfl infoGp ?_) | (go_at_call 10; refine (CX'h.out _).mono ?_; rintro e w3 ⟨rfl, hb3⟩; have H3 := H2'h.out.next hb3; have H3'h := Lib.hid H3; clear H3 hb3))
  go_upto_region 7 with (first | (go_at_call 11; refine (NG'h.out _).mono ?_; rintro e w4 ⟨rfl, hb4⟩; have H4 := H3'h.out.next hb4; have H4'h := Lib.hid H4; clear H4 hb4) | (go_at_call 12; refine (NR'h.out _).mono ?_; rintro e w5 ⟨rfl, hb5⟩; have H5 := H4'h.out.next hb5; have H5'h := Lib.hid H5; clear H5 hb5))
  have H6 := H5'h.out.drew
  refine wp_region_heldQ (fun w' => w'.heap[w.heap.size]? = some (.cells (gpA x) 25 (0, 0)) ∧ w'.heap[w.heap.size + 1]? = some (.cells (gpA y) 25 (0, 0))) 99 (by kernel_rfl) ?_
  generalize w5.drew = V at H6 ⊢
  have R6 := And.intro H6.rows.2.1 H6.rows.1
  refine wpAnyF_take (i := 0) (v := .bool false) rfl (by kernel_rfl) (by kernel_rfl) (by kernel_rfl) (by kernel_rfl) (fun _ _ _ h => h) (Or.inl ⟨by kernel_rfl, fun w hSw => by (try dsimp only at hSw); go_simp⟩) R6 ?_; try simp only [Act.put, List.getElem_toArray, List.getElem_cons_succ, List.getElem_cons_zero, List.setIfInBounds_toArray, List.set_cons_zero, List.set_cons_succ]
  refine wpAnyF_take (i := 1) (v := .bool false) rfl (by kernel_rfl) (by kernel_rfl) (by kernel_rfl) (by kernel_rfl) (fun _ _ _ h => h) (Or.inl ⟨by kernel_rfl, fun w hSw => by (try dsimp only at hSw); go_simp⟩) R6 ?_; try simp only [Act.put, List.getElem_toArray, List.getElem_cons_succ, List.getElem_cons_zero, List.setIfInBounds_toArray, List.set_cons_zero, List.set_cons_succ]
  refine wpAnyF_take (i := 2) (v := undef) rfl (by kernel_rfl) (by kernel_rfl) (by kernel_rfl) (by kernel_rfl) (fun _ _ _ h => h) (Or.inr ⟨by kernel_rfl, rfl⟩) R6 ?_; try simp only [Act.put, List.getElem_toArray, List.getElem_cons_succ, List.getElem_cons_zero, List.setIfInBounds_toArray, List.set_cons_zero, List.set_cons_succ]
  refine wpAnyF_take (i := 3) (v := undef) rfl (by kernel_rfl) (by kernel_rfl) (by kernel_rfl) (by kernel_rfl) (fun _ _ _ h => h) (Or.inr ⟨by kernel_rfl, rfl⟩) R6 ?_; try simp only [Act.put, List.getElem_toArray, List.getElem_cons_succ, List.getElem_cons_zero, List.setIfInBounds_toArray, List.set_cons_zero, List.set_cons_succ]
  refine wpAnyF_take (i := 4) (v := .bool false) rfl (by kernel_rfl) (by kernel_rfl) (by kernel_rfl) (by kernel_rfl) (fun _ _ _ h => h) (Or.inl ⟨by kernel_rfl, fun w hSw => by (try dsimp only at hSw); go_simp⟩) R6 ?_; try simp only [Act.put, List.getElem_toArray, List.getElem_cons_succ, List.getElem_cons_zero, List.setIfInBounds_toArray, List.set_cons_zero, List.set_cons_succ]
  refine wpAnyF_take (i := 5) (v := .bool false) rfl (by kernel_rfl) (by kernel_rfl) (by kernel_rfl) (by kernel_rfl) (fun _ _ _ h => h) (Or.inl ⟨by kernel_rfl, fun w hSw => by (try dsimp only at hSw); go_simp⟩) R6 ?_; try simp only [Act.put, List.getElem_toArray, List.getElem_cons_succ, List.getElem_cons_zero, List.setIfInBounds_toArray, List.set_cons_zero, List.set_cons_succ]
  refine wpAnyF_take (i := 6) (v := undef) rfl (by kernel_rfl) (by kernel_rfl) (by kernel_rfl) (by kernel_rfl) (fun _ _ _ h => h) (Or.inr ⟨by kernel_rfl, rfl⟩) R6 ?_; try simp only [Act.put, List.getElem_toArray, List.getElem_cons_succ, List.getElem_cons_zero, List.setIfInBounds_toArray, List.set_cons_zero, List.set_cons_succ]
  refine wpAnyF_take (i := 7) (v := undef) rfl (by kernel_rfl) (by kernel_rfl) (by kernel_rfl) (by kernel_rfl) (fun _ _ _ h => h) (Or.inr ⟨by kernel_rfl, rfl⟩) R6 ?_; try simp only [Act.put, List.getElem_toArray, List.getElem_cons_succ, List.getElem_cons_zero, List.setIfInBounds_toArray, List.set_cons_zero, List.set_cons_succ]
  refine wpAnyF_take (i := 9) (v := undef) rfl (by kernel_rfl) (by kernel_rfl) (by kernel_rfl) (by kernel_rfl) (fun _ _ _ h => h) (Or.inr ⟨by kernel_rfl, rfl⟩) R6 ?_; try simp only [Act.put, List.getElem_toArray, List.getElem_cons_succ, List.getElem_cons_zero, List.setIfInBounds_toArray, List.set_cons_zero, List.set_cons_succ]
  refine wpAnyF_take (i := 10) (v := undef) rfl (by kernel_rfl) (by kernel_rfl) (by kernel_rfl) (by kernel_rfl) (fun _ _ _ h => h) (Or.inr ⟨by kernel_rfl, rfl⟩) R6 ?_; try simp only [Act.put, List.getElem_toArray, List.getElem_cons_succ, List.getElem_cons_zero, List.setIfInBounds_toArray, List.set_cons_zero, List.set_cons_succ]
  refine wpAnyF_take (i := 8) (v := undef) rfl (by kernel_rfl) (by kernel_rfl) (by kernel_rfl) (by kernel_rfl) (fun _ _ _ h => h) (Or.inr ⟨by kernel_rfl, rfl⟩) R6 ?_; try simp only [Act.put, List.getElem_toArray, List.getElem_cons_succ, List.getElem_cons_zero, List.setIfInBounds_toArray, List.set_cons_zero, List.set_cons_succ]
  refine wpAnyF_take (i := 11) (v := undef) rfl (by kernel_rfl) (by kernel_rfl) (by kernel_rfl) (by kernel_rfl) (fun _ _ _ h => h) (Or.inr ⟨by kernel_rfl, rfl⟩) R6 ?_; try simp only [Act.put, List.getElem_toArray, List.getElem_cons_succ, List.getElem_cons_zero, List.setIfInBounds_toArray, List.set_cons_zero, List.set_cons_succ]
  refine wpAnyF_take (i := 12) (v := undef) rfl (by kernel_rfl) (by kernel_rfl) (by kernel_rfl) (by kernel_rfl) (fun _ _ _ h => h) (Or.inr ⟨by kernel_rfl, rfl⟩) R6 ?_; try simp only [Act.put, List.getElem_toArray, List.getElem_cons_succ, List.getElem_cons_zero, List.setIfInBounds_toArray, List.set_cons_zero, List.set_cons_succ]
  refine wpAnyF_take (i := 13) (v := .bool false) rfl (by kernel_rfl) (by kernel_rfl) (by kernel_rfl) (by kernel_rfl) (fun _ _ _ h => h) (Or.inl ⟨by kernel_rfl, fun w hSw => by (try dsimp only at hSw); go_simp⟩) R6 ?_; try simp only [Act.put, List.getElem_toArray, List.getElem_cons_succ, List.getElem_cons_zero, List.setIfInBounds_toArray, List.set_cons_zero, List.set_cons_succ]
  refine wpAnyF_done (by kernel_rfl) ?_ _
  refine noPanic_normal ?_
  clear R6
  have H6'h := Lib.hid H6
  clear H6
  go_upto_region 15 with (first | (refine wpList_load_row rfl _ _ rfl w.heap.size rfl 25 (gpA x) (0, 0) _ H6'h.out.rows.2.1 Try.underlying25 rfl infoGp ?_) | (go_at_call 17; refine (FX'h.out _).mono ?_; rintro e w8 ⟨rfl, hb8⟩; have H12 := H6'h.out.next hb8; have H12'h := Lib.hid H12; clear H12 hb8))
  go_upto_region 17 with (first | (refine wpList_load_row rfl _ _ rfl w.heap.size rfl 25 (gpA x) (0, 0) _ H12'h.out.rows.2.1 Try.underlying25 rfl infoGp ?_) | (go_at_call 19; refine (LX'h.out _).mono ?_; rintro e w9 ⟨sp9, n9, cap9, rfl, hb9, hrow9⟩; have H13 := H12'h.out.next hb9; have H13'h := Lib.hid H13; obtain rfl := row_len' hrow9; have EQ := equalS_any _ none _ 0 cap9 0 [] [] w9 (SlK.of_row hrow9 (by decide)) (SlK.nil _ _ _); rw [decide_eq_true (rfl : ([] : List Sl3) = [])] at EQ; have EQ'h := Lib.hid EQ; clear H13 hb9 hrow9 EQ) | (go_at_call 18; refine (EQ'h.out).mono ?_; rintro e w10 ⟨rfl, d10, rfl⟩))
  have H14 := H13'h.out.drewN d10
  generalize w9.drewN d10 = w11 at H14 ⊢
  have H14'h := Lib.hid H14
  clear H14
  go_wp2_with fail
  go_loopg [93] n (fun q i wr => ∃ k : Nat, k + q = n ∧ k ≤ 10 ∧ i = .int .i64 k ∧ Hs w [(w.heap.size + 1, gpA y, 25), (w.heap.size, gpA x, 25)] wr)
  case atStart => exact ⟨0, by omega, by omega, rfl, H14'h.out⟩
  case round =>
    obtain ⟨k, hq, hk10, rfl, hH⟩ := hrel
    by_cases hlt : k < n
    · have hkl : k < l.length := by have := hlen'h.out; omega
      have hSr := hS'h.out.below hH.old
      obtain ⟨rb, ro, rfl, -⟩ := hSr.some' (by omega)
      obtain ⟨c0, c1, c2⟩ := sls_cells hSr hkl
      obtain ⟨s, hs⟩ : ∃ s, s = nthS l k := ⟨_, rfl⟩
      have hsok := hl'h.out _ (nthS_mem hkl)
      rw [← hs] at c0 c1 c2 hsok
      have hi1 : (k : Int) < (n : Int) := by omega
      have h0k : (0 : Int) ≤ (k : Int) := by omega
      clear hs hlt
      by_cases h10 : k = 10
      · have h10' : ((k : Int) == 10) = true := by rw [h10]; rfl
        clear h10
        have HN := hH.old.alloc hH.old.size (.cells (slA s) 38)
        have hq'h := Lib.hid hq
        have hH'h := Lib.hid hH
        have hkl'h := Lib.hid hkl
        have hSr'h := Lib.hid hSr
        have hsok'h := Lib.hid hsok
        have HN'h := Lib.hid HN
        clear hq hH hkl hSr hsok HN
        go_wp2
        go_ret
        exact ⟨rfl, HN'h.out⟩
      · have h10' : ((k : Int) == 10) = false := by simp; omega
        have hk9 : k < 10 := by omega
        clear h10
        have H15 := hH.new (slA s) 38
        have LK := fun w => looks_any x s.h2 w hx'h.out hsok.h2
        have FD := fun w => find_any x s.key s.h2 w hx'h.out hsok.key hsok.h2
        have e1 : looksE x s.h2 = 200 := by unfold looksE; rw [if_neg hrn'h.out]
        have e2 : looksR x s.h2 = [] := by unfold looksR; rw [if_neg (by rw [e1]; decide)]
        have e3 : findE x s.key s.h2 = 200 := by unfold findE; rw [if_neg (by rw [e1]; decide), e1]
        have e4 : findL x s.key s.h2 = 0 := by unfold findL; rw [if_neg (by rw [e3]; decide)]
        have e5 : findN x s.key s.h2 = 0 := by unfold findN; rw [if_neg (by rw [e3]; decide)]
        rw [e1, e2] at LK
        rw [e3, e4, e5] at FD
        clear e1 e2 e3 e4 e5
        have hq'h := Lib.hid hq
        have hH'h := Lib.hid hH
        have hkl'h := Lib.hid hkl
        have hSr'h := Lib.hid hSr
        have hsok'h := Lib.hid hsok
        have H15'h := Lib.hid H15
        have LK'h := Lib.hid LK
        have FD'h := Lib.hid FD
        clear hq hH hkl hSr hsok H15 LK FD
        go_upto_region 21 with fail
        change Code.wp _ _ _ _ (wr.alloc (.cells (slA s) 38))
        have H15 := H15'h.out
        clear H15'h
        generalize wr.alloc _ = w15 at H15 ⊢
        have q2 : w15.cell? ⟨wr.heap.size, 2, none⟩ = some (.int .u8 (s.h2 : Int)) := blk_cell H15.rows.1 rfl
        have H15'h := Lib.hid H15
        clear H15
        go_upto_region 22 with (first | (refine wpList_load_row rfl _ _ rfl w.heap.size rfl 25 (gpA x) (0, 0) _ H15'h.out.rows.2.2.1 Try.underlying25 rfl infoGp ?_) | (go_at_call 20; refine (LK'h.out _).mono ?_; rintro e w16 ⟨sp16, n16, cap16, rfl, hb16, hrow16⟩))
        have H16 := H15'h.out.next hb16
        obtain rfl := row_len' hrow16
        clear q2 hb16
        have q0 : w16.cell? ⟨wr.heap.size, 0, none⟩ = some (.int .u64 (s.key : Int)) := blk_cell H16.rows.1 rfl
        have q2 : w16.cell? ⟨wr.heap.size, 2, none⟩ = some (.int .u8 (s.h2 : Int)) := blk_cell H16.rows.1 rfl
        have H16'h := Lib.hid H16
        have hrow16'h := Lib.hid hrow16
        clear H16 hrow16
        go_upto_region 23 with (first | (refine wpList_load_row rfl _ _ rfl w.heap.size rfl 25 (gpA x) (0, 0) _ H16'h.out.rows.2.2.1 Try.underlying25 rfl infoGp ?_) | (go_at_call 21; refine (FD'h.out _).mono ?_; rintro e w17 ⟨rfl, hb17⟩))
        have H17 := H16'h.out.next hb17
        have hrow17 := ownsRow_next hrow16'h.out hb17
        clear q0 q2 hb17
        have q2 : w17.cell? ⟨wr.heap.size, 2, none⟩ = some (.int .u8 (s.h2 : Int)) := blk_cell H17.rows.1 rfl
        have H17'h := Lib.hid H17
        have hrow17'h := Lib.hid hrow17
        clear H17 hrow17
        have EQ := equalN_same _ none _ 0 cap16 0 [] w17 (Sl.of_row hrow17'h.out (by decide)) (Sl.nil _ _)
        have EQ'h := Lib.hid EQ
        clear EQ
        go_wp2_with (first | (go_at_call 24; refine (EQ'h.out).mono ?_; rintro e w21 ⟨rfl, d21, rfl⟩))
        go_roundg (gk - 1)
        case measure => have := hq'h.out; omega
        case rel => exact ⟨k + 1, by have := hq'h.out; omega, by omega, by go_num, H17'h.out.tail.drewN d21⟩
    · have hn : ¬ (k : Int) < (n : Int) := by omega
      have hH'h := Lib.hid hH
      have hq'h := Lib.hid hq
      clear hH hq
      go_wp2
      go_ret
      exact ⟨rfl, hH'h.out.old⟩
theorem walk_GroupTells (x y : Gp) (sp : Option Addr) (n cap : Nat) (l : List Sl3) (w : World) (hx : GpOk x) (hy : GpOk y) (hin : SlIn w sp n cap l) :
    Calls Try.prog 3 #[.agg (gpA x), .agg (gpA y), .slice sp n cap] w fun e w' => e = .returned (.bool true) ∧ Below w.heap.size w w' := by
  cases hr : rightG x with
  | true => exact tells_yes x y sp n cap l w hx hy hin.sl hin.ok hr
  | false => exact tells_no x y sp n cap l w hx hy hin.sl hin.ok hr
end Go.Proofs.Ytfoohdjgnphdgaa
