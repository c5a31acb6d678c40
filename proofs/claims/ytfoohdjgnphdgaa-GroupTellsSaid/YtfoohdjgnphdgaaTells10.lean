/-
  GroupTells: which groups may be, are the same, which lanes are looked at, and what slots are.
-/
import Derived.Test.YtfoohdjgnphdgaaPq
import Derived.Test.YtfoohdjgnphdgaaOpenG
set_option linter.unusedSimpArgs false
set_option linter.unusedVariables false
set_option maxRecDepth 100000
namespace Go.Proofs.Ytfoohdjgnphdgaa
open Go.RowKit

theorem same_new : sameA gpNew gpNew = true := by decide +kernel
theorem nd10 (a b : Nat) (h : a = b) : ((a : Int) != (b : Int)) = false := by subst h; simp

theorem liveG_le (g : Gp) : (liveG g).length ≤ 8 := liveK_le g 8
theorem equalN_same (sp sp' : Option Addr) (n n' cap cap' : Nat) (l : List Nat) (w : World) (h : Sl w sp n (ints l)) (h' : Sl w sp' n' (ints l)) :
    Calls Try.prog 24 #[.slice sp n cap, .slice sp' n' cap'] w fun e w' => e = .returned (.bool true) ∧ ∃ d, w' = w.drewN d := by
  have e : ints l = (l.map (Nat.cast : Nat → Int)).map (Value.int .i64) := by unfold ints; rw [List.map_map]; rfl
  rw [e] at h h'
  have := equalI_any sp sp' n n' cap cap' _ _ w h h'
  rwa [beq_self_eq_true] at this
set_option maxHeartbeats 8000000 in
theorem tells_yes (x y : Gp) (sp : Option Addr) (n cap : Nat) (l : List Sl3) (w : World) (hx : GpOk x) (hy : GpOk y) (hS : SlK w 3 sp n (sls l)) (hl : ∀ s ∈ l, Sl3Ok s) (hr : rightG x = true) :
    Calls Try.prog 3 #[.agg (gpA x), .agg (gpA y), .slice sp n cap] w fun e w' => e = .returned (.bool true) ∧ Below w.heap.size w w' := by
  have hlen := sls_len hS
  have hmax := hS.2.1
  unfold maxLen at hmax
  have WK := fun w => wakes10_any w
  have RX := fun w => rgright_any x w hx
  have CX := fun w => gcheck_any x w hx
  have NG := fun w => gnew_any w
  have NR := fun w => rgnew_any w
  have FX := fun w => gfree_any x w hx
  have LX := fun w => live_any x w hx
  have RY := fun w => rgright_any y w hy
  have GS := fun w => gsame_any x y w hx hy (rightG_word hr)
  have RS := fun w => rgsame_any x y w hx hy
  have LR := fun w => rglive_any x w hx
  have FR := fun w => rgfree_any x w hx
  have hneq : ∀ w, (binOp .neq 25 (.agg (gpA gpNew)) (.agg (gpA gpNew))).run Try.prog w = .ok (.bool false) w := fun w => by rw [neq_group gpNew_ok gpNew_ok, same_new]; rfl
  have e1 : gchkE x = 0 := by unfold gchkE; rw [if_pos hr]
  have e2 : liveR x = liveG x := by unfold liveR; rw [if_pos hr]
  have e3 : freeN x 0 = emptyN x := by unfold freeN; rw [if_pos hr, if_pos rfl]
  have e4 : freeN x 1 = deadN x := by unfold freeN; rw [if_pos hr, if_neg (by decide)]
  rw [hr] at RX
  rw [e1] at CX
  rw [e2] at LX
  rw [e3, e4] at FX
  have hO := (Hs.nil w).new2 (gpA x) (gpA y) 25 25
  obtain ⟨W, hW⟩ : ∃ W, W = (w.alloc (.cells (gpA x) 25)).alloc (.cells (gpA y) 25) := ⟨_, rfl⟩
  rw [← hW] at hO
  generalize emptyN x = ne at *
  generalize deadN x = nd at *
  generalize sameG x y = sm at *
  have hlv : (liveG x).length ≤ maxLen := Nat.le_trans (liveG_le x) (by decide)
  generalize liveG x = lv at *
  clear e1 e2 e3 e4
  have hS'h := Lib.hid hS
  have hl'h := Lib.hid hl
  have hr'h := Lib.hid hr
  have hlen'h := Lib.hid hlen
  have hmax'h := Lib.hid hmax
  have WK'h := Lib.hid WK
  have RX'h := Lib.hid RX
  have CX'h := Lib.hid CX
  have NG'h := Lib.hid NG
  have NR'h := Lib.hid NR
  have FX'h := Lib.hid FX
  have LX'h := Lib.hid LX
  have RY'h := Lib.hid RY
  have GS'h := Lib.hid GS
  have RS'h := Lib.hid RS
  have LR'h := Lib.hid LR
  have FR'h := Lib.hid FR
  have hO'h := Lib.hid hO
  have hx'h := Lib.hid hx
  have hy'h := Lib.hid hy
  have hlv'h := Lib.hid hlv
  clear hS hl hr hlen hmax WK RX CX NG NR FX LX RY GS RS LR FR hO hx hy hlv
  go_enter Try.func3, Try.ntmps3
  go_upto_region 1 with fail
  change Code.wp _ _ _ _ ((w.alloc (.cells (gpA x) 25)).alloc (.cells (gpA y) 25))
  rw [← hW]
  clear hW
  go_upto_region 3 with (first | (go_at_call 8; refine (WK'h.out _).mono ?_; rintro e w1 ⟨rfl, hb1⟩))
  have H1 := hO'h.out.next hb1
  clear hb1
  have H1'h := Lib.hid H1
  clear H1
  go_upto_region 5 with (first | (refine wpList_load_row rfl _ _ rfl w.heap.size rfl 25 (gpA x) (0, 0) _ H1'h.out.rows.2.1 Try.underlying25 rfl infoGp ?_) | (go_at_call 9; refine (RX'h.out _).mono ?_; rintro e w2 ⟨rfl, hb2⟩; have H2 := H1'h.out.next hb2; have H2'h := Lib.hid H2; clear H2 hb2) | (refine wpList_load_row rfl _ _ rfl w.heap.size rfl 25 (gpA x) (0, 0) _ H2'h.out.rows.2.1 Try.underlying25 rfl infoGp ?_) | (go_at_call 10; refine (CX'h.out _).mono ?_; rintro e w3 ⟨rfl, hb3⟩; have H3 := H2'h.out.next hb3; have H3'h := Lib.hid H3; clear H3 hb3))
  go_upto_region 7 with (first | (go_at_call 11; refine (NG'h.out _).mono ?_; rintro e w4 ⟨rfl, hb4⟩; have H4 := H3'h.out.next hb4; have H4'h := Lib.hid H4; clear H4 hb4) | (go_at_call 12; refine (NR'h.out _).mono ?_; rintro e w5 ⟨rfl, hb5⟩; have H5 := H4'h.out.next hb5; have H5'h := Lib.hid H5; clear H5 hb5))
  have H6 := H5'h.out.drew
  refine wp_region_heldQ (fun w' => w'.heap[w.heap.size]? = some (.cells (gpA x) 25 (0, 0)) ∧ w'.heap[w.heap.size + 1]? = some (.cells (gpA y) 25 (0, 0))) 99 (by kernel_rfl) ?_
  generalize w5.drew = V at H6 ⊢
  have R6 := And.intro H6.rows.2.1 H6.rows.1
  cases hry : rightG y with
  | true =>
    rw [hry] at RY'h
    refine wpAnyF_take (i := 0) (v := .bool true) rfl (by kernel_rfl) (by kernel_rfl) (by kernel_rfl) (by kernel_rfl) (fun _ _ _ h => h) (Or.inl ⟨by kernel_rfl, fun w hSw => by (try dsimp only at hSw); go_simp⟩) R6 ?_; try simp only [Act.put, List.getElem_toArray, List.getElem_cons_succ, List.getElem_cons_zero, List.setIfInBounds_toArray, List.set_cons_zero, List.set_cons_succ]
    refine wpAnyF_take (i := 1) (v := .bool true) rfl (by kernel_rfl) (by kernel_rfl) (by kernel_rfl) (by kernel_rfl) (fun _ _ _ h => h) (Or.inl ⟨by kernel_rfl, fun w hSw => by (try dsimp only at hSw); go_simp⟩) R6 ?_; try simp only [Act.put, List.getElem_toArray, List.getElem_cons_succ, List.getElem_cons_zero, List.setIfInBounds_toArray, List.set_cons_zero, List.set_cons_succ]
    refine wpAnyF_take (i := 2) (v := .agg (gpA y)) rfl (by kernel_rfl) (by kernel_rfl) (by kernel_rfl) (by kernel_rfl) (fun _ _ _ h => h) (Or.inl ⟨by kernel_rfl, fun w hSw => run_load_agg (by rfl) (by rfl) hSw.2 Try.underlying25 rfl infoGp⟩) R6 ?_; try simp only [Act.put, List.getElem_toArray, List.getElem_cons_succ, List.getElem_cons_zero, List.setIfInBounds_toArray, List.set_cons_zero, List.set_cons_succ]
    refine wpAnyF_one (i := 3) (by kernel_rfl) rfl (fun K hK => ?_); go_simp
    refine (RY'h.out _).mono ?_
    rintro e V1 ⟨rfl, hv1⟩
    dsimp only
    have H7 := H6.next hv1
    have R7 := And.intro H7.rows.2.1 H7.rows.1
    refine hK.out _ _ (fun _ => R7) ?_; clear hK K; try simp only [Act.put, List.getElem_toArray, List.getElem_cons_succ, List.getElem_cons_zero, List.setIfInBounds_toArray, List.set_cons_zero, List.set_cons_succ]
    refine wpAnyF_take (i := 4) (v := .bool true) rfl (by kernel_rfl) (by kernel_rfl) (by kernel_rfl) (by kernel_rfl) (fun _ _ _ h => h) (Or.inl ⟨by kernel_rfl, fun w hSw => by (try dsimp only at hSw); go_simp⟩) R7 ?_; try simp only [Act.put, List.getElem_toArray, List.getElem_cons_succ, List.getElem_cons_zero, List.setIfInBounds_toArray, List.set_cons_zero, List.set_cons_succ]
    refine wpAnyF_take (i := 5) (v := .bool true) rfl (by kernel_rfl) (by kernel_rfl) (by kernel_rfl) (by kernel_rfl) (fun _ _ _ h => h) (Or.inl ⟨by kernel_rfl, fun w hSw => by (try dsimp only at hSw); go_simp⟩) R7 ?_; try simp only [Act.put, List.getElem_toArray, List.getElem_cons_succ, List.getElem_cons_zero, List.setIfInBounds_toArray, List.set_cons_zero, List.set_cons_succ]
    refine wpAnyF_take (i := 6) (v := .agg (gpA x)) rfl (by kernel_rfl) (by kernel_rfl) (by kernel_rfl) (by kernel_rfl) (fun _ _ _ h => h) (Or.inl ⟨by kernel_rfl, fun w hSw => run_load_agg (by rfl) (by rfl) hSw.1 Try.underlying25 rfl infoGp⟩) R7 ?_; try simp only [Act.put, List.getElem_toArray, List.getElem_cons_succ, List.getElem_cons_zero, List.setIfInBounds_toArray, List.set_cons_zero, List.set_cons_succ]
    refine wpAnyF_take (i := 7) (v := .agg (gpA y)) rfl (by kernel_rfl) (by kernel_rfl) (by kernel_rfl) (by kernel_rfl) (fun _ _ _ h => h) (Or.inl ⟨by kernel_rfl, fun w hSw => run_load_agg (by rfl) (by rfl) hSw.2 Try.underlying25 rfl infoGp⟩) R7 ?_; try simp only [Act.put, List.getElem_toArray, List.getElem_cons_succ, List.getElem_cons_zero, List.setIfInBounds_toArray, List.set_cons_zero, List.set_cons_succ]
    refine wpAnyF_take (i := 9) (v := .agg (gpA x)) rfl (by kernel_rfl) (by kernel_rfl) (by kernel_rfl) (by kernel_rfl) (fun _ _ _ h => h) (Or.inl ⟨by kernel_rfl, fun w hSw => run_load_agg (by rfl) (by rfl) hSw.1 Try.underlying25 rfl infoGp⟩) R7 ?_; try simp only [Act.put, List.getElem_toArray, List.getElem_cons_succ, List.getElem_cons_zero, List.setIfInBounds_toArray, List.set_cons_zero, List.set_cons_succ]
    refine wpAnyF_take (i := 10) (v := .agg (gpA y)) rfl (by kernel_rfl) (by kernel_rfl) (by kernel_rfl) (by kernel_rfl) (fun _ _ _ h => h) (Or.inl ⟨by kernel_rfl, fun w hSw => run_load_agg (by rfl) (by rfl) hSw.2 Try.underlying25 rfl infoGp⟩) R7 ?_; try simp only [Act.put, List.getElem_toArray, List.getElem_cons_succ, List.getElem_cons_zero, List.setIfInBounds_toArray, List.set_cons_zero, List.set_cons_succ]
    refine wpAnyF_one (i := 8) (by kernel_rfl) rfl (fun K hK => ?_); go_simp
    refine (GS'h.out _).mono ?_
    rintro e V2 ⟨rfl, hv2⟩
    dsimp only
    have H8 := H7.next hv2
    have R8 := And.intro H8.rows.2.1 H8.rows.1
    refine hK.out _ _ (fun _ => R8) ?_; clear hK K; try simp only [Act.put, List.getElem_toArray, List.getElem_cons_succ, List.getElem_cons_zero, List.setIfInBounds_toArray, List.set_cons_zero, List.set_cons_succ]
    refine wpAnyF_one (i := 11) (by kernel_rfl) rfl (fun K hK => ?_); go_simp
    refine (RS'h.out _).mono ?_
    rintro e V3 ⟨rfl, hv3⟩
    dsimp only
    have H9 := H8.next hv3
    have R9 := And.intro H9.rows.2.1 H9.rows.1
    refine hK.out _ _ (fun _ => R9) ?_; clear hK K; try simp only [Act.put, List.getElem_toArray, List.getElem_cons_succ, List.getElem_cons_zero, List.setIfInBounds_toArray, List.set_cons_zero, List.set_cons_succ]
    refine wpAnyF_take (i := 12) (v := .bool false) rfl (by kernel_rfl) (by kernel_rfl) (by kernel_rfl) (by kernel_rfl) (fun _ _ _ h => h) (Or.inl ⟨by kernel_rfl, fun w hSw => by (try dsimp only at hSw); go_simp⟩) R9 ?_; try simp only [Act.put, List.getElem_toArray, List.getElem_cons_succ, List.getElem_cons_zero, List.setIfInBounds_toArray, List.set_cons_zero, List.set_cons_succ]
    refine wpAnyF_take (i := 13) (v := .bool false) rfl (by kernel_rfl) (by kernel_rfl) (by kernel_rfl) (by kernel_rfl) (fun _ _ _ h => h) (Or.inl ⟨by kernel_rfl, fun w hSw => by (try dsimp only at hSw); go_simp⟩) R9 ?_; try simp only [Act.put, List.getElem_toArray, List.getElem_cons_succ, List.getElem_cons_zero, List.setIfInBounds_toArray, List.set_cons_zero, List.set_cons_succ]
    refine wpAnyF_done (by kernel_rfl) ?_ _
    refine noPanic_normal ?_
    clear R6 R7 R8 R9 H6 H7 H8 hv1 hv2 hv3
    have H9'h := Lib.hid H9
    clear H9
    go_upto_region 15 with (first | (refine wpList_load_row rfl _ _ rfl w.heap.size rfl 25 (gpA x) (0, 0) _ H9'h.out.rows.2.1 Try.underlying25 rfl infoGp ?_) | (go_at_call 15; refine (LR'h.out _).mono ?_; rintro e w6 ⟨sp6, n6, cap6, rfl, hb6, hrow6⟩; have H10 := H9'h.out.next hb6; have hsz6 := hb6.size; have H10'h := Lib.hid H10; obtain rfl := row_len' hrow6; have hrow6'h := Lib.hid hrow6; clear H10 hb6 hrow6) | (refine wpList_load_row rfl _ _ rfl w.heap.size rfl 25 (gpA x) (0, 0) _ H10'h.out.rows.2.1 Try.underlying25 rfl infoGp ?_) | (go_at_call 16; refine (FR'h.out _).mono ?_; rintro e w7 ⟨rfl, hb7⟩; have H11 := H10'h.out.next hb7; have H11'h := Lib.hid H11; have hrow7 := ownsRow_next hrow6'h.out hb7; have hrow7'h := Lib.hid hrow7; clear H11 hb7 hrow7) | (refine wpList_load_row rfl _ _ rfl w.heap.size rfl 25 (gpA x) (0, 0) _ H11'h.out.rows.2.1 Try.underlying25 rfl infoGp ?_) | (go_at_call 17; refine (FX'h.out _).mono ?_; rintro e w8 ⟨rfl, hb8⟩; have H12 := H11'h.out.next hb8; have H12'h := Lib.hid H12; have hrow8 := ownsRow_next hrow7'h.out hb8; have hrow8'h := Lib.hid hrow8; clear H12 hb8 hrow8))
    go_upto_region 17 with (first | (refine wpList_load_row rfl _ _ rfl w.heap.size rfl 25 (gpA x) (0, 0) _ H12'h.out.rows.2.1 Try.underlying25 rfl infoGp ?_) | (go_at_call 19; refine (LX'h.out _).mono ?_; rintro e w9 ⟨sp9, n9, cap9, rfl, hb9, hrow9⟩; have H13 := H12'h.out.next hb9; have H13'h := Lib.hid H13; obtain rfl := row_len' hrow9; have EQ := equalS_any _ _ _ _ cap9 cap6 lv lv w9 (SlK.of_row hrow9 hlv'h.out) (SlK.of_row (ownsRow_next hrow8'h.out hb9) hlv'h.out); rw [decide_eq_true (rfl : lv = lv)] at EQ; have EQ'h := Lib.hid EQ; clear H13 hb9 hrow9 EQ) | (go_at_call 18; refine (EQ'h.out).mono ?_; rintro e w10 ⟨rfl, d10, rfl⟩))
    have H14 := H13'h.out.drewN d10
    generalize w9.drewN d10 = w11 at H14 ⊢
    have H14'h := Lib.hid H14
    clear H14
    go_wp2_with fail
    go_loopg [93] n (fun q i wr => ∃ k : Nat, k + q = n ∧ k ≤ 10 ∧ i = .int .i64 k ∧ Hs w [(w.heap.size + 1, gpA y, 25), (w.heap.size, gpA x, 25)] wr)
    case atStart => exact ⟨0, by omega, by omega, rfl, H14'h.out⟩
    case round =>
      obtain ⟨k, hq, hk10, rfl, hH⟩ := hrel
      by_cases hlt : k < n
      · have hkl : k < l.length := by have := hlen'h.out; omega
        have hSr := hS'h.out.below hH.old
        obtain ⟨rb, ro, rfl, -⟩ := hSr.some' (by omega)
        obtain ⟨c0, c1, c2⟩ := sls_cells hSr hkl
        obtain ⟨s, hs⟩ : ∃ s, s = nthS l k := ⟨_, rfl⟩
        have hsok := hl'h.out _ (nthS_mem hkl)
        rw [← hs] at c0 c1 c2 hsok
        have hi1 : (k : Int) < (n : Int) := by omega
        have h0k : (0 : Int) ≤ (k : Int) := by omega
        clear hs hlt
        by_cases h10 : k = 10
        · have h10' : ((k : Int) == 10) = true := by rw [h10]; rfl
          clear h10
          have HN := hH.old.alloc hH.old.size (.cells (slA s) 38)
          have hq'h := Lib.hid hq
          have hH'h := Lib.hid hH
          have hkl'h := Lib.hid hkl
          have hSr'h := Lib.hid hSr
          have hsok'h := Lib.hid hsok
          have HN'h := Lib.hid HN
          clear hq hH hkl hSr hsok HN
          go_wp2
          go_ret
          exact ⟨rfl, HN'h.out⟩
        · have h10' : ((k : Int) == 10) = false := by simp; omega
          have hk9 : k < 10 := by omega
          clear h10
          have H15 := hH.new (slA s) 38
          have LK := fun w => looks_any x s.h2 w hx'h.out hsok.h2
          have FD := fun w => find_any x s.key s.h2 w hx'h.out hsok.key hsok.h2
          by_cases h127 : s.h2 ≤ 127
          · have hh : ((s.h2 : Int) ≤ 127) := by omega
            have RLK := fun w => rglooks_any x s.h2 w hx'h.out
            have RFD := fun w => rgfind_any x s.key s.h2 w hx'h.out
            have e1 : looksE x s.h2 = 0 := by unfold looksE; rw [if_pos hr'h.out, if_pos h127]
            have e2 : looksR x s.h2 = looksG x s.h2 := by unfold looksR; rw [if_pos e1]
            rw [e1, e2] at LK
            cases hf : foundG x s.key s.h2 with
            | true =>
              have e3 : findE x s.key s.h2 = 0 := by unfold findE; rw [if_pos e1, if_pos hf]
              have e4 : findL x s.key s.h2 = laneG x s.key s.h2 := by unfold findL; rw [if_pos e3]
              have e5 : findN x s.key s.h2 = placeG x s.key s.h2 + 1 := by unfold findN; rw [if_pos e3]
              have e6 : rfindL x s.key s.h2 = (laneG x s.key s.h2 : Int) := by unfold rfindL; rw [if_pos hf]
              have e7 : rfindN x s.key s.h2 = placeG x s.key s.h2 + 1 := by unfold rfindN; rw [if_pos hf]
              rw [e3, e4, e5] at FD
              rw [e6, e7] at RFD
              generalize laneG x s.key s.h2 = ln at *
              generalize placeG x s.key s.h2 + 1 = pn at *
              have hlk : (looksG x s.h2).length ≤ maxLen := Nat.le_trans (looksK_le x s.h2 8) (by decide)
              generalize looksG x s.h2 = lk at *
              have hge : (0 : Int) ≤ (ln : Int) := by omega
              clear e1 e2 e3 e4 e5 e6 e7 h127 hf
              have hq'h := Lib.hid hq
              have hH'h := Lib.hid hH
              have hkl'h := Lib.hid hkl
              have hSr'h := Lib.hid hSr
              have hsok'h := Lib.hid hsok
              have H15'h := Lib.hid H15
              have LK'h := Lib.hid LK
              have FD'h := Lib.hid FD
              have RLK'h := Lib.hid RLK
              have RFD'h := Lib.hid RFD
              have hlk'h := Lib.hid hlk
              clear hq hH hkl hSr hsok H15 LK FD RLK RFD hlk
              go_upto_region 21 with fail
              change Code.wp _ _ _ _ (wr.alloc (.cells (slA s) 38))
              have H15 := H15'h.out
              clear H15'h
              generalize wr.alloc _ = w15 at H15 ⊢
              have q2 : w15.cell? ⟨wr.heap.size, 2, none⟩ = some (.int .u8 (s.h2 : Int)) := blk_cell H15.rows.1 rfl
              have H15'h := Lib.hid H15
              clear H15
              go_upto_region 22 with (first | (refine wpList_load_row rfl _ _ rfl w.heap.size rfl 25 (gpA x) (0, 0) _ H15'h.out.rows.2.2.1 Try.underlying25 rfl infoGp ?_) | (go_at_call 20; refine (LK'h.out _).mono ?_; rintro e w16 ⟨sp16, n16, cap16, rfl, hb16, hrow16⟩))
              have H16 := H15'h.out.next hb16
              obtain rfl := row_len' hrow16
              clear q2 hb16
              have q0 : w16.cell? ⟨wr.heap.size, 0, none⟩ = some (.int .u64 (s.key : Int)) := blk_cell H16.rows.1 rfl
              have q2 : w16.cell? ⟨wr.heap.size, 2, none⟩ = some (.int .u8 (s.h2 : Int)) := blk_cell H16.rows.1 rfl
              have H16'h := Lib.hid H16
              have hrow16'h := Lib.hid hrow16
              clear H16 hrow16
              go_upto_region 23 with (first | (refine wpList_load_row rfl _ _ rfl w.heap.size rfl 25 (gpA x) (0, 0) _ H16'h.out.rows.2.2.1 Try.underlying25 rfl infoGp ?_) | (go_at_call 21; refine (FD'h.out _).mono ?_; rintro e w17 ⟨rfl, hb17⟩))
              have H17 := H16'h.out.next hb17
              have hrow17 := ownsRow_next hrow16'h.out hb17
              clear q0 q2 hb17
              have q2 : w17.cell? ⟨wr.heap.size, 2, none⟩ = some (.int .u8 (s.h2 : Int)) := blk_cell H17.rows.1 rfl
              have H17'h := Lib.hid H17
              have hrow17'h := Lib.hid hrow17
              clear H17 hrow17
              go_upto_region 29 with (first | (refine wpList_load_row rfl _ _ rfl w.heap.size rfl 25 (gpA x) (0, 0) _ H17'h.out.rows.2.2.1 Try.underlying25 rfl infoGp ?_) | (go_at_call 22; refine (RLK'h.out _).mono ?_; rintro e w18 ⟨sp18, n18, cap18, rfl, hb18, hrow18⟩))
              have H18 := H17'h.out.next hb18
              obtain rfl := row_len' hrow18
              have hrow19 := ownsRow_next hrow17'h.out hb18
              clear q2 hb18
              have q0 : w18.cell? ⟨wr.heap.size, 0, none⟩ = some (.int .u64 (s.key : Int)) := blk_cell H18.rows.1 rfl
              have q2 : w18.cell? ⟨wr.heap.size, 2, none⟩ = some (.int .u8 (s.h2 : Int)) := blk_cell H18.rows.1 rfl
              have H18'h := Lib.hid H18
              have hrow18'h := Lib.hid hrow18
              have hrow19'h := Lib.hid hrow19
              clear H18 hrow18 hrow19
              go_upto_region 33 with (first | (refine wpList_load_row rfl _ _ rfl w.heap.size rfl 25 (gpA x) (0, 0) _ H18'h.out.rows.2.2.1 Try.underlying25 rfl infoGp ?_) | (go_at_call 23; refine (RFD'h.out _).mono ?_; rintro e w20 ⟨rfl, hb20⟩))
              have H20 := H18'h.out.next hb20
              have EQ := equalN_same _ _ _ _ cap16 cap18 lk w20 (Sl.of_row (ownsRow_next hrow19'h.out hb20) hlk'h.out) (Sl.of_row (ownsRow_next hrow18'h.out hb20) hlk'h.out)
              clear q0 q2 hb20
              have H20'h := Lib.hid H20
              have EQ'h := Lib.hid EQ
              clear H20 EQ
              go_wp2_with (first | (go_at_call 24; refine (EQ'h.out).mono ?_; rintro e w21 ⟨rfl, d21, rfl⟩))
              go_roundg (gk - 1)
              case measure => have := hq'h.out; omega
              case rel => exact ⟨k + 1, by have := hq'h.out; omega, by omega, by go_num, H20'h.out.tail.drewN d21⟩
            | false =>
              have e3 : findE x s.key s.h2 = 4 := by unfold findE; rw [if_pos e1, if_neg (by rw [hf]; decide)]
              have e4 : findL x s.key s.h2 = 0 := by unfold findL; rw [if_neg (by rw [e3]; decide)]
              have e5 : findN x s.key s.h2 = 0 := by unfold findN; rw [if_neg (by rw [e3]; decide)]
              have e6 : rfindL x s.key s.h2 = -1 := by unfold rfindL; rw [if_neg (by rw [hf]; decide)]
              have e7 : rfindN x s.key s.h2 = 0 := by unfold rfindN; rw [if_neg (by rw [hf]; decide)]
              rw [e3, e4, e5] at FD
              rw [e6, e7] at RFD
              have hlk : (looksG x s.h2).length ≤ maxLen := Nat.le_trans (looksK_le x s.h2 8) (by decide)
              generalize looksG x s.h2 = lk at *
              clear e1 e2 e3 e4 e5 e6 e7 h127 hf
              have hq'h := Lib.hid hq
              have hH'h := Lib.hid hH
              have hkl'h := Lib.hid hkl
              have hSr'h := Lib.hid hSr
              have hsok'h := Lib.hid hsok
              have H15'h := Lib.hid H15
              have LK'h := Lib.hid LK
              have FD'h := Lib.hid FD
              have RLK'h := Lib.hid RLK
              have RFD'h := Lib.hid RFD
              have hlk'h := Lib.hid hlk
              clear hq hH hkl hSr hsok H15 LK FD RLK RFD hlk
              go_upto_region 21 with fail
              change Code.wp _ _ _ _ (wr.alloc (.cells (slA s) 38))
              have H15 := H15'h.out
              clear H15'h
              generalize wr.alloc _ = w15 at H15 ⊢
              have q2 : w15.cell? ⟨wr.heap.size, 2, none⟩ = some (.int .u8 (s.h2 : Int)) := blk_cell H15.rows.1 rfl
              have H15'h := Lib.hid H15
              clear H15
              go_upto_region 22 with (first | (refine wpList_load_row rfl _ _ rfl w.heap.size rfl 25 (gpA x) (0, 0) _ H15'h.out.rows.2.2.1 Try.underlying25 rfl infoGp ?_) | (go_at_call 20; refine (LK'h.out _).mono ?_; rintro e w16 ⟨sp16, n16, cap16, rfl, hb16, hrow16⟩))
              have H16 := H15'h.out.next hb16
              obtain rfl := row_len' hrow16
              clear q2 hb16
              have q0 : w16.cell? ⟨wr.heap.size, 0, none⟩ = some (.int .u64 (s.key : Int)) := blk_cell H16.rows.1 rfl
              have q2 : w16.cell? ⟨wr.heap.size, 2, none⟩ = some (.int .u8 (s.h2 : Int)) := blk_cell H16.rows.1 rfl
              have H16'h := Lib.hid H16
              have hrow16'h := Lib.hid hrow16
              clear H16 hrow16
              go_upto_region 23 with (first | (refine wpList_load_row rfl _ _ rfl w.heap.size rfl 25 (gpA x) (0, 0) _ H16'h.out.rows.2.2.1 Try.underlying25 rfl infoGp ?_) | (go_at_call 21; refine (FD'h.out _).mono ?_; rintro e w17 ⟨rfl, hb17⟩))
              have H17 := H16'h.out.next hb17
              have hrow17 := ownsRow_next hrow16'h.out hb17
              clear q0 q2 hb17
              have q2 : w17.cell? ⟨wr.heap.size, 2, none⟩ = some (.int .u8 (s.h2 : Int)) := blk_cell H17.rows.1 rfl
              have H17'h := Lib.hid H17
              have hrow17'h := Lib.hid hrow17
              clear H17 hrow17
              go_upto_region 29 with (first | (refine wpList_load_row rfl _ _ rfl w.heap.size rfl 25 (gpA x) (0, 0) _ H17'h.out.rows.2.2.1 Try.underlying25 rfl infoGp ?_) | (go_at_call 22; refine (RLK'h.out _).mono ?_; rintro e w18 ⟨sp18, n18, cap18, rfl, hb18, hrow18⟩))
              have H18 := H17'h.out.next hb18
              obtain rfl := row_len' hrow18
              have hrow19 := ownsRow_next hrow17'h.out hb18
              clear q2 hb18
              have q0 : w18.cell? ⟨wr.heap.size, 0, none⟩ = some (.int .u64 (s.key : Int)) := blk_cell H18.rows.1 rfl
              have q2 : w18.cell? ⟨wr.heap.size, 2, none⟩ = some (.int .u8 (s.h2 : Int)) := blk_cell H18.rows.1 rfl
              have H18'h := Lib.hid H18
              have hrow18'h := Lib.hid hrow18
              have hrow19'h := Lib.hid hrow19
              clear H18 hrow18 hrow19
              go_upto_region 33 with (first | (refine wpList_load_row rfl _ _ rfl w.heap.size rfl 25 (gpA x) (0, 0) _ H18'h.out.rows.2.2.1 Try.underlying25 rfl infoGp ?_) | (go_at_call 23; refine (RFD'h.out _).mono ?_; rintro e w20 ⟨rfl, hb20⟩))
              have H20 := H18'h.out.next hb20
              have EQ := equalN_same _ _ _ _ cap16 cap18 lk w20 (Sl.of_row (ownsRow_next hrow19'h.out hb20) hlk'h.out) (Sl.of_row (ownsRow_next hrow18'h.out hb20) hlk'h.out)
              clear q0 q2 hb20
              have H20'h := Lib.hid H20
              have EQ'h := Lib.hid EQ
              clear H20 EQ
              go_wp2_with (first | (go_at_call 24; refine (EQ'h.out).mono ?_; rintro e w21 ⟨rfl, d21, rfl⟩))
              go_roundg (gk - 1)
              case measure => have := hq'h.out; omega
              case rel => exact ⟨k + 1, by have := hq'h.out; omega, by omega, by go_num, H20'h.out.tail.drewN d21⟩
          · have hh : ¬ ((s.h2 : Int) ≤ 127) := by omega
            have e1 : looksE x s.h2 = 2 := by unfold looksE; rw [if_pos hr'h.out, if_neg h127]
            have e2 : looksR x s.h2 = [] := by unfold looksR; rw [if_neg (by rw [e1]; decide)]
            have e3 : findE x s.key s.h2 = 2 := by unfold findE; rw [if_neg (by rw [e1]; decide), e1]
            have e4 : findL x s.key s.h2 = 0 := by unfold findL; rw [if_neg (by rw [e3]; decide)]
            have e5 : findN x s.key s.h2 = 0 := by unfold findN; rw [if_neg (by rw [e3]; decide)]
            rw [e1, e2] at LK
            rw [e3, e4, e5] at FD
            clear e1 e2 e3 e4 e5 h127
            have hq'h := Lib.hid hq
            have hH'h := Lib.hid hH
            have hkl'h := Lib.hid hkl
            have hSr'h := Lib.hid hSr
            have hsok'h := Lib.hid hsok
            have H15'h := Lib.hid H15
            have LK'h := Lib.hid LK
            have FD'h := Lib.hid FD
            clear hq hH hkl hSr hsok H15 LK FD
            go_upto_region 21 with fail
            change Code.wp _ _ _ _ (wr.alloc (.cells (slA s) 38))
            have H15 := H15'h.out
            clear H15'h
            generalize wr.alloc _ = w15 at H15 ⊢
            have q2 : w15.cell? ⟨wr.heap.size, 2, none⟩ = some (.int .u8 (s.h2 : Int)) := blk_cell H15.rows.1 rfl
            have H15'h := Lib.hid H15
            clear H15
            go_upto_region 22 with (first | (refine wpList_load_row rfl _ _ rfl w.heap.size rfl 25 (gpA x) (0, 0) _ H15'h.out.rows.2.2.1 Try.underlying25 rfl infoGp ?_) | (go_at_call 20; refine (LK'h.out _).mono ?_; rintro e w16 ⟨sp16, n16, cap16, rfl, hb16, hrow16⟩))
            have H16 := H15'h.out.next hb16
            obtain rfl := row_len' hrow16
            clear q2 hb16
            have q0 : w16.cell? ⟨wr.heap.size, 0, none⟩ = some (.int .u64 (s.key : Int)) := blk_cell H16.rows.1 rfl
            have q2 : w16.cell? ⟨wr.heap.size, 2, none⟩ = some (.int .u8 (s.h2 : Int)) := blk_cell H16.rows.1 rfl
            have H16'h := Lib.hid H16
            have hrow16'h := Lib.hid hrow16
            clear H16 hrow16
            go_upto_region 23 with (first | (refine wpList_load_row rfl _ _ rfl w.heap.size rfl 25 (gpA x) (0, 0) _ H16'h.out.rows.2.2.1 Try.underlying25 rfl infoGp ?_) | (go_at_call 21; refine (FD'h.out _).mono ?_; rintro e w17 ⟨rfl, hb17⟩))
            have H17 := H16'h.out.next hb17
            have hrow17 := ownsRow_next hrow16'h.out hb17
            clear q0 q2 hb17
            have q2 : w17.cell? ⟨wr.heap.size, 2, none⟩ = some (.int .u8 (s.h2 : Int)) := blk_cell H17.rows.1 rfl
            have H17'h := Lib.hid H17
            have hrow17'h := Lib.hid hrow17
            clear H17 hrow17
            have EQ := equalN_same _ none _ 0 cap16 0 [] w17 (Sl.of_row hrow17'h.out (by decide)) (Sl.nil _ _)
            have EQ'h := Lib.hid EQ
            clear EQ
            go_wp2_with (first | (go_at_call 24; refine (EQ'h.out).mono ?_; rintro e w21 ⟨rfl, d21, rfl⟩))
            go_roundg (gk - 1)
            case measure => have := hq'h.out; omega
            case rel => exact ⟨k + 1, by have := hq'h.out; omega, by omega, by go_num, H17'h.out.tail.drewN d21⟩
      · have hn : ¬ (k : Int) < (n : Int) := by omega
        have hH'h := Lib.hid hH
        have hq'h := Lib.hid hq
        clear hH hq
        go_wp2
        go_ret
        exact ⟨rfl, hH'h.out.old⟩
  | false =>
    rw [hry] at RY'h
    refine wpAnyF_take (i := 0) (v := .bool true) rfl (by kernel_rfl) (by kernel_rfl) (by kernel_rfl) (by kernel_rfl) (fun _ _ _ h => h) (Or.inl ⟨by kernel_rfl, fun w hSw => by (try dsimp only at hSw); go_simp⟩) R6 ?_; try simp only [Act.put, List.getElem_toArray, List.getElem_cons_succ, List.getElem_cons_zero, List.setIfInBounds_toArray, List.set_cons_zero, List.set_cons_succ]
    refine wpAnyF_take (i := 1) (v := .bool true) rfl (by kernel_rfl) (by kernel_rfl) (by kernel_rfl) (by kernel_rfl) (fun _ _ _ h => h) (Or.inl ⟨by kernel_rfl, fun w hSw => by (try dsimp only at hSw); go_simp⟩) R6 ?_; try simp only [Act.put, List.getElem_toArray, List.getElem_cons_succ, List.getElem_cons_zero, List.setIfInBounds_toArray, List.set_cons_zero, List.set_cons_succ]
    refine wpAnyF_take (i := 2) (v := .agg (gpA y)) rfl (by kernel_rfl) (by kernel_rfl) (by kernel_rfl) (by kernel_rfl) (fun _ _ _ h => h) (Or.inl ⟨by kernel_rfl, fun w hSw => run_load_agg (by rfl) (by rfl) hSw.2 Try.underlying25 rfl infoGp⟩) R6 ?_; try simp only [Act.put, List.getElem_toArray, List.getElem_cons_succ, List.getElem_cons_zero, List.setIfInBounds_toArray, List.set_cons_zero, List.set_cons_succ]
    refine wpAnyF_one (i := 3) (by kernel_rfl) rfl (fun K hK => ?_); go_simp
    refine (RY'h.out _).mono ?_
    rintro e V1 ⟨rfl, hv1⟩
    dsimp only
    have H9 := H6.next hv1
    have R9 := And.intro H9.rows.2.1 H9.rows.1
    refine hK.out _ _ (fun _ => R9) ?_; clear hK K; try simp only [Act.put, List.getElem_toArray, List.getElem_cons_succ, List.getElem_cons_zero, List.setIfInBounds_toArray, List.set_cons_zero, List.set_cons_succ]
    refine wpAnyF_take (i := 4) (v := .bool false) rfl (by kernel_rfl) (by kernel_rfl) (by kernel_rfl) (by kernel_rfl) (fun _ _ _ h => h) (Or.inl ⟨by kernel_rfl, fun w hSw => by (try dsimp only at hSw); go_simp⟩) R9 ?_; try simp only [Act.put, List.getElem_toArray, List.getElem_cons_succ, List.getElem_cons_zero, List.setIfInBounds_toArray, List.set_cons_zero, List.set_cons_succ]
    refine wpAnyF_take (i := 5) (v := .bool false) rfl (by kernel_rfl) (by kernel_rfl) (by kernel_rfl) (by kernel_rfl) (fun _ _ _ h => h) (Or.inl ⟨by kernel_rfl, fun w hSw => by (try dsimp only at hSw); go_simp⟩) R9 ?_; try simp only [Act.put, List.getElem_toArray, List.getElem_cons_succ, List.getElem_cons_zero, List.setIfInBounds_toArray, List.set_cons_zero, List.set_cons_succ]
    refine wpAnyF_take (i := 6) (v := undef) rfl (by kernel_rfl) (by kernel_rfl) (by kernel_rfl) (by kernel_rfl) (fun _ _ _ h => h) (Or.inr ⟨by kernel_rfl, rfl⟩) R9 ?_; try simp only [Act.put, List.getElem_toArray, List.getElem_cons_succ, List.getElem_cons_zero, List.setIfInBounds_toArray, List.set_cons_zero, List.set_cons_succ]
    refine wpAnyF_take (i := 7) (v := undef) rfl (by kernel_rfl) (by kernel_rfl) (by kernel_rfl) (by kernel_rfl) (fun _ _ _ h => h) (Or.inr ⟨by kernel_rfl, rfl⟩) R9 ?_; try simp only [Act.put, List.getElem_toArray, List.getElem_cons_succ, List.getElem_cons_zero, List.setIfInBounds_toArray, List.set_cons_zero, List.set_cons_succ]
    refine wpAnyF_take (i := 9) (v := undef) rfl (by kernel_rfl) (by kernel_rfl) (by kernel_rfl) (by kernel_rfl) (fun _ _ _ h => h) (Or.inr ⟨by kernel_rfl, rfl⟩) R9 ?_; try simp only [Act.put, List.getElem_toArray, List.getElem_cons_succ, List.getElem_cons_zero, List.setIfInBounds_toArray, List.set_cons_zero, List.set_cons_succ]
    refine wpAnyF_take (i := 10) (v := undef) rfl (by kernel_rfl) (by kernel_rfl) (by kernel_rfl) (by kernel_rfl) (fun _ _ _ h => h) (Or.inr ⟨by kernel_rfl, rfl⟩) R9 ?_; try simp only [Act.put, List.getElem_toArray, List.getElem_cons_succ, List.getElem_cons_zero, List.setIfInBounds_toArray, List.set_cons_zero, List.set_cons_succ]
    refine wpAnyF_take (i := 8) (v := undef) rfl (by kernel_rfl) (by kernel_rfl) (by kernel_rfl) (by kernel_rfl) (fun _ _ _ h => h) (Or.inr ⟨by kernel_rfl, rfl⟩) R9 ?_; try simp only [Act.put, List.getElem_toArray, List.getElem_cons_succ, List.getElem_cons_zero, List.setIfInBounds_toArray, List.set_cons_zero, List.set_cons_succ]
    refine wpAnyF_take (i := 11) (v := undef) rfl (by kernel_rfl) (by kernel_rfl) (by kernel_rfl) (by kernel_rfl) (fun _ _ _ h => h) (Or.inr ⟨by kernel_rfl, rfl⟩) R9 ?_; try simp only [Act.put, List.getElem_toArray, List.getElem_cons_succ, List.getElem_cons_zero, List.setIfInBounds_toArray, List.set_cons_zero, List.set_cons_succ]
    refine wpAnyF_take (i := 12) (v := undef) rfl (by kernel_rfl) (by kernel_rfl) (by kernel_rfl) (by kernel_rfl) (fun _ _ _ h => h) (Or.inr ⟨by kernel_rfl, rfl⟩) R9 ?_; try simp only [Act.put, List.getElem_toArray, List.getElem_cons_succ, List.getElem_cons_zero, List.setIfInBounds_toArray, List.set_cons_zero, List.set_cons_succ]
    refine wpAnyF_take (i := 13) (v := .bool false) rfl (by kernel_rfl) (by kernel_rfl) (by kernel_rfl) (by kernel_rfl) (fun _ _ _ h => h) (Or.inl ⟨by kernel_rfl, fun w hSw => by (try dsimp only at hSw); go_simp⟩) R9 ?_; try simp only [Act.put, List.getElem_toArray, List.getElem_cons_succ, List.getElem_cons_zero, List.setIfInBounds_toArray, List.set_cons_zero, List.set_cons_succ]
    refine wpAnyF_done (by kernel_rfl) ?_ _
    refine noPanic_normal ?_
    clear R6 R9 H6 hv1
    have H9'h := Lib.hid H9
    clear H9
    go_upto_region 15 with (first | (refine wpList_load_row rfl _ _ rfl w.heap.size rfl 25 (gpA x) (0, 0) _ H9'h.out.rows.2.1 Try.underlying25 rfl infoGp ?_) | (go_at_call 15; refine (LR'h.out _).mono ?_; rintro e w6 ⟨sp6, n6, cap6, rfl, hb6, hrow6⟩; have H10 := H9'h.out.next hb6; have hsz6 := hb6.size; have H10'h := Lib.hid H10; obtain rfl := row_len' hrow6; have hrow6'h := Lib.hid hrow6; clear H10 hb6 hrow6) | (refine wpList_load_row rfl _ _ rfl w.heap.size rfl 25 (gpA x) (0, 0) _ H10'h.out.rows.2.1 Try.underlying25 rfl infoGp ?_) | (go_at_call 16; refine (FR'h.out _).mono ?_; rintro e w7 ⟨rfl, hb7⟩; have H11 := H10'h.out.next hb7; have H11'h := Lib.hid H11; have hrow7 := ownsRow_next hrow6'h.out hb7; have hrow7'h := Lib.hid hrow7; clear H11 hb7 hrow7) | (refine wpList_load_row rfl _ _ rfl w.heap.size rfl 25 (gpA x) (0, 0) _ H11'h.out.rows.2.1 Try.underlying25 rfl infoGp ?_) | (go_at_call 17; refine (FX'h.out _).mono ?_; rintro e w8 ⟨rfl, hb8⟩; have H12 := H11'h.out.next hb8; have H12'h := Lib.hid H12; have hrow8 := ownsRow_next hrow7'h.out hb8; have hrow8'h := Lib.hid hrow8; clear H12 hb8 hrow8))
    go_upto_region 17 with (first | (refine wpList_load_row rfl _ _ rfl w.heap.size rfl 25 (gpA x) (0, 0) _ H12'h.out.rows.2.1 Try.underlying25 rfl infoGp ?_) | (go_at_call 19; refine (LX'h.out _).mono ?_; rintro e w9 ⟨sp9, n9, cap9, rfl, hb9, hrow9⟩; have H13 := H12'h.out.next hb9; have H13'h := Lib.hid H13; obtain rfl := row_len' hrow9; have EQ := equalS_any _ _ _ _ cap9 cap6 lv lv w9 (SlK.of_row hrow9 hlv'h.out) (SlK.of_row (ownsRow_next hrow8'h.out hb9) hlv'h.out); rw [decide_eq_true (rfl : lv = lv)] at EQ; have EQ'h := Lib.hid EQ; clear H13 hb9 hrow9 EQ) | (go_at_call 18; refine (EQ'h.out).mono ?_; rintro e w10 ⟨rfl, d10, rfl⟩))
    have H14 := H13'h.out.drewN d10
    generalize w9.drewN d10 = w11 at H14 ⊢
    have H14'h := Lib.hid H14
    clear H14
    go_wp2_with fail
    go_loopg [93] n (fun q i wr => ∃ k : Nat, k + q = n ∧ k ≤ 10 ∧ i = .int .i64 k ∧ Hs w [(w.heap.size + 1, gpA y, 25), (w.heap.size, gpA x, 25)] wr)
    case atStart => exact ⟨0, by omega, by omega, rfl, H14'h.out⟩
    case round =>
      obtain ⟨k, hq, hk10, rfl, hH⟩ := hrel
      by_cases hlt : k < n
      · have hkl : k < l.length := by have := hlen'h.out; omega
        have hSr := hS'h.out.below hH.old
        obtain ⟨rb, ro, rfl, -⟩ := hSr.some' (by omega)
        obtain ⟨c0, c1, c2⟩ := sls_cells hSr hkl
        obtain ⟨s, hs⟩ : ∃ s, s = nthS l k := ⟨_, rfl⟩
        have hsok := hl'h.out _ (nthS_mem hkl)
        rw [← hs] at c0 c1 c2 hsok
        have hi1 : (k : Int) < (n : Int) := by omega
        have h0k : (0 : Int) ≤ (k : Int) := by omega
        clear hs hlt
        by_cases h10 : k = 10
        · have h10' : ((k : Int) == 10) = true := by rw [h10]; rfl
          clear h10
          have HN := hH.old.alloc hH.old.size (.cells (slA s) 38)
          have hq'h := Lib.hid hq
          have hH'h := Lib.hid hH
          have hkl'h := Lib.hid hkl
          have hSr'h := Lib.hid hSr
          have hsok'h := Lib.hid hsok
          have HN'h := Lib.hid HN
          clear hq hH hkl hSr hsok HN
          go_wp2
          go_ret
          exact ⟨rfl, HN'h.out⟩
        · have h10' : ((k : Int) == 10) = false := by simp; omega
          have hk9 : k < 10 := by omega
          clear h10
          have H15 := hH.new (slA s) 38
          have LK := fun w => looks_any x s.h2 w hx'h.out hsok.h2
          have FD := fun w => find_any x s.key s.h2 w hx'h.out hsok.key hsok.h2
          by_cases h127 : s.h2 ≤ 127
          · have hh : ((s.h2 : Int) ≤ 127) := by omega
            have RLK := fun w => rglooks_any x s.h2 w hx'h.out
            have RFD := fun w => rgfind_any x s.key s.h2 w hx'h.out
            have e1 : looksE x s.h2 = 0 := by unfold looksE; rw [if_pos hr'h.out, if_pos h127]
            have e2 : looksR x s.h2 = looksG x s.h2 := by unfold looksR; rw [if_pos e1]
            rw [e1, e2] at LK
            cases hf : foundG x s.key s.h2 with
            | true =>
              have e3 : findE x s.key s.h2 = 0 := by unfold findE; rw [if_pos e1, if_pos hf]
              have e4 : findL x s.key s.h2 = laneG x s.key s.h2 := by unfold findL; rw [if_pos e3]
              have e5 : findN x s.key s.h2 = placeG x s.key s.h2 + 1 := by unfold findN; rw [if_pos e3]
              have e6 : rfindL x s.key s.h2 = (laneG x s.key s.h2 : Int) := by unfold rfindL; rw [if_pos hf]
              have e7 : rfindN x s.key s.h2 = placeG x s.key s.h2 + 1 := by unfold rfindN; rw [if_pos hf]
              rw [e3, e4, e5] at FD
              rw [e6, e7] at RFD
              generalize laneG x s.key s.h2 = ln at *
              generalize placeG x s.key s.h2 + 1 = pn at *
              have hlk : (looksG x s.h2).length ≤ maxLen := Nat.le_trans (looksK_le x s.h2 8) (by decide)
              generalize looksG x s.h2 = lk at *
              have hge : (0 : Int) ≤ (ln : Int) := by omega
              clear e1 e2 e3 e4 e5 e6 e7 h127 hf
              have hq'h := Lib.hid hq
              have hH'h := Lib.hid hH
              have hkl'h := Lib.hid hkl
              have hSr'h := Lib.hid hSr
              have hsok'h := Lib.hid hsok
              have H15'h := Lib.hid H15
              have LK'h := Lib.hid LK
              have FD'h := Lib.hid FD
              have RLK'h := Lib.hid RLK
              have RFD'h := Lib.hid RFD
              have hlk'h := Lib.hid hlk
              clear hq hH hkl hSr hsok H15 LK FD RLK RFD hlk
              go_upto_region 21 with fail
              change Code.wp _ _ _ _ (wr.alloc (.cells (slA s) 38))
              have H15 := H15'h.out
              clear H15'h
              generalize wr.alloc _ = w15 at H15 ⊢
              have q2 : w15.cell? ⟨wr.heap.size, 2, none⟩ = some (.int .u8 (s.h2 : Int)) := blk_cell H15.rows.1 rfl
              have H15'h := Lib.hid H15
              clear H15
              go_upto_region 22 with (first | (refine wpList_load_row rfl _ _ rfl w.heap.size rfl 25 (gpA x) (0, 0) _ H15'h.out.rows.2.2.1 Try.underlying25 rfl infoGp ?_) | (go_at_call 20; refine (LK'h.out _).mono ?_; rintro e w16 ⟨sp16, n16, cap16, rfl, hb16, hrow16⟩))
              have H16 := H15'h.out.next hb16
              obtain rfl := row_len' hrow16
              clear q2 hb16
              have q0 : w16.cell? ⟨wr.heap.size, 0, none⟩ = some (.int .u64 (s.key : Int)) := blk_cell H16.rows.1 rfl
              have q2 : w16.cell? ⟨wr.heap.size, 2, none⟩ = some (.int .u8 (s.h2 : Int)) := blk_cell H16.rows.1 rfl
              have H16'h := Lib.hid H16
              have hrow16'h := Lib.hid hrow16
              clear H16 hrow16
              go_upto_region 23 with (first | (refine wpList_load_row rfl _ _ rfl w.heap.size rfl 25 (gpA x) (0, 0) _ H16'h.out.rows.2.2.1 Try.underlying25 rfl infoGp ?_) | (go_at_call 21; refine (FD'h.out _).mono ?_; rintro e w17 ⟨rfl, hb17⟩))
              have H17 := H16'h.out.next hb17
              have hrow17 := ownsRow_next hrow16'h.out hb17
              clear q0 q2 hb17
              have q2 : w17.cell? ⟨wr.heap.size, 2, none⟩ = some (.int .u8 (s.h2 : Int)) := blk_cell H17.rows.1 rfl
              have H17'h := Lib.hid H17
              have hrow17'h := Lib.hid hrow17
              clear H17 hrow17
              go_upto_region 29 with (first | (refine wpList_load_row rfl _ _ rfl w.heap.size rfl 25 (gpA x) (0, 0) _ H17'h.out.rows.2.2.1 Try.underlying25 rfl infoGp ?_) | (go_at_call 22; refine (RLK'h.out _).mono ?_; rintro e w18 ⟨sp18, n18, cap18, rfl, hb18, hrow18⟩))
              have H18 := H17'h.out.next hb18
              obtain rfl := row_len' hrow18
              have hrow19 := ownsRow_next hrow17'h.out hb18
              clear q2 hb18
              have q0 : w18.cell? ⟨wr.heap.size, 0, none⟩ = some (.int .u64 (s.key : Int)) := blk_cell H18.rows.1 rfl
              have q2 : w18.cell? ⟨wr.heap.size, 2, none⟩ = some (.int .u8 (s.h2 : Int)) := blk_cell H18.rows.1 rfl
              have H18'h := Lib.hid H18
              have hrow18'h := Lib.hid hrow18
              have hrow19'h := Lib.hid hrow19
              clear H18 hrow18 hrow19
              go_upto_region 33 with (first | (refine wpList_load_row rfl _ _ rfl w.heap.size rfl 25 (gpA x) (0, 0) _ H18'h.out.rows.2.2.1 Try.underlying25 rfl infoGp ?_) | (go_at_call 23; refine (RFD'h.out _).mono ?_; rintro e w20 ⟨rfl, hb20⟩))
              have H20 := H18'h.out.next hb20
              have EQ := equalN_same _ _ _ _ cap16 cap18 lk w20 (Sl.of_row (ownsRow_next hrow19'h.out hb20) hlk'h.out) (Sl.of_row (ownsRow_next hrow18'h.out hb20) hlk'h.out)
              clear q0 q2 hb20
              have H20'h := Lib.hid H20
              have EQ'h := Lib.hid EQ
              clear H20 EQ
              go_wp2_with (first | (go_at_call 24; refine (EQ'h.out).mono ?_; rintro e w21 ⟨rfl, d21, rfl⟩))
              go_roundg (gk - 1)
              case measure => have := hq'h.out; omega
              case rel => exact ⟨k + 1, by have := hq'h.out; omega, by omega, by go_num, H20'h.out.tail.drewN d21⟩
            | false =>
              have e3 : findE x s.key s.h2 = 4 := by unfold findE; rw [if_pos e1, if_neg (by rw [hf]; decide)]
              have e4 : findL x s.key s.h2 = 0 := by unfold findL; rw [if_neg (by rw [e3]; decide)]
              have e5 : findN x s.key s.h2 = 0 := by unfold findN; rw [if_neg (by rw [e3]; decide)]
              have e6 : rfindL x s.key s.h2 = -1 := by unfold rfindL; rw [if_neg (by rw [hf]; decide)]
              have e7 : rfindN x s.key s.h2 = 0 := by unfold rfindN; rw [if_neg (by rw [hf]; decide)]
              rw [e3, e4, e5] at FD
              rw [e6, e7] at RFD
              have hlk : (looksG x s.h2).length ≤ maxLen := Nat.le_trans (looksK_le x s.h2 8) (by decide)
              generalize looksG x s.h2 = lk at *
              clear e1 e2 e3 e4 e5 e6 e7 h127 hf
              have hq'h := Lib.hid hq
              have hH'h := Lib.hid hH
              have hkl'h := Lib.hid hkl
              have hSr'h := Lib.hid hSr
              have hsok'h := Lib.hid hsok
              have H15'h := Lib.hid H15
              have LK'h := Lib.hid LK
              have FD'h := Lib.hid FD
              have RLK'h := Lib.hid RLK
              have RFD'h := Lib.hid RFD
              have hlk'h := Lib.hid hlk
              clear hq hH hkl hSr hsok H15 LK FD RLK RFD hlk
              go_upto_region 21 with fail
              change Code.wp _ _ _ _ (wr.alloc (.cells (slA s) 38))
              have H15 := H15'h.out
              clear H15'h
              generalize wr.alloc _ = w15 at H15 ⊢
              have q2 : w15.cell? ⟨wr.heap.size, 2, none⟩ = some (.int .u8 (s.h2 : Int)) := blk_cell H15.rows.1 rfl
              have H15'h := Lib.hid H15
              clear H15
              go_upto_region 22 with (first | (refine wpList_load_row rfl _ _ rfl w.heap.size rfl 25 (gpA x) (0, 0) _ H15'h.out.rows.2.2.1 Try.underlying25 rfl infoGp ?_) | (go_at_call 20; refine (LK'h.out _).mono ?_; rintro e w16 ⟨sp16, n16, cap16, rfl, hb16, hrow16⟩))
              have H16 := H15'h.out.next hb16
              obtain rfl := row_len' hrow16
              clear q2 hb16
              have q0 : w16.cell? ⟨wr.heap.size, 0, none⟩ = some (.int .u64 (s.key : Int)) := blk_cell H16.rows.1 rfl
              have q2 : w16.cell? ⟨wr.heap.size, 2, none⟩ = some (.int .u8 (s.h2 : Int)) := blk_cell H16.rows.1 rfl
              have H16'h := Lib.hid H16
              have hrow16'h := Lib.hid hrow16
              clear H16 hrow16
              go_upto_region 23 with (first | (refine wpList_load_row rfl _ _ rfl w.heap.size rfl 25 (gpA x) (0, 0) _ H16'h.out.rows.2.2.1 Try.underlying25 rfl infoGp ?_) | (go_at_call 21; refine (FD'h.out _).mono ?_; rintro e w17 ⟨rfl, hb17⟩))
              have H17 := H16'h.out.next hb17
              have hrow17 := ownsRow_next hrow16'h.out hb17
              clear q0 q2 hb17
              have q2 : w17.cell? ⟨wr.heap.size, 2, none⟩ = some (.int .u8 (s.h2 : Int)) := blk_cell H17.rows.1 rfl
              have H17'h := Lib.hid H17
              have hrow17'h := Lib.hid hrow17
              clear H17 hrow17
              go_upto_region 29 with (first | (refine wpList_load_row rfl _ _ rfl w.heap.size rfl 25 (gpA x) (0, 0) _ H17'h.out.rows.2.2.1 Try.underlying25 rfl infoGp ?_) | (go_at_call 22; refine (RLK'h.out _).mono ?_; rintro e w18 ⟨sp18, n18, cap18, rfl, hb18, hrow18⟩))
              have H18 := H17'h.out.next hb18
              obtain rfl := row_len' hrow18
              have hrow19 := ownsRow_next hrow17'h.out hb18
              clear q2 hb18
              have q0 : w18.cell? ⟨wr.heap.size, 0, none⟩ = some (.int .u64 (s.key : Int)) := blk_cell H18.rows.1 rfl
              have q2 : w18.cell? ⟨wr.heap.size, 2, none⟩ = some (.int .u8 (s.h2 : Int)) := blk_cell H18.rows.1 rfl
              have H18'h := Lib.hid H18
              have hrow18'h := Lib.hid hrow18
              have hrow19'h := Lib.hid hrow19
              clear H18 hrow18 hrow19
              go_upto_region 33 with (first | (refine wpList_load_row rfl _ _ rfl w.heap.size rfl 25 (gpA x) (0, 0) _ H18'h.out.rows.2.2.1 Try.underlying25 rfl infoGp ?_) | (go_at_call 23; refine (RFD'h.out _).mono ?_; rintro e w20 ⟨rfl, hb20⟩))
              have H20 := H18'h.out.next hb20
              have EQ := equalN_same _ _ _ _ cap16 cap18 lk w20 (Sl.of_row (ownsRow_next hrow19'h.out hb20) hlk'h.out) (Sl.of_row (ownsRow_next hrow18'h.out hb20) hlk'h.out)
              clear q0 q2 hb20
              have H20'h := Lib.hid H20
              have EQ'h := Lib.hid EQ
              clear H20 EQ
              go_wp2_with (first | (go_at_call 24; refine (EQ'h.out).mono ?_; rintro e w21 ⟨rfl, d21, rfl⟩))
              go_roundg (gk - 1)
              case measure => have := hq'h.out; omega
              case rel => exact ⟨k + 1, by have := hq'h.out; omega, by omega, by go_num, H20'h.out.tail.drewN d21⟩
          · have hh : ¬ ((s.h2 : Int) ≤ 127) := by omega
            have e1 : looksE x s.h2 = 2 := by unfold looksE; rw [if_pos hr'h.out, if_neg h127]
            have e2 : looksR x s.h2 = [] := by unfold looksR; rw [if_neg (by rw [e1]; decide)]
            have e3 : findE x s.key s.h2 = 2 := by unfold findE; rw [if_neg (by rw [e1]; decide), e1]
            have e4 : findL x s.key s.h2 = 0 := by unfold findL; rw [if_neg (by rw [e3]; decide)]
            have e5 : findN x s.key s.h2 = 0 := by unfold findN; rw [if_neg (by rw [e3]; decide)]
            rw [e1, e2] at LK
            rw [e3, e4, e5] at FD
            clear e1 e2 e3 e4 e5 h127
            have hq'h := Lib.hid hq
            have hH'h := Lib.hid hH
            have hkl'h := Lib.hid hkl
            have hSr'h := Lib.hid hSr
            have hsok'h := Lib.hid hsok
            have H15'h := Lib.hid H15
            have LK'h := Lib.hid LK
            have FD'h := Lib.hid FD
            clear hq hH hkl hSr hsok H15 LK FD
            go_upto_region 21 with fail
            change Code.wp _ _ _ _ (wr.alloc (.cells (slA s) 38))
            have H15 := H15'h.out
            clear H15'h
            generalize wr.alloc _ = w15 at H15 ⊢
            have q2 : w15.cell? ⟨wr.heap.size, 2, none⟩ = some (.int .u8 (s.h2 : Int)) := blk_cell H15.rows.1 rfl
            have H15'h := Lib.hid H15
            clear H15
            go_upto_region 22 with (first | (refine wpList_load_row rfl _ _ rfl w.heap.size rfl 25 (gpA x) (0, 0) _ H15'h.out.rows.2.2.1 Try.underlying25 rfl infoGp ?_) | (go_at_call 20; refine (LK'h.out _).mono ?_; rintro e w16 ⟨sp16, n16, cap16, rfl, hb16, hrow16⟩))
            have H16 := H15'h.out.next hb16
            obtain rfl := row_len' hrow16
            clear q2 hb16
            have q0 : w16.cell? ⟨wr.heap.size, 0, none⟩ = some (.int .u64 (s.key : Int)) := blk_cell H16.rows.1 rfl
            have q2 : w16.cell? ⟨wr.heap.size, 2, none⟩ = some (.int .u8 (s.h2 : Int)) := blk_cell H16.rows.1 rfl
            have H16'h := Lib.hid H16
            have hrow16'h := Lib.hid hrow16
            clear H16 hrow16
            go_upto_region 23 with (first | (refine wpList_load_row rfl _ _ rfl w.heap.size rfl 25 (gpA x) (0, 0) _ H16'h.out.rows.2.2.1 Try.underlying25 rfl infoGp ?_) | (go_at_call 21; refine (FD'h.out _).mono ?_; rintro e w17 ⟨rfl, hb17⟩))
            have H17 := H16'h.out.next hb17
            have hrow17 := ownsRow_next hrow16'h.out hb17
            clear q0 q2 hb17
            have q2 : w17.cell? ⟨wr.heap.size, 2, none⟩ = some (.int .u8 (s.h2 : Int)) := blk_cell H17.rows.1 rfl
            have H17'h := Lib.hid H17
            have hrow17'h := Lib.hid hrow17
            clear H17 hrow17
            have EQ := equalN_same _ none _ 0 cap16 0 [] w17 (Sl.of_row hrow17'h.out (by decide)) (Sl.nil _ _)
            have EQ'h := Lib.hid EQ
            clear EQ
            go_wp2_with (first | (go_at_call 24; refine (EQ'h.out).mono ?_; rintro e w21 ⟨rfl, d21, rfl⟩))
            go_roundg (gk - 1)
            case measure => have := hq'h.out; omega
            case rel => exact ⟨k + 1, by have := hq'h.out; omega, by omega, by go_num, H17'h.out.tail.drewN d21⟩
      · have hn : ¬ (k : Int) < (n : Int) := by omega
        have hH'h := Lib.hid hH
        have hq'h := Lib.hid hq
        clear hH hq
        go_wp2
        go_ret
        exact ⟨rfl, hH'h.out.old⟩
end Go.Proofs.Ytfoohdjgnphdgaa
