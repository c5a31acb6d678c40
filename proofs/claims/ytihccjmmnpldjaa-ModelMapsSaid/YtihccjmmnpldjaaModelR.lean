/-
  Package model: how many keys a call brings.
-/
import Derived.Test.YtihccjmmnpldjaaModelQ
set_option linter.unusedSimpArgs false
set_option linter.unusedVariables false
set_option maxRecDepth 100000
namespace Go.Proofs.Ytihccjmmnpldjaa
open Go.RowKit

def comesP (ps : Ps) (c : Cl) : Int := if upB ps && isOp c then ((nextP c ps).length : Int) - (ps.length : Int) else 0
set_option maxHeartbeats 1000000 in
theorem mComes_yes (sp : Option Addr) (n cap : Nat) (ps : Ps) (c : Cl) (w : World) (h : SlK w 2 sp n (prs ps)) (hup : upB ps = true) (hn : n ≤ 4096) (ho : isOp c = true) :
    Calls Try.prog 10 #[.agg #[.slice sp n cap], .agg (clA c)] w fun e w' => e = .returned (.int .i64 (((nextP c ps).length : Int) - (ps.length : Int))) ∧ Below w.heap.size w w' := by
  have hln := prs_len h
  have hll := len_next_le c ps
  have hln'h := Lib.hid hln
  have hll'h := Lib.hid hll
  clear hln hll
  have H0 := (Hs.nil w).new2 #[.slice sp n cap] (clA c) 24 33
  obtain ⟨W0, hW0⟩ : ∃ W0, W0 = ((w.alloc (.cells #[.slice sp n cap] 24)).alloc (.cells (clA c) 33)) := ⟨_, rfl⟩
  rw [← hW0] at H0
  have D := mDo_yes sp n cap ps c W0 (h.below H0.old) hup hn ho
  have H0'h := Lib.hid H0
  have D'h := Lib.hid D
  have hW0'h := Lib.hid hW0
  clear H0 D hW0
  go_enter Try.func10, Try.ntmps10
  go_upto_region 1 with fail
  change Code.wp _ _ _ _ ((w.alloc (.cells #[.slice sp n cap] 24)).alloc (.cells (clA c) 33))
  rw [← hW0'h.out]
  have x0 : W0.cell? ⟨w.heap.size, 0, none⟩ = some (.slice sp n cap) := blk_cell (i := 0) H0'h.out.rows.2.1 rfl
  go_upto_region 2 with (first | (refine wpList_load_row rfl _ _ rfl (w.heap.size + 1) rfl 33 _ (0, 0) _ H0'h.out.rows.1 Try.underlying33 rfl info_cl ?_) | (go_at_call 11; refine D'h.out.mono ?_; rintro e w2 ⟨sp', n', cap', sq, nq, cq, rfl, hb2, hR2, hS2, hc2, hle2, hlo2, hx2⟩; have hb2'h := Lib.hid hb2; have hR2'h := Lib.hid hR2; clear hb2 hR2 hS2 hc2 hle2 hlo2 hx2; obtain ⟨a, ha⟩ : ∃ a, a = tellA c ps := ⟨_, rfl⟩; rw [← ha]; clear ha) | (refine wpList_store_row rfl _ _ _ rfl w2.heap.size #[.slice sp' n' cap'] rfl rfl 24 _ (heap_alloc2_old w2 _ _) info_map rfl (map_one _ _ _) ?_) | (refine wpList_store_row rfl _ _ _ rfl (w2.heap.size + 1) (anA a sq nq cq) rfl rfl 35 _ ((setRow_other _ _ _ _ (by omega)).trans (heap_alloc2_new w2 _ _)) info_an rfl (anA_one _ _ _ _) ?_))
  have H5 := (((H0'h.out.next hb2'h.out).new2 #[.slice none 0 0] (anA ⟨0, 0, false⟩ none 0 0) 24 35).set 1 rfl #[.slice sp' n' cap']).set 0 rfl (anA a sq nq cq)
  change Code.wp _ _ _ _ ((((w2.alloc (.cells #[.slice none 0 0] 24)).alloc (.cells (anA ⟨0, 0, false⟩ none 0 0) 35)).setRow w2.heap.size #[.slice sp' n' cap']).setRow (w2.heap.size + 1) (anA a sq nq cq))
  generalize World.setRow _ _ _ = W5 at H5 ⊢
  clear x0
  have x0 : W5.cell? ⟨w.heap.size, 0, none⟩ = some (.slice sp n cap) := blk_cell (i := 0) H5.rows.2.2.2.1 rfl
  have x1 : W5.cell? ⟨w2.heap.size, 0, none⟩ = some (.slice sp' n' cap') := blk_cell (i := 0) H5.rows.2.1 rfl
  have hn1 : n' ≤ 5000 := by have := hR2'h.out.len; have := hll'h.out; have := hln'h.out; omega
  have H5'h := Lib.hid H5
  clear H5
  go_wp2
  go_ret
  have e1 := hR2'h.out.len
  have e2 := hln'h.out
  subst e1
  subst e2
  exact ⟨rfl, H5'h.out.old⟩
set_option maxHeartbeats 1000000 in
theorem mComes_no (sp : Option Addr) (n cap : Nat) (ps : Ps) (c : Cl) (w : World) (h : SlK w 2 sp n (prs ps)) (hn : n ≤ 4096) (ho : (upB ps && isOp c) = false) :
    Calls Try.prog 10 #[.agg #[.slice sp n cap], .agg (clA c)] w fun e w' => e = .returned (.int .i64 0) ∧ Below w.heap.size w w' := by
  obtain ⟨er, her, DD⟩ : ∃ er : Int, (((er != 0) = true) ∧ ((er == 0) = false)) ∧ ∀ W, Below w.heap.size w W → Calls Try.prog 11 #[.agg #[.slice sp n cap], .agg (clA c)] W fun e w' => e = .returned (.tuple #[.agg #[.slice none 0 0], .agg (anA ⟨0, 0, false⟩ none 0 0), .int .i64 er]) ∧ Below W.heap.size W w' := by
    cases hu : upB ps with
    | false => exact ⟨340, by decide, fun W hb => mDo_map sp n cap ps c W (h.below hb) hu⟩
    | true =>
      rw [hu] at ho
      exact ⟨341, by decide, fun W hb => mDo_op sp n cap ps c W (h.below hb) hu hn (by simpa using ho)⟩
  obtain ⟨her, her'⟩ := her
  obtain ⟨sp', n', cap', hz⟩ : ∃ sp' n' cap', (sp', n', cap') = ((none : Option Addr), 0, 0) := ⟨_, _, _, rfl⟩
  obtain ⟨a, sq, nq, cq, ha⟩ : ∃ a sq nq cq, (a, sq, nq, cq) = ((⟨0, 0, false⟩ : An), (none : Option Addr), 0, 0) := ⟨_, _, _, _, rfl⟩
  have e1 : sp' = none := congrArg Prod.fst hz
  have e2 : n' = 0 := congrArg (fun x => x.2.1) hz
  have e3 : cap' = 0 := congrArg (fun x => x.2.2) hz
  have e4 : a = ⟨0, 0, false⟩ := congrArg Prod.fst ha
  have e5 : sq = none := congrArg (fun x => x.2.1) ha
  have e6 : nq = 0 := congrArg (fun x => x.2.2.1) ha
  have e7 : cq = 0 := congrArg (fun x => x.2.2.2) ha
  have DD' : ∀ W, Below w.heap.size w W → Calls Try.prog 11 #[.agg #[.slice sp n cap], .agg (clA c)] W fun e w' => e = .returned (.tuple #[.agg #[.slice sp' n' cap'], .agg (anA a sq nq cq), .int .i64 er]) ∧ Below W.heap.size W w' := by
    rw [e1, e2, e3, e4, e5, e6, e7]; exact DD
  clear hz ha e1 e2 e3 e4 e5 e6 e7 DD
  have H0 := (Hs.nil w).new2 #[.slice sp n cap] (clA c) 24 33
  obtain ⟨W0, hW0⟩ : ∃ W0, W0 = ((w.alloc (.cells #[.slice sp n cap] 24)).alloc (.cells (clA c) 33)) := ⟨_, rfl⟩
  rw [← hW0] at H0
  have D := DD' W0 H0.old
  have H0'h := Lib.hid H0
  have D'h := Lib.hid D
  have hW0'h := Lib.hid hW0
  clear H0 D hW0
  go_enter Try.func10, Try.ntmps10
  go_upto_region 1 with fail
  change Code.wp _ _ _ _ ((w.alloc (.cells #[.slice sp n cap] 24)).alloc (.cells (clA c) 33))
  rw [← hW0'h.out]
  have x0 : W0.cell? ⟨w.heap.size, 0, none⟩ = some (.slice sp n cap) := blk_cell (i := 0) H0'h.out.rows.2.1 rfl
  go_upto_region 2 with (first | (refine wpList_load_row rfl _ _ rfl (w.heap.size + 1) rfl 33 _ (0, 0) _ H0'h.out.rows.1 Try.underlying33 rfl info_cl ?_) | (go_at_call 11; refine D'h.out.mono ?_; rintro e w2 ⟨rfl, hb2⟩; have hb2'h := Lib.hid hb2; clear hb2) | (refine wpList_store_row rfl _ _ _ rfl w2.heap.size #[.slice sp' n' cap'] rfl rfl 24 _ (heap_alloc2_old w2 _ _) info_map rfl (map_one _ _ _) ?_) | (refine wpList_store_row rfl _ _ _ rfl (w2.heap.size + 1) (anA a sq nq cq) rfl rfl 35 _ ((setRow_other _ _ _ _ (by omega)).trans (heap_alloc2_new w2 _ _)) info_an rfl (anA_one _ _ _ _) ?_))
  have H5 := (((H0'h.out.next hb2'h.out).new2 #[.slice none 0 0] (anA ⟨0, 0, false⟩ none 0 0) 24 35).set 1 rfl #[.slice sp' n' cap']).set 0 rfl (anA a sq nq cq)
  change Code.wp _ _ _ _ ((((w2.alloc (.cells #[.slice none 0 0] 24)).alloc (.cells (anA ⟨0, 0, false⟩ none 0 0) 35)).setRow w2.heap.size #[.slice sp' n' cap']).setRow (w2.heap.size + 1) (anA a sq nq cq))
  generalize World.setRow _ _ _ = W5 at H5 ⊢
  clear x0
  have x0 : W5.cell? ⟨w.heap.size, 0, none⟩ = some (.slice sp n cap) := blk_cell (i := 0) H5.rows.2.2.2.1 rfl
  have x1 : W5.cell? ⟨w2.heap.size, 0, none⟩ = some (.slice sp' n' cap') := blk_cell (i := 0) H5.rows.2.1 rfl
  have H5'h := Lib.hid H5
  clear H5
  go_wp2
  go_ret
  exact ⟨rfl, H5'h.out.old⟩
theorem mComes_any (sp : Option Addr) (n cap : Nat) (ps : Ps) (c : Cl) (w : World) (h : SlK w 2 sp n (prs ps)) (hn : n ≤ 4096) :
    Calls Try.prog 10 #[.agg #[.slice sp n cap], .agg (clA c)] w fun e w' => e = .returned (.int .i64 (comesP ps c)) ∧ Below w.heap.size w w' := by
  unfold comesP
  cases hx : (upB ps && isOp c) with
  | true =>
    have h1 : upB ps = true ∧ isOp c = true := by simpa using hx
    rw [if_pos rfl]
    exact mComes_yes sp n cap ps c w h h1.1 hn h1.2
  | false =>
    rw [if_neg (by decide)]
    exact mComes_no sp n cap ps c w h hn hx
end Go.Proofs.Ytihccjmmnpldjaa
