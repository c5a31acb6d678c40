/-
  RangesAny: the pairs of the map at some step of a time may be told in it; and at least those that must be.
-/
import Derived.Test.YthfeiiibedmkiaaTimes28
import Derived.Test.YthfeiiibedmkiaaPairDel
set_option linter.unusedSimpArgs false
set_option linter.unusedVariables false
set_option maxRecDepth 100000
namespace Go.Proofs.Ythfeiiibedmkiaa
open Go.RowKit

theorem step_append_w {P : Program} {w : World} {ops : Array Oper} {o : Oper} {a : Act} {K : Act → World → Prop} {Q : Exit → Act → World → Prop} {E : Prop} (hw : Region.wanted o (yielded ops a.tmps) = true) (s x : Operand) (t : TypeId)
    (ho : o.op = .call { callee := .builtin .append, args := #[s, x], argTypes := #[t, t] })
    (base : Nat) (e : TypeId) (i : TypeInfo) (z : Value) (size bytes : Nat) (ht : P.underlying t = some (.slice e)) (hi : P.info? e = some i) (hz : i.zero = some z)
    (hsize : i.size = size) (hby : i.bytes = bytes) (hzs : z.cells.size = size) (hsz : 0 < size)
    (v : Value) (n : Nat) (xs : List Value) (hs : a.eval s = v) (hown : w.ownsRow base e size v n xs)
    (A : Option Addr) (m c : Nat) (news : List Value) (hx : a.eval x = .slice A m c) (hr : SlK w size A m news) (h1 : ∀ u ∈ news, u.oneCell' = true)
    (h63 : n + m ≤ maxLen) (hbytes : (n + m) * bytes ≤ 140737488355328) (hbase : base ≤ w.heap.size)
    (h : ∀ v' w', w'.ownsRow base e size v' (n + m) (xs ++ news) → w.grownBy w' v.ownBlock → (v'.ownBlock = v.ownBlock ∨ v'.ownBlock = some w.heap.size) → K (a.put o.dst v') w') :
    if Region.wanted o (yielded ops a.tmps) = true then Oper.wp P o a w K Q else E := by
  rw [if_pos hw]
  exact wp_append_slk w s x t ho base e i z size bytes ht hi hz hsize hby hzs hsz v n xs hs hown A m c news hx hr h1 h63 hbytes hbase h
theorem nthP_split {m : Ps} {i : Nat} (hi : i < m.length) : m = m.take i ++ nthP m i :: m.drop (i + 1) := by
  rw [← nthP_eq hi, ← List.drop_eq_getElem_cons hi, List.take_append_drop]
set_option maxHeartbeats 16000000 in
theorem walk_RangesAny (s0 : Option Addr) (n0 c0 : Nat) (x : List Ch) (f t : Int) (at' : Int) (w : World) (in0 : ChIn w s0 n0 c0 x) (ok1 : TmOk (f, t)) (wf2 : (Lit.int .i64 at').wf = true) :
    Calls Try.prog 8 #[.slice s0 n0 c0, .agg (tmA f t), .int .i64 at'] w fun e w' => e = .returned (.bool true) ∧ Below w.heap.size w w' := by
  have WK := fun w => wakes28_any w
  have hO := (Hs.nil w).new (tmA f t) 43
  obtain ⟨W, hW⟩ : ∃ W, W = w.alloc (.cells (tmA f t) 43) := ⟨_, rfl⟩
  rw [← hW] at hO
  have hat := wf_i64' wf2
  obtain ⟨i0, hi, hz0, hz1, hz2⟩ := info_parts info_pair
  have WK'h := Lib.hid WK
  have hO'h := Lib.hid hO
  have in0'h := Lib.hid in0
  have ok1'h := Lib.hid ok1
  have wf2'h := Lib.hid wf2
  have hat'h := Lib.hid hat
  clear WK hO in0 ok1 wf2 hat
  go_enter Try.func8, Try.ntmps8
  go_upto_region 1 with fail
  rw [← hW]
  clear hW
  go_upto_region 3 with (first | (go_at_call 9; refine (WK'h.out _).mono ?_; rintro e w1 ⟨rfl, hb1⟩))
  have H1 := hO'h.out.next hb1
  clear hb1
  have H1'h := Lib.hid H1
  clear H1
  go_upto_region 4 with (first | (go_at_call 10; refine (few_ln s0 n0 c0 x _ (in0'h.out.below H1'h.out.old)).mono ?_; rintro e w2 ⟨sl, n, cl, rfl, hb2, L2⟩))
  have H2 := H1'h.out.next hb2
  clear hb2
  generalize x.take 24 = l at L2
  obtain ⟨ml, eU⟩ : ∃ ml, mustL l f t = ml := ⟨_, rfl⟩
  have hml : ml.length ≤ 24 := by rw [← eU]; exact must_len L2 f t
  have H2'h := Lib.hid H2
  have L2'h := Lib.hid L2
  have eU'h := Lib.hid eU
  have hml'h := Lib.hid hml
  clear H2 L2 eU hml
  go_upto_region 5 with (first | guard_target = wpList _ _ _ (Oper.mk _ (.load _ (.tmp 4)) _ _ _ _ :: _) _ _; refine wpList_load_row rfl 43 (.tmp 4) rfl (w.heap.size) rfl 43 (tmA f t) (0, 0) _ H2'h.out.rows.1 Try.underlying43 rfl info_tm ?_ | (go_at_call 26; refine (must_ln L2'h.out f t).mono ?_; rw [eU'h.out]; rintro e w3 ⟨s3, c3, rfl, hb3, hrow3⟩))
  have H3 := H2'h.out.next hb3
  have L3 := L2'h.out.below hb3
  have S3 := (SlK.of_row hrow3 (Nat.le_trans hml'h.out (by decide))).sl
  clear hb3 hrow3 H1'h H2'h L2'h
  obtain ⟨z, eF⟩ : ∃ z, failE l f t = z := ⟨_, rfl⟩
  obtain ⟨a, eL⟩ : ∃ a, szL l f t = a := ⟨_, rfl⟩
  obtain ⟨b, eM⟩ : ∃ b, szM l f t = b := ⟨_, rfl⟩
  have hab := sz_le L3 f t
  rw [eL, eM] at hab
  have SZ := sizes_ln L3 f t
  rw [eF, eL, eM] at SZ
  have H3'h := Lib.hid H3
  have L3'h := Lib.hid L3
  have S3'h := Lib.hid S3
  have SZ'h := Lib.hid SZ
  clear H3 L3 S3 SZ
  go_upto_region 6 with (first | guard_target = wpList _ _ _ (Oper.mk _ (.load _ (.tmp 4)) _ _ _ _ :: _) _ _; refine wpList_load_row rfl 43 (.tmp 4) rfl (w.heap.size) rfl 43 (tmA f t) (0, 0) _ H3'h.out.rows.1 Try.underlying43 rfl info_tm ?_ | (go_at_call 25; refine SZ'h.out.mono ?_; rintro e w4 ⟨rfl, hb4⟩))
  have H4 := H3'h.out.next hb4
  have L4 := L3'h.out.below hb4
  have S4 := ((SlK.of_sl S3'h.out).below hb4).sl
  clear hb4 H3'h L3'h S3'h SZ'h
  by_cases hz : z = 0
  · subst hz
    obtain ⟨hr, h0, hft⟩ := fail_parts eF
    have hiT := ok1'h.out.t
    have q0 : w4.cell? ⟨w.heap.size, 0, none⟩ = some (.int .i64 f) := blk_cell H4.rows.1 rfl
    have q1 : w4.cell? ⟨w.heap.size, 1, none⟩ = some (.int .i64 t) := blk_cell H4.rows.1 rfl
    have H4'h := Lib.hid H4
    have L4'h := Lib.hid L4
    have S4'h := Lib.hid S4
    have eF'h := Lib.hid eF
    have eL'h := Lib.hid eL
    have eM'h := Lib.hid eM
    have hab'h := Lib.hid hab
    clear H4 L4 S4 eF eL eM hab
    go_upto_region 8 with fail
    refine wp_region_heldQ (fun w' => w'.cell? ⟨w.heap.size, 0, none⟩ = some (.int .i64 f) ∧ w'.cell? ⟨w.heap.size, 1, none⟩ = some (.int .i64 t)) 99 (by kernel_rfl) ?_
    have H5 := H4'h.out.drew
    have L5 := L4'h.out.below (Below.drew (Below.refl _ _))
    have S5 := ((SlK.of_sl S4'h.out).below (Below.drew (Below.refl _ _))).sl
    have q2 : w4.drew.cell? ⟨w.heap.size, 0, none⟩ = some (.int .i64 f) := q0
    have q3 : w4.drew.cell? ⟨w.heap.size, 1, none⟩ = some (.int .i64 t) := q1
    clear H4'h L4'h S4'h q0 q1
    generalize w4.drew = V0 at q2 q3 H5 L5 S5 ⊢
    have H5'h := Lib.hid H5
    have L5'h := Lib.hid L5
    have S5'h := Lib.hid S5
    clear H5 L5 S5
    have R := And.intro q2 q3
    refine wpAnyF_take (i := 0) (v := .pointer (some ⟨w.heap.size, 0, none⟩)) rfl (by kernel_rfl) (by kernel_rfl) (by kernel_rfl) (by kernel_rfl) (fun _ _ _ h => h) (Or.inl ⟨by kernel_rfl, fun w hSw => by (try dsimp only at hSw); go_simp⟩) R ?_; try simp only [Act.put, List.getElem_toArray, List.getElem_cons_succ, List.getElem_cons_zero, List.setIfInBounds_toArray, List.set_cons_zero, List.set_cons_succ]
    refine wpAnyF_take (i := 1) (v := .int .i64 f) rfl (by kernel_rfl) (by kernel_rfl) (by kernel_rfl) (by kernel_rfl) (fun _ _ _ h => h) (Or.inl ⟨by kernel_rfl, fun w hSw => by (try dsimp only at hSw); go_simp⟩) R ?_; try simp only [Act.put, List.getElem_toArray, List.getElem_cons_succ, List.getElem_cons_zero, List.setIfInBounds_toArray, List.set_cons_zero, List.set_cons_succ]
    refine wpAnyF_take (i := 2) (v := .int .i64 at') rfl (by kernel_rfl) (by kernel_rfl) (by kernel_rfl) (by kernel_rfl) (fun _ _ _ h => h) (Or.inl ⟨by kernel_rfl, fun w hSw => by (try dsimp only at hSw); go_simp⟩) R ?_; try simp only [Act.put, List.getElem_toArray, List.getElem_cons_succ, List.getElem_cons_zero, List.setIfInBounds_toArray, List.set_cons_zero, List.set_cons_succ]
    obtain ⟨A, hA⟩ : ∃ A : Int, A = IntKind.u64.wrap at' := ⟨_, rfl⟩
    have hA0 : 0 ≤ A := by rw [hA, IntKind.wrap_u64]; omega
    obtain ⟨mm, hmm⟩ : ∃ mm : Nat, (mm : Int) = if 1000 < t - f then 1000 else t - f := ⟨(if 1000 < t - f then 1000 else t - f).toNat, by split <;> omega⟩
    have hm1 : (mm : Int) ≤ t - f ∧ mm ≤ 1000 := by split at hmm <;> omega
    obtain ⟨r, hrr⟩ : ∃ r : Nat, (r : Int) = A.tmod ((mm : Int) + 1) := ⟨(A.tmod ((mm : Int) + 1)).toNat, by rw [Int.tmod_eq_emod_of_nonneg hA0]; have := Int.emod_nonneg A (show (mm : Int) + 1 ≠ 0 by omega); omega⟩
    have hrm : r ≤ mm := by rw [Int.tmod_eq_emod_of_nonneg hA0] at hrr; have := Int.emod_lt_of_pos A (show 0 < (mm : Int) + 1 by omega); omega
    have hi' : t ≤ 9223372036854775807 := hiT.2
    have hw1 : IntKind.i64.wrap (t - f) = t - f := Go.IntWalk.i64_in _ (by omega)
    have hw2 : IntKind.i64.wrap ((mm : Int) + 1) = (mm : Int) + 1 := Go.IntWalk.i64_in _ (by omega)
    have hw3 : IntKind.u64.wrap ((mm : Int) + 1) = (mm : Int) + 1 := by rw [IntKind.wrap_u64]; omega
    have hw4 : IntKind.i64.wrap (r : Int) = (r : Int) := Go.IntWalk.i64_in _ (by omega)
    have hw5 : IntKind.i64.wrap (f + (r : Int)) = f + (r : Int) := Go.IntWalk.i64_in _ (by omega)
    have hz : ¬ ((mm : Int) + 1 = 0) := by omega
    clear hiT hi' hA0
    have hA'h := Lib.hid hA
    have hmm'h := Lib.hid hmm
    have hm1'h := Lib.hid hm1
    have hrr'h := Lib.hid hrr
    have hrm'h := Lib.hid hrm
    have hw1'h := Lib.hid hw1
    have hw2'h := Lib.hid hw2
    have hw3'h := Lib.hid hw3
    have hw4'h := Lib.hid hw4
    have hw5'h := Lib.hid hw5
    have h0'h := Lib.hid h0
    have hft'h := Lib.hid hft
    have hr'h := Lib.hid hr
    clear hA hmm hm1 hrr hrm hw1 hw2 hw3 hw4 hw5 h0 hft hr
    refine wpAnyF_take (i := 3) (v := .int .u64 A) rfl (by kernel_rfl) (by kernel_rfl) (by kernel_rfl) (by kernel_rfl) (fun _ _ _ h => h) (Or.inl ⟨by kernel_rfl, fun w hSw => by (try dsimp only at hSw); go_simp; (first | done | exact hA'h.out.symm)⟩) R ?_; try simp only [Act.put, List.getElem_toArray, List.getElem_cons_succ, List.getElem_cons_zero, List.setIfInBounds_toArray, List.set_cons_zero, List.set_cons_succ]
    refine wpAnyF_take (i := 4) (v := .pointer (some ⟨w.heap.size, 1, none⟩)) rfl (by kernel_rfl) (by kernel_rfl) (by kernel_rfl) (by kernel_rfl) (fun _ _ _ h => h) (Or.inl ⟨by kernel_rfl, fun w hSw => by (try dsimp only at hSw); go_simp⟩) R ?_; try simp only [Act.put, List.getElem_toArray, List.getElem_cons_succ, List.getElem_cons_zero, List.setIfInBounds_toArray, List.set_cons_zero, List.set_cons_succ]
    refine wpAnyF_take (i := 5) (v := .int .i64 t) rfl (by kernel_rfl) (by kernel_rfl) (by kernel_rfl) (by kernel_rfl) (fun _ _ _ h => h) (Or.inl ⟨by kernel_rfl, fun w hSw => by (try dsimp only at hSw); go_simp⟩) R ?_; try simp only [Act.put, List.getElem_toArray, List.getElem_cons_succ, List.getElem_cons_zero, List.setIfInBounds_toArray, List.set_cons_zero, List.set_cons_succ]
    refine wpAnyF_take (i := 6) (v := .pointer (some ⟨w.heap.size, 0, none⟩)) rfl (by kernel_rfl) (by kernel_rfl) (by kernel_rfl) (by kernel_rfl) (fun _ _ _ h => h) (Or.inl ⟨by kernel_rfl, fun w hSw => by (try dsimp only at hSw); go_simp⟩) R ?_; try simp only [Act.put, List.getElem_toArray, List.getElem_cons_succ, List.getElem_cons_zero, List.setIfInBounds_toArray, List.set_cons_zero, List.set_cons_succ]
    refine wpAnyF_take (i := 7) (v := .int .i64 f) rfl (by kernel_rfl) (by kernel_rfl) (by kernel_rfl) (by kernel_rfl) (fun _ _ _ h => h) (Or.inl ⟨by kernel_rfl, fun w hSw => by (try dsimp only at hSw); go_simp⟩) R ?_; try simp only [Act.put, List.getElem_toArray, List.getElem_cons_succ, List.getElem_cons_zero, List.setIfInBounds_toArray, List.set_cons_zero, List.set_cons_succ]
    refine wpAnyF_take (i := 8) (v := .int .i64 (t - f)) rfl (by kernel_rfl) (by kernel_rfl) (by kernel_rfl) (by kernel_rfl) (fun _ _ _ h => h) (Or.inl ⟨by kernel_rfl, fun w hSw => by (try dsimp only at hSw); go_simp; (first | done | exact hw1'h.out)⟩) R ?_; try simp only [Act.put, List.getElem_toArray, List.getElem_cons_succ, List.getElem_cons_zero, List.setIfInBounds_toArray, List.set_cons_zero, List.set_cons_succ]
    refine wpAnyF_take (i := 9) (v := .int .i64 mm) rfl (by kernel_rfl) (by kernel_rfl) (by kernel_rfl) (by kernel_rfl) (fun _ _ _ h => h) (Or.inl ⟨by kernel_rfl, fun w hSw => by (try dsimp only at hSw); go_simp; (first | done | exact hmm'h.out.symm)⟩) R ?_; try simp only [Act.put, List.getElem_toArray, List.getElem_cons_succ, List.getElem_cons_zero, List.setIfInBounds_toArray, List.set_cons_zero, List.set_cons_succ]
    refine wpAnyF_take (i := 10) (v := .int .i64 ((mm : Int) + 1)) rfl (by kernel_rfl) (by kernel_rfl) (by kernel_rfl) (by kernel_rfl) (fun _ _ _ h => h) (Or.inl ⟨by kernel_rfl, fun w hSw => by (try dsimp only at hSw); go_simp; (first | done | exact hw2'h.out)⟩) R ?_; try simp only [Act.put, List.getElem_toArray, List.getElem_cons_succ, List.getElem_cons_zero, List.setIfInBounds_toArray, List.set_cons_zero, List.set_cons_succ]
    refine wpAnyF_take (i := 11) (v := .int .u64 ((mm : Int) + 1)) rfl (by kernel_rfl) (by kernel_rfl) (by kernel_rfl) (by kernel_rfl) (fun _ _ _ h => h) (Or.inl ⟨by kernel_rfl, fun w hSw => by (try dsimp only at hSw); go_simp; (first | done | exact hw3'h.out)⟩) R ?_; try simp only [Act.put, List.getElem_toArray, List.getElem_cons_succ, List.getElem_cons_zero, List.setIfInBounds_toArray, List.set_cons_zero, List.set_cons_succ]
    refine wpAnyF_take (i := 12) (v := .int .u64 r) rfl (by kernel_rfl) (by kernel_rfl) (by kernel_rfl) (by kernel_rfl) (fun _ _ _ h => h) (Or.inl ⟨by kernel_rfl, fun w hSw => by (try dsimp only at hSw); go_simp; (first | done | exact hrr'h.out.symm)⟩) R ?_; try simp only [Act.put, List.getElem_toArray, List.getElem_cons_succ, List.getElem_cons_zero, List.setIfInBounds_toArray, List.set_cons_zero, List.set_cons_succ]
    refine wpAnyF_take (i := 13) (v := .int .i64 r) rfl (by kernel_rfl) (by kernel_rfl) (by kernel_rfl) (by kernel_rfl) (fun _ _ _ h => h) (Or.inl ⟨by kernel_rfl, fun w hSw => by (try dsimp only at hSw); go_simp; (first | done | exact hw4'h.out)⟩) R ?_; try simp only [Act.put, List.getElem_toArray, List.getElem_cons_succ, List.getElem_cons_zero, List.setIfInBounds_toArray, List.set_cons_zero, List.set_cons_succ]
    refine wpAnyF_take (i := 14) (v := .int .i64 (f + (r : Int))) rfl (by kernel_rfl) (by kernel_rfl) (by kernel_rfl) (by kernel_rfl) (fun _ _ _ h => h) (Or.inl ⟨by kernel_rfl, fun w hSw => by (try dsimp only at hSw); go_simp; (first | done | exact hw5'h.out)⟩) R ?_; try simp only [Act.put, List.getElem_toArray, List.getElem_cons_succ, List.getElem_cons_zero, List.setIfInBounds_toArray, List.set_cons_zero, List.set_cons_succ]
    refine wpAnyF_one (i := 15) (by kernel_rfl) rfl (fun K hK => ?_); go_simp
    refine hK.out _ _ (fun _ => R) ?_; clear hK K; try simp only [Act.put, List.getElem_toArray, List.getElem_cons_succ, List.getElem_cons_zero, List.setIfInBounds_toArray, List.set_cons_zero, List.set_cons_succ]
    refine wpAnyF_done (by kernel_rfl) ?_ _
    refine noPanic_normal ?_
    obtain ⟨st, hst⟩ : ∃ st, st = f + (r : Int) := ⟨_, rfl⟩
    rw [← hst]
    have hst1 : f ≤ st := by omega
    have hst2 : st ≤ t := by have := hm1'h.out; have := hrm'h.out; omega
    have hf' : failE l st st = 0 := fail_yes hr'h.out (by have := h0'h.out; omega) (by omega)
    have AT := any_at eF'h.out hst1 hst2
    have eL2 : leastM l (cntL l f) (numT l f t) = a := by rw [← eL'h.out]; unfold szL; rw [if_pos eF'h.out]
    have eM2 : mostM l (cntL l f) (numT l f t) = b := by rw [← eM'h.out]; unfold szM; rw [if_pos eF'h.out]
    have g1 := AT.must
    have g2 := AT.least
    have g3 := AT.most
    rw [eU'h.out] at g1
    rw [eL2] at g2
    rw [eM2] at g3
    have MP := map_ln L5'h.out st
    have hlm := len_mapA l st
    have hln := chs_len L5'h.out.sl
    have hlh := L5'h.out.hn
    have hPm : P64 (mapA l st) := by rw [mapA_ok hf']; exact fun p hp => mapL_mem L5'h.out.ok hp
    rw [hf'] at MP
    rw [← mapA_ok hf'] at AT g1 g2 g3
    generalize mapA l st = mp at *
    obtain ⟨nm, hnm⟩ : ∃ nm, nm = mp.length := ⟨_, rfl⟩
    have hnm24 : nm ≤ 24 := by omega
    have LN := len_yes eF'h.out nm
    rw [eL'h.out, eM'h.out, decide_eq_true (show a ≤ nm by omega), decide_eq_true (show nm ≤ b by omega)] at LN
    have i1 : ¬ ((nm : Int) < (ml.length : Int)) := by omega
    have e1 : decide (nm < ml.length) = false := decide_eq_false (by omega)
    have i2 : ¬ ((nm : Int) < (a : Int)) := by omega
    have e2 : decide (nm < a) = false := decide_eq_false (by omega)
    have i3 : ¬ ((b : Int) < (nm : Int)) := by omega
    have e3 : decide (b < nm) = false := decide_eq_false (by omega)
    have h0n : (0 : Int) ≤ (nm : Int) := by omega
    clear R q2 q3 hz hst1 hst2 eL2 eM2 g1 g2 g3 hlm hln hlh hA'h hmm'h hm1'h hrr'h hrm'h hw1'h hw2'h hw3'h hw4'h hw5'h hst hf' eL'h eM'h hab'h
    have AT'h := Lib.hid AT
    have MP'h := Lib.hid MP
    have hPm'h := Lib.hid hPm
    have hnm'h := Lib.hid hnm
    have LN'h := Lib.hid LN
    have e1'h := Lib.hid e1
    have e2'h := Lib.hid e2
    have e3'h := Lib.hid e3
    clear AT MP hPm hnm LN e1 e2 e3
    go_upto_region 10 with (go_at_call 13; refine MP'h.out.mono ?_; rintro e w6 ⟨s6, n6, c6, rfl, hb6, S6, N6, C6⟩; obtain rfl : n6 = nm := (prs_len S6).trans hnm'h.out.symm)
    have h6 := H5'h.out.next hb6
    have l6 := L5'h.out.below hb6
    have s6' := (SlK.of_sl S5'h.out).below hb6
    have B7 := (Below.refl w6.heap.size w6).alloc (Nat.le_refl _) (.cells #[.slice s6 n6 c6] 31)
    have H7 := h6.new #[.slice s6 n6 c6] 31
    have L7 := l6.below B7
    have U7 := (s6'.below B7).sl
    have S7 := S6.below B7
    change Code.wp _ _ _ _ (w6.alloc (.cells #[.slice s6 n6 c6] 31))
    generalize w6.alloc _ = w7 at H7 L7 S7 U7 ⊢
    obtain ⟨b13, hb13⟩ : ∃ b13, b13 = w6.heap.size := ⟨_, rfl⟩
    rw [← hb13] at H7 ⊢
    clear hb6 S6 h6 l6 s6' B7 hb13 H5'h L5'h S5'h MP'h
    have k1 : w7.cell? ⟨b13, 0, none⟩ = some (.slice s6 n6 c6) := blk_cell H7.rows.1 rfl
    have H7'h := Lib.hid H7
    have L7'h := Lib.hid L7
    have S7'h := Lib.hid S7
    have U7'h := Lib.hid U7
    have N6'h := Lib.hid N6
    have C6'h := Lib.hid C6
    clear H7 L7 S7 U7 N6 C6
    go_upto_region 12 with (first | guard_target = wpList _ _ _ (Oper.mk _ (.load _ (.tmp 4)) _ _ _ _ :: _) _ _; refine wpList_load_row_w (by kernel_rfl) 43 (.tmp 4) rfl (w.heap.size) rfl 43 (tmA f t) (0, 0) _ H7'h.out.rows.2.1 Try.underlying43 rfl info_tm ?_ | (go_at_call 37; refine (mcheck_yes s6 n6 c6 mp w7 S7'h.out AT'h.out.up).mono ?_; rintro e w8 ⟨rfl, hb8⟩; have k2 := hb8.cell (lt_of_cell k1); rw [k1] at k2) | guard_target = wpList _ _ _ (Oper.mk _ (.load _ (.tmp 4)) _ _ _ _ :: _) _ _; refine wpList_load_row_w (by kernel_rfl) 43 (.tmp 4) rfl (w.heap.size) rfl 43 (tmA f t) (0, 0) _ (H7'h.out.next hb8).rows.2.1 Try.underlying43 rfl info_tm ?_ | (go_at_call 23; refine (range_ln (L7'h.out.below hb8) f t s6 n6 c6 mp (S7'h.out.below hb8) hPm'h.out (by omega)).mono ?_; rw [AT'h.out.ok]; rintro e w9 ⟨rfl, hb9⟩))
    have H9 := (H7'h.out.next hb8).next hb9
    have L9 := (L7'h.out.below hb8).below hb9
    have S9 := (S7'h.out.below hb8).below hb9
    have U9 := (((SlK.of_sl U7'h.out).below hb8).below hb9).sl
    clear hb8 hb9 k1 k2 H7'h L7'h S7'h U7'h
    have k1 : w9.cell? ⟨b13, 0, none⟩ = some (.slice s6 n6 c6) := blk_cell H9.rows.1 rfl
    have LE := len_ln L9 f t n6
    rw [LN'h.out] at LE
    have H9'h := Lib.hid H9
    have L9'h := Lib.hid L9
    have S9'h := Lib.hid S9
    have U9'h := Lib.hid U9
    have LE'h := Lib.hid LE
    clear H9 L9 S9 U9 LE
    have q0 : w9.cell? ⟨w.heap.size, 0, none⟩ = some (.int .i64 f) := blk_cell H9'h.out.rows.2.1 rfl
    have q1 : w9.cell? ⟨w.heap.size, 1, none⟩ = some (.int .i64 t) := blk_cell H9'h.out.rows.2.1 rfl
    go_upto_region 15 with (first | (go_at_call 34; refine LE'h.out.mono ?_; rintro e w10 ⟨rfl, hb10⟩))
    simp only [e1'h.out, e2'h.out, e3'h.out, Bool.or_false]
    have H10 := H9'h.out.next hb10
    have L10 := L9'h.out.below hb10
    have S10 := S9'h.out.below hb10
    have U10 := ((SlK.of_sl U9'h.out).below hb10).sl
    clear hb10 k1 q0 q1 e1'h e2'h e3'h H9'h L9'h S9'h U9'h LE'h LN'h i1 i2 i3
    have k1 : w10.cell? ⟨b13, 0, none⟩ = some (.slice s6 n6 c6) := blk_cell H10.rows.1 rfl
    have H10'h := Lib.hid H10
    have L10'h := Lib.hid L10
    have S10'h := Lib.hid S10
    have U10'h := Lib.hid U10
    clear H10 L10 S10 U10
    go_wp2
    go_loopg [114] n6 (fun q i wr => ∃ k : Nat, k + q = n6 ∧ i = .int .i64 k ∧ Hs w [(b13, #[.slice s6 n6 c6], 31), (w.heap.size, tmA f t, 43)] wr ∧ Ln wr sl n cl l ∧ Below w10.heap.size w10 wr)
    case atStart => exact ⟨0, by omega, rfl, H10'h.out, L10'h.out, Below.refl _ _⟩
    case round =>
      obtain ⟨go, rfl⟩ : ∃ go : Nat, go = gk := ⟨_, rfl⟩
      obtain ⟨k, hq, rfl, hH, hL, hB⟩ := hrel
      clear H10'h L10'h k1
      by_cases hlt : k < n6
      · have hkl : k < mp.length := by have := hnm'h.out; omega
        obtain ⟨pb, po, rfl⟩ := prs_some S10'h.out (by omega)
        obtain ⟨d1, d2⟩ := prs_cells (S10'h.out.below hB) hkl
        have hmem := nthP_mem hkl
        have hso : hSome l (nthP mp k).1 f t = true := by unfold hSome; rw [if_pos eF'h.out]; exact AT'h.out.some _ hmem
        have hvc := AT'h.out.val _ hmem
        have hi1 : (k : Int) < (n6 : Int) := by omega
        have h0k : (0 : Int) ≤ (k : Int) := by omega
        generalize nthP mp k = p at *
        obtain ⟨key, val⟩ := p
        simp only at d1 d2 hso hvc
        have H12 := hH.new #[.int .u64 (key : Int), .int .u64 (val : Int)] 38
        have B12 := (Below.refl wr.heap.size wr).alloc (Nat.le_refl _) (.cells #[.int .u64 (key : Int), .int .u64 (val : Int)] 38)
        have L12 := hL.below B12
        have B13 := below_next hB B12
        obtain ⟨ha, eA⟩ : ∃ ha, hAll l key f t = ha := ⟨_, rfl⟩
        have HD := held_ln L12 key f t
        rw [eA, hso] at HD
        clear hlt eA hmem
        have hH'h := Lib.hid hH
        have hL'h := Lib.hid hL
        have hq'h := Lib.hid hq
        have hB'h := Lib.hid hB
        have H12'h := Lib.hid H12
        have L12'h := Lib.hid L12
        have B12'h := Lib.hid B12
        have B13'h := Lib.hid B13
        have hkl'h := Lib.hid hkl
        have hso'h := Lib.hid hso
        have hvc'h := Lib.hid hvc
        have HD'h := Lib.hid HD
        clear hH hL hq hB H12 L12 B12 B13 hkl hso hvc HD
        go_upto_region 18 with fail
        change Code.wp _ _ _ _ (wr.alloc (.cells #[.int .u64 (key : Int), .int .u64 (val : Int)] 38))
        have H12 := H12'h.out
        have L12 := L12'h.out
        have B13 := B13'h.out
        have HD := HD'h.out
        clear H12'h L12'h B12'h B13'h HD'h hH'h hL'h hB'h d1 d2
        generalize wr.alloc _ = W12 at H12 L12 B13 HD ⊢
        obtain ⟨b17, hb17⟩ : ∃ b17, b17 = wr.heap.size := ⟨_, rfl⟩
        rw [← hb17] at H12 ⊢
        clear hb17
        have k1 : W12.cell? ⟨b17, 0, none⟩ = some (.int .u64 (key : Int)) := blk_cell H12.rows.1 rfl
        have H12'h := Lib.hid H12
        have L12'h := Lib.hid L12
        have B13'h := Lib.hid B13
        have HD'h := Lib.hid HD
        clear H12 L12 B13 HD
        go_upto_region 19 with (first | guard_target = wpList _ _ _ (Oper.mk _ (.load _ (.tmp 4)) _ _ _ _ :: _) _ _; refine wpList_load_row rfl 43 (.tmp 4) rfl (w.heap.size) rfl 43 (tmA f t) (0, 0) _ H12'h.out.rows.2.2.1 Try.underlying43 rfl info_tm ?_ | (go_at_call 29; refine HD'h.out.mono ?_; rintro e w13 ⟨rfl, hb13⟩))
        have H13 := (H12'h.out.next hb13).drew
        have L13 := (L12'h.out.below hb13).below (Below.drew (Below.refl _ _))
        have B14 := (below_next B13'h.out hb13).drew
        clear k1 H12'h L12'h B13'h HD'h hb13
        refine wp_region_heldQ (fun w' => (w'.cell? ⟨b17, 0, none⟩ = some (.int .u64 (key : Int)) ∧ w'.cell? ⟨b17, 1, none⟩ = some (.int .u64 (val : Int))) ∧ w'.heap[w.heap.size]? = some (.cells (tmA f t) 43 (0, 0))) 99 (by kernel_rfl) ?_
        generalize w13.drew = V0 at H13 L13 B14 ⊢
        have R : (V0.cell? ⟨b17, 0, none⟩ = some (.int .u64 (key : Int)) ∧ V0.cell? ⟨b17, 1, none⟩ = some (.int .u64 (val : Int))) ∧ V0.heap[w.heap.size]? = some (.cells (tmA f t) 43 (0, 0)) := ⟨⟨blk_cell H13.rows.1 rfl, blk_cell H13.rows.1 rfl⟩, H13.rows.2.2.1⟩
        refine wpAnyF_take (i := 0) (v := .bool true) rfl (by kernel_rfl) (by kernel_rfl) (by kernel_rfl) (by kernel_rfl) (fun _ _ _ h => h) (Or.inl ⟨by kernel_rfl, fun w hSw => by (try dsimp only at hSw); go_simp⟩) R ?_; try simp only [Act.put, List.getElem_toArray, List.getElem_cons_succ, List.getElem_cons_zero, List.setIfInBounds_toArray, List.set_cons_zero, List.set_cons_succ]
        refine wpAnyF_take (i := 1) (v := .bool false) rfl (by kernel_rfl) (by kernel_rfl) (by kernel_rfl) (by kernel_rfl) (fun _ _ _ h => h) (Or.inl ⟨by kernel_rfl, fun w hSw => by (try dsimp only at hSw); go_simp⟩) R ?_; try simp only [Act.put, List.getElem_toArray, List.getElem_cons_succ, List.getElem_cons_zero, List.setIfInBounds_toArray, List.set_cons_zero, List.set_cons_succ]
        refine wpAnyF_take (i := 2) (v := .bool false) rfl (by kernel_rfl) (by kernel_rfl) (by kernel_rfl) (by kernel_rfl) (fun _ _ _ h => h) (Or.inl ⟨by kernel_rfl, fun w hSw => by (try dsimp only at hSw); go_simp⟩) R ?_; try simp only [Act.put, List.getElem_toArray, List.getElem_cons_succ, List.getElem_cons_zero, List.setIfInBounds_toArray, List.set_cons_zero, List.set_cons_succ]
        refine wpAnyF_take (i := 3) (v := .slice sl n cl) rfl (by kernel_rfl) (by kernel_rfl) (by kernel_rfl) (by kernel_rfl) (fun _ _ _ h => h) (Or.inl ⟨by kernel_rfl, fun w hSw => by (try dsimp only at hSw); go_simp⟩) R ?_; try simp only [Act.put, List.getElem_toArray, List.getElem_cons_succ, List.getElem_cons_zero, List.setIfInBounds_toArray, List.set_cons_zero, List.set_cons_succ]
        refine wpAnyF_take (i := 4) (v := .pointer (some ⟨b17, 0, none⟩)) rfl (by kernel_rfl) (by kernel_rfl) (by kernel_rfl) (by kernel_rfl) (fun _ _ _ h => h) (Or.inl ⟨by kernel_rfl, fun w hSw => by (try dsimp only at hSw); go_simp⟩) R ?_; try simp only [Act.put, List.getElem_toArray, List.getElem_cons_succ, List.getElem_cons_zero, List.setIfInBounds_toArray, List.set_cons_zero, List.set_cons_succ]
        refine wpAnyF_take (i := 5) (v := .int .u64 key) rfl (by kernel_rfl) (by kernel_rfl) (by kernel_rfl) (by kernel_rfl) (fun _ _ _ h => h) (Or.inl ⟨by kernel_rfl, fun w hSw => by have hcc := hSw.1.1; (try dsimp only at hSw); go_simp⟩) R ?_; try simp only [Act.put, List.getElem_toArray, List.getElem_cons_succ, List.getElem_cons_zero, List.setIfInBounds_toArray, List.set_cons_zero, List.set_cons_succ]
        refine wpAnyF_take (i := 6) (v := .agg (tmA f t)) rfl (by kernel_rfl) (by kernel_rfl) (by kernel_rfl) (by kernel_rfl) (fun _ _ _ h => h) (Or.inl ⟨by kernel_rfl, fun w hSw => run_load_agg (by rfl) (by rfl) hSw.2 Try.underlying43 rfl info_tm⟩) R ?_; try simp only [Act.put, List.getElem_toArray, List.getElem_cons_succ, List.getElem_cons_zero, List.setIfInBounds_toArray, List.set_cons_zero, List.set_cons_succ]
        refine wpAnyF_take (i := 8) (v := .pointer (some ⟨b17, 1, none⟩)) rfl (by kernel_rfl) (by kernel_rfl) (by kernel_rfl) (by kernel_rfl) (fun _ _ _ h => h) (Or.inl ⟨by kernel_rfl, fun w hSw => by (try dsimp only at hSw); go_simp⟩) R ?_; try simp only [Act.put, List.getElem_toArray, List.getElem_cons_succ, List.getElem_cons_zero, List.setIfInBounds_toArray, List.set_cons_zero, List.set_cons_succ]
        refine wpAnyF_take (i := 9) (v := .int .u64 val) rfl (by kernel_rfl) (by kernel_rfl) (by kernel_rfl) (by kernel_rfl) (fun _ _ _ h => h) (Or.inl ⟨by kernel_rfl, fun w hSw => by have hcc := hSw.1.2; (try dsimp only at hSw); go_simp⟩) R ?_; try simp only [Act.put, List.getElem_toArray, List.getElem_cons_succ, List.getElem_cons_zero, List.setIfInBounds_toArray, List.set_cons_zero, List.set_cons_succ]
        refine wpAnyF_one (i := 7) (by kernel_rfl) rfl (fun K hK => ?_); go_simp
        refine (vals_ln L13 key f t).mono ?_
        rintro e V1 ⟨s14, c14, rfl, hb14, hrow14⟩
        dsimp only
        have H14 := H13.next hb14
        have L14 := L13.below hb14
        have B15 := below_next B14 hb14
        have S14 := (SlK.of_row hrow14 (Nat.le_trans (vals_len L13 key f t) (by decide))).sl
        clear R
        have R : (V1.cell? ⟨b17, 0, none⟩ = some (.int .u64 (key : Int)) ∧ V1.cell? ⟨b17, 1, none⟩ = some (.int .u64 (val : Int))) ∧ V1.heap[w.heap.size]? = some (.cells (tmA f t) 43 (0, 0)) := ⟨⟨blk_cell H14.rows.1 rfl, blk_cell H14.rows.1 rfl⟩, H14.rows.2.2.1⟩
        refine hK.out _ _ (fun _ => R) ?_; clear hK K; try simp only [Act.put, List.getElem_toArray, List.getElem_cons_succ, List.getElem_cons_zero, List.setIfInBounds_toArray, List.set_cons_zero, List.set_cons_succ]
        refine wpAnyF_one (i := 10) (by kernel_rfl) rfl (fun K hK => ?_); go_simp
        refine (containsU_any s14 _ c14 _ val V1 S14).mono ?_
        rw [hvc'h.out]
        rintro e V2 ⟨rfl, rfl⟩
        dsimp only
        refine hK.out _ _ (fun _ => R) ?_; clear hK K; try simp only [Act.put, List.getElem_toArray, List.getElem_cons_succ, List.getElem_cons_zero, List.setIfInBounds_toArray, List.set_cons_zero, List.set_cons_succ]
        refine wpAnyF_take (i := 11) (v := .bool false) rfl (by kernel_rfl) (by kernel_rfl) (by kernel_rfl) (by kernel_rfl) (fun _ _ _ h => h) (Or.inl ⟨by kernel_rfl, fun w hSw => by (try dsimp only at hSw); go_simp⟩) R ?_; try simp only [Act.put, List.getElem_toArray, List.getElem_cons_succ, List.getElem_cons_zero, List.setIfInBounds_toArray, List.set_cons_zero, List.set_cons_succ]
        refine wpAnyF_take (i := 12) (v := .bool false) rfl (by kernel_rfl) (by kernel_rfl) (by kernel_rfl) (by kernel_rfl) (fun _ _ _ h => h) (Or.inl ⟨by kernel_rfl, fun w hSw => by (try dsimp only at hSw); go_simp⟩) R ?_; try simp only [Act.put, List.getElem_toArray, List.getElem_cons_succ, List.getElem_cons_zero, List.setIfInBounds_toArray, List.set_cons_zero, List.set_cons_succ]
        refine wpAnyF_done (by kernel_rfl) ?_ _
        refine noPanic_normal ?_
        clear R S14 hrow14 hb14 H13 L13 B14
        have H14'h := Lib.hid H14
        have L14'h := Lib.hid L14
        have B15'h := Lib.hid B15
        clear H14 L14 B15
        go_wp2
        go_roundg (go - 1)
        case measure => have := hq'h.out; omega
        case rel => exact ⟨k + 1, by have := hq'h.out; omega, by go_num, H14'h.out.tail, L14'h.out, B15'h.out⟩
      · have hi1 : ¬ (k : Int) < (n6 : Int) := by omega
        have k1 : wr.cell? ⟨b13, 0, none⟩ = some (.slice s6 n6 c6) := blk_cell hH.rows.1 rfl
        have S11 := S10'h.out.below hB
        have U11 := ((SlK.of_sl U10'h.out).below hB).sl
        clear hlt S10'h U10'h hB
        generalize wr = w11 at *
        have hH'h := Lib.hid hH
        have hL'h := Lib.hid hL
        have hq'h := Lib.hid hq
        have S11'h := Lib.hid S11
        have U11'h := Lib.hid U11
        clear hH hL hq S11 U11
        go_wp2
        clear k1
        go_loopg [143] n6 (fun q i wr => ∃ k : Nat, k + q = n6 ∧ i = .int .i64 k ∧ Hs w [(b13, #[.slice s6 n6 c6], 31), (w.heap.size, tmA f t, 43)] wr ∧ Ln wr sl n cl l ∧ Below w11.heap.size w11 wr)
        case atStart => exact ⟨0, by omega, rfl, hH'h.out, hL'h.out, Below.refl _ _⟩
        case round =>
          obtain ⟨k, hq2, rfl, hH, hL, hB⟩ := hrel
          clear hH'h hL'h
          by_cases hlt : k < n6
          · have hkl : k < mp.length := by have := hnm'h.out; omega
            obtain ⟨pb, po, rfl⟩ := prs_some S11'h.out (by omega)
            obtain ⟨d1, d2⟩ := prs_cells (S11'h.out.below hB) hkl
            have hsp := nthP_split hkl
            have RL := range_less eF'h.out AT'h.out hkl
            have RT := range_twice (m := mp) eF'h.out hkl
            rw [eU'h.out] at RL
            have hmem := nthP_mem hkl
            have hp64 := hPm'h.out _ hmem
            have hlA : (mp.take k).length = k := by rw [List.length_take]; omega
            have hlB : (mp.take k).length + (mp.drop (k + 1)).length = n6 - 1 := by have := hnm'h.out; rw [List.length_take, List.length_drop]; omega
            obtain ⟨PA, hPA⟩ : ∃ PA, PA = mp.take k := ⟨_, rfl⟩
            obtain ⟨PB, hPB⟩ : ∃ PB, PB = mp.drop (k + 1) := ⟨_, rfl⟩
            rw [← hPA, ← hPB] at RL hsp hlB
            rw [← hPA] at hlA
            have hPl : P64 (PA ++ PB) := by
              rw [hPA, hPB]
              exact fun p hp => hPm'h.out p (by
                rcases List.mem_append.1 hp with hp | hp
                · exact List.mem_of_mem_take hp
                · exact List.mem_of_mem_drop hp)
            have hi1 : (k : Int) < (n6 : Int) := by omega
            have h0k : (0 : Int) ≤ (k : Int) := by omega
            generalize nthP mp k = p at *
            obtain ⟨key, val⟩ := p
            simp only at d1 d2 RL hp64
            have H12 := hH.new #[.int .u64 (key : Int), .int .u64 (val : Int)] 38
            have B12 := (Below.refl wr.heap.size wr).alloc (Nat.le_refl _) (.cells #[.int .u64 (key : Int), .int .u64 (val : Int)] 38)
            have L12 := hL.below B12
            have B13 := below_next hB B12
            clear hlt hmem hPA hPB
            have hH'h := Lib.hid hH
            have hL'h := Lib.hid hL
            have hq2'h := Lib.hid hq2
            have hB'h := Lib.hid hB
            have H12'h := Lib.hid H12
            have L12'h := Lib.hid L12
            have B12'h := Lib.hid B12
            have B13'h := Lib.hid B13
            have hkl'h := Lib.hid hkl
            have hsp'h := Lib.hid hsp
            have RL'h := Lib.hid RL
            have RT'h := Lib.hid RT
            have hp64'h := Lib.hid hp64
            have hlA'h := Lib.hid hlA
            have hlB'h := Lib.hid hlB
            have hPl'h := Lib.hid hPl
            clear hH hL hq2 hB H12 L12 B12 B13 hkl hsp RL RT hp64 hlA hlB hPl
            go_upto_region 25 with fail
            change Code.wp _ _ _ _ (wr.alloc (.cells #[.int .u64 (key : Int), .int .u64 (val : Int)] 38))
            have H12 := H12'h.out
            have L12 := L12'h.out
            have B13 := B13'h.out
            clear H12'h L12'h B12'h B13'h hH'h hL'h hB'h d1 d2
            generalize wr.alloc _ = W12 at H12 L12 B13 ⊢
            obtain ⟨b21, hb21⟩ : ∃ b21, b21 = wr.heap.size := ⟨_, rfl⟩
            rw [← hb21] at H12 ⊢
            clear hb21
            have k1 : W12.cell? ⟨b13, 0, none⟩ = some (.slice (some ⟨pb, po, none⟩) n6 c6) := blk_cell H12.rows.2.1 rfl
            have hw1 : IntKind.i64.wrap ((k : Int) + 1) = (k : Int) + 1 := Go.IntWalk.i64_in _ (by have := hkl'h.out; omega)
            have hw64 : RowKit.wrap64 ((k : Int) + 1) = (k : Int) + 1 := (Go.IntWalk.i64_left _).symm.trans hw1
            have S12 := S11'h.out.below B13
            have H12'h := Lib.hid H12
            have L12'h := Lib.hid L12
            have B13'h := Lib.hid B13
            have S12'h := Lib.hid S12
            clear H12 L12 B13 S12
            go_upto_region 26 with (first | (go_at_call 20; refine (cloneP_any _ n6 c6 (prs mp) W12 (by omega) (prs_one _) N6'h.out S12'h.out).mono ?_; rintro e w13 ⟨s13, c13, rfl, hb13', hrow13⟩; obtain ⟨g13, cur13, rfl, hge13, hg13, hnc13, hcm13, hsz13, ht13⟩ := row_block hrow13 (by omega)) | (go_at_call 38; refine (deleteP_any g13 c13 n6 PA PB (key, val) cur13 w13 hg13 hsz13 _ _ (by rw [hlA'h.out]) (by rw [hlA'h.out]) (by rw [← hsp'h.out]; exact hnm'h.out) hnc13 hcm13 (by rw [ht13, ← hsp'h.out])).mono ?_; rintro e w14 ⟨rfl, ho14, S14⟩))
            have B14 := hb13'.trans (ho14.1 _ hge13)
            have H14 := H12'h.out.next B14
            have L14 := L12'h.out.below B14
            have S15 := S12'h.out.below B14
            have B15 := below_next B13'h.out B14
            rw [hlB'h.out] at S14 ⊢
            have k2 : w14.cell? ⟨b21, 0, none⟩ = some (.int .u64 (key : Int)) := blk_cell H14.rows.1 rfl
            have U14 := ((SlK.of_sl U11'h.out).below B15).sl
            clear hb13' hrow13 hg13 ht13 ho14 k1 H12'h L12'h B13'h S12'h B14
            obtain ⟨hc, hhc⟩ : ∃ hc, hc = ml.contains key := ⟨_, rfl⟩
            have RL2 := RL'h.out
            have hone : ∀ u ∈ ([.int .u64 (key : Int), .int .u64 (val : Int)] : List Value), u.oneCell' = true := by
              intro u hu
              rcases List.mem_cons.1 hu with rfl | hu
              · rfl
              · rw [List.mem_singleton.1 hu]; rfl
            have hsn : (prs mp) ++ [.int .u64 (key : Int), .int .u64 (val : Int)] = prs (mp ++ [(key, val)]) := by rw [prs_append]; rfl
            have hPt : P64 (mp ++ [(key, val)]) := fun p hp => by
              rcases List.mem_append.1 hp with hp | hp
              · exact hPm'h.out p hp
              · rw [List.mem_singleton.1 hp]; exact hp64'h.out
            cases hc with
            | true =>
              rw [if_pos hhc.symm] at RL2
              have H14'h := Lib.hid H14
              have L14'h := Lib.hid L14
              have S14'h := Lib.hid S14
              have S15'h := Lib.hid S15
              have B15'h := Lib.hid B15
              have U14'h := Lib.hid U14
              have hhc'h := Lib.hid hhc
              have RL2'h := Lib.hid RL2
              have hone'h := Lib.hid hone
              have hsn'h := Lib.hid hsn
              have hPt'h := Lib.hid hPt
              clear H14 L14 S14 S15 B15 U14 hhc RL2 hone hsn hPt
              go_upto_region 29 with (go_at_call 27; refine (containsU_any s3 _ c3 ml key w14 U14'h.out).mono ?_; rw [← hhc'h.out]; rintro e w15 ⟨rfl, hw15⟩; obtain rfl := hw15.symm)
              have H16 := H14'h.out.drew
              have L16 := L14'h.out.below (Below.drew (Below.refl _ _))
              have S16 := S14'h.out.below (Below.drew (Below.refl _ _))
              have T16 := S15'h.out.below (Below.drew (Below.refl _ _))
              have B16 := B15'h.out.drew
              clear k2 H14'h L14'h S14'h S15'h B15'h U14'h
              refine wp_region_heldQ (fun w' => (w'.cell? ⟨b13, 0, none⟩ = some (.slice (some ⟨pb, po, none⟩) n6 c6) ∧ w'.heap[b21]? = some (.cells #[.int .u64 (key : Int), .int .u64 (val : Int)] 38 (0, 0))) ∧ w'.heap[w.heap.size]? = some (.cells (tmA f t) 43 (0, 0))) 99 (by kernel_rfl) ?_
              generalize w14.drew = V0 at H16 L16 S16 T16 B16 ⊢
              have R : (V0.cell? ⟨b13, 0, none⟩ = some (.slice (some ⟨pb, po, none⟩) n6 c6) ∧ V0.heap[b21]? = some (.cells #[.int .u64 (key : Int), .int .u64 (val : Int)] 38 (0, 0))) ∧ V0.heap[w.heap.size]? = some (.cells (tmA f t) 43 (0, 0)) := ⟨⟨blk_cell H16.rows.2.1 rfl, H16.rows.1⟩, H16.rows.2.2.1⟩
              refine wpAnyF_take (i := 0) (v := .slice sl n cl) rfl (by kernel_rfl) (by kernel_rfl) (by kernel_rfl) (by kernel_rfl) (fun _ _ _ h => h) (Or.inl ⟨by kernel_rfl, fun w hSw => by (try dsimp only at hSw); go_simp⟩) R ?_; try simp only [Act.put, List.getElem_toArray, List.getElem_cons_succ, List.getElem_cons_zero, List.setIfInBounds_toArray, List.set_cons_zero, List.set_cons_succ]
              refine wpAnyF_take (i := 1) (v := .agg (tmA f t)) rfl (by kernel_rfl) (by kernel_rfl) (by kernel_rfl) (by kernel_rfl) (fun _ _ _ h => h) (Or.inl ⟨by kernel_rfl, fun w hSw => run_load_agg (by rfl) (by rfl) hSw.2 Try.underlying43 rfl info_tm⟩) R ?_; try simp only [Act.put, List.getElem_toArray, List.getElem_cons_succ, List.getElem_cons_zero, List.setIfInBounds_toArray, List.set_cons_zero, List.set_cons_succ]
              refine wpAnyF_take (i := 2) (v := .slice (some ⟨g13, 0, none⟩) (n6 - 1) c13) rfl (by kernel_rfl) (by kernel_rfl) (by kernel_rfl) (by kernel_rfl) (fun _ _ _ h => h) (Or.inl ⟨by kernel_rfl, fun w hSw => by (try dsimp only at hSw); go_simp⟩) R ?_; try simp only [Act.put, List.getElem_toArray, List.getElem_cons_succ, List.getElem_cons_zero, List.setIfInBounds_toArray, List.set_cons_zero, List.set_cons_succ]
              refine wpAnyF_take (i := 4) (v := .int .i64 383) rfl (by kernel_rfl) (by kernel_rfl) (by kernel_rfl) (by kernel_rfl) (fun _ _ _ h => h) (Or.inl ⟨by kernel_rfl, fun w hSw => by (try dsimp only at hSw); go_simp⟩) R ?_; try simp only [Act.put, List.getElem_toArray, List.getElem_cons_succ, List.getElem_cons_zero, List.setIfInBounds_toArray, List.set_cons_zero, List.set_cons_succ]
              refine wpAnyF_one (i := 3) (by kernel_rfl) rfl (fun K hK => ?_); go_simp
              refine (range_ln L16 f t _ _ c13 (PA ++ PB) S16 hPl'h.out (by omega)).mono ?_
              rw [RL2'h.out]
              rintro e V1 ⟨rfl, hb1⟩
              dsimp only
              have H17 := H16.next hb1
              have L17 := L16.below hb1
              have T17 := T16.below hb1
              have B17 := below_next B16 hb1
              clear R H16 L16 S16 T16 B16 hb1
              have R : (V1.cell? ⟨b13, 0, none⟩ = some (.slice (some ⟨pb, po, none⟩) n6 c6) ∧ V1.heap[b21]? = some (.cells #[.int .u64 (key : Int), .int .u64 (val : Int)] 38 (0, 0))) ∧ V1.heap[w.heap.size]? = some (.cells (tmA f t) 43 (0, 0)) := ⟨⟨blk_cell H17.rows.2.1 rfl, H17.rows.1⟩, H17.rows.2.2.1⟩
              refine hK.out _ _ (fun _ => R) ?_; clear hK K; try simp only [Act.put, List.getElem_toArray, List.getElem_cons_succ, List.getElem_cons_zero, List.setIfInBounds_toArray, List.set_cons_zero, List.set_cons_succ]
              refine wpAnyF_take (i := 5) (v := .bool false) rfl (by kernel_rfl) (by kernel_rfl) (by kernel_rfl) (by kernel_rfl) (fun _ _ _ h => h) (Or.inl ⟨by kernel_rfl, fun w hSw => by (try dsimp only at hSw); go_simp⟩) R ?_; try simp only [Act.put, List.getElem_toArray, List.getElem_cons_succ, List.getElem_cons_zero, List.setIfInBounds_toArray, List.set_cons_zero, List.set_cons_succ]
              refine wpAnyF_take (i := 6) (v := .bool false) rfl (by kernel_rfl) (by kernel_rfl) (by kernel_rfl) (by kernel_rfl) (fun _ _ _ h => h) (Or.inl ⟨by kernel_rfl, fun w hSw => by (try dsimp only at hSw); go_simp⟩) R ?_; try simp only [Act.put, List.getElem_toArray, List.getElem_cons_succ, List.getElem_cons_zero, List.setIfInBounds_toArray, List.set_cons_zero, List.set_cons_succ]
              refine wpAnyF_take (i := 7) (v := .slice sl n cl) rfl (by kernel_rfl) (by kernel_rfl) (by kernel_rfl) (by kernel_rfl) (fun _ _ _ h => h) (Or.inl ⟨by kernel_rfl, fun w hSw => by (try dsimp only at hSw); go_simp⟩) R ?_; try simp only [Act.put, List.getElem_toArray, List.getElem_cons_succ, List.getElem_cons_zero, List.setIfInBounds_toArray, List.set_cons_zero, List.set_cons_succ]
              refine wpAnyF_take (i := 8) (v := .agg (tmA f t)) rfl (by kernel_rfl) (by kernel_rfl) (by kernel_rfl) (by kernel_rfl) (fun _ _ _ h => h) (Or.inl ⟨by kernel_rfl, fun w hSw => run_load_agg (by rfl) (by rfl) hSw.2 Try.underlying43 rfl info_tm⟩) R ?_; try simp only [Act.put, List.getElem_toArray, List.getElem_cons_succ, List.getElem_cons_zero, List.setIfInBounds_toArray, List.set_cons_zero, List.set_cons_succ]
              refine wpAnyF_take (i := 9) (v := .pointer (some ⟨b13, 0, none⟩)) rfl (by kernel_rfl) (by kernel_rfl) (by kernel_rfl) (by kernel_rfl) (fun _ _ _ h => h) (Or.inl ⟨by kernel_rfl, fun w hSw => by (try dsimp only at hSw); go_simp⟩) R ?_; try simp only [Act.put, List.getElem_toArray, List.getElem_cons_succ, List.getElem_cons_zero, List.setIfInBounds_toArray, List.set_cons_zero, List.set_cons_succ]
              refine wpAnyF_take (i := 10) (v := .slice (some ⟨pb, po, none⟩) n6 c6) rfl (by kernel_rfl) (by kernel_rfl) (by kernel_rfl) (by kernel_rfl) (fun _ _ _ h => h) (Or.inl ⟨by kernel_rfl, fun w hSw => by have hcc := hSw.1.1; (try dsimp only at hSw); go_simp⟩) R ?_; try simp only [Act.put, List.getElem_toArray, List.getElem_cons_succ, List.getElem_cons_zero, List.setIfInBounds_toArray, List.set_cons_zero, List.set_cons_succ]
              refine wpAnyF_take (i := 12) (v := .agg #[.int .u64 (key : Int), .int .u64 (val : Int)]) rfl (by kernel_rfl) (by kernel_rfl) (by kernel_rfl) (by kernel_rfl) (fun _ _ _ h => h) (Or.inl ⟨by kernel_rfl, fun w hSw => run_load_agg (by rfl) (by rfl) hSw.1.2 Try.underlying38 rfl info_pair2⟩) R ?_; try simp only [Act.put, List.getElem_toArray, List.getElem_cons_succ, List.getElem_cons_zero, List.setIfInBounds_toArray, List.set_cons_zero, List.set_cons_succ]
              refine wpAnyF_two (i := 11) (j := 13) (by kernel_rfl) rfl rfl (fun K hK => ?_) (fun K hK => ?_)
              · go_simp
                refine (cloneP_any _ n6 c6 (prs mp) V1 (by omega) (prs_one _) N6'h.out T17).mono ?_
                rintro e V2 ⟨s18, c18, rfl, hb2, hrow2⟩
                dsimp only
                have B2 := hb2
                clear R
                have H18 := H17.next hb2
                have R : (V2.cell? ⟨b13, 0, none⟩ = some (.slice (some ⟨pb, po, none⟩) n6 c6) ∧ V2.heap[b21]? = some (.cells #[.int .u64 (key : Int), .int .u64 (val : Int)] 38 (0, 0))) ∧ V2.heap[w.heap.size]? = some (.cells (tmA f t) 43 (0, 0)) := ⟨⟨blk_cell H18.rows.2.1 rfl, H18.rows.1⟩, H18.rows.2.2.1⟩
                refine hK.out _ _ (fun _ => R) ?_; clear hK K; try simp only [Act.put, List.getElem_toArray, List.getElem_cons_succ, List.getElem_cons_zero, List.setIfInBounds_toArray, List.set_cons_zero, List.set_cons_succ]
                refine wpAnyF_one (i := 13) (by kernel_rfl) rfl (fun K hK => ?_)
                go_simp
                have hb3 := (Below.refl V2.heap.size V2).alloc (Nat.le_refl _) (.cells #[.int .u64 (key : Int), .int .u64 (val : Int)] 38)
                have B3 := below_next B2 hb3
                have hrow3 := ownsRow_next hrow2 hb3
                have X3 : SlK (V2.alloc (.cells #[.int .u64 (key : Int), .int .u64 (val : Int)] 38)) 2 (some ⟨V2.heap.size, 0, none⟩) 1 [.int .u64 (key : Int), .int .u64 (val : Int)] := SlK.of_blk (World.alloc_heap_new _ _) rfl (by decide)
                generalize V2.heap.size = bx at X3 ⊢
                generalize V2.alloc _ = V3 at hb3 B3 hrow3 X3 ⊢
                clear R
                have H19 := H17.next B3
                have R : (V3.cell? ⟨b13, 0, none⟩ = some (.slice (some ⟨pb, po, none⟩) n6 c6) ∧ V3.heap[b21]? = some (.cells #[.int .u64 (key : Int), .int .u64 (val : Int)] 38 (0, 0))) ∧ V3.heap[w.heap.size]? = some (.cells (tmA f t) 43 (0, 0)) := ⟨⟨blk_cell H19.rows.2.1 rfl, H19.rows.1⟩, H19.rows.2.2.1⟩
                refine hK.out _ _ (fun _ => R) ?_; clear hK K; try simp only [Act.put, List.getElem_toArray, List.getElem_cons_succ, List.getElem_cons_zero, List.setIfInBounds_toArray, List.set_cons_zero, List.set_cons_succ]
                refine wpAnyF_one (i := 14) (by kernel_rfl) rfl (fun K hK => ?_)
                refine step_append_w (by kernel_rfl) (.tmp 170) (.tmp 172) 24 rfl V1.heap.size 38 i0 (.agg #[.int .u64 0, .int .u64 0]) 2 16 Try.underlying24 hi hz0 hz1 hz2 rfl (by decide) (.slice s18 n6 c18) n6 (prs mp) rfl hrow3 (some ⟨bx, 0, none⟩) 1 1 _ rfl X3 hone'h.out (by unfold maxLen; omega) (by omega) B3.size ?_
                intro v' V4 hown4 hgrow4 hwh4
                rw [hsn'h.out] at hown4
                obtain ⟨s20, c20, rfl, -, -, -⟩ := row_form hown4
                have B4 : Below V1.heap.size V1 V4 := B3.grown hgrow4 B3.size (fun j hj => And.left <| hrow3.lt j hj)
                clear R
                have H20 := H17.next B4
                have L20 := L17.below B4
                have R : (V4.cell? ⟨b13, 0, none⟩ = some (.slice (some ⟨pb, po, none⟩) n6 c6) ∧ V4.heap[b21]? = some (.cells #[.int .u64 (key : Int), .int .u64 (val : Int)] 38 (0, 0))) ∧ V4.heap[w.heap.size]? = some (.cells (tmA f t) 43 (0, 0)) := ⟨⟨blk_cell H20.rows.2.1 rfl, H20.rows.1⟩, H20.rows.2.2.1⟩
                refine hK.out _ _ (fun _ => R) ?_; clear hK K; try simp only [Act.put, List.getElem_toArray, List.getElem_cons_succ, List.getElem_cons_zero, List.setIfInBounds_toArray, List.set_cons_zero, List.set_cons_succ]
                refine wpAnyF_one (i := 15) (by kernel_rfl) rfl (fun K hK => ?_); go_simp
                refine (range_ln L20 f t s20 (n6 + 1) c20 (mp ++ [(key, val)]) (SlK.of_row hown4 (by unfold maxLen; omega)) hPt'h.out (by omega)).mono ?_
                rw [RT'h.out]
                rintro e V5 ⟨rfl, hb5⟩
                dsimp only
                clear R
                have H21 := H20.next hb5
                have L21 := L20.below hb5
                have B21 := below_next B17 (below_next B4 hb5)
                have R : (V5.cell? ⟨b13, 0, none⟩ = some (.slice (some ⟨pb, po, none⟩) n6 c6) ∧ V5.heap[b21]? = some (.cells #[.int .u64 (key : Int), .int .u64 (val : Int)] 38 (0, 0))) ∧ V5.heap[w.heap.size]? = some (.cells (tmA f t) 43 (0, 0)) := ⟨⟨blk_cell H21.rows.2.1 rfl, H21.rows.1⟩, H21.rows.2.2.1⟩
                refine hK.out _ _ (fun _ => R) ?_; clear hK K; try simp only [Act.put, List.getElem_toArray, List.getElem_cons_succ, List.getElem_cons_zero, List.setIfInBounds_toArray, List.set_cons_zero, List.set_cons_succ]
                refine wpAnyF_take (i := 16) (v := .bool false) rfl (by kernel_rfl) (by kernel_rfl) (by kernel_rfl) (by kernel_rfl) (fun _ _ _ h => h) (Or.inl ⟨by kernel_rfl, fun w hSw => by (try dsimp only at hSw); go_simp⟩) R ?_; try simp only [Act.put, List.getElem_toArray, List.getElem_cons_succ, List.getElem_cons_zero, List.setIfInBounds_toArray, List.set_cons_zero, List.set_cons_succ]
                refine wpAnyF_take (i := 17) (v := .bool false) rfl (by kernel_rfl) (by kernel_rfl) (by kernel_rfl) (by kernel_rfl) (fun _ _ _ h => h) (Or.inl ⟨by kernel_rfl, fun w hSw => by (try dsimp only at hSw); go_simp⟩) R ?_; try simp only [Act.put, List.getElem_toArray, List.getElem_cons_succ, List.getElem_cons_zero, List.setIfInBounds_toArray, List.set_cons_zero, List.set_cons_succ]
                refine wpAnyF_done (by kernel_rfl) ?_ _
                refine noPanic_normal ?_
                clear R
                have H21'h := Lib.hid H21
                have L21'h := Lib.hid L21
                have B21'h := Lib.hid B21
                clear H21 L21 B21
                go_wp2
                go_roundg (gk - 1)
                case measure => have := hq2'h.out; omega
                case rel => exact ⟨k + 1, by have := hq2'h.out; omega, by go_num, H21'h.out.tail, L21'h.out, B21'h.out⟩
              · go_simp
                have hb3 := (Below.refl V1.heap.size V1).alloc (Nat.le_refl _) (.cells #[.int .u64 (key : Int), .int .u64 (val : Int)] 38)
                have X2 : SlK (V1.alloc (.cells #[.int .u64 (key : Int), .int .u64 (val : Int)] 38)) 2 (some ⟨V1.heap.size, 0, none⟩) 1 [.int .u64 (key : Int), .int .u64 (val : Int)] := SlK.of_blk (World.alloc_heap_new _ _) rfl (by decide)
                obtain ⟨bx, hbx⟩ : ∃ bx, bx = V1.heap.size := ⟨_, rfl⟩
                rw [← hbx] at X2 ⊢
                clear hbx
                generalize V1.alloc _ = V2 at hb3 X2 ⊢
                clear R
                have H18 := H17.next hb3
                have R : (V2.cell? ⟨b13, 0, none⟩ = some (.slice (some ⟨pb, po, none⟩) n6 c6) ∧ V2.heap[b21]? = some (.cells #[.int .u64 (key : Int), .int .u64 (val : Int)] 38 (0, 0))) ∧ V2.heap[w.heap.size]? = some (.cells (tmA f t) 43 (0, 0)) := ⟨⟨blk_cell H18.rows.2.1 rfl, H18.rows.1⟩, H18.rows.2.2.1⟩
                refine hK.out _ _ (fun _ => R) ?_; clear hK K; try simp only [Act.put, List.getElem_toArray, List.getElem_cons_succ, List.getElem_cons_zero, List.setIfInBounds_toArray, List.set_cons_zero, List.set_cons_succ]
                refine wpAnyF_one (i := 11) (by kernel_rfl) rfl (fun K hK => ?_)
                go_simp
                refine (cloneP_any _ n6 c6 (prs mp) V2 (by omega) (prs_one _) N6'h.out (T17.below hb3)).mono ?_
                rintro e V3 ⟨s18, c18, rfl, hb2, hrow3⟩
                dsimp only
                have B3 := below_next hb3 hb2
                have X3 := X2.below hb2
                have hrow3 := ownsRow_mono hrow3 hb3.size
                clear R
                have H19 := H17.next B3
                have R : (V3.cell? ⟨b13, 0, none⟩ = some (.slice (some ⟨pb, po, none⟩) n6 c6) ∧ V3.heap[b21]? = some (.cells #[.int .u64 (key : Int), .int .u64 (val : Int)] 38 (0, 0))) ∧ V3.heap[w.heap.size]? = some (.cells (tmA f t) 43 (0, 0)) := ⟨⟨blk_cell H19.rows.2.1 rfl, H19.rows.1⟩, H19.rows.2.2.1⟩
                refine hK.out _ _ (fun _ => R) ?_; clear hK K; try simp only [Act.put, List.getElem_toArray, List.getElem_cons_succ, List.getElem_cons_zero, List.setIfInBounds_toArray, List.set_cons_zero, List.set_cons_succ]
                refine wpAnyF_one (i := 14) (by kernel_rfl) rfl (fun K hK => ?_)
                refine step_append_w (by kernel_rfl) (.tmp 170) (.tmp 172) 24 rfl V1.heap.size 38 i0 (.agg #[.int .u64 0, .int .u64 0]) 2 16 Try.underlying24 hi hz0 hz1 hz2 rfl (by decide) (.slice s18 n6 c18) n6 (prs mp) rfl hrow3 (some ⟨bx, 0, none⟩) 1 1 _ rfl X3 hone'h.out (by unfold maxLen; omega) (by omega) B3.size ?_
                intro v' V4 hown4 hgrow4 hwh4
                rw [hsn'h.out] at hown4
                obtain ⟨s20, c20, rfl, -, -, -⟩ := row_form hown4
                have B4 : Below V1.heap.size V1 V4 := B3.grown hgrow4 B3.size (fun j hj => And.left <| hrow3.lt j hj)
                clear R
                have H20 := H17.next B4
                have L20 := L17.below B4
                have R : (V4.cell? ⟨b13, 0, none⟩ = some (.slice (some ⟨pb, po, none⟩) n6 c6) ∧ V4.heap[b21]? = some (.cells #[.int .u64 (key : Int), .int .u64 (val : Int)] 38 (0, 0))) ∧ V4.heap[w.heap.size]? = some (.cells (tmA f t) 43 (0, 0)) := ⟨⟨blk_cell H20.rows.2.1 rfl, H20.rows.1⟩, H20.rows.2.2.1⟩
                refine hK.out _ _ (fun _ => R) ?_; clear hK K; try simp only [Act.put, List.getElem_toArray, List.getElem_cons_succ, List.getElem_cons_zero, List.setIfInBounds_toArray, List.set_cons_zero, List.set_cons_succ]
                refine wpAnyF_one (i := 15) (by kernel_rfl) rfl (fun K hK => ?_); go_simp
                refine (range_ln L20 f t s20 (n6 + 1) c20 (mp ++ [(key, val)]) (SlK.of_row hown4 (by unfold maxLen; omega)) hPt'h.out (by omega)).mono ?_
                rw [RT'h.out]
                rintro e V5 ⟨rfl, hb5⟩
                dsimp only
                clear R
                have H21 := H20.next hb5
                have L21 := L20.below hb5
                have B21 := below_next B17 (below_next B4 hb5)
                have R : (V5.cell? ⟨b13, 0, none⟩ = some (.slice (some ⟨pb, po, none⟩) n6 c6) ∧ V5.heap[b21]? = some (.cells #[.int .u64 (key : Int), .int .u64 (val : Int)] 38 (0, 0))) ∧ V5.heap[w.heap.size]? = some (.cells (tmA f t) 43 (0, 0)) := ⟨⟨blk_cell H21.rows.2.1 rfl, H21.rows.1⟩, H21.rows.2.2.1⟩
                refine hK.out _ _ (fun _ => R) ?_; clear hK K; try simp only [Act.put, List.getElem_toArray, List.getElem_cons_succ, List.getElem_cons_zero, List.setIfInBounds_toArray, List.set_cons_zero, List.set_cons_succ]
                refine wpAnyF_take (i := 16) (v := .bool false) rfl (by kernel_rfl) (by kernel_rfl) (by kernel_rfl) (by kernel_rfl) (fun _ _ _ h => h) (Or.inl ⟨by kernel_rfl, fun w hSw => by (try dsimp only at hSw); go_simp⟩) R ?_; try simp only [Act.put, List.getElem_toArray, List.getElem_cons_succ, List.getElem_cons_zero, List.setIfInBounds_toArray, List.set_cons_zero, List.set_cons_succ]
                refine wpAnyF_take (i := 17) (v := .bool false) rfl (by kernel_rfl) (by kernel_rfl) (by kernel_rfl) (by kernel_rfl) (fun _ _ _ h => h) (Or.inl ⟨by kernel_rfl, fun w hSw => by (try dsimp only at hSw); go_simp⟩) R ?_; try simp only [Act.put, List.getElem_toArray, List.getElem_cons_succ, List.getElem_cons_zero, List.setIfInBounds_toArray, List.set_cons_zero, List.set_cons_succ]
                refine wpAnyF_done (by kernel_rfl) ?_ _
                refine noPanic_normal ?_
                clear R
                have H21'h := Lib.hid H21
                have L21'h := Lib.hid L21
                have B21'h := Lib.hid B21
                clear H21 L21 B21
                go_wp2
                go_roundg (gk - 1)
                case measure => have := hq2'h.out; omega
                case rel => exact ⟨k + 1, by have := hq2'h.out; omega, by go_num, H21'h.out.tail, L21'h.out, B21'h.out⟩
            | false =>
              rw [if_neg (by rw [← hhc]; decide)] at RL2
              have H14'h := Lib.hid H14
              have L14'h := Lib.hid L14
              have S14'h := Lib.hid S14
              have S15'h := Lib.hid S15
              have B15'h := Lib.hid B15
              have U14'h := Lib.hid U14
              have hhc'h := Lib.hid hhc
              have RL2'h := Lib.hid RL2
              have hone'h := Lib.hid hone
              have hsn'h := Lib.hid hsn
              have hPt'h := Lib.hid hPt
              clear H14 L14 S14 S15 B15 U14 hhc RL2 hone hsn hPt
              go_upto_region 29 with (go_at_call 27; refine (containsU_any s3 _ c3 ml key w14 U14'h.out).mono ?_; rw [← hhc'h.out]; rintro e w15 ⟨rfl, hw15⟩; obtain rfl := hw15.symm)
              have H16 := H14'h.out.drew
              have L16 := L14'h.out.below (Below.drew (Below.refl _ _))
              have S16 := S14'h.out.below (Below.drew (Below.refl _ _))
              have T16 := S15'h.out.below (Below.drew (Below.refl _ _))
              have B16 := B15'h.out.drew
              clear k2 H14'h L14'h S14'h S15'h B15'h U14'h
              refine wp_region_heldQ (fun w' => (w'.cell? ⟨b13, 0, none⟩ = some (.slice (some ⟨pb, po, none⟩) n6 c6) ∧ w'.heap[b21]? = some (.cells #[.int .u64 (key : Int), .int .u64 (val : Int)] 38 (0, 0))) ∧ w'.heap[w.heap.size]? = some (.cells (tmA f t) 43 (0, 0))) 99 (by kernel_rfl) ?_
              generalize w14.drew = V0 at H16 L16 S16 T16 B16 ⊢
              have R : (V0.cell? ⟨b13, 0, none⟩ = some (.slice (some ⟨pb, po, none⟩) n6 c6) ∧ V0.heap[b21]? = some (.cells #[.int .u64 (key : Int), .int .u64 (val : Int)] 38 (0, 0))) ∧ V0.heap[w.heap.size]? = some (.cells (tmA f t) 43 (0, 0)) := ⟨⟨blk_cell H16.rows.2.1 rfl, H16.rows.1⟩, H16.rows.2.2.1⟩
              refine wpAnyF_take (i := 0) (v := .slice sl n cl) rfl (by kernel_rfl) (by kernel_rfl) (by kernel_rfl) (by kernel_rfl) (fun _ _ _ h => h) (Or.inl ⟨by kernel_rfl, fun w hSw => by (try dsimp only at hSw); go_simp⟩) R ?_; try simp only [Act.put, List.getElem_toArray, List.getElem_cons_succ, List.getElem_cons_zero, List.setIfInBounds_toArray, List.set_cons_zero, List.set_cons_succ]
              refine wpAnyF_take (i := 1) (v := .agg (tmA f t)) rfl (by kernel_rfl) (by kernel_rfl) (by kernel_rfl) (by kernel_rfl) (fun _ _ _ h => h) (Or.inl ⟨by kernel_rfl, fun w hSw => run_load_agg (by rfl) (by rfl) hSw.2 Try.underlying43 rfl info_tm⟩) R ?_; try simp only [Act.put, List.getElem_toArray, List.getElem_cons_succ, List.getElem_cons_zero, List.setIfInBounds_toArray, List.set_cons_zero, List.set_cons_succ]
              refine wpAnyF_take (i := 2) (v := .slice (some ⟨g13, 0, none⟩) (n6 - 1) c13) rfl (by kernel_rfl) (by kernel_rfl) (by kernel_rfl) (by kernel_rfl) (fun _ _ _ h => h) (Or.inl ⟨by kernel_rfl, fun w hSw => by (try dsimp only at hSw); go_simp⟩) R ?_; try simp only [Act.put, List.getElem_toArray, List.getElem_cons_succ, List.getElem_cons_zero, List.setIfInBounds_toArray, List.set_cons_zero, List.set_cons_succ]
              refine wpAnyF_take (i := 4) (v := .int .i64 0) rfl (by kernel_rfl) (by kernel_rfl) (by kernel_rfl) (by kernel_rfl) (fun _ _ _ h => h) (Or.inl ⟨by kernel_rfl, fun w hSw => by (try dsimp only at hSw); go_simp⟩) R ?_; try simp only [Act.put, List.getElem_toArray, List.getElem_cons_succ, List.getElem_cons_zero, List.setIfInBounds_toArray, List.set_cons_zero, List.set_cons_succ]
              refine wpAnyF_one (i := 3) (by kernel_rfl) rfl (fun K hK => ?_); go_simp
              refine (range_ln L16 f t _ _ c13 (PA ++ PB) S16 hPl'h.out (by omega)).mono ?_
              rw [RL2'h.out]
              rintro e V1 ⟨rfl, hb1⟩
              dsimp only
              have H17 := H16.next hb1
              have L17 := L16.below hb1
              have T17 := T16.below hb1
              have B17 := below_next B16 hb1
              clear R H16 L16 S16 T16 B16 hb1
              have R : (V1.cell? ⟨b13, 0, none⟩ = some (.slice (some ⟨pb, po, none⟩) n6 c6) ∧ V1.heap[b21]? = some (.cells #[.int .u64 (key : Int), .int .u64 (val : Int)] 38 (0, 0))) ∧ V1.heap[w.heap.size]? = some (.cells (tmA f t) 43 (0, 0)) := ⟨⟨blk_cell H17.rows.2.1 rfl, H17.rows.1⟩, H17.rows.2.2.1⟩
              refine hK.out _ _ (fun _ => R) ?_; clear hK K; try simp only [Act.put, List.getElem_toArray, List.getElem_cons_succ, List.getElem_cons_zero, List.setIfInBounds_toArray, List.set_cons_zero, List.set_cons_succ]
              refine wpAnyF_take (i := 5) (v := .bool false) rfl (by kernel_rfl) (by kernel_rfl) (by kernel_rfl) (by kernel_rfl) (fun _ _ _ h => h) (Or.inl ⟨by kernel_rfl, fun w hSw => by (try dsimp only at hSw); go_simp⟩) R ?_; try simp only [Act.put, List.getElem_toArray, List.getElem_cons_succ, List.getElem_cons_zero, List.setIfInBounds_toArray, List.set_cons_zero, List.set_cons_succ]
              refine wpAnyF_take (i := 6) (v := .bool false) rfl (by kernel_rfl) (by kernel_rfl) (by kernel_rfl) (by kernel_rfl) (fun _ _ _ h => h) (Or.inl ⟨by kernel_rfl, fun w hSw => by (try dsimp only at hSw); go_simp⟩) R ?_; try simp only [Act.put, List.getElem_toArray, List.getElem_cons_succ, List.getElem_cons_zero, List.setIfInBounds_toArray, List.set_cons_zero, List.set_cons_succ]
              refine wpAnyF_take (i := 7) (v := .slice sl n cl) rfl (by kernel_rfl) (by kernel_rfl) (by kernel_rfl) (by kernel_rfl) (fun _ _ _ h => h) (Or.inl ⟨by kernel_rfl, fun w hSw => by (try dsimp only at hSw); go_simp⟩) R ?_; try simp only [Act.put, List.getElem_toArray, List.getElem_cons_succ, List.getElem_cons_zero, List.setIfInBounds_toArray, List.set_cons_zero, List.set_cons_succ]
              refine wpAnyF_take (i := 8) (v := .agg (tmA f t)) rfl (by kernel_rfl) (by kernel_rfl) (by kernel_rfl) (by kernel_rfl) (fun _ _ _ h => h) (Or.inl ⟨by kernel_rfl, fun w hSw => run_load_agg (by rfl) (by rfl) hSw.2 Try.underlying43 rfl info_tm⟩) R ?_; try simp only [Act.put, List.getElem_toArray, List.getElem_cons_succ, List.getElem_cons_zero, List.setIfInBounds_toArray, List.set_cons_zero, List.set_cons_succ]
              refine wpAnyF_take (i := 9) (v := .pointer (some ⟨b13, 0, none⟩)) rfl (by kernel_rfl) (by kernel_rfl) (by kernel_rfl) (by kernel_rfl) (fun _ _ _ h => h) (Or.inl ⟨by kernel_rfl, fun w hSw => by (try dsimp only at hSw); go_simp⟩) R ?_; try simp only [Act.put, List.getElem_toArray, List.getElem_cons_succ, List.getElem_cons_zero, List.setIfInBounds_toArray, List.set_cons_zero, List.set_cons_succ]
              refine wpAnyF_take (i := 10) (v := .slice (some ⟨pb, po, none⟩) n6 c6) rfl (by kernel_rfl) (by kernel_rfl) (by kernel_rfl) (by kernel_rfl) (fun _ _ _ h => h) (Or.inl ⟨by kernel_rfl, fun w hSw => by have hcc := hSw.1.1; (try dsimp only at hSw); go_simp⟩) R ?_; try simp only [Act.put, List.getElem_toArray, List.getElem_cons_succ, List.getElem_cons_zero, List.setIfInBounds_toArray, List.set_cons_zero, List.set_cons_succ]
              refine wpAnyF_take (i := 12) (v := .agg #[.int .u64 (key : Int), .int .u64 (val : Int)]) rfl (by kernel_rfl) (by kernel_rfl) (by kernel_rfl) (by kernel_rfl) (fun _ _ _ h => h) (Or.inl ⟨by kernel_rfl, fun w hSw => run_load_agg (by rfl) (by rfl) hSw.1.2 Try.underlying38 rfl info_pair2⟩) R ?_; try simp only [Act.put, List.getElem_toArray, List.getElem_cons_succ, List.getElem_cons_zero, List.setIfInBounds_toArray, List.set_cons_zero, List.set_cons_succ]
              refine wpAnyF_two (i := 11) (j := 13) (by kernel_rfl) rfl rfl (fun K hK => ?_) (fun K hK => ?_)
              · go_simp
                refine (cloneP_any _ n6 c6 (prs mp) V1 (by omega) (prs_one _) N6'h.out T17).mono ?_
                rintro e V2 ⟨s18, c18, rfl, hb2, hrow2⟩
                dsimp only
                have B2 := hb2
                clear R
                have H18 := H17.next hb2
                have R : (V2.cell? ⟨b13, 0, none⟩ = some (.slice (some ⟨pb, po, none⟩) n6 c6) ∧ V2.heap[b21]? = some (.cells #[.int .u64 (key : Int), .int .u64 (val : Int)] 38 (0, 0))) ∧ V2.heap[w.heap.size]? = some (.cells (tmA f t) 43 (0, 0)) := ⟨⟨blk_cell H18.rows.2.1 rfl, H18.rows.1⟩, H18.rows.2.2.1⟩
                refine hK.out _ _ (fun _ => R) ?_; clear hK K; try simp only [Act.put, List.getElem_toArray, List.getElem_cons_succ, List.getElem_cons_zero, List.setIfInBounds_toArray, List.set_cons_zero, List.set_cons_succ]
                refine wpAnyF_one (i := 13) (by kernel_rfl) rfl (fun K hK => ?_)
                go_simp
                have hb3 := (Below.refl V2.heap.size V2).alloc (Nat.le_refl _) (.cells #[.int .u64 (key : Int), .int .u64 (val : Int)] 38)
                have B3 := below_next B2 hb3
                have hrow3 := ownsRow_next hrow2 hb3
                have X3 : SlK (V2.alloc (.cells #[.int .u64 (key : Int), .int .u64 (val : Int)] 38)) 2 (some ⟨V2.heap.size, 0, none⟩) 1 [.int .u64 (key : Int), .int .u64 (val : Int)] := SlK.of_blk (World.alloc_heap_new _ _) rfl (by decide)
                generalize V2.heap.size = bx at X3 ⊢
                generalize V2.alloc _ = V3 at hb3 B3 hrow3 X3 ⊢
                clear R
                have H19 := H17.next B3
                have R : (V3.cell? ⟨b13, 0, none⟩ = some (.slice (some ⟨pb, po, none⟩) n6 c6) ∧ V3.heap[b21]? = some (.cells #[.int .u64 (key : Int), .int .u64 (val : Int)] 38 (0, 0))) ∧ V3.heap[w.heap.size]? = some (.cells (tmA f t) 43 (0, 0)) := ⟨⟨blk_cell H19.rows.2.1 rfl, H19.rows.1⟩, H19.rows.2.2.1⟩
                refine hK.out _ _ (fun _ => R) ?_; clear hK K; try simp only [Act.put, List.getElem_toArray, List.getElem_cons_succ, List.getElem_cons_zero, List.setIfInBounds_toArray, List.set_cons_zero, List.set_cons_succ]
                refine wpAnyF_one (i := 14) (by kernel_rfl) rfl (fun K hK => ?_)
                refine step_append_w (by kernel_rfl) (.tmp 170) (.tmp 172) 24 rfl V1.heap.size 38 i0 (.agg #[.int .u64 0, .int .u64 0]) 2 16 Try.underlying24 hi hz0 hz1 hz2 rfl (by decide) (.slice s18 n6 c18) n6 (prs mp) rfl hrow3 (some ⟨bx, 0, none⟩) 1 1 _ rfl X3 hone'h.out (by unfold maxLen; omega) (by omega) B3.size ?_
                intro v' V4 hown4 hgrow4 hwh4
                rw [hsn'h.out] at hown4
                obtain ⟨s20, c20, rfl, -, -, -⟩ := row_form hown4
                have B4 : Below V1.heap.size V1 V4 := B3.grown hgrow4 B3.size (fun j hj => And.left <| hrow3.lt j hj)
                clear R
                have H20 := H17.next B4
                have L20 := L17.below B4
                have R : (V4.cell? ⟨b13, 0, none⟩ = some (.slice (some ⟨pb, po, none⟩) n6 c6) ∧ V4.heap[b21]? = some (.cells #[.int .u64 (key : Int), .int .u64 (val : Int)] 38 (0, 0))) ∧ V4.heap[w.heap.size]? = some (.cells (tmA f t) 43 (0, 0)) := ⟨⟨blk_cell H20.rows.2.1 rfl, H20.rows.1⟩, H20.rows.2.2.1⟩
                refine hK.out _ _ (fun _ => R) ?_; clear hK K; try simp only [Act.put, List.getElem_toArray, List.getElem_cons_succ, List.getElem_cons_zero, List.setIfInBounds_toArray, List.set_cons_zero, List.set_cons_succ]
                refine wpAnyF_one (i := 15) (by kernel_rfl) rfl (fun K hK => ?_); go_simp
                refine (range_ln L20 f t s20 (n6 + 1) c20 (mp ++ [(key, val)]) (SlK.of_row hown4 (by unfold maxLen; omega)) hPt'h.out (by omega)).mono ?_
                rw [RT'h.out]
                rintro e V5 ⟨rfl, hb5⟩
                dsimp only
                clear R
                have H21 := H20.next hb5
                have L21 := L20.below hb5
                have B21 := below_next B17 (below_next B4 hb5)
                have R : (V5.cell? ⟨b13, 0, none⟩ = some (.slice (some ⟨pb, po, none⟩) n6 c6) ∧ V5.heap[b21]? = some (.cells #[.int .u64 (key : Int), .int .u64 (val : Int)] 38 (0, 0))) ∧ V5.heap[w.heap.size]? = some (.cells (tmA f t) 43 (0, 0)) := ⟨⟨blk_cell H21.rows.2.1 rfl, H21.rows.1⟩, H21.rows.2.2.1⟩
                refine hK.out _ _ (fun _ => R) ?_; clear hK K; try simp only [Act.put, List.getElem_toArray, List.getElem_cons_succ, List.getElem_cons_zero, List.setIfInBounds_toArray, List.set_cons_zero, List.set_cons_succ]
                refine wpAnyF_take (i := 16) (v := .bool false) rfl (by kernel_rfl) (by kernel_rfl) (by kernel_rfl) (by kernel_rfl) (fun _ _ _ h => h) (Or.inl ⟨by kernel_rfl, fun w hSw => by (try dsimp only at hSw); go_simp⟩) R ?_; try simp only [Act.put, List.getElem_toArray, List.getElem_cons_succ, List.getElem_cons_zero, List.setIfInBounds_toArray, List.set_cons_zero, List.set_cons_succ]
                refine wpAnyF_take (i := 17) (v := .bool false) rfl (by kernel_rfl) (by kernel_rfl) (by kernel_rfl) (by kernel_rfl) (fun _ _ _ h => h) (Or.inl ⟨by kernel_rfl, fun w hSw => by (try dsimp only at hSw); go_simp⟩) R ?_; try simp only [Act.put, List.getElem_toArray, List.getElem_cons_succ, List.getElem_cons_zero, List.setIfInBounds_toArray, List.set_cons_zero, List.set_cons_succ]
                refine wpAnyF_done (by kernel_rfl) ?_ _
                refine noPanic_normal ?_
                clear R
                have H21'h := Lib.hid H21
                have L21'h := Lib.hid L21
                have B21'h := Lib.hid B21
                clear H21 L21 B21
                go_wp2
                go_roundg (gk - 1)
                case measure => have := hq2'h.out; omega
                case rel => exact ⟨k + 1, by have := hq2'h.out; omega, by go_num, H21'h.out.tail, L21'h.out, B21'h.out⟩
              · go_simp
                have hb3 := (Below.refl V1.heap.size V1).alloc (Nat.le_refl _) (.cells #[.int .u64 (key : Int), .int .u64 (val : Int)] 38)
                have X2 : SlK (V1.alloc (.cells #[.int .u64 (key : Int), .int .u64 (val : Int)] 38)) 2 (some ⟨V1.heap.size, 0, none⟩) 1 [.int .u64 (key : Int), .int .u64 (val : Int)] := SlK.of_blk (World.alloc_heap_new _ _) rfl (by decide)
                obtain ⟨bx, hbx⟩ : ∃ bx, bx = V1.heap.size := ⟨_, rfl⟩
                rw [← hbx] at X2 ⊢
                clear hbx
                generalize V1.alloc _ = V2 at hb3 X2 ⊢
                clear R
                have H18 := H17.next hb3
                have R : (V2.cell? ⟨b13, 0, none⟩ = some (.slice (some ⟨pb, po, none⟩) n6 c6) ∧ V2.heap[b21]? = some (.cells #[.int .u64 (key : Int), .int .u64 (val : Int)] 38 (0, 0))) ∧ V2.heap[w.heap.size]? = some (.cells (tmA f t) 43 (0, 0)) := ⟨⟨blk_cell H18.rows.2.1 rfl, H18.rows.1⟩, H18.rows.2.2.1⟩
                refine hK.out _ _ (fun _ => R) ?_; clear hK K; try simp only [Act.put, List.getElem_toArray, List.getElem_cons_succ, List.getElem_cons_zero, List.setIfInBounds_toArray, List.set_cons_zero, List.set_cons_succ]
                refine wpAnyF_one (i := 11) (by kernel_rfl) rfl (fun K hK => ?_)
                go_simp
                refine (cloneP_any _ n6 c6 (prs mp) V2 (by omega) (prs_one _) N6'h.out (T17.below hb3)).mono ?_
                rintro e V3 ⟨s18, c18, rfl, hb2, hrow3⟩
                dsimp only
                have B3 := below_next hb3 hb2
                have X3 := X2.below hb2
                have hrow3 := ownsRow_mono hrow3 hb3.size
                clear R
                have H19 := H17.next B3
                have R : (V3.cell? ⟨b13, 0, none⟩ = some (.slice (some ⟨pb, po, none⟩) n6 c6) ∧ V3.heap[b21]? = some (.cells #[.int .u64 (key : Int), .int .u64 (val : Int)] 38 (0, 0))) ∧ V3.heap[w.heap.size]? = some (.cells (tmA f t) 43 (0, 0)) := ⟨⟨blk_cell H19.rows.2.1 rfl, H19.rows.1⟩, H19.rows.2.2.1⟩
                refine hK.out _ _ (fun _ => R) ?_; clear hK K; try simp only [Act.put, List.getElem_toArray, List.getElem_cons_succ, List.getElem_cons_zero, List.setIfInBounds_toArray, List.set_cons_zero, List.set_cons_succ]
                refine wpAnyF_one (i := 14) (by kernel_rfl) rfl (fun K hK => ?_)
                refine step_append_w (by kernel_rfl) (.tmp 170) (.tmp 172) 24 rfl V1.heap.size 38 i0 (.agg #[.int .u64 0, .int .u64 0]) 2 16 Try.underlying24 hi hz0 hz1 hz2 rfl (by decide) (.slice s18 n6 c18) n6 (prs mp) rfl hrow3 (some ⟨bx, 0, none⟩) 1 1 _ rfl X3 hone'h.out (by unfold maxLen; omega) (by omega) B3.size ?_
                intro v' V4 hown4 hgrow4 hwh4
                rw [hsn'h.out] at hown4
                obtain ⟨s20, c20, rfl, -, -, -⟩ := row_form hown4
                have B4 : Below V1.heap.size V1 V4 := B3.grown hgrow4 B3.size (fun j hj => And.left <| hrow3.lt j hj)
                clear R
                have H20 := H17.next B4
                have L20 := L17.below B4
                have R : (V4.cell? ⟨b13, 0, none⟩ = some (.slice (some ⟨pb, po, none⟩) n6 c6) ∧ V4.heap[b21]? = some (.cells #[.int .u64 (key : Int), .int .u64 (val : Int)] 38 (0, 0))) ∧ V4.heap[w.heap.size]? = some (.cells (tmA f t) 43 (0, 0)) := ⟨⟨blk_cell H20.rows.2.1 rfl, H20.rows.1⟩, H20.rows.2.2.1⟩
                refine hK.out _ _ (fun _ => R) ?_; clear hK K; try simp only [Act.put, List.getElem_toArray, List.getElem_cons_succ, List.getElem_cons_zero, List.setIfInBounds_toArray, List.set_cons_zero, List.set_cons_succ]
                refine wpAnyF_one (i := 15) (by kernel_rfl) rfl (fun K hK => ?_); go_simp
                refine (range_ln L20 f t s20 (n6 + 1) c20 (mp ++ [(key, val)]) (SlK.of_row hown4 (by unfold maxLen; omega)) hPt'h.out (by omega)).mono ?_
                rw [RT'h.out]
                rintro e V5 ⟨rfl, hb5⟩
                dsimp only
                clear R
                have H21 := H20.next hb5
                have L21 := L20.below hb5
                have B21 := below_next B17 (below_next B4 hb5)
                have R : (V5.cell? ⟨b13, 0, none⟩ = some (.slice (some ⟨pb, po, none⟩) n6 c6) ∧ V5.heap[b21]? = some (.cells #[.int .u64 (key : Int), .int .u64 (val : Int)] 38 (0, 0))) ∧ V5.heap[w.heap.size]? = some (.cells (tmA f t) 43 (0, 0)) := ⟨⟨blk_cell H21.rows.2.1 rfl, H21.rows.1⟩, H21.rows.2.2.1⟩
                refine hK.out _ _ (fun _ => R) ?_; clear hK K; try simp only [Act.put, List.getElem_toArray, List.getElem_cons_succ, List.getElem_cons_zero, List.setIfInBounds_toArray, List.set_cons_zero, List.set_cons_succ]
                refine wpAnyF_take (i := 16) (v := .bool false) rfl (by kernel_rfl) (by kernel_rfl) (by kernel_rfl) (by kernel_rfl) (fun _ _ _ h => h) (Or.inl ⟨by kernel_rfl, fun w hSw => by (try dsimp only at hSw); go_simp⟩) R ?_; try simp only [Act.put, List.getElem_toArray, List.getElem_cons_succ, List.getElem_cons_zero, List.setIfInBounds_toArray, List.set_cons_zero, List.set_cons_succ]
                refine wpAnyF_take (i := 17) (v := .bool false) rfl (by kernel_rfl) (by kernel_rfl) (by kernel_rfl) (by kernel_rfl) (fun _ _ _ h => h) (Or.inl ⟨by kernel_rfl, fun w hSw => by (try dsimp only at hSw); go_simp⟩) R ?_; try simp only [Act.put, List.getElem_toArray, List.getElem_cons_succ, List.getElem_cons_zero, List.setIfInBounds_toArray, List.set_cons_zero, List.set_cons_succ]
                refine wpAnyF_done (by kernel_rfl) ?_ _
                refine noPanic_normal ?_
                clear R
                have H21'h := Lib.hid H21
                have L21'h := Lib.hid L21
                have B21'h := Lib.hid B21
                clear H21 L21 B21
                go_wp2
                go_roundg (gk - 1)
                case measure => have := hq2'h.out; omega
                case rel => exact ⟨k + 1, by have := hq2'h.out; omega, by go_num, H21'h.out.tail, L21'h.out, B21'h.out⟩
          · have hi1 : ¬ (k : Int) < (n6 : Int) := by omega
            clear hlt
            have hH'h := Lib.hid hH
            have hL'h := Lib.hid hL
            have hq2'h := Lib.hid hq2
            have hB'h := Lib.hid hB
            clear hH hL hq2 hB
            go_wp2
            go_ret
            exact ⟨rfl, hH'h.out.old⟩
  · have hU0 : ml = [] := by rw [← eU'h.out]; unfold mustL; rw [if_neg (by omega)]
    have RG := range_ln L4 f t none 0 0 [] (SlK.nil _ _ _) (fun p hp => by cases hp) (by decide)
    rw [range_fail [] (by omega), eF] at RG
    have y1 : ((z : Int) != 0) = true := by simp; omega
    have y2 : ((z : Int) == (z : Int)) = true := by simp
    subst hU0
    clear hz
    have H4'h := Lib.hid H4
    have L4'h := Lib.hid L4
    have S4'h := Lib.hid S4
    have eF'h := Lib.hid eF
    have eL'h := Lib.hid eL
    have eM'h := Lib.hid eM
    have hab'h := Lib.hid hab
    have RG'h := Lib.hid RG
    clear H4 L4 S4 eF eL eM hab RG
    go_wp2_with (first | guard_target = wpList _ _ _ (Oper.mk _ (.load _ (.tmp 4)) _ _ _ _ :: _) _ _; refine wpList_load_row rfl 43 (.tmp 4) rfl (w.heap.size) rfl 43 (tmA f t) (0, 0) _ H4'h.out.rows.1 Try.underlying43 rfl info_tm ?_ | (go_at_call 23; refine RG'h.out.mono ?_; rintro e w5 ⟨rfl, hb5⟩))
    go_ret
    exact ⟨rfl, (H4'h.out.next hb5).old⟩
end Go.Proofs.Ythfeiiibedmkiaa
