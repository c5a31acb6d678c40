/-
  GroupKeeps: what is put is found, and dropped is not; all others stay.
-/
import Derived.Test.YtfoohdjgnphdgaaPq
import Derived.Test.YtfoohdjgnphdgaaGroupDel
import Derived.Test.YtfoohdjgnphdgaaOpenG
set_option linter.unusedSimpArgs false
set_option linter.unusedVariables false
set_option maxRecDepth 100000
namespace Go.Proofs.Ytfoohdjgnphdgaa
open Go.RowKit

theorem gpZ_built : Try.prog.built 25 [] = some (gpA gpZ) := by kernel_rfl
theorem wpList_binop {P : Program} {ops : Array Oper} {rest : List Oper} {o : Oper} {a : Act} {w : World} {Q : Exit → Act → World → Prop} (hgd : o.guard = none) (b : BinOp) (t ty : TypeId) (x y : Operand) (ho : o.op = .binOp b t x y ty)
    {v : Value} (heq : (eqGuard b t x y (a.eval x) (a.eval y)).run P w = .ok () w) (hrun : (binOp b t (a.eval x) (a.eval y)).run P w = .ok v w) (h : wpList P ops Q rest (a.put o.dst v) w) : wpList P ops Q (o :: rest) a w :=
  wpList_plain hgd fun K hK => by
    unfold Oper.wp execOp
    simp only [ho, Sem.run_bind, heq, hrun, Result.andThen_ok]
    exact hK _ _ h
theorem sameA_self (g : Gp) : sameA g g = true := (sameA_iff g g).2 ⟨rfl, fun _ _ => rfl, fun _ _ => rfl⟩
theorem liveG_len8 (g : Gp) : (liveG g).length ≤ 8 := liveK_le g 8
theorem row_block {w : World} {base : Nat} {e : TypeId} {size : Nat} {sp : Option Addr} {cap n : Nat} {xs : List Value} (h : w.ownsRow base e size (.slice sp n cap) n xs) (hn : 0 < n) :
    ∃ g cur, sp = some ⟨g, 0, none⟩ ∧ base ≤ g ∧ w.heap[g]? = some (.cells cur e (0, 0)) ∧ n ≤ cap ∧ cap ≤ maxLen ∧ cur.size = cap * size ∧ cur.toList.take (n * size) = xs := by
  rcases h.2 with ⟨hv, h0⟩ | ⟨g, cap', cur, hv, hb, hg, h1, h2, h3, h4⟩
  · omega
  · cases hv
    exact ⟨g, cur, rfl, hb, hg, h1, h2, h3, h4⟩
theorem row_cap {w : World} {base : Nat} {e : TypeId} {size : Nat} {sp : Option Addr} {cap n : Nat} {xs : List Value} (h : w.ownsRow base e size (.slice sp n cap) n xs) : sp = none → cap = 0 := by
  rintro rfl
  rcases h.2 with ⟨hv, h0⟩ | ⟨g, cap', cur, hv, _⟩
  · cases hv; rfl
  · cases hv
set_option maxHeartbeats 8000000 in
theorem walk_GroupKeeps (x : Gp) (s : Sl3) (w : World) (hx : GpOk x) (hs : Sl3Ok s) :
    Calls Try.prog 7 #[.agg (gpA x), .agg (slA s)] w fun e w' => e = .returned (.bool true) ∧ Below w.heap.size w w' := by
  have WK := fun w => wakes10_any w
  have LX := fun w => live_any x w hx
  have PX := fun w => gput_any x s w hx hs
  have hO := (Hs.nil w).new2 (gpA x) (slA s) 25 38
  obtain ⟨W, hW⟩ : ∃ W, W = (w.alloc (.cells (gpA x) 25)).alloc (.cells (slA s) 38) := ⟨_, rfl⟩
  rw [← hW] at hO
  by_cases hz : putZ x s = 0
  · have hr : rightG x = true := by
      cases h : rightG x with
      | true => rfl
      | false => unfold putZ at hz; rw [h] at hz; cases hz
    have he : putE x s = 0 := by unfold putZ at hz; rwa [if_pos hr] at hz
    have e1 : putRG x s = putTo x s := by unfold putRG; rw [if_pos hz]
    have e2 : putRL x s = freeLane x := by unfold putRL; rw [if_pos hz]
    have e3 : liveR x = liveG x := by unfold liveR; rw [if_pos hr]
    rw [e1, e2, hz] at PX
    rw [e3] at LX
    obtain ⟨f1, f2, hNr, hDr, hDn, hDe, hDd⟩ := put_keeps hr he
    obtain ⟨-, -, hm1, hm2, hm3⟩ := put_many hr he
    have hDl := put_drop_live (g := x) (s := s) he
    obtain ⟨A, B, hA, hB, hnA⟩ := put_live (g := x) (s := s) he
    have hln8 := (put_zero he).2.2
    have hs127 := (put_zero he).1
    have hNok : GpOk (putTo x s) := putTo_ok hx hs
    have hDok : GpOk (dropTo (putTo x s) (freeLane x)) := dropTo_ok hNok _
    have hDG : dropRG (putTo x s) s.key s.h2 = dropTo (putTo x s) (freeLane x) := by
      have hzl := find_zero f1
      unfold dropRG; rw [if_pos f1, ← hzl.2.2.2.2.2.2.1, f2]
    have FN := fun w => find_any (putTo x s) s.key s.h2 w hNok hs.key hs.h2
    have KN := fun w => looks_any (putTo x s) s.h2 w hNok hs.h2
    have LN := fun w => live_any (putTo x s) w hNok
    have RN := fun w => gfree_any (putTo x s) w hNok
    have DN := fun w => drop_any (putTo x s) s.key s.h2 w hNok hs.key hs.h2
    have CN := fun w => gcheck_any (putTo x s) w hNok
    have FD := fun w => find_any (dropTo (putTo x s) (freeLane x)) s.key s.h2 w hDok hs.key hs.h2
    have LD := fun w => live_any (dropTo (putTo x s) (freeLane x)) w hDok
    have RD := fun w => gfree_any (dropTo (putTo x s) (freeLane x)) w hDok
    have CD := fun w => gcheck_any (dropTo (putTo x s) (freeLane x)) w hDok
    have k0 : looksE (putTo x s) s.h2 = 0 := by unfold looksE; rw [if_pos hNr, if_pos hs127]
    have k1 : looksR (putTo x s) s.h2 = looksG (putTo x s) s.h2 := by unfold looksR; rw [if_pos k0]
    have k2 : liveR (putTo x s) = A ++ s :: B := by unfold liveR; rw [if_pos hNr, hA]
    have k3 : liveR (dropTo (putTo x s) (freeLane x)) = A ++ B := by unfold liveR; rw [if_pos hDr, hDl, hB]
    have k4 : gchkE (putTo x s) = 0 := by unfold gchkE; rw [if_pos hNr]
    have k5 : gchkE (dropTo (putTo x s) (freeLane x)) = 0 := by unfold gchkE; rw [if_pos hDr]
    have k6 : freeN (putTo x s) 0 = emptyN (putTo x s) := by unfold freeN; rw [if_pos hNr, if_pos rfl]
    have k7 : freeN (putTo x s) 1 = deadN (putTo x s) := by unfold freeN; rw [if_pos hNr, if_neg (by decide)]
    have k8 : freeN (dropTo (putTo x s) (freeLane x)) 0 = emptyN (dropTo (putTo x s) (freeLane x)) := by unfold freeN; rw [if_pos hDr, if_pos rfl]
    have k9 : freeN (dropTo (putTo x s) (freeLane x)) 1 = deadN (dropTo (putTo x s) (freeLane x)) := by unfold freeN; rw [if_pos hDr, if_neg (by decide)]
    have hcnt := live_count hNr
    have hcl : (looksG (putTo x s) s.h2).length ≤ 8 := Nat.le_trans (List.length_filter_le _ _) (by simp)
    rw [hA] at hcnt
    rw [f1, f2] at FN DN
    rw [hDG] at DN
    rw [k0, k1] at KN
    rw [k2] at LN
    rw [hDn] at FD
    rw [k3] at LD
    rw [k4] at CN
    rw [k5] at CD
    rw [k6, k7] at RN
    rw [k8, k9, hDe, hDd] at RD
    rw [hB] at LX
    have hidx : idxS (fun t => decide (s = t)) (A ++ s :: B) = (A.length : Int) := by
      refine idxS_hit (by simp) (fun j hj => ?_) ?_
      · have : nthS (A ++ s :: B) j ∈ A := by
          rw [← nthS_eq (by simp; omega), List.getElem_append_left hj]; exact List.getElem_mem hj
        exact decide_eq_false fun e => hnA _ this e.symm
      · rw [← nthS_eq (by simp)]; simp
    obtain ⟨m1, hm1'⟩ : ∃ m1, findN (putTo x s) s.key s.h2 = m1 + 1 := ⟨findN (putTo x s) s.key s.h2 - 1, by omega⟩
    rw [hm1'] at FN hm2 hm3
    rw [Nat.add_sub_cancel] at hm3
    generalize dropTo (putTo x s) (freeLane x) = D at *
    generalize putTo x s = N at *
    generalize freeLane x = ln at *
    generalize looksG N s.h2 = lk at *
    generalize findL D s.key s.h2 = dl at *
    generalize findN D s.key s.h2 = dn at *
    generalize emptyN N = eN at *
    generalize deadN N = dN at *
    obtain ⟨was, hwas⟩ : ∃ was, was = A ++ B := ⟨_, rfl⟩
    obtain ⟨now, hnow⟩ : ∃ now, now = A ++ s :: B := ⟨_, rfl⟩
    rw [← hwas] at LX LD
    rw [← hnow] at LN hcnt hidx
    have hnl : now.length = A.length + 1 + B.length := by rw [hnow]; simp; omega
    have hwl : was.length = A.length + B.length := by rw [hwas]; simp
    obtain ⟨ka, hka⟩ : ∃ ka, ka = A.length := ⟨_, rfl⟩
    rw [← hka] at hidx
    have hm18 : m1 ≤ 8 := by omega
    have z1 : ((ln : Int) != (ln : Int)) = false := by simp
    have z2 : ((ln : Int) == (ln : Int)) = true := by simp
    have z3 : ¬ ((m1 : Int) + 1 < 1) := by omega
    have z4 : ¬ ((lk.length : Int) < (m1 : Int) + 1) := by omega
    have z5 : (0 : Int) ≤ (m1 : Int) := by omega
    have z6 : (m1 : Int) < (lk.length : Int) := by omega
    have z7 : ¬ ((ka : Int) < 0) := by omega
    have hka8 : ka ≤ 8 := by omega
    have heN8 : eN ≤ 8 := by omega
    have hdN8 : dN ≤ 8 := by omega
    have hnow8 : now.length ≤ 8 := by omega
    have z8 : (((now.length : Int) + (eN : Int)) + (dN : Int) == 8) = true := by simp; omega
    clear hm1 hm1' e1 e2 e3 k0 k1 k2 k3 k4 k5 k6 k7 k8 k9 hDG f1 f2 hDe hDd hDl hA hDn hB hnA hs127 he hz
    have WK'h := Lib.hid WK
    have hO'h := Lib.hid hO
    have hx'h := Lib.hid hx
    have hs'h := Lib.hid hs
    have hNok'h := Lib.hid hNok
    have hDok'h := Lib.hid hDok
    have LX'h := Lib.hid LX
    have PX'h := Lib.hid PX
    have FN'h := Lib.hid FN
    have KN'h := Lib.hid KN
    have LN'h := Lib.hid LN
    have RN'h := Lib.hid RN
    have DN'h := Lib.hid DN
    have CN'h := Lib.hid CN
    have FD'h := Lib.hid FD
    have LD'h := Lib.hid LD
    have RD'h := Lib.hid RD
    have CD'h := Lib.hid CD
    have hr'h := Lib.hid hr
    have hNr'h := Lib.hid hNr
    have hDr'h := Lib.hid hDr
    have hm2'h := Lib.hid hm2
    have hm3'h := Lib.hid hm3
    have hln8'h := Lib.hid hln8
    have hcnt'h := Lib.hid hcnt
    have hcl'h := Lib.hid hcl
    have hidx'h := Lib.hid hidx
    have hwas'h := Lib.hid hwas
    have hnow'h := Lib.hid hnow
    have hnl'h := Lib.hid hnl
    have hwl'h := Lib.hid hwl
    have hka'h := Lib.hid hka
    clear WK hO hx hs hNok hDok LX PX FN KN LN RN DN CN FD LD RD CD hr hNr hDr hm2 hm3 hln8 hcnt hcl hidx hwas hnow hnl hwl hka
    go_enter Try.func7, Try.ntmps7
    go_upto_region 1 with fail
    rw [← hW]
    clear hW
    go_upto_region 3 with (first | (go_at_call 8; refine (WK'h.out _).mono ?_; rintro e w1 ⟨rfl, hb1⟩))
    have H1 := hO'h.out.next hb1
    clear hb1
    have H1'h := Lib.hid H1
    clear H1
    go_upto_region 4 with (first | guard_target = wpList _ _ _ (Oper.mk _ (.load _ (.tmp 2)) _ _ _ _ :: _) _ _; refine wpList_load_row rfl 25 (.tmp 2) rfl (w.heap.size) rfl 25 (gpA x) (0, 0) _ H1'h.out.rows.2.1 Try.underlying25 rfl infoGp ?_ | (go_at_call 19; refine (LX'h.out _).mono ?_; rintro e w2 ⟨sp2, n2, cap2, rfl, hb2, hrow2⟩; obtain rfl := row_len' hrow2))
    have H2 := H1'h.out.next hb2
    have S2 : SlK w2 3 sp2 was.length (sls was) := SlK.of_row hrow2 (by have := hnl'h.out; have := hwl'h.out; unfold maxLen; omega)
    have q0 : w2.cell? ⟨w.heap.size + 1, 0, none⟩ = some (.int .u64 (s.key : Int)) := blk_cell H2.rows.1 rfl
    have q1 : w2.cell? ⟨w.heap.size + 1, 1, none⟩ = some (.int .u64 (s.val : Int)) := blk_cell H2.rows.1 rfl
    have q2 : w2.cell? ⟨w.heap.size + 1, 2, none⟩ = some (.int .u8 (s.h2 : Int)) := blk_cell H2.rows.1 rfl
    clear hb2 hrow2
    have H2'h := Lib.hid H2
    have S2'h := Lib.hid S2
    clear H2 S2
    go_upto_region 5 with (first | guard_target = wpList _ _ _ (Oper.mk _ (.load _ (.tmp 2)) _ _ _ _ :: _) _ _; refine wpList_load_row rfl 25 (.tmp 2) rfl (w.heap.size) rfl 25 (gpA x) (0, 0) _ H2'h.out.rows.2.1 Try.underlying25 rfl infoGp ?_ | (go_at_call 30; refine (PX'h.out _).mono ?_; rintro e w3 ⟨rfl, hb3⟩) | guard_target = wpList _ _ _ (Oper.mk _ (.store _ (.tmp 6) _) _ _ _ _ :: _) _ _; refine wpList_store_row rfl 25 (.tmp 6) _ rfl (w3.heap.size) (gpA N) rfl rfl 25 _ (World.alloc_heap_new _ _) infoGp rfl (gpA_one _) ?_)
    have H4 := ((H2'h.out.next hb3).new (gpA gpZ) 25).set 0 rfl (gpA N)
    have S4 := S2'h.out.below (below_next hb3 (below_setRow' ((Below.refl _ _).alloc (Nat.le_refl _) (.cells (gpA gpZ) 25)) (Nat.le_refl _) (gpA N)))
    change Code.wp _ _ _ _ ((w3.alloc (.cells (gpA gpZ) 25)).setRow w3.heap.size (gpA N))
    generalize World.setRow _ _ _ = W4 at H4 S4 ⊢
    obtain ⟨c6, hc6⟩ : ∃ c6, c6 = w3.heap.size := ⟨_, rfl⟩
    rw [← hc6] at H4 ⊢
    clear hb3 q0 q1 q2 hc6 S2'h
    have q0 : W4.cell? ⟨w.heap.size + 1, 0, none⟩ = some (.int .u64 (s.key : Int)) := blk_cell H4.rows.2.1 rfl
    have q2 : W4.cell? ⟨w.heap.size + 1, 2, none⟩ = some (.int .u8 (s.h2 : Int)) := blk_cell H4.rows.2.1 rfl
    have H4'h := Lib.hid H4
    have S4'h := Lib.hid S4
    clear H4 S4
    go_upto_region 8 with (first | guard_target = wpList _ _ _ (Oper.mk _ (.load _ (.tmp 6)) _ _ _ _ :: _) _ _; refine wpList_load_row rfl 25 (.tmp 6) rfl (c6) rfl 25 (gpA N) (0, 0) _ H4'h.out.rows.1 Try.underlying25 rfl infoGp ?_ | (go_at_call 21; refine (FN'h.out _).mono ?_; rintro e w5 ⟨rfl, hb5⟩))
    have H5 := H4'h.out.next hb5
    have S5 := S4'h.out.below hb5
    clear q0 q2 hb5 S4'h
    have q2 : w5.cell? ⟨w.heap.size + 1, 2, none⟩ = some (.int .u8 (s.h2 : Int)) := blk_cell H5.rows.2.1 rfl
    have H5'h := Lib.hid H5
    have S5'h := Lib.hid S5
    clear H5 S5
    go_upto_region 9 with (first | guard_target = wpList _ _ _ (Oper.mk _ (.load _ (.tmp 6)) _ _ _ _ :: _) _ _; refine wpList_load_row rfl 25 (.tmp 6) rfl (c6) rfl 25 (gpA N) (0, 0) _ H5'h.out.rows.1 Try.underlying25 rfl infoGp ?_ | (go_at_call 20; refine (KN'h.out _).mono ?_; rintro e w6 ⟨sp6, n6, cap6, rfl, hb6, hrow6⟩; obtain rfl := row_len' hrow6))
    have H6 := H5'h.out.next hb6
    have S6 := S5'h.out.below hb6
    have K6 : Sl w6 sp6 lk.length (ints lk) := Sl.of_row hrow6 (by have := hcl'h.out; unfold maxLen; omega)
    clear q2 hb6 hrow6 S5'h
    have H6'h := Lib.hid H6
    have S6'h := Lib.hid S6
    have K6'h := Lib.hid K6
    clear H6 S6 K6
    go_upto_region 10 with (first | guard_target = wpList _ _ _ (Oper.mk _ (.load _ (.tmp 6)) _ _ _ _ :: _) _ _; refine wpList_load_row rfl 25 (.tmp 6) rfl (c6) rfl 25 (gpA N) (0, 0) _ H6'h.out.rows.1 Try.underlying25 rfl infoGp ?_ | (go_at_call 19; refine (LN'h.out _).mono ?_; rintro e w7 ⟨sp7, n7, cap7, rfl, hb7, hrow7⟩; obtain rfl := row_len' hrow7))
    have H7 := H6'h.out.next hb7
    have S7 := S6'h.out.below hb7
    have K7 := K6'h.out.below hb7
    have L7 : SlK w7 3 sp7 now.length (sls now) := SlK.of_row hrow7 (by unfold maxLen; omega)
    have hf7 := row_cap hrow7
    have IX := indexS_any sp7 now.length cap7 now s w7 L7
    rw [hidx'h.out] at IX
    clear hb7 hrow7 S6'h K6'h
    have H7'h := Lib.hid H7
    have S7'h := Lib.hid S7
    have K7'h := Lib.hid K7
    have L7'h := Lib.hid L7
    have hf7'h := Lib.hid hf7
    have IX'h := Lib.hid IX
    clear H7 S7 K7 L7 hf7 IX
    go_upto_region 11 with (first | guard_target = wpList _ _ _ (Oper.mk _ (.load _ (.tmp 3)) _ _ _ _ :: _) _ _; refine wpList_load_row rfl 38 (.tmp 3) rfl (w.heap.size + 1) rfl 38 (slA s) (0, 0) _ H7'h.out.rows.2.1 Try.underlying38 rfl infoSl ?_ | (go_at_call 36; refine IX'h.out.mono ?_; rintro e w8 ⟨rfl, hb8⟩))
    have H8 := H7'h.out.next hb8
    have S8 := S7'h.out.below hb8
    have K8 := K7'h.out.below hb8
    have L8 := L7'h.out.below hb8
    obtain ⟨b6, o6, rfl, hcs6⟩ := K8.some' (by omega)
    have q6 : w8.cell? ⟨b6, o6 + m1, none⟩ = some (.int .i64 (ln : Int)) := by have := hcs6 m1 _ (ints_at (by omega)); rwa [hm3'h.out] at this
    have hn4096 : now.length ≤ 4096 := by omega
    clear hb8 hcs6 K8 IX'h K7'h L7'h S7'h
    have H8'h := Lib.hid H8
    have S8'h := Lib.hid S8
    have L8'h := Lib.hid L8
    clear H8 S8 L8
    go_upto_region 13 with (first | (go_at_call 38; refine (cloneS_any sp7 now.length cap7 (sls now) w8 hn4096 (sls_one now) hf7'h.out L8'h.out).mono ?_; rintro e w9 ⟨sp9, cap9, rfl, hb9, hrow9⟩; obtain ⟨g9, cur9, rfl, hge9, hg9, hnc9, hcm9, hsz9, ht9⟩ := row_block hrow9 (by have := hnl'h.out; omega)) | (go_at_call 37; refine (deleteS_any g9 cap9 now.length A B s cur9 w9 hg9 hsz9 _ _ (by rw [hka'h.out]) (by rw [hka'h.out]) (by rw [hnow'h.out]) hnc9 hcm9 (by rw [ht9, hnow'h.out])).mono ?_; rintro e w10 ⟨rfl, ho10, hS10⟩; rw [← hwas'h.out] at hS10) | (go_at_call 18; refine (equalS_any _ _ _ _ _ cap2 was was _ hS10 (S8'h.out.below (hb9.trans (ho10.1 _ hge9)))).mono ?_; rw [decide_eq_true rfl]; rintro e w11 ⟨rfl, d11, rfl⟩))
    have H11 := (H8'h.out.next (hb9.trans (ho10.1 _ hge9))).drewN d11
    have S11 := (S8'h.out.below (hb9.trans (ho10.1 _ hge9))).below (below_drewN' _ d11)
    clear hb9 hrow9 hg9 ht9 ho10 hS10 q6 S8'h L8'h
    generalize w10.drewN d11 = W11 at H11 S11 ⊢
    have H11'h := Lib.hid H11
    have S11'h := Lib.hid S11
    clear H11 S11
    go_upto_region 14 with (first | guard_target = wpList _ _ _ (Oper.mk _ (.load _ (.tmp 6)) _ _ _ _ :: _) _ _; refine wpList_load_row rfl 25 (.tmp 6) rfl (c6) rfl 25 (gpA N) (0, 0) _ H11'h.out.rows.1 Try.underlying25 rfl infoGp ?_ | (go_at_call 17; refine (RN'h.out _).mono ?_; rintro e w12 ⟨rfl, hb12⟩))
    have H12 := H11'h.out.next hb12
    have S12 := S11'h.out.below hb12
    have q0 : w12.cell? ⟨w.heap.size + 1, 0, none⟩ = some (.int .u64 (s.key : Int)) := blk_cell H12.rows.2.1 rfl
    have q2 : w12.cell? ⟨w.heap.size + 1, 2, none⟩ = some (.int .u8 (s.h2 : Int)) := blk_cell H12.rows.2.1 rfl
    clear hb12 H11'h S11'h
    have H12'h := Lib.hid H12
    have S12'h := Lib.hid S12
    clear H12 S12
    go_upto_region 15 with (first | guard_target = wpList _ _ _ (Oper.mk _ (.load _ (.tmp 6)) _ _ _ _ :: _) _ _; refine wpList_load_row rfl 25 (.tmp 6) rfl (c6) rfl 25 (gpA N) (0, 0) _ H12'h.out.rows.1 Try.underlying25 rfl infoGp ?_ | (go_at_call 28; refine (DN'h.out _).mono ?_; rintro e w13 ⟨rfl, hb13⟩) | guard_target = wpList _ _ _ (Oper.mk _ (.store _ (.tmp 18) _) _ _ _ _ :: _) _ _; refine wpList_store_row rfl 25 (.tmp 18) _ rfl (w13.heap.size) (gpA D) rfl rfl 25 _ (World.alloc_heap_new _ _) infoGp rfl (gpA_one _) ?_)
    have H14 := ((H12'h.out.next hb13).new (gpA gpZ) 25).set 0 rfl (gpA D)
    have S14 := S12'h.out.below (below_next hb13 (below_setRow' ((Below.refl _ _).alloc (Nat.le_refl _) (.cells (gpA gpZ) 25)) (Nat.le_refl _) (gpA D)))
    change Code.wp _ _ _ _ ((w13.alloc (.cells (gpA gpZ) 25)).setRow w13.heap.size (gpA D))
    generalize World.setRow _ _ _ = W14 at H14 S14 ⊢
    obtain ⟨c18, hc18⟩ : ∃ c18, c18 = w13.heap.size := ⟨_, rfl⟩
    rw [← hc18] at H14 ⊢
    clear hb13 q0 q2 hc18 H12'h S12'h
    have q0 : W14.cell? ⟨w.heap.size + 1, 0, none⟩ = some (.int .u64 (s.key : Int)) := blk_cell H14.rows.2.2.1 rfl
    have q2 : W14.cell? ⟨w.heap.size + 1, 2, none⟩ = some (.int .u8 (s.h2 : Int)) := blk_cell H14.rows.2.2.1 rfl
    have H14'h := Lib.hid H14
    have S14'h := Lib.hid S14
    clear H14 S14
    go_upto_region 16 with (first | guard_target = wpList _ _ _ (Oper.mk _ (.load _ (.tmp 18)) _ _ _ _ :: _) _ _; refine wpList_load_row rfl 25 (.tmp 18) rfl (c18) rfl 25 (gpA D) (0, 0) _ H14'h.out.rows.1 Try.underlying25 rfl infoGp ?_ | (go_at_call 21; refine (FD'h.out _).mono ?_; rintro e w15 ⟨rfl, hb15⟩))
    have H15 := H14'h.out.next hb15
    have S15 := S14'h.out.below hb15
    clear hb15 q0 q2 H14'h S14'h
    by_cases hz0 : eN = 0
    · rw [if_pos hz0, if_pos hz0] at RD'h
      have y1 : ((eN : Int) == 0) = true := by rw [hz0]; rfl
      have H15'h := Lib.hid H15
      have S15'h := Lib.hid S15
      clear H15 S15
      go_upto_region 17 with (first | guard_target = wpList _ _ _ (Oper.mk _ (.load _ (.tmp 18)) _ _ _ _ :: _) _ _; refine wpList_load_row rfl 25 (.tmp 18) rfl (c18) rfl 25 (gpA D) (0, 0) _ H15'h.out.rows.1 Try.underlying25 rfl infoGp ?_ | (go_at_call 17; refine (RD'h.out _).mono ?_; rintro e w16 ⟨rfl, hb16⟩))
      have H16 := H15'h.out.next hb16
      have S16 := S15'h.out.below hb16
      subst hz0
      have z9 : ((now.length : Int) + (dN : Int) == 8) = true := by have := hcnt'h.out; simp; omega
      clear hb16 H15'h S15'h
      have hwm : was.length ≤ maxLen := by have := hwl'h.out; have := hnl'h.out; unfold maxLen; omega
      have H16'h := Lib.hid H16
      have S16'h := Lib.hid S16
      have hwm'h := Lib.hid hwm
      clear H16 S16 hwm
      go_wp2_with (first | guard_target = wpList _ _ _ (Oper.mk _ (.load _ (.tmp 18)) _ _ _ _ :: _) _ _; refine wpList_load_row_w (by kernel_rfl) 25 (.tmp 18) rfl (c18) rfl 25 (gpA D) (0, 0) _ H16'h.out.rows.1 Try.underlying25 rfl infoGp ?_ | (go_at_call 19; refine (LD'h.out _).mono ?_; rintro e w20 ⟨sp20, n20, cap20, rfl, hb20, hrow20⟩; obtain rfl := row_len' hrow20))
      refine (equalS_any _ _ _ _ cap20 cap2 was was _ (SlK.of_row hrow20 hwm'h.out) (S16'h.out.below hb20)).mono ?_
      rw [decide_eq_true rfl]
      rintro e w21 ⟨rfl, d20, hw21⟩
      have H21 := (H16'h.out.next hb20).drewN d20
      rw [← hw21] at H21
      clear hw21 hrow20 hb20 H16'h S16'h
      have H21'h := Lib.hid H21
      clear H21
      go_wp2_with (first | guard_target = wpList _ _ _ (Oper.mk _ (.load _ (.tmp 18)) _ _ _ _ :: _) _ _; refine wpList_load_row_w (by kernel_rfl) 25 (.tmp 18) rfl (c18) rfl 25 (gpA D) (0, 0) _ H21'h.out.rows.1 Try.underlying25 rfl infoGp ?_)
      refine (CD'h.out _).mono ?_
      rintro e w22 ⟨rfl, hb22⟩
      have H22 := H21'h.out.next hb22
      clear hb22 H21'h
      have H22'h := Lib.hid H22
      clear H22
      go_wp2_with (first | guard_target = wpList _ _ _ (Oper.mk _ (.load _ (.tmp 6)) _ _ _ _ :: _) _ _; refine wpList_load_row_w (by kernel_rfl) 25 (.tmp 6) rfl (c6) rfl 25 (gpA N) (0, 0) _ H22'h.out.rows.2.1 Try.underlying25 rfl infoGp ?_)
      refine (CN'h.out _).mono ?_
      rintro e w23 ⟨rfl, hb23⟩
      have H23 := H22'h.out.next hb23
      have H23'h := Lib.hid H23
      clear H23
      go_wp2
      go_ret
      exact ⟨rfl, H23'h.out.old⟩
    · rw [if_neg hz0, if_neg hz0] at RD'h
      have y1 : ((eN : Int) == 0) = false := by simp; omega
      have H15'h := Lib.hid H15
      have S15'h := Lib.hid S15
      clear H15 S15
      go_upto_region 17 with (first | guard_target = wpList _ _ _ (Oper.mk _ (.load _ (.tmp 18)) _ _ _ _ :: _) _ _; refine wpList_load_row rfl 25 (.tmp 18) rfl (c18) rfl 25 (gpA D) (0, 0) _ H15'h.out.rows.1 Try.underlying25 rfl infoGp ?_ | (go_at_call 17; refine (RD'h.out _).mono ?_; rintro e w16 ⟨rfl, hb16⟩))
      have H16 := H15'h.out.next hb16
      have S16 := S15'h.out.below hb16
      clear hb16 H15'h S15'h
      have hwm : was.length ≤ maxLen := by have := hwl'h.out; have := hnl'h.out; unfold maxLen; omega
      have H16'h := Lib.hid H16
      have S16'h := Lib.hid S16
      have hwm'h := Lib.hid hwm
      clear H16 S16 hwm
      go_wp2_with (first | guard_target = wpList _ _ _ (Oper.mk _ (.load _ (.tmp 18)) _ _ _ _ :: _) _ _; refine wpList_load_row_w (by kernel_rfl) 25 (.tmp 18) rfl (c18) rfl 25 (gpA D) (0, 0) _ H16'h.out.rows.1 Try.underlying25 rfl infoGp ?_ | (go_at_call 19; refine (LD'h.out _).mono ?_; rintro e w20 ⟨sp20, n20, cap20, rfl, hb20, hrow20⟩; obtain rfl := row_len' hrow20))
      refine (equalS_any _ _ _ _ cap20 cap2 was was _ (SlK.of_row hrow20 hwm'h.out) (S16'h.out.below hb20)).mono ?_
      rw [decide_eq_true rfl]
      rintro e w21 ⟨rfl, d20, hw21⟩
      have H21 := (H16'h.out.next hb20).drewN d20
      rw [← hw21] at H21
      clear hw21 hrow20 hb20 H16'h S16'h
      have H21'h := Lib.hid H21
      clear H21
      go_wp2_with (first | guard_target = wpList _ _ _ (Oper.mk _ (.load _ (.tmp 18)) _ _ _ _ :: _) _ _; refine wpList_load_row_w (by kernel_rfl) 25 (.tmp 18) rfl (c18) rfl 25 (gpA D) (0, 0) _ H21'h.out.rows.1 Try.underlying25 rfl infoGp ?_)
      refine (CD'h.out _).mono ?_
      rintro e w22 ⟨rfl, hb22⟩
      have H22 := H21'h.out.next hb22
      clear hb22 H21'h
      have H22'h := Lib.hid H22
      clear H22
      go_wp2_with (first | guard_target = wpList _ _ _ (Oper.mk _ (.load _ (.tmp 6)) _ _ _ _ :: _) _ _; refine wpList_load_row_w (by kernel_rfl) 25 (.tmp 6) rfl (c6) rfl 25 (gpA N) (0, 0) _ H22'h.out.rows.2.1 Try.underlying25 rfl infoGp ?_)
      refine (CN'h.out _).mono ?_
      rintro e w23 ⟨rfl, hb23⟩
      have H23 := H22'h.out.next hb23
      have H23'h := Lib.hid H23
      clear H23
      go_wp2
      go_ret
      exact ⟨rfl, H23'h.out.old⟩
  · have e1 : putRG x s = gpZ := by unfold putRG; rw [if_neg hz]
    have e2 : putRL x s = 0 := by unfold putRL; rw [if_neg hz]
    rw [e1, e2] at PX
    have hz' : ((putZ x s : Int) != 0) = true := by simp; omega
    have heq : ∀ w, (binOp .eql 25 (.agg (gpA gpZ)) (.agg (gpA gpZ))).run Try.prog w = .ok (.bool true) w := fun w => by rw [eql_group gpZ_ok gpZ_ok, sameA_self]
    have hlr : (liveR x).length ≤ 8 := by unfold liveR; split; exact liveG_len8 x; simp
    generalize liveR x = was at *
    generalize putZ x s = pz at *
    clear e1 e2 hz
    have WK'h := Lib.hid WK
    have hO'h := Lib.hid hO
    have hx'h := Lib.hid hx
    have hs'h := Lib.hid hs
    have LX'h := Lib.hid LX
    have PX'h := Lib.hid PX
    have heq'h := Lib.hid heq
    clear WK hO hx hs LX PX heq
    go_enter Try.func7, Try.ntmps7
    go_upto_region 1 with fail
    rw [← hW]
    clear hW
    go_upto_region 3 with (first | (go_at_call 8; refine (WK'h.out _).mono ?_; rintro e w1 ⟨rfl, hb1⟩))
    have H1 := hO'h.out.next hb1
    clear hb1
    have H1'h := Lib.hid H1
    clear H1
    go_upto_region 4 with (first | guard_target = wpList _ _ _ (Oper.mk _ (.load _ (.tmp 2)) _ _ _ _ :: _) _ _; refine wpList_load_row rfl 25 (.tmp 2) rfl (w.heap.size) rfl 25 (gpA x) (0, 0) _ H1'h.out.rows.2.1 Try.underlying25 rfl infoGp ?_ | (go_at_call 19; refine (LX'h.out _).mono ?_; rintro e w2 ⟨sp2, n2, cap2, rfl, hb2, hrow2⟩; obtain rfl := row_len' hrow2))
    have H2 := H1'h.out.next hb2
    have q0 : w2.cell? ⟨w.heap.size + 1, 0, none⟩ = some (.int .u64 (s.key : Int)) := blk_cell H2.rows.1 rfl
    have q1 : w2.cell? ⟨w.heap.size + 1, 1, none⟩ = some (.int .u64 (s.val : Int)) := blk_cell H2.rows.1 rfl
    have q2 : w2.cell? ⟨w.heap.size + 1, 2, none⟩ = some (.int .u8 (s.h2 : Int)) := blk_cell H2.rows.1 rfl
    clear hb2 hrow2
    have H2'h := Lib.hid H2
    clear H2
    go_upto_region 5 with (first | guard_target = wpList _ _ _ (Oper.mk _ (.load _ (.tmp 2)) _ _ _ _ :: _) _ _; refine wpList_load_row rfl 25 (.tmp 2) rfl (w.heap.size) rfl 25 (gpA x) (0, 0) _ H2'h.out.rows.2.1 Try.underlying25 rfl infoGp ?_ | (go_at_call 30; refine (PX'h.out _).mono ?_; rintro e w3 ⟨rfl, hb3⟩) | guard_target = wpList _ _ _ (Oper.mk _ (.store _ (.tmp 6) _) _ _ _ _ :: _) _ _; refine wpList_store_row rfl 25 (.tmp 6) _ rfl (w3.heap.size) (gpA gpZ) rfl rfl 25 _ (World.alloc_heap_new _ _) infoGp rfl (gpA_one _) ?_)
    have H4 := ((H2'h.out.next hb3).new (gpA gpZ) 25).set 0 rfl (gpA gpZ)
    change Code.wp _ _ _ _ ((w3.alloc (.cells (gpA gpZ) 25)).setRow w3.heap.size (gpA gpZ))
    generalize World.setRow _ _ _ = W4 at H4 ⊢
    obtain ⟨c6, hc6⟩ : ∃ c6, c6 = w3.heap.size := ⟨_, rfl⟩
    rw [← hc6] at H4 ⊢
    clear hb3 q0 q1 q2 hc6
    have H4'h := Lib.hid H4
    clear H4
    go_wp2_with (first | guard_target = wpList _ _ _ (Oper.mk _ (.load _ (.tmp 6)) _ _ _ _ :: _) _ _; refine wpList_load_row rfl 25 (.tmp 6) rfl (c6) rfl 25 (gpA gpZ) (0, 0) _ H4'h.out.rows.1 Try.underlying25 rfl infoGp ?_ | guard_target = wpList _ _ _ (Oper.mk _ (.build _ _) _ _ _ _ :: _) _ _; refine wpList_build_agg rfl 25 #[] (by rfl) (gpA gpZ) [] (by rfl) gpZ_built ?_ | guard_target = wpList _ _ _ (Oper.mk _ (.binOp .eql _ (.tmp 45) _ _) _ _ _ _ :: _) _ _; refine wpList_binop rfl .eql 25 25 (.tmp 45) (.tmp 46) rfl (guard_agg (by kernel_rfl) _ _ _ _ _ _) (heq'h.out _) ?_)
    go_ret
    exact ⟨rfl, H4'h.out.old⟩
end Go.Proofs.Ytfoohdjgnphdgaa
