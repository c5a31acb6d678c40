/-
  GroupSets: a value that is another one is found there, and no other slot is another one.
-/
import Derived.Test.YtfoohdjgnphdgaaPq
import Derived.Test.YtfoohdjgnphdgaaOpenG
set_option linter.unusedSimpArgs false
set_option linter.unusedVariables false
set_option maxRecDepth 100000
namespace Go.Proofs.Ytfoohdjgnphdgaa
open Go.RowKit

theorem same_zero : sameA gpZ gpZ = true := by decide +kernel
theorem gpZ_built : Try.prog.built 25 [] = some (gpA gpZ) := by kernel_rfl
theorem nthS_live {g : Gp} {k : Nat} (hk : k < (fullL g.c).length) : nthS (liveG g) k = slotAt g (nthN (fullL g.c) k) := by
  have hk' : k < (liveG g).length := by unfold liveG; rw [List.length_map]; exact hk
  rw [← nthS_eq hk', ← nthN_eq hk]
  simp only [liveG, List.getElem_map]
def cntL (x m k : Nat) : Nat := ((fullL x).take k).count m
theorem cntL_yes {x m k : Nat} (hk : k < (fullL x).length) (h : nthN (fullL x) k = m) : cntL x m (k + 1) = cntL x m k + 1 := by
  unfold cntL
  rw [List.take_succ_eq_append_getElem hk, List.count_append, nthN_eq hk, h]; simp
theorem cntL_no {x m k : Nat} (hk : k < (fullL x).length) (h : nthN (fullL x) k ≠ m) : cntL x m (k + 1) = cntL x m k := by
  unfold cntL
  rw [List.take_succ_eq_append_getElem hk, List.count_append, nthN_eq hk]; simp [h]
theorem cntL_le (x m k : Nat) : cntL x m k ≤ k := by unfold cntL; exact Nat.le_trans List.count_le_length (by simp; omega)
theorem cntL_all {x m : Nat} (hm : m < 8) (hf : fullAt x m = true) : cntL x m (fullL x).length = 1 := by
  unfold cntL
  rw [List.take_length]
  have h1 : (fullL x).count m ≤ 1 := List.nodup_iff_count.1 (List.Pairwise.filter _ List.nodup_range) m
  have h2 : 0 < (fullL x).count m := List.count_pos_iff.2 (fullL_mem.2 ⟨hm, hf⟩)
  omega
theorem live_le8 (g : Gp) : (fullL g.c).length ≤ 8 := by unfold fullL; exact Nat.le_trans (List.length_filter_le _ _) (by simp)
theorem setE_zero {x : Gp} {lane : Int} (h : setE x lane = 0) : rightG x = true ∧ ∃ m : Nat, lane = (m : Int) ∧ m < 8 ∧ fullAt x.c m = true := by
  unfold setE at h
  split at h
  · rename_i h1
    split at h
    · rename_i h2
      split at h
      · rename_i h3; exact ⟨h1, lane.toNat, by omega, by omega, h3⟩
      · cases h
    · cases h
  · cases h
set_option maxHeartbeats 4000000 in
theorem walk_GroupSets (x : Gp) (lane val : Int) (w : World) (hx : GpOk x) (wf1 : (Lit.int .i64 lane).wf = true) (wf2 : (Lit.int .u64 val).wf = true) :
    Calls Try.prog 5 #[.agg (gpA x), .int .i64 lane, .int .u64 val] w fun e w' => e = .returned (.bool true) ∧ Below w.heap.size w w' := by
  obtain ⟨v, rfl, hv⟩ := nat_of_u64 wf2
  have WK := fun w => wakes10_any w
  have ST := fun w => set_any x lane v w hx
  have hO := (Hs.nil w).new (gpA x) 25
  obtain ⟨W, hW⟩ : ∃ W, W = w.alloc (.cells (gpA x) 25) := ⟨_, rfl⟩
  rw [← hW] at hO
  by_cases he : setE x lane = 0
  · obtain ⟨hr, m, rfl, hm, hfm⟩ := setE_zero he
    have hn : setRG x m v = setTo x m v := by unfold setRG; rw [if_pos he]; rfl
    rw [he, hn] at ST
    have hno : GpOk (setTo x m v) := setTo_ok hx m (by exact hv)
    have hnr : rightG (setTo x m v) = true := hr
    have hnc : (setTo x m v).c = x.c := rfl
    have LX := fun w => live_any x w hx
    have LN := fun w => live_any (setTo x m v) w hno
    have e1 : liveR x = liveG x := by unfold liveR; rw [if_pos hr]
    have e2 : liveR (setTo x m v) = liveG (setTo x m v) := by unfold liveR; rw [if_pos hnr]
    rw [e1] at LX
    rw [e2] at LN
    have hl1 : (liveG x).length = (fullL x.c).length := by unfold liveG; rw [List.length_map]
    have hl2 : (liveG (setTo x m v)).length = (fullL x.c).length := by unfold liveG; rw [List.length_map]; rfl
    have hl8 := live_le8 x
    generalize hN : setTo x m v = N at *
    clear e1 e2 hn wf1 wf2 he
    have WK'h := Lib.hid WK
    have ST'h := Lib.hid ST
    have hO'h := Lib.hid hO
    have hr'h := Lib.hid hr
    have hno'h := Lib.hid hno
    have hnr'h := Lib.hid hnr
    have hnc'h := Lib.hid hnc
    have LX'h := Lib.hid LX
    have LN'h := Lib.hid LN
    have hl1'h := Lib.hid hl1
    have hl2'h := Lib.hid hl2
    have hl8'h := Lib.hid hl8
    have hN'h := Lib.hid hN
    have hx'h := Lib.hid hx
    have hm'h := Lib.hid hm
    have hfm'h := Lib.hid hfm
    clear WK ST hO hr hno hnr hnc LX LN hl1 hl2 hl8 hN hx hm hfm
    go_enter Try.func5, Try.ntmps5
    go_upto_region 1 with fail
    rw [← hW]
    clear hW
    go_upto_region 3 with (first | (go_at_call 8; refine (WK'h.out _).mono ?_; rintro e w1 ⟨rfl, hb1⟩))
    have H1 := hO'h.out.next hb1
    clear hb1
    have H1'h := Lib.hid H1
    clear H1
    go_upto_region 4 with (first | (refine wpList_load_row rfl _ _ rfl w.heap.size rfl 25 (gpA x) (0, 0) _ H1'h.out.rows.1 Try.underlying25 rfl infoGp ?_) | (go_at_call 25; refine (ST'h.out _).mono ?_; rintro e w2 ⟨rfl, hb2⟩) | (refine wpList_store_row rfl _ _ _ rfl w2.heap.size (gpA N) rfl rfl 25 _ (World.alloc_heap_new _ _) infoGp rfl (gpA_one _) ?_))
    have H2 := ((H1'h.out.next hb2).new (gpA gpZ) 25).set 0 rfl (gpA N)
    change Code.wp _ _ _ _ ((w2.alloc (.cells (gpA gpZ) 25)).setRow w2.heap.size (gpA N))
    generalize w2.heap.size = bn at H2 ⊢
    generalize World.setRow _ _ _ = W2 at H2 ⊢
    clear hb2
    have H2'h := Lib.hid H2
    clear H2
    go_upto_region 6 with fail
    have H3 := H2'h.out.drew
    refine wp_region_heldQ (fun w' => w'.heap[w.heap.size]? = some (.cells (gpA x) 25 (0, 0)) ∧ w'.heap[bn]? = some (.cells (gpA N) 25 (0, 0))) 99 (by kernel_rfl) ?_
    generalize W2.drew = V at H3 ⊢
    have R3 := And.intro H3.rows.2.1 H3.rows.1
    refine wpAnyF_take (i := 0) (v := .agg (gpA x)) rfl (by kernel_rfl) (by kernel_rfl) (by kernel_rfl) (by kernel_rfl) (fun _ _ _ h => h) (Or.inl ⟨by kernel_rfl, fun w hSw => run_load_agg (by rfl) (by rfl) hSw.1 Try.underlying25 rfl infoGp⟩) R3 ?_; try simp only [Act.put, List.getElem_toArray, List.getElem_cons_succ, List.getElem_cons_zero, List.setIfInBounds_toArray, List.set_cons_zero, List.set_cons_succ]
    refine wpAnyF_take (i := 2) (v := .agg (gpA N)) rfl (by kernel_rfl) (by kernel_rfl) (by kernel_rfl) (by kernel_rfl) (fun _ _ _ h => h) (Or.inl ⟨by kernel_rfl, fun w hSw => run_load_agg (by rfl) (by rfl) hSw.2 Try.underlying25 rfl infoGp⟩) R3 ?_; try simp only [Act.put, List.getElem_toArray, List.getElem_cons_succ, List.getElem_cons_zero, List.setIfInBounds_toArray, List.set_cons_zero, List.set_cons_succ]
    refine wpAnyF_one (i := 1) (by kernel_rfl) rfl (fun K hK => ?_); go_simp
    refine (LX'h.out _).mono ?_
    rintro e V1 ⟨sp4, n4, cap4, rfl, hv1, hrow4⟩
    dsimp only
    have H4 := H3.next hv1
    have R4 := And.intro H4.rows.2.1 H4.rows.1
    refine hK.out _ _ (fun _ => R4) ?_; clear hK K; try simp only [Act.put, List.getElem_toArray, List.getElem_cons_succ, List.getElem_cons_zero, List.setIfInBounds_toArray, List.set_cons_zero, List.set_cons_succ]
    refine wpAnyF_one (i := 3) (by kernel_rfl) rfl (fun K hK => ?_); go_simp
    refine (LN'h.out _).mono ?_
    rintro e V2 ⟨sp5, n5, cap5, rfl, hv2, hrow5⟩
    dsimp only
    have H5 := H4.next hv2
    have R5 := And.intro H5.rows.2.1 H5.rows.1
    refine hK.out _ _ (fun _ => R5) ?_; clear hK K; try simp only [Act.put, List.getElem_toArray, List.getElem_cons_succ, List.getElem_cons_zero, List.setIfInBounds_toArray, List.set_cons_zero, List.set_cons_succ]
    obtain rfl := row_len' hrow4
    obtain rfl := row_len' hrow5
    refine wpAnyF_take (i := 4) (v := .slice sp4 (liveG x).length cap4) rfl (by kernel_rfl) (by kernel_rfl) (by kernel_rfl) (by kernel_rfl) (fun _ _ _ h => h) (Or.inl ⟨by kernel_rfl, fun w hSw => by (try dsimp only at hSw); go_simp⟩) R5 ?_; try simp only [Act.put, List.getElem_toArray, List.getElem_cons_succ, List.getElem_cons_zero, List.setIfInBounds_toArray, List.set_cons_zero, List.set_cons_succ]
    refine wpAnyF_take (i := 5) (v := .slice sp5 (liveG N).length cap5) rfl (by kernel_rfl) (by kernel_rfl) (by kernel_rfl) (by kernel_rfl) (fun _ _ _ h => h) (Or.inl ⟨by kernel_rfl, fun w hSw => by (try dsimp only at hSw); go_simp⟩) R5 ?_; try simp only [Act.put, List.getElem_toArray, List.getElem_cons_succ, List.getElem_cons_zero, List.setIfInBounds_toArray, List.set_cons_zero, List.set_cons_succ]
    refine wpAnyF_done (by kernel_rfl) ?_ _
    refine noPanic_normal ?_
    rw [hl1'h.out, hl2'h.out]
    have S4 : SlK V2 3 sp4 (liveG x).length (sls (liveG x)) := SlK.of_row (ownsRow_next hrow4 hv2) (by rw [hl1'h.out]; exact Nat.le_trans hl8'h.out (by decide))
    have S5 : SlK V2 3 sp5 (liveG N).length (sls (liveG N)) := SlK.of_row hrow5 (by rw [hl2'h.out]; exact Nat.le_trans hl8'h.out (by decide))
    rw [hl1'h.out] at S4
    rw [hl2'h.out] at S5
    clear R3 R4 R5 H3 H4 hv1 hv2 hrow4 hrow5
    have H5'h := Lib.hid H5
    have S4'h := Lib.hid S4
    have S5'h := Lib.hid S5
    clear H5 S4 S5
    generalize hn : (fullL x.c).length = n at *
    have hn8 : n ≤ 8 := hl8'h.out
    have hn'h := Lib.hid hn
    clear hn
    go_wp2
    go_loopg [11, 42] n (fun q mv i wr => ∃ k : Nat, k + q = n ∧ i = .int .i64 k ∧ mv = .int .i64 (cntL x.c m k) ∧ Hs w [(bn, gpA N, 25), (w.heap.size, gpA x, 25)] wr ∧ Below V2.heap.size V2 wr)
    case atStart => exact ⟨0, by omega, rfl, rfl, H5'h.out, Below.refl _ _⟩
    case round =>
      obtain ⟨k, hq, rfl, rfl, hH, hbe⟩ := hrel
      by_cases hlt : k < n
      · have hkf : k < (fullL x.c).length := by rw [hn'h.out]; exact hlt
        have hkN : k < (fullL N.c).length := by rw [hnc'h.out]; exact hkf
        obtain ⟨li, hli⟩ : ∃ li, li = nthN (fullL x.c) k := ⟨_, rfl⟩
        obtain ⟨hli8, hfl⟩ := fullL_mem.1 (nthN_mem hkf)
        rw [← hli] at hli8 hfl
        have hs1 := nthS_live (g := N) hkN
        have hs2 := nthS_live (g := x) hkf
        rw [hnc'h.out, ← hli] at hs1
        rw [← hli] at hs2
        have S4r := S4'h.out.below hbe
        have S5r := S5'h.out.below hbe
        obtain ⟨rb, ro, rfl, -⟩ := S5r.some' (by omega)
        obtain ⟨sb, so, rfl, -⟩ := S4r.some' (by omega)
        obtain ⟨c0, c1, c2⟩ := sls_cells S5r (show k < (liveG N).length by rw [hl2'h.out]; exact hlt)
        have hm1 : ∀ W', Below wr.heap.size wr W' → W'.cell? ⟨sb, so + k * 3, none⟩ = some (.int .u64 ((slotAt x li).key : Int)) ∧ W'.cell? ⟨sb, so + k * 3 + 1, none⟩ = some (.int .u64 ((slotAt x li).val : Int)) ∧ W'.cell? ⟨sb, so + k * 3 + 2, none⟩ = some (.int .u8 ((slotAt x li).h2 : Int)) := by
          intro W' hW'
          have := sls_cells (S4r.below hW') (show k < (liveG x).length by rw [hl1'h.out]; exact hlt)
          rwa [hs2] at this
        rw [hs1] at c0 c1 c2
        have FL := find_live hnr'h.out hli8 (by rw [hnc'h.out]; exact hfl)
        have FD := fun w => find_any N (N.k li) (byteAt N.c li) w hno'h.out (hno'h.out.k li) (byteAt_lt _ _)
        rw [FL.1, FL.2] at FD
        generalize findN N (N.k li) (byteAt N.c li) = fn at FD
        have k1 : N.k li = x.k li := by rw [← hN'h.out]; rfl
        have k2 : byteAt N.c li = byteAt x.c li := by rw [hnc'h.out]
        have k3 : N.v li = if li = m then v else x.v li := by rw [← hN'h.out]; rfl
        have hsl : slotAt N li = ⟨x.k li, N.v li, byteAt x.c li⟩ := by unfold slotAt; rw [k1, k2]
        rw [hsl] at c0 c1 c2
        rw [k1, k2] at FD
        have H12 := hH.new (slA ⟨x.k li, N.v li, byteAt x.c li⟩) 38
        have hbA : Below wr.heap.size wr (wr.alloc (.cells (slA ⟨x.k li, N.v li, byteAt x.c li⟩) 38)) := (Below.refl _ _).alloc (Nat.le_refl _) _
        unfold slotAt at hm1
        generalize N.v li = v1 at *
        generalize x.v li = v2 at *
        generalize x.k li = kk at *
        generalize byteAt x.c li = hh at *
        have hi1 : (k : Int) < (n : Int) := by omega
        have h0k : (0 : Int) ≤ (k : Int) := by omega
        have hcl := cntL_le x.c m k
        have hck : cntL x.c m k ≤ 8 := by omega
        clear hsl k1 k2 hs1 hs2 FL S4r S5r hkN
        by_cases hlm : li = m
        · have hcn := cntL_yes hkf (hli.symm.trans hlm)
          have hz : ((li : Int) == (m : Int)) = true := by rw [hlm]; simp
          rw [if_pos hlm] at k3
          subst k3
          clear hlm hli
          generalize cntL x.c m k = cc at *
          have hq'h := Lib.hid hq
          have hH'h := Lib.hid hH
          have hbe'h := Lib.hid hbe
          have hkf'h := Lib.hid hkf
          have hli8'h := Lib.hid hli8
          have hfl'h := Lib.hid hfl
          have hm1'h := Lib.hid hm1
          have FD'h := Lib.hid FD
          have H12'h := Lib.hid H12
          have hcn'h := Lib.hid hcn
          have hbA'h := Lib.hid hbA
          clear hq hH hbe hkf hli8 hfl hm1 FD H12 hcn hbA
          go_upto_region 13 with fail
          change Code.wp _ _ _ _ (wr.alloc (.cells (slA ⟨kk, v1, hh⟩) 38))
          have H12 := H12'h.out
          have hbA := hbA'h.out
          generalize wr.alloc _ = w12 at H12 hbA ⊢
          have q0 : w12.cell? ⟨wr.heap.size, 0, none⟩ = some (.int .u64 (kk : Int)) := blk_cell H12.rows.1 rfl
          have q2 : w12.cell? ⟨wr.heap.size, 2, none⟩ = some (.int .u8 (hh : Int)) := blk_cell H12.rows.1 rfl
          clear c0 c1 c2
          have H12'h := Lib.hid H12
          have hbA'h := Lib.hid hbA
          clear H12 hbA
          go_upto_region 14 with (first | (refine wpList_load_row rfl _ _ rfl bn rfl 25 (gpA N) (0, 0) _ H12'h.out.rows.2.1 Try.underlying25 rfl infoGp ?_) | (go_at_call 21; refine (FD'h.out _).mono ?_; rintro e w13 ⟨rfl, hb13⟩))
          have H13 := H12'h.out.next hb13
          obtain ⟨d0, d1, d2⟩ := hm1'h.out w13 (below_next hbA'h.out hb13)
          clear q0 q2
          have q0 : w13.cell? ⟨wr.heap.size, 0, none⟩ = some (.int .u64 (kk : Int)) := blk_cell H13.rows.1 rfl
          have q1 : w13.cell? ⟨wr.heap.size, 1, none⟩ = some (.int .u64 (v1 : Int)) := blk_cell H13.rows.1 rfl
          have q2 : w13.cell? ⟨wr.heap.size, 2, none⟩ = some (.int .u8 (hh : Int)) := blk_cell H13.rows.1 rfl
          have H13'h := Lib.hid H13
          have hb13'h := Lib.hid hb13
          clear H13 hb13
          go_quiet (fail)
          have q1' : (w13.drewN nq).cell? ⟨wr.heap.size, 1, none⟩ = some (.int .u64 (v1 : Int)) := q1
          go_wp2
          go_roundg (gk - 1)
          case measure => have := hq'h.out; omega
          case rel => exact ⟨k + 1, by have := hq'h.out; omega, by go_num, by rw [hcn'h.out]; go_num, H13'h.out.tail.drewN nq, (below_next hbe'h.out (below_next hbA'h.out hb13'h.out)).trans (below_drewN' _ _)⟩
        · have hcn := cntL_no hkf (fun e => hlm (hli.trans e))
          have hz : ((li : Int) == (m : Int)) = false := by simp; omega
          rw [if_neg hlm] at k3
          subst k3
          clear hlm hli
          generalize cntL x.c m k = cc at *
          have hq'h := Lib.hid hq
          have hH'h := Lib.hid hH
          have hbe'h := Lib.hid hbe
          have hkf'h := Lib.hid hkf
          have hli8'h := Lib.hid hli8
          have hfl'h := Lib.hid hfl
          have hm1'h := Lib.hid hm1
          have FD'h := Lib.hid FD
          have H12'h := Lib.hid H12
          have hcn'h := Lib.hid hcn
          have hbA'h := Lib.hid hbA
          clear hq hH hbe hkf hli8 hfl hm1 FD H12 hcn hbA
          go_upto_region 13 with fail
          change Code.wp _ _ _ _ (wr.alloc (.cells (slA ⟨kk, v1, hh⟩) 38))
          have H12 := H12'h.out
          have hbA := hbA'h.out
          generalize wr.alloc _ = w12 at H12 hbA ⊢
          have q0 : w12.cell? ⟨wr.heap.size, 0, none⟩ = some (.int .u64 (kk : Int)) := blk_cell H12.rows.1 rfl
          have q2 : w12.cell? ⟨wr.heap.size, 2, none⟩ = some (.int .u8 (hh : Int)) := blk_cell H12.rows.1 rfl
          clear c0 c1 c2
          have H12'h := Lib.hid H12
          have hbA'h := Lib.hid hbA
          clear H12 hbA
          go_upto_region 14 with (first | (refine wpList_load_row rfl _ _ rfl bn rfl 25 (gpA N) (0, 0) _ H12'h.out.rows.2.1 Try.underlying25 rfl infoGp ?_) | (go_at_call 21; refine (FD'h.out _).mono ?_; rintro e w13 ⟨rfl, hb13⟩))
          have H13 := H12'h.out.next hb13
          obtain ⟨d0, d1, d2⟩ := hm1'h.out w13 (below_next hbA'h.out hb13)
          clear q0 q2
          have q0 : w13.cell? ⟨wr.heap.size, 0, none⟩ = some (.int .u64 (kk : Int)) := blk_cell H13.rows.1 rfl
          have q1 : w13.cell? ⟨wr.heap.size, 1, none⟩ = some (.int .u64 (v1 : Int)) := blk_cell H13.rows.1 rfl
          have q2 : w13.cell? ⟨wr.heap.size, 2, none⟩ = some (.int .u8 (hh : Int)) := blk_cell H13.rows.1 rfl
          have H13'h := Lib.hid H13
          have hb13'h := Lib.hid hb13
          clear H13 hb13
          go_quiet (fail)
          go_wp2
          have q1' : (w13.drewN nq).cell? ⟨wr.heap.size, 1, none⟩ = some (.int .u64 (v1 : Int)) := q1
          have d1' : (w13.drewN nq).cell? ⟨sb, so + k * 3 + 1, none⟩ = some (.int .u64 (v1 : Int)) := d1
          go_quiet (fail)
          go_wp2
          go_roundg (gk - 1)
          case measure => have := hq'h.out; omega
          case rel => exact ⟨k + 1, by have := hq'h.out; omega, by go_num, by rw [hcn'h.out], H13'h.out.tail.drewN _, (below_next hbe'h.out (below_next hbA'h.out hb13'h.out)).trans (below_drewN' _ _)⟩
      · have hkk : k = n := by omega
        have hc1 : cntL x.c m k = 1 := by rw [hkk, ← hn'h.out]; exact cntL_all hm'h.out hfm'h.out
        rw [hc1]
        have g0 : wr.cell? ⟨bn, 0, none⟩ = some (.int .u64 (x.c : Int)) := by rw [← hnc'h.out]; exact gp_ctrl hH.rows.1
        have g1 : wr.cell? ⟨w.heap.size, 0, none⟩ = some (.int .u64 (x.c : Int)) := gp_ctrl hH.rows.2.1
        have hi1 : ¬ (k : Int) < (n : Int) := by omega
        clear hc1 hkk hlt
        have hH'h := Lib.hid hH
        have hbe'h := Lib.hid hbe
        clear hH hbe
        go_wp2
        go_ret
        exact ⟨rfl, hH'h.out.old⟩
  · have hn : setRG x lane v = gpZ := by unfold setRG; rw [if_neg he]
    rw [hn] at ST
    have hz : ((setE x lane : Int) != 0) = true := by simp; omega
    have heq : ∀ w, (binOp .eql 25 (.agg (gpA gpZ)) (.agg (gpA gpZ))).run Try.prog w = .ok (.bool true) w := fun w => by rw [eql_group gpZ_ok gpZ_ok, same_zero]
    generalize setE x lane = se at *
    clear he hn
    have WK'h := Lib.hid WK
    have ST'h := Lib.hid ST
    have hO'h := Lib.hid hO
    have hx'h := Lib.hid hx
    clear WK ST hO hx
    go_enter Try.func5, Try.ntmps5
    go_upto_region 1 with fail
    rw [← hW]
    clear hW
    go_upto_region 3 with (first | (go_at_call 8; refine (WK'h.out _).mono ?_; rintro e w1 ⟨rfl, hb1⟩))
    have H1 := hO'h.out.next hb1
    clear hb1
    have H1'h := Lib.hid H1
    clear H1
    go_upto_region 4 with (first | (refine wpList_load_row rfl _ _ rfl w.heap.size rfl 25 (gpA x) (0, 0) _ H1'h.out.rows.1 Try.underlying25 rfl infoGp ?_) | (go_at_call 25; refine (ST'h.out _).mono ?_; rintro e w2 ⟨rfl, hb2⟩) | (refine wpList_store_row rfl _ _ _ rfl w2.heap.size (gpA gpZ) rfl rfl 25 _ (World.alloc_heap_new _ _) infoGp rfl (gpA_one _) ?_))
    have H2 := ((H1'h.out.next hb2).new (gpA gpZ) 25).set 0 rfl (gpA gpZ)
    change Code.wp _ _ _ _ ((w2.alloc (.cells (gpA gpZ) 25)).setRow w2.heap.size (gpA gpZ))
    generalize w2.heap.size = bn at H2 ⊢
    generalize World.setRow _ _ _ = W2 at H2 ⊢
    clear hb2
    have H2'h := Lib.hid H2
    clear H2
    go_wp2_with (first | (refine wpList_load_row rfl _ _ rfl bn rfl 25 (gpA gpZ) (0, 0) _ H2'h.out.rows.1 Try.underlying25 rfl infoGp ?_) | (refine wpList_build_agg rfl 25 #[] (by rfl) (gpA gpZ) [] (by rfl) gpZ_built ?_))
    go_ret
    exact ⟨rfl, H2'h.out.old⟩
end Go.Proofs.Ytfoohdjgnphdgaa
