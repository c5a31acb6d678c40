/-
  GroupFills: so many can be put as there are free slots, and no more.
-/
import Derived.Test.YtfoohdjgnphdgaaPq
import Derived.Test.YtfoohdjgnphdgaaGroupLib
import Derived.Test.YtfoohdjgnphdgaaOpenG
set_option linter.unusedSimpArgs false
set_option linter.unusedVariables false
set_option maxRecDepth 100000
namespace Go.Proofs.Ytfoohdjgnphdgaa
open Go.RowKit

theorem gpZ_built : Try.prog.built 25 [] = some (gpA gpZ) := by kernel_rfl
theorem u8_bound {z : Int} (h : (Lit.int .u8 z).wf = true) : 0 ≤ z ∧ z < 256 := by
  have h1 : IntKind.u8.min = 0 := rfl
  have h2 : IntKind.u8.max = 255 := rfl
  simp only [Lit.wf, h1, h2, Bool.and_eq_true, decide_eq_true_eq] at h
  omega
theorem nthS_liveG {g : Gp} {k : Nat} (hk : k < (liveG g).length) : ∃ li, li < 8 ∧ fullAt g.c li = true ∧ nthS (liveG g) k = slotAt g li := by
  have hk' : k < (fullL g.c).length := by unfold liveG at hk; rwa [List.length_map] at hk
  obtain ⟨h1, h2⟩ := fullL_mem.1 (nthN_mem hk')
  refine ⟨_, h1, h2, ?_⟩
  rw [← nthS_eq hk, ← nthN_eq hk']
  simp only [liveG, List.getElem_map]
theorem liveG_len8 (g : Gp) : (liveG g).length ≤ 8 := liveK_le g 8
set_option maxHeartbeats 8000000 in
theorem fills_wrong (x : Gp) (sp : Option Addr) (n cap : Nat) (w : World) (hx : GpOk x) (hr : rightG x = false) :
    Calls Try.prog 6 #[.agg (gpA x), .slice sp n cap] w fun e w' => e = .returned (.bool true) ∧ Below w.heap.size w w' := by
  have WK := fun w => wakes10_any w
  have CX := fun w => gcheck_any x w hx
  have LX := fun w => live_any x w hx
  have e1 : gchkE x = 200 := by unfold gchkE; rw [if_neg (by rw [hr]; decide)]
  have e2 : liveR x = [] := by unfold liveR; rw [if_neg (by rw [hr]; decide)]
  rw [e1] at CX
  rw [e2] at LX
  have hO := (Hs.nil w).new (gpA x) 25
  obtain ⟨W, hW⟩ : ∃ W, W = w.alloc (.cells (gpA x) 25) := ⟨_, rfl⟩
  rw [← hW] at hO
  clear e1 e2
  have WK'h := Lib.hid WK
  have hO'h := Lib.hid hO
  have hx'h := Lib.hid hx
  have hr'h := Lib.hid hr
  have CX'h := Lib.hid CX
  have LX'h := Lib.hid LX
  clear WK hO hx hr CX LX
  go_enter Try.func6, Try.ntmps6
  go_upto_region 1 with fail
  rw [← hW]
  clear hW
  go_upto_region 3 with (first | (go_at_call 8; refine (WK'h.out _).mono ?_; rintro e w1 ⟨rfl, hb1⟩))
  have H1 := hO'h.out.next hb1
  clear hb1
  have H1'h := Lib.hid H1
  clear H1
  go_upto_region 4 with (first | guard_target = wpList _ _ _ (Oper.mk _ (.load _ (.tmp 2)) _ _ _ _ :: _) _ _; refine wpList_load_row rfl 25 (.tmp 2) rfl (w.heap.size) rfl 25 (gpA x) (0, 0) _ H1'h.out.rows.1 Try.underlying25 rfl infoGp ?_ | (go_at_call 10; refine (CX'h.out _).mono ?_; rintro e w2 ⟨rfl, hb2⟩))
  have H2 := H1'h.out.next hb2
  clear hb2
  have H2'h := Lib.hid H2
  clear H2
  go_wp2_with (first | guard_target = wpList _ _ _ (Oper.mk _ (.load _ (.tmp 2)) _ _ _ _ :: _) _ _; refine wpList_load_row rfl 25 (.tmp 2) rfl (w.heap.size) rfl 25 (gpA x) (0, 0) _ H2'h.out.rows.1 Try.underlying25 rfl infoGp ?_ | (go_at_call 19; refine (LX'h.out _).mono ?_; rintro e w3 ⟨sp3, n3, cap3, rfl, hb3, hrow3⟩; obtain rfl := row_len' hrow3))
  go_ret
  exact ⟨rfl, H2'h.out.old.trans (hb3.mono H2'h.out.old.size)⟩
set_option maxHeartbeats 8000000 in
theorem walk_GroupFills (x : Gp) (sp : Option Addr) (n cap : Nat) (zs : List Int) (w : World) (hx : GpOk x) (nl : sp = none → cap = 0) (lc : n ≤ cap) (sl : Sl w sp n (zs.map (Value.int .u8))) (wf : ∀ z ∈ zs, (Lit.int .u8 z).wf = true) :
    Calls Try.prog 6 #[.agg (gpA x), .slice sp n cap] w fun e w' => e = .returned (.bool true) ∧ Below w.heap.size w w' := by
  cases hr : rightG x with
  | false => exact fills_wrong x sp n cap w hx hr
  | true =>
  have hlen : n = zs.length := by have := sl.1; simpa using this
  have hmax := sl.2.1
  unfold maxLen at hmax
  have WK := fun w => wakes10_any w
  have CX := fun w => gcheck_any x w hx
  have FX := fun w => gfree_any x w hx
  have LX := fun w => live_any x w hx
  have e1 : gchkE x = 0 := by unfold gchkE; rw [if_pos hr]
  have e2 : liveR x = liveG x := by unfold liveR; rw [if_pos hr]
  have e3 : freeN x 0 = emptyN x := by unfold freeN; rw [if_pos hr, if_pos rfl]
  have e4 : freeN x 1 = deadN x := by unfold freeN; rw [if_pos hr, if_neg (by decide)]
  have hcnt := live_count hr
  rw [e1] at CX
  rw [e2] at LX
  rw [e3, e4] at FX
  generalize emptyN x = ne at *
  generalize deadN x = nd at *
  have hne8 : ne ≤ 8 := by omega
  have hnd8 : nd ≤ 8 := by omega
  have hO := (Hs.nil w).new (gpA x) 25
  obtain ⟨W, hW⟩ : ∃ W, W = w.alloc (.cells (gpA x) 25) := ⟨_, rfl⟩
  rw [← hW] at hO
  clear e1 e2 e3 e4 nl lc
  have WK'h := Lib.hid WK
  have hO'h := Lib.hid hO
  have hx'h := Lib.hid hx
  have hr'h := Lib.hid hr
  have CX'h := Lib.hid CX
  have FX'h := Lib.hid FX
  have LX'h := Lib.hid LX
  have hlen'h := Lib.hid hlen
  have hcnt'h := Lib.hid hcnt
  have sl'h := Lib.hid sl
  have wf'h := Lib.hid wf
  clear WK hO hx hr CX FX LX hlen hcnt sl wf
  go_enter Try.func6, Try.ntmps6
  go_upto_region 1 with fail
  rw [← hW]
  clear hW
  go_upto_region 3 with (first | (go_at_call 8; refine (WK'h.out _).mono ?_; rintro e w1 ⟨rfl, hb1⟩))
  have H1 := hO'h.out.next hb1
  clear hb1
  have H1'h := Lib.hid H1
  clear H1
  go_upto_region 5 with (first | guard_target = wpList _ _ _ (Oper.mk _ (.load _ (.tmp 2)) _ _ _ _ :: _) _ _; refine wpList_load_row rfl 25 (.tmp 2) rfl (w.heap.size) rfl 25 (gpA x) (0, 0) _ H1'h.out.rows.1 Try.underlying25 rfl infoGp ?_ | (go_at_call 10; refine (CX'h.out _).mono ?_; rintro e w2 ⟨rfl, hb2⟩))
  have H2 := H1'h.out.next hb2
  clear hb2
  have H2'h := Lib.hid H2
  clear H2
  go_upto_region 6 with (first | guard_target = wpList _ _ _ (Oper.mk _ (.load _ (.tmp 2)) _ _ _ _ :: _) _ _; refine wpList_load_row rfl 25 (.tmp 2) rfl (w.heap.size) rfl 25 (gpA x) (0, 0) _ H2'h.out.rows.1 Try.underlying25 rfl infoGp ?_ | (go_at_call 17; refine (FX'h.out _).mono ?_; rintro e w3 ⟨rfl, hb3⟩))
  have H3 := H2'h.out.next hb3
  have H4 := (H3.new (gpA gpZ) 25).set 0 rfl (gpA x)
  clear hb3
  have H3'h := Lib.hid H3
  clear H3
  go_upto_region 7 with (first | guard_target = wpList _ _ _ (Oper.mk _ (.load _ (.tmp 2)) _ _ _ _ :: _) _ _; refine wpList_load_row rfl 25 (.tmp 2) rfl (w.heap.size) rfl 25 (gpA x) (0, 0) _ H3'h.out.rows.1 Try.underlying25 rfl infoGp ?_ | guard_target = wpList _ _ _ (Oper.mk _ (.store _ (.tmp 7) _) _ _ _ _ :: _) _ _; refine wpList_store_row rfl 25 (.tmp 7) _ rfl (w3.heap.size) (gpA x) rfl rfl 25 _ (World.alloc_heap_new _ _) infoGp rfl (gpA_one _) ?_)
  change Code.wp _ _ _ _ ((w3.alloc (.cells (gpA gpZ) 25)).setRow w3.heap.size (gpA x))
  generalize World.setRow _ _ _ = W4 at H4 ⊢
  obtain ⟨bn, hbn⟩ : ∃ bn, bn = w3.heap.size := ⟨_, rfl⟩
  rw [← hbn] at H4 ⊢
  clear hbn
  have H4'h := Lib.hid H4
  clear H4
  go_wp2
  go_loopg [8, 39] n (fun q pv i wr => ∃ (k put : Nat) (gr : Gp), k + q = n ∧ k ≤ 12 ∧ put ≤ k ∧ i = .int .i64 k ∧ pv = .int .i64 put ∧ GpOk gr ∧ rightG gr = true ∧ (liveG gr).length = (liveG x).length + put ∧ Hs w [(bn, gpA gr, 25), (w.heap.size, gpA x, 25)] wr)
  case atStart => exact ⟨0, 0, x, by omega, by omega, by omega, rfl, rfl, hx'h.out, hr'h.out, by omega, H4'h.out⟩
  case round =>
    obtain ⟨k, put, gr, hq, hk12, hpk, rfl, rfl, hgr, hrr, hlv, hH⟩ := hrel
    by_cases hlt : k < n
    · have hkl : k < zs.length := by have := hlen'h.out; omega
      obtain ⟨rb, ro, rfl, hcs⟩ := ((SlK.of_sl sl'h.out).below hH.old).sl.some' (by omega)
      have c1 : wr.cell? ⟨rb, ro + k, none⟩ = some (.int .u8 (nthZ zs k)) := hcs k _ (i64s_at hkl)
      obtain ⟨b0, b1⟩ := u8_bound (wf'h.out _ (nthZ_mem hkl))
      obtain ⟨h, hh⟩ : ∃ h : Nat, nthZ zs k = (h : Int) := ⟨(nthZ zs k).toNat, by omega⟩
      rw [hh] at c1 b1
      clear hh b0 hcs
      have hi1 : (k : Int) < (n : Int) := by omega
      have h0k : (0 : Int) ≤ (k : Int) := by omega
      by_cases h12 : k = 12
      · subst h12
        have HT := hH
        have hputn : put ≤ 12 := hpk
        have hgr'h := Lib.hid hgr
        have hrr'h := Lib.hid hrr
        have hlv'h := Lib.hid hlv
        have hq'h := Lib.hid hq
        have hkl'h := Lib.hid hkl
        have b1'h := Lib.hid b1
        clear hgr hrr hlv hq hkl b1
        clear hlt hH
        have HT'h := Lib.hid HT
        have hputn'h := Lib.hid hputn
        clear HT hputn
        go_upto_region 31 with fail
        have HT := HT'h.out
        generalize wr = VT at HT ⊢
        clear HT'h
        have hp12 : put ≤ 12 := hputn'h.out
        have LG := fun w => live_any gr w hgr'h.out
        have el : liveR gr = liveG gr := by unfold liveR; rw [if_pos hrr'h.out]
        rw [el] at LG
        have LG'h := Lib.hid LG
        clear LG
        have heq : (((liveG gr).length : Int) == ((liveG x).length : Int) + (put : Int)) = true := by have := hlv'h.out; simp; omega
        have l1 := liveG_len8 gr
        have l2 := liveG_len8 x
        have H3 := HT.drew
        refine wp_region_heldQ (fun w' => w'.heap[bn]? = some (.cells (gpA gr) 25 (0, 0)) ∧ w'.heap[w.heap.size]? = some (.cells (gpA x) 25 (0, 0))) 99 (by kernel_rfl) ?_
        generalize VT.drew = V at H3 ⊢
        have R3 := And.intro H3.rows.1 H3.rows.2.1
        refine wpAnyF_take (i := 0) (v := .agg (gpA gr)) rfl (by kernel_rfl) (by kernel_rfl) (by kernel_rfl) (by kernel_rfl) (fun _ _ _ h => h) (Or.inl ⟨by kernel_rfl, fun w hSw => run_load_agg (by rfl) (by rfl) hSw.1 Try.underlying25 rfl infoGp⟩) R3 ?_; try simp only [Act.put, List.getElem_toArray, List.getElem_cons_succ, List.getElem_cons_zero, List.setIfInBounds_toArray, List.set_cons_zero, List.set_cons_succ]
        refine wpAnyF_take (i := 3) (v := .agg (gpA x)) rfl (by kernel_rfl) (by kernel_rfl) (by kernel_rfl) (by kernel_rfl) (fun _ _ _ h => h) (Or.inl ⟨by kernel_rfl, fun w hSw => run_load_agg (by rfl) (by rfl) hSw.2 Try.underlying25 rfl infoGp⟩) R3 ?_; try simp only [Act.put, List.getElem_toArray, List.getElem_cons_succ, List.getElem_cons_zero, List.setIfInBounds_toArray, List.set_cons_zero, List.set_cons_succ]
        refine wpAnyF_take (i := 6) (v := .int .i64 put) rfl (by kernel_rfl) (by kernel_rfl) (by kernel_rfl) (by kernel_rfl) (fun _ _ _ h => h) (Or.inl ⟨by kernel_rfl, fun w hSw => by (try dsimp only at hSw); go_simp⟩) R3 ?_; try simp only [Act.put, List.getElem_toArray, List.getElem_cons_succ, List.getElem_cons_zero, List.setIfInBounds_toArray, List.set_cons_zero, List.set_cons_succ]
        refine wpAnyF_one (i := 1) (by kernel_rfl) rfl (fun K hK => ?_); go_simp
        refine (LG'h.out _).mono ?_
        rintro e V1 ⟨sp4, n4, cap4, rfl, hv1, hrow4⟩
        obtain rfl := row_len' hrow4
        dsimp only
        have H4 := H3.next hv1
        have R4 := And.intro H4.rows.1 H4.rows.2.1
        refine hK.out _ _ (fun _ => R4) ?_; clear hK K; try simp only [Act.put, List.getElem_toArray, List.getElem_cons_succ, List.getElem_cons_zero, List.setIfInBounds_toArray, List.set_cons_zero, List.set_cons_succ]
        refine wpAnyF_take (i := 2) (v := .int .i64 ((liveG gr).length : Int)) rfl (by kernel_rfl) (by kernel_rfl) (by kernel_rfl) (by kernel_rfl) (fun _ _ _ h => h) (Or.inl ⟨by kernel_rfl, fun w hSw => by (try dsimp only at hSw); go_simp⟩) R4 ?_; try simp only [Act.put, List.getElem_toArray, List.getElem_cons_succ, List.getElem_cons_zero, List.setIfInBounds_toArray, List.set_cons_zero, List.set_cons_succ]
        refine wpAnyF_one (i := 4) (by kernel_rfl) rfl (fun K hK => ?_); go_simp
        refine (LX'h.out _).mono ?_
        rintro e V2 ⟨sp5, n5, cap5, rfl, hv2, hrow5⟩
        obtain rfl := row_len' hrow5
        dsimp only
        have H5 := H4.next hv2
        have R5 := And.intro H5.rows.1 H5.rows.2.1
        refine hK.out _ _ (fun _ => R5) ?_; clear hK K; try simp only [Act.put, List.getElem_toArray, List.getElem_cons_succ, List.getElem_cons_zero, List.setIfInBounds_toArray, List.set_cons_zero, List.set_cons_succ]
        refine wpAnyF_take (i := 5) (v := .int .i64 ((liveG x).length : Int)) rfl (by kernel_rfl) (by kernel_rfl) (by kernel_rfl) (by kernel_rfl) (fun _ _ _ h => h) (Or.inl ⟨by kernel_rfl, fun w hSw => by (try dsimp only at hSw); go_simp⟩) R5 ?_; try simp only [Act.put, List.getElem_toArray, List.getElem_cons_succ, List.getElem_cons_zero, List.setIfInBounds_toArray, List.set_cons_zero, List.set_cons_succ]
        refine wpAnyF_take (i := 7) (v := .int .i64 (((liveG x).length : Int) + (put : Int))) rfl (by kernel_rfl) (by kernel_rfl) (by kernel_rfl) (by kernel_rfl) (fun _ _ _ h => h) (Or.inl ⟨by kernel_rfl, fun w hSw => by (try dsimp only at hSw); go_simp; exact Go.IntWalk.i64_in _ (by omega)⟩) R5 ?_; try simp only [Act.put, List.getElem_toArray, List.getElem_cons_succ, List.getElem_cons_zero, List.setIfInBounds_toArray, List.set_cons_zero, List.set_cons_succ]
        refine wpAnyF_take (i := 8) (v := .bool true) rfl (by kernel_rfl) (by kernel_rfl) (by kernel_rfl) (by kernel_rfl) (fun _ _ _ h => h) (Or.inl ⟨by kernel_rfl, fun w hSw => by (try dsimp only at hSw); go_simp⟩) R5 ?_; try simp only [Act.put, List.getElem_toArray, List.getElem_cons_succ, List.getElem_cons_zero, List.setIfInBounds_toArray, List.set_cons_zero, List.set_cons_succ]
        refine wpAnyF_take (i := 9) (v := .bool true) rfl (by kernel_rfl) (by kernel_rfl) (by kernel_rfl) (by kernel_rfl) (fun _ _ _ h => h) (Or.inl ⟨by kernel_rfl, fun w hSw => by (try dsimp only at hSw); go_simp⟩) R5 ?_; try simp only [Act.put, List.getElem_toArray, List.getElem_cons_succ, List.getElem_cons_zero, List.setIfInBounds_toArray, List.set_cons_zero, List.set_cons_succ]
        refine wpAnyF_done (by kernel_rfl) ?_ _
        refine noPanic_normal ?_
        clear R3 R4 R5 H3 H4 hv1 hv2 hrow4 hrow5
        have H5'h := Lib.hid H5
        clear H5
        go_wp2
        go_ret
        exact ⟨rfl, H5'h.out.old⟩
      · have h12' : ((k : Int) == 12) = false := by simp; omega
        have hk11 : k < 12 := by omega
        clear h12 hlt
        have hq'h := Lib.hid hq
        have hpk'h := Lib.hid hpk
        have hgr'h := Lib.hid hgr
        have hrr'h := Lib.hid hrr
        have hlv'h := Lib.hid hlv
        have hH'h := Lib.hid hH
        have hkl'h := Lib.hid hkl
        have b1'h := Lib.hid b1
        clear hq hpk hgr hrr hlv hH hkl b1
        go_upto_region 12 with fail
        obtain ⟨m, hm⟩ : ∃ m : Nat, m = h % 128 := ⟨_, rfl⟩
        have hmod : (h : Int) % 128 = (m : Int) := by omega
        have hm128 : m < 128 := by omega
        rw [hmod]
        clear hm hmod c1 b1'h
        have H12 := hH'h.out.new #[.int .u64 1000] 22
        have H12'h := Lib.hid H12
        have hm128'h := Lib.hid hm128
        clear H12 hm128
        go_wp2
        have H12 := H12'h.out
        clear H12'h
        generalize wr.alloc _ = W12 at H12 ⊢
        obtain ⟨c11, hc11⟩ : ∃ c11, c11 = wr.heap.size := ⟨_, rfl⟩
        rw [← hc11] at H12 ⊢
        clear hc11
        have LG := fun w => live_any gr w hgr'h.out
        have el : liveR gr = liveG gr := by unfold liveR; rw [if_pos hrr'h.out]
        rw [el] at LG
        have hl8 := liveG_len8 gr
        have hk0 : 1000 + keysFrom gr 1000 ≤ 1008 := by have := keysFrom_le gr 1000; omega
        clear el
        have H12'h := Lib.hid H12
        have LG'h := Lib.hid LG
        have hl8'h := Lib.hid hl8
        have hk0'h := Lib.hid hk0
        clear H12 LG hl8 hk0
        obtain ⟨go, rfl⟩ : ∃ go : Nat, go = gk := ⟨_, rfl⟩
        have hp12 : put ≤ 12 := by have := hpk'h.out; omega
        go_loopg [] (keysFrom gr 1000) (fun q wr2 => ∃ key : Nat, q = keysFrom gr key ∧ key + q ≤ 1008 ∧ Hs w [(c11, #[.int .u64 (key : Int)], 22), (bn, gpA gr, 25), (w.heap.size, gpA x, 25)] wr2)
        case atStart => exact ⟨1000, rfl, hk0'h.out, H12'h.out⟩
        case round =>
          obtain ⟨key, hgk, hkey, hHk⟩ := hrel
          have hk2 : key ≤ 1008 := by omega
          cases hv : liveHas gr key with
          | true =>
            have hlt2 := keysFrom_lt hv
            unfold liveHas at hv
            have hgk'h := Lib.hid hgk
            have hkey'h := Lib.hid hkey
            have hHk'h := Lib.hid hHk
            have hlt2'h := Lib.hid hlt2
            clear hgk hkey hHk hlt2
            go_upto_region 14 with (first | guard_target = wpList _ _ _ (Oper.mk _ (.load _ (.tmp 7)) _ _ _ _ :: _) _ _; refine wpList_load_row rfl 25 (.tmp 7) rfl (bn) rfl 25 (gpA gr) (0, 0) _ hHk'h.out.rows.2.1 Try.underlying25 rfl infoGp ?_ | (go_at_call 19; refine (LG'h.out _).mono ?_; rintro e w3 ⟨sp3, n3, cap3, rfl, hb3, hrow3⟩; obtain rfl := row_len' hrow3) | (go_at_call 33; refine (containsFunS_any _ _ _ (liveG gr) c11 key _ (SlK.of_row hrow3 (by have := hl8'h.out; unfold maxLen; omega)) (blk_cell (hHk'h.out.next hb3).rows.1 rfl)).mono ?_; rw [hv]; rintro e w4 ⟨rfl, hb4⟩))
            have H14 := (hHk'h.out.next hb3).next hb4
            have q1 : w4.cell? ⟨c11, 0, none⟩ = some (.int .u64 (key : Int)) := blk_cell H14.rows.1 rfl
            have q1f := blk_free 0 H14.rows.1
            have H15 := H14.put 0 rfl 0 (.int .u64 ((key : Int) + 1))
            clear hb3 hrow3
            have H14'h := Lib.hid H14
            have H15'h := Lib.hid H15
            clear H14 H15
            go_wp2
            go_roundg (keysFrom gr (key + 1))
            case measure => have := hlt2'h.out; have := hgk'h.out; omega
            case rel => exact ⟨key + 1, rfl, by have := hlt2'h.out; have := hgk'h.out; have := hkey'h.out; omega, H15'h.out⟩
          | false =>
            have hv2 := hv
            unfold liveHas at hv
            have hgk'h := Lib.hid hgk
            have hkey'h := Lib.hid hkey
            have hHk'h := Lib.hid hHk
            have hv2'h := Lib.hid hv2
            clear hgk hkey hHk hv2
            go_upto_region 15 with (first | guard_target = wpList _ _ _ (Oper.mk _ (.load _ (.tmp 7)) _ _ _ _ :: _) _ _; refine wpList_load_row rfl 25 (.tmp 7) rfl (bn) rfl 25 (gpA gr) (0, 0) _ hHk'h.out.rows.2.1 Try.underlying25 rfl infoGp ?_ | (go_at_call 19; refine (LG'h.out _).mono ?_; rintro e w3 ⟨sp3, n3, cap3, rfl, hb3, hrow3⟩; obtain rfl := row_len' hrow3) | (go_at_call 33; refine (containsFunS_any _ _ _ (liveG gr) c11 key _ (SlK.of_row hrow3 (by have := hl8'h.out; unfold maxLen; omega)) (blk_cell (hHk'h.out.next hb3).rows.1 rfl)).mono ?_; rw [hv]; rintro e w4 ⟨rfl, hb4⟩))
            have H4 := (hHk'h.out.next hb3).next hb4
            clear hb3 hrow3 hb4 hv
            have q1 : w4.cell? ⟨c11, 0, none⟩ = some (.int .u64 (key : Int)) := blk_cell H4.rows.1 rfl
            have hs3 : Sl3Ok ⟨key, key, m⟩ := ⟨by show key < _; omega, by show key < _; omega, by show m < _; have := hm128'h.out; omega⟩
            have hpe := fill_putE (g := gr) (key := key) hm128'h.out hv2'h.out
            have hpz : putZ gr ⟨key, key, m⟩ = putE gr ⟨key, key, m⟩ := by unfold putZ; rw [if_pos hrr'h.out]
            by_cases hroom : (liveG gr).length < 8
            · rw [if_pos hroom] at hpe
              have PT := fun w => gput_any gr ⟨key, key, m⟩ w hgr'h.out hs3
              have e1 : putRG gr ⟨key, key, m⟩ = putTo gr ⟨key, key, m⟩ := by unfold putRG; rw [hpz, if_pos hpe]
              have e2 : putRL gr ⟨key, key, m⟩ = freeLane gr := by unfold putRL; rw [hpz, if_pos hpe]
              rw [hpz, hpe, e1, e2] at PT
              have hNok : GpOk (putTo gr ⟨key, key, m⟩) := putTo_ok hgr'h.out hs3
              have hNr := put_right hrr'h.out hpe
              have hNl := put_length hpe
              have hNb := fun i (hi : i < 8) => put_byte hpe hi
              have hln8 : freeLane gr < 8 := (put_zero hpe).2.2
              have hNm := (hNb _ hln8).trans (if_pos rfl)
              obtain ⟨N, hN⟩ : ∃ N, N = putTo gr ⟨key, key, m⟩ := ⟨_, rfl⟩
              obtain ⟨ln, hln⟩ : ∃ ln, ln = freeLane gr := ⟨_, rfl⟩
              rw [← hN] at PT hNok hNr hNl hNm
              rw [← hln] at PT hln8 hNm
              have hc : (put : Int) < (ne : Int) + (nd : Int) := by have := hcnt'h.out; have := hlv'h.out; omega
              dsimp only at PT hNm
              clear e1 e2 hpe hpz hN hln hs3 hNb
              have PT'h := Lib.hid PT
              have hNok'h := Lib.hid hNok
              have hNr'h := Lib.hid hNr
              have hNl'h := Lib.hid hNl
              have hNm'h := Lib.hid hNm
              have hln8'h := Lib.hid hln8
              have H4'h := Lib.hid H4
              have hroom'h := Lib.hid hroom
              clear PT hNok hNr hNl hNm hln8 H4 hroom
              go_upto_region 16 with (first | guard_target = wpList _ _ _ (Oper.mk _ (.load _ (.tmp 7)) _ _ _ _ :: _) _ _; refine wpList_load_row rfl 25 (.tmp 7) rfl (bn) rfl 25 (gpA gr) (0, 0) _ H4'h.out.rows.2.1 Try.underlying25 rfl infoGp ?_ | (go_at_call 30; refine (PT'h.out _).mono ?_; rintro e w5 ⟨rfl, hb5⟩) | guard_target = wpList _ _ _ (Oper.mk _ (.store _ (.tmp 12) _) _ _ _ _ :: _) _ _; refine wpList_store_row rfl 25 (.tmp 12) _ rfl (w5.heap.size) (gpA N) rfl rfl 25 _ (World.alloc_heap_new _ _) infoGp rfl (gpA_one _) ?_)
              have H5 := ((H4'h.out.next hb5).new (gpA gpZ) 25).set 0 rfl (gpA N)
              change Code.wp _ _ _ _ ((w5.alloc (.cells (gpA gpZ) 25)).setRow w5.heap.size (gpA N))
              generalize World.setRow _ _ _ = W5 at H5 ⊢
              obtain ⟨c12, hc12⟩ : ∃ c12, c12 = w5.heap.size := ⟨_, rfl⟩
              rw [← hc12] at H5 ⊢
              clear hb5 q1 hc12
              have LK := fun w => looks_any N m w hNok'h.out (by have := hm128'h.out; omega)
              have LN := fun w => live_any N w hNok'h.out
              have lk0 : looksE N m = 0 := by unfold looksE; rw [if_pos hNr'h.out, if_pos (by have := hm128'h.out; omega)]
              have lk1 : looksR N m = looksG N m := by unfold looksR; rw [if_pos lk0]
              have lv1 : liveR N = liveG N := by unfold liveR; rw [if_pos hNr'h.out]
              have hcon : ∀ i, i < 8 → (looksG N m).contains i = (byteAt N.c i == m) := fun i hi => looksG_contains N m i hi
              have hlkl : (looksG N m).length ≤ 8 := Nat.le_trans (List.length_filter_le _ _) (by simp)
              have hlnl := liveG_len8 N
              rw [lk0, lk1] at LK
              rw [lv1] at LN
              generalize looksG N m = lk at *
              have hcl : lk.contains ln = true := by rw [hcon ln hln8'h.out, hNm'h.out]; simp
              clear lk0 lk1 lv1
              have H5'h := Lib.hid H5
              have LK'h := Lib.hid LK
              have LN'h := Lib.hid LN
              have hcon'h := Lib.hid hcon
              have hlkl'h := Lib.hid hlkl
              have hlnl'h := Lib.hid hlnl
              clear H5 LK LN hcon hlkl hlnl
              go_upto_region 20 with (first | guard_target = wpList _ _ _ (Oper.mk _ (.load _ (.tmp 12)) _ _ _ _ :: _) _ _; refine wpList_load_row rfl 25 (.tmp 12) rfl (c12) rfl 25 (gpA N) (0, 0) _ H5'h.out.rows.1 Try.underlying25 rfl infoGp ?_ | (go_at_call 20; refine (LK'h.out _).mono ?_; rintro e w6 ⟨sp6, n6, cap6, rfl, hb6, hrow6⟩; obtain rfl := row_len' hrow6))
              have H6 := H5'h.out.next hb6
              have S6 : Sl w6 sp6 lk.length (ints lk) := Sl.of_row hrow6 (by have := hlkl'h.out; unfold maxLen; omega)
              clear hb6 hrow6
              have CT := containsN_any sp6 lk.length cap6 lk ln w6 S6
              rw [hcl] at CT
              have H6'h := Lib.hid H6
              have S6'h := Lib.hid S6
              have CT'h := Lib.hid CT
              clear H6 S6 CT
              go_upto_region 22 with (first | (go_at_call 35; refine CT'h.out.mono ?_; rintro e w7 ⟨rfl, hw7⟩; obtain rfl := hw7.symm))
              clear CT'h hcl
              go_upto_region 23 with (first | guard_target = wpList _ _ _ (Oper.mk _ (.load _ (.tmp 12)) _ _ _ _ :: _) _ _; refine wpList_load_row rfl 25 (.tmp 12) rfl (c12) rfl 25 (gpA N) (0, 0) _ H6'h.out.rows.1 Try.underlying25 rfl infoGp ?_ | (go_at_call 19; refine (LN'h.out _).mono ?_; rintro e w8 ⟨sp8, n8, cap8, rfl, hb8, hrow8⟩; obtain rfl := row_len' hrow8))
              have H8 := H6'h.out.next hb8
              have S6 := S6'h.out.below hb8
              have S8 : SlK w8 3 sp8 (liveG N).length (sls (liveG N)) := SlK.of_row hrow8 (by have := hlnl'h.out; unfold maxLen; omega)
              clear hb8 hrow8 S6'h H6'h
              have H8'h := Lib.hid H8
              have S6'h := Lib.hid S6
              have S8'h := Lib.hid S8
              clear H8 S6 S8
              go_wp2
              go_loopg [98] (liveG N).length (fun q i wr => ∃ k2 : Nat, k2 + q = (liveG N).length ∧ i = .int .i64 k2 ∧ Hs w [(c12, gpA N, 25), (c11, #[.int .u64 (key : Int)], 22), (bn, gpA gr, 25), (w.heap.size, gpA x, 25)] wr ∧ Below w8.heap.size w8 wr)
              case atStart => exact ⟨0, by omega, rfl, H8'h.out, Below.refl _ _⟩
              case round =>
                obtain ⟨k2, hq2, rfl, hH3, hB3⟩ := hrel
                by_cases hlt3 : k2 < (liveG N).length
                · obtain ⟨sb, so, rfl, -⟩ := S8'h.out.some' (by omega)
                  obtain ⟨d0, d1, d2⟩ := sls_cells (S8'h.out.below hB3) hlt3
                  obtain ⟨li, hli8, hlf, hls⟩ := nthS_liveG hlt3
                  rw [hls] at d0 d1 d2
                  obtain ⟨f1, f2⟩ := find_live hNr'h.out hli8 hlf
                  have FD := fun w => find_any N (N.k li) (byteAt N.c li) w hNok'h.out (hNok'h.out.k li) (byteAt_lt _ _)
                  rw [f1, f2] at FD
                  have hcli := hcon'h.out li hli8
                  have hb256 := byteAt_lt N.c li
                  have hsl : slotAt N li = ⟨N.k li, N.v li, byteAt N.c li⟩ := rfl
                  rw [hsl] at d0 d1 d2
                  dsimp only at d0 d1 d2
                  generalize findN N (N.k li) (byteAt N.c li) = fn at FD
                  generalize N.k li = kk at *
                  generalize N.v li = vv at *
                  generalize byteAt N.c li = bb at *
                  have CT2 := fun w h => containsN_any sp6 lk.length cap6 lk li w h
                  have hi3 : (k2 : Int) < ((liveG N).length : Int) := by omega
                  have h03 : (0 : Int) ≤ (k2 : Int) := by omega
                  have hk8 : k2 ≤ 8 := by have := hlnl'h.out; omega
                  have H24 := hH3.new (slA ⟨kk, vv, bb⟩) 38
                  have hB24 : Below w8.heap.size w8 (wr.alloc (.cells (slA ⟨kk, vv, bb⟩) 38)) := below_next hB3 ((Below.refl _ _).alloc (Nat.le_refl _) _)
                  clear f1 f2 hsl hls hlf
                  have hq2'h := Lib.hid hq2
                  have hH3'h := Lib.hid hH3
                  have hB3'h := Lib.hid hB3
                  have hlt3'h := Lib.hid hlt3
                  have FD'h := Lib.hid FD
                  have CT2'h := Lib.hid CT2
                  have H24'h := Lib.hid H24
                  have hB24'h := Lib.hid hB24
                  have hb256'h := Lib.hid hb256
                  have hli8'h := Lib.hid hli8
                  clear hq2 hH3 hB3 hlt3 FD CT2 H24 hB24 hb256 hli8
                  go_upto_region 25 with fail
                  change Code.wp _ _ _ _ (wr.alloc (.cells (slA ⟨kk, vv, bb⟩) 38))
                  have H24 := H24'h.out
                  have hB24 := hB24'h.out
                  clear H24'h hB24'h d0 d1 d2 hB3'h hH3'h
                  generalize wr.alloc _ = W24 at H24 hB24 ⊢
                  obtain ⟨c24, hc24⟩ : ∃ c24, c24 = wr.heap.size := ⟨_, rfl⟩
                  rw [← hc24] at H24 ⊢
                  clear hc24
                  have q0 : W24.cell? ⟨c24, 0, none⟩ = some (.int .u64 (kk : Int)) := blk_cell H24.rows.1 rfl
                  have q2 : W24.cell? ⟨c24, 2, none⟩ = some (.int .u8 (bb : Int)) := blk_cell H24.rows.1 rfl
                  have H24'h := Lib.hid H24
                  have hB24'h := Lib.hid hB24
                  clear H24 hB24
                  go_upto_region 26 with (first | guard_target = wpList _ _ _ (Oper.mk _ (.load _ (.tmp 12)) _ _ _ _ :: _) _ _; refine wpList_load_row rfl 25 (.tmp 12) rfl (c12) rfl 25 (gpA N) (0, 0) _ H24'h.out.rows.2.1 Try.underlying25 rfl infoGp ?_ | (go_at_call 21; refine (FD'h.out _).mono ?_; rintro e w25 ⟨rfl, hb25⟩))
                  have H25 := H24'h.out.next hb25
                  have hB25 := below_next hB24'h.out hb25
                  have q2' : ∀ d, (w25.drewN d).cell? ⟨c24, 2, none⟩ = some (.int .u8 (bb : Int)) := fun d => blk_cell H25.rows.1 rfl
                  have CT3 : ∀ d, Calls Try.prog 35 #[.slice sp6 lk.length cap6, .int .i64 li] (w25.drewN d) fun e w' => e = .returned (.bool (lk.contains li)) ∧ w' = w25.drewN d := fun d => CT2'h.out _ ((S6'h.out.below hB25).below (below_drewN' _ _))
                  clear q0 q2 hb25 hB24'h H24'h CT2'h FD'h
                  obtain ⟨t, ht1, ht2⟩ : ∃ t, (bb == m) = t ∧ ((bb : Int) == (m : Int)) = t := ⟨_, rfl, by rw [Bool.eq_iff_iff]; simp; omega⟩
                  rw [hcli, ht1] at CT3
                  have hee : (t != t) = false := by simp
                  clear ht1 hcli
                  have H25'h := Lib.hid H25
                  have hB25'h := Lib.hid hB25
                  have CT3'h := Lib.hid CT3
                  clear H25 hB25 CT3
                  go_quiet ((go_at_call 35; exact Calls.quiet_of_same (CT3'h.out _)))
                  go_wp2
                  go_roundg (gk - 1)
                  case measure => have := hq2'h.out; omega
                  case rel => exact ⟨k2 + 1, by have := hq2'h.out; omega, by go_num, (H25'h.out.drewN nq).tail, hB25'h.out.trans (below_drewN' _ _)⟩
                · obtain rfl : k2 = (liveG N).length := by omega
                  have hi3 : ¬ ((liveG N).length : Int) < ((liveG N).length : Int) := by omega
                  have H29 := (hH3.set 2 rfl (gpA N)).tail.tail
                  clear hlt3
                  have hq2'h := Lib.hid hq2
                  have hH3'h := Lib.hid hH3
                  have hB3'h := Lib.hid hB3
                  have H29'h := Lib.hid H29
                  clear hq2 hH3 hB3 H29
                  go_wp2_with (first | guard_target = wpList _ _ _ (Oper.mk _ (.load _ (.tmp 12)) _ _ _ _ :: _) _ _; refine wpList_load_row rfl 25 (.tmp 12) rfl (c12) rfl 25 (gpA N) (0, 0) _ hH3'h.out.rows.1 Try.underlying25 rfl infoGp ?_ | guard_target = wpList _ _ _ (Oper.mk _ (.store _ (.tmp 7) _) _ _ _ _ :: _) _ _; refine wpList_store_row rfl 25 (.tmp 7) _ rfl (bn) (gpA N) rfl rfl 25 _ hH3'h.out.rows.2.2.1 infoGp rfl (gpA_one _) ?_)
                  go_roundg (go - 1)
                  case measure => have := hq'h.out; omega
                  case rel => exact ⟨k + 1, put + 1, N, by have := hq'h.out; omega, by omega, by have := hpk'h.out; omega, by go_num, by go_num, hNok'h.out, hNr'h.out, by have := hNl'h.out; have := hlv'h.out; omega, H29'h.out⟩
            · rw [if_neg hroom] at hpe
              have PT := fun w => gput_any gr ⟨key, key, m⟩ w hgr'h.out hs3
              have e1 : putRG gr ⟨key, key, m⟩ = gpZ := by unfold putRG; rw [hpz, hpe, if_neg (by decide)]
              have e2 : putRL gr ⟨key, key, m⟩ = 0 := by unfold putRL; rw [hpz, hpe, if_neg (by decide)]
              rw [hpz, hpe, e1, e2] at PT
              have hc : ¬ ((put : Int) < (ne : Int) + (nd : Int)) := by have := hcnt'h.out; have := hlv'h.out; omega
              dsimp only at PT
              clear e1 e2 hpe hpz hs3
              have PT'h := Lib.hid PT
              have H4'h := Lib.hid H4
              have hroom'h := Lib.hid hroom
              clear PT H4 hroom
              go_upto_region 16 with (first | guard_target = wpList _ _ _ (Oper.mk _ (.load _ (.tmp 7)) _ _ _ _ :: _) _ _; refine wpList_load_row rfl 25 (.tmp 7) rfl (bn) rfl 25 (gpA gr) (0, 0) _ H4'h.out.rows.2.1 Try.underlying25 rfl infoGp ?_ | (go_at_call 30; refine (PT'h.out _).mono ?_; rintro e w5 ⟨rfl, hb5⟩) | guard_target = wpList _ _ _ (Oper.mk _ (.store _ (.tmp 12) _) _ _ _ _ :: _) _ _; refine wpList_store_row rfl 25 (.tmp 12) _ rfl (w5.heap.size) (gpA gpZ) rfl rfl 25 _ (World.alloc_heap_new _ _) infoGp rfl (gpA_one _) ?_)
              have H5 := ((H4'h.out.next hb5).new (gpA gpZ) 25).set 0 rfl (gpA gpZ)
              change Code.wp _ _ _ _ ((w5.alloc (.cells (gpA gpZ) 25)).setRow w5.heap.size (gpA gpZ))
              generalize World.setRow _ _ _ = W5 at H5 ⊢
              clear hb5 q1
              have H5'h := Lib.hid H5
              clear H5
              go_wp2
              go_roundg (go - 1)
              case measure => have := hq'h.out; omega
              case rel => exact ⟨k + 1, put, gr, by have := hq'h.out; omega, by omega, by have := hpk'h.out; omega, by go_num, rfl, hgr'h.out, hrr'h.out, hlv'h.out, H5'h.out.tail.tail⟩
    · have hi1 : ¬ (k : Int) < (n : Int) := by omega
      have HT := hH
      have hputn : put ≤ 12 := by omega
      have hgr'h := Lib.hid hgr
      have hrr'h := Lib.hid hrr
      have hlv'h := Lib.hid hlv
      have hq'h := Lib.hid hq
      clear hgr hrr hlv hq
      clear hlt hH
      have HT'h := Lib.hid HT
      have hputn'h := Lib.hid hputn
      clear HT hputn
      go_upto_region 31 with fail
      have HT := HT'h.out
      generalize wr = VT at HT ⊢
      clear HT'h
      have hp12 : put ≤ 12 := hputn'h.out
      have LG := fun w => live_any gr w hgr'h.out
      have el : liveR gr = liveG gr := by unfold liveR; rw [if_pos hrr'h.out]
      rw [el] at LG
      have LG'h := Lib.hid LG
      clear LG
      have heq : (((liveG gr).length : Int) == ((liveG x).length : Int) + (put : Int)) = true := by have := hlv'h.out; simp; omega
      have l1 := liveG_len8 gr
      have l2 := liveG_len8 x
      have H3 := HT.drew
      refine wp_region_heldQ (fun w' => w'.heap[bn]? = some (.cells (gpA gr) 25 (0, 0)) ∧ w'.heap[w.heap.size]? = some (.cells (gpA x) 25 (0, 0))) 99 (by kernel_rfl) ?_
      generalize VT.drew = V at H3 ⊢
      have R3 := And.intro H3.rows.1 H3.rows.2.1
      refine wpAnyF_take (i := 0) (v := .agg (gpA gr)) rfl (by kernel_rfl) (by kernel_rfl) (by kernel_rfl) (by kernel_rfl) (fun _ _ _ h => h) (Or.inl ⟨by kernel_rfl, fun w hSw => run_load_agg (by rfl) (by rfl) hSw.1 Try.underlying25 rfl infoGp⟩) R3 ?_; try simp only [Act.put, List.getElem_toArray, List.getElem_cons_succ, List.getElem_cons_zero, List.setIfInBounds_toArray, List.set_cons_zero, List.set_cons_succ]
      refine wpAnyF_take (i := 3) (v := .agg (gpA x)) rfl (by kernel_rfl) (by kernel_rfl) (by kernel_rfl) (by kernel_rfl) (fun _ _ _ h => h) (Or.inl ⟨by kernel_rfl, fun w hSw => run_load_agg (by rfl) (by rfl) hSw.2 Try.underlying25 rfl infoGp⟩) R3 ?_; try simp only [Act.put, List.getElem_toArray, List.getElem_cons_succ, List.getElem_cons_zero, List.setIfInBounds_toArray, List.set_cons_zero, List.set_cons_succ]
      refine wpAnyF_take (i := 6) (v := .int .i64 put) rfl (by kernel_rfl) (by kernel_rfl) (by kernel_rfl) (by kernel_rfl) (fun _ _ _ h => h) (Or.inl ⟨by kernel_rfl, fun w hSw => by (try dsimp only at hSw); go_simp⟩) R3 ?_; try simp only [Act.put, List.getElem_toArray, List.getElem_cons_succ, List.getElem_cons_zero, List.setIfInBounds_toArray, List.set_cons_zero, List.set_cons_succ]
      refine wpAnyF_one (i := 1) (by kernel_rfl) rfl (fun K hK => ?_); go_simp
      refine (LG'h.out _).mono ?_
      rintro e V1 ⟨sp4, n4, cap4, rfl, hv1, hrow4⟩
      obtain rfl := row_len' hrow4
      dsimp only
      have H4 := H3.next hv1
      have R4 := And.intro H4.rows.1 H4.rows.2.1
      refine hK.out _ _ (fun _ => R4) ?_; clear hK K; try simp only [Act.put, List.getElem_toArray, List.getElem_cons_succ, List.getElem_cons_zero, List.setIfInBounds_toArray, List.set_cons_zero, List.set_cons_succ]
      refine wpAnyF_take (i := 2) (v := .int .i64 ((liveG gr).length : Int)) rfl (by kernel_rfl) (by kernel_rfl) (by kernel_rfl) (by kernel_rfl) (fun _ _ _ h => h) (Or.inl ⟨by kernel_rfl, fun w hSw => by (try dsimp only at hSw); go_simp⟩) R4 ?_; try simp only [Act.put, List.getElem_toArray, List.getElem_cons_succ, List.getElem_cons_zero, List.setIfInBounds_toArray, List.set_cons_zero, List.set_cons_succ]
      refine wpAnyF_one (i := 4) (by kernel_rfl) rfl (fun K hK => ?_); go_simp
      refine (LX'h.out _).mono ?_
      rintro e V2 ⟨sp5, n5, cap5, rfl, hv2, hrow5⟩
      obtain rfl := row_len' hrow5
      dsimp only
      have H5 := H4.next hv2
      have R5 := And.intro H5.rows.1 H5.rows.2.1
      refine hK.out _ _ (fun _ => R5) ?_; clear hK K; try simp only [Act.put, List.getElem_toArray, List.getElem_cons_succ, List.getElem_cons_zero, List.setIfInBounds_toArray, List.set_cons_zero, List.set_cons_succ]
      refine wpAnyF_take (i := 5) (v := .int .i64 ((liveG x).length : Int)) rfl (by kernel_rfl) (by kernel_rfl) (by kernel_rfl) (by kernel_rfl) (fun _ _ _ h => h) (Or.inl ⟨by kernel_rfl, fun w hSw => by (try dsimp only at hSw); go_simp⟩) R5 ?_; try simp only [Act.put, List.getElem_toArray, List.getElem_cons_succ, List.getElem_cons_zero, List.setIfInBounds_toArray, List.set_cons_zero, List.set_cons_succ]
      refine wpAnyF_take (i := 7) (v := .int .i64 (((liveG x).length : Int) + (put : Int))) rfl (by kernel_rfl) (by kernel_rfl) (by kernel_rfl) (by kernel_rfl) (fun _ _ _ h => h) (Or.inl ⟨by kernel_rfl, fun w hSw => by (try dsimp only at hSw); go_simp; exact Go.IntWalk.i64_in _ (by omega)⟩) R5 ?_; try simp only [Act.put, List.getElem_toArray, List.getElem_cons_succ, List.getElem_cons_zero, List.setIfInBounds_toArray, List.set_cons_zero, List.set_cons_succ]
      refine wpAnyF_take (i := 8) (v := .bool true) rfl (by kernel_rfl) (by kernel_rfl) (by kernel_rfl) (by kernel_rfl) (fun _ _ _ h => h) (Or.inl ⟨by kernel_rfl, fun w hSw => by (try dsimp only at hSw); go_simp⟩) R5 ?_; try simp only [Act.put, List.getElem_toArray, List.getElem_cons_succ, List.getElem_cons_zero, List.setIfInBounds_toArray, List.set_cons_zero, List.set_cons_succ]
      refine wpAnyF_take (i := 9) (v := .bool true) rfl (by kernel_rfl) (by kernel_rfl) (by kernel_rfl) (by kernel_rfl) (fun _ _ _ h => h) (Or.inl ⟨by kernel_rfl, fun w hSw => by (try dsimp only at hSw); go_simp⟩) R5 ?_; try simp only [Act.put, List.getElem_toArray, List.getElem_cons_succ, List.getElem_cons_zero, List.setIfInBounds_toArray, List.set_cons_zero, List.set_cons_succ]
      refine wpAnyF_done (by kernel_rfl) ?_ _
      refine noPanic_normal ?_
      clear R3 R4 R5 H3 H4 hv1 hv2 hrow4 hrow5
      have H5'h := Lib.hid H5
      clear H5
      go_wp2
      go_ret
      exact ⟨rfl, H5'h.out.old⟩
end Go.Proofs.Ytfoohdjgnphdgaa
