/-
  Layer 3 (script): scripts that are cut; what is done to them does nothing to the script.
-/
import Derived.Test.YtifofdciablljaaDoorQ7
import Derived.Test.YtifofdciablljaaDoorQ1
set_option linter.unusedSimpArgs false
set_option linter.unusedVariables false
set_option maxRecDepth 100000
namespace Go.Proofs.YtifofdciablljaaDoor
open Go.RowKit

/-- Picks that lie in a row of one's own. -/
def PickAt (B : Nat) (wr : World) (sp : Option Addr) (n : Nat) : Prop := n = 0 ∨ ∃ (b : Nat) (cs : Array Value), sp = some ⟨b, 0, none⟩ ∧ B ≤ b ∧ wr.heap[b]? = some (.cells cs 22 (0, 0)) ∧ ∀ k, k < n → ∃ u : Int, cs[k]? = some (.int .u64 u)
/-- The keys of calls that lie in a row of one's own. -/
def KeyAt (B : Nat) (wr : World) (r : CRow) : Prop := r.len = 0 ∨ ∃ (b : Nat) (cs : Array Value), r.sp = some ⟨b, 0, none⟩ ∧ B ≤ b ∧ wr.heap[b]? = some (.cells cs 57 (0, 0)) ∧ ∀ k, k < r.len → ∃ u : Int, cs[k * 4 + 1]? = some (.int .u64 u)
structure CutI (Wc : World) (bc : Nat) (c : Sm) (wr : World) : Prop where
  low : Below Wc.heap.size Wc wr
  box : wr.heap[bc]? = some (.cells (smA c) 26 (0, 0))
  outer : wr.ownsRow Wc.heap.size 55 1 (.slice c.lp c.ln c.lc) c.ln (c.rows.map crV)
  picks : PickAt Wc.heap.size wr c.pp c.pn
  inner : ∀ r ∈ c.rows, KeyAt Wc.heap.size wr r
theorem apart_blk {W : World} {b b' : Nat} {cs cs' : Array Value} {t t' : TypeId} (h : W.heap[b]? = some (.cells cs t (0, 0))) (h' : W.heap[b']? = some (.cells cs' t' (0, 0))) (hne : t ≠ t') : b' ≠ b := by
  intro e
  subst e
  rw [h] at h'
  injection h' with h'
  injection h' with _ h' _
  exact hne h'
theorem set_u64 {cs : Array Value} {i : Nat} {v : Int} {j : Nat} (h : ∃ u : Int, cs[j]? = some (.int .u64 u)) : ∃ u : Int, (cs.setIfInBounds i (.int .u64 v))[j]? = some (.int .u64 u) := by
  obtain ⟨u, hu⟩ := h
  rw [Array.getElem?_setIfInBounds]
  split
  · rename_i e
    subst e
    have := (Array.getElem?_eq_some_iff.1 hu).1
    rw [if_pos this]
    exact ⟨v, rfl⟩
  · exact ⟨u, hu⟩
section
variable {Wc : World} {bc : Nat} {c : Sm} {wr : World}
theorem grown_cell (wr : World) (b i : Nat) (v : Value) : wr.grownBy (wr.setCell ⟨b, i, none⟩ v) (some b) := ⟨rfl, rfl, rfl, by simp [World.setCell], fun k hk hne => Below.heap_setCell _ _ _ _ (fun e => hne (by rw [e]))⟩
theorem CutI.pick {b : Nat} {cs : Array Value} (h : CutI Wc bc c wr) (hb : wr.heap[b]? = some (.cells cs 22 (0, 0))) (hB : Wc.heap.size ≤ b) (i : Nat) (v : Int) : CutI Wc bc c (wr.setCell ⟨b, i, none⟩ (.int .u64 v)) := by
  refine ⟨h.low.setCell hB _, (Below.heap_setCell _ _ _ _ (apart_blk hb h.box (by decide))).trans h.box, ownsRow_other h.outer (grown_cell ..) (blk_apart h.outer hb (by decide)), ?_, fun r hr => ?_⟩
  · refine h.picks.imp id ?_
    rintro ⟨b', cs', e1, e2, e3, e4⟩
    by_cases e : b' = b
    · subst e
      exact ⟨b', _, e1, e2, blk_set (i := i) _ e3, fun k hk => set_u64 (e4 k hk)⟩
    · exact ⟨b', cs', e1, e2, (Below.heap_setCell _ _ _ _ e).trans e3, e4⟩
  · refine (h.inner r hr).imp id ?_
    rintro ⟨b', cs', e1, e2, e3, e4⟩
    exact ⟨b', cs', e1, e2, (Below.heap_setCell _ _ _ _ (apart_blk hb e3 (by decide))).trans e3, e4⟩
theorem CutI.key {b : Nat} {cs : Array Value} (h : CutI Wc bc c wr) (hb : wr.heap[b]? = some (.cells cs 57 (0, 0))) (hB : Wc.heap.size ≤ b) (i : Nat) (v : Int) : CutI Wc bc c (wr.setCell ⟨b, i, none⟩ (.int .u64 v)) := by
  refine ⟨h.low.setCell hB _, (Below.heap_setCell _ _ _ _ (apart_blk hb h.box (by decide))).trans h.box, ownsRow_other h.outer (grown_cell ..) (blk_apart h.outer hb (by decide)), ?_, fun r hr => ?_⟩
  · refine h.picks.imp id ?_
    rintro ⟨b', cs', e1, e2, e3, e4⟩
    exact ⟨b', cs', e1, e2, (Below.heap_setCell _ _ _ _ (apart_blk hb e3 (by decide))).trans e3, e4⟩
  · refine (h.inner r hr).imp id ?_
    rintro ⟨b', cs', e1, e2, e3, e4⟩
    by_cases e : b' = b
    · subst e
      exact ⟨b', _, e1, e2, blk_set (i := i) _ e3, fun k hk => set_u64 (e4 k hk)⟩
    · exact ⟨b', cs', e1, e2, (Below.heap_setCell _ _ _ _ e).trans e3, e4⟩
theorem list_take {cs : Array Value} {n : Nat} {xs : List Value} (h : cs.toList.take n = xs) {i : Nat} {v : Value} (hv : xs[i]? = some v) : cs[i]? = some v := by
  rw [← h, List.getElem?_take] at hv
  split at hv
  · rw [← Array.getElem?_toList]; exact hv
  · cases hv
theorem PickAt.of {W : World} {B : Nat} {sp : Option Addr} {n cap m : Nat} {ps : List Nat} (h : W.ownsRow B 22 1 (.slice sp n cap) m (u64s ps)) : PickAt B W sp n := by
  have hl := h.1
  rw [u64s_length] at hl
  rcases h.2 with ⟨h1, h0⟩ | ⟨g, cap', cur, h1, hg, hh, -, -, -, ht⟩
  · injection h1 with _ h1 _
    exact .inl h1
  · injection h1 with e1 e2 _
    subst e1 e2
    refine .inr ⟨g, cur, rfl, hg, hh, fun k hk => ⟨(nthU ps k : Int), list_take ht (by unfold u64s; rw [List.getElem?_map, nthU_at (by omega)]; rfl)⟩⟩
theorem KeyAt.of {W : World} {B : Nat} {r : CRow} {m : Nat} (h : W.ownsRow B 57 4 (crV r) m (cals r.cs)) (hr : r.len = r.cs.length) : KeyAt B W r := by
  rcases h.2 with ⟨h1, h0⟩ | ⟨g, cap', cur, h1, hg, hh, -, -, -, ht⟩
  · unfold crV at h1
    injection h1 with _ h1 _
    exact .inl h1
  · unfold crV at h1
    injection h1 with e1 e2 _
    refine .inr ⟨g, cur, e1, hg, hh, fun k hk => ⟨((nthCal r.cs k).key : Int), list_take ht ?_⟩⟩
    have := flatMap_get calL_len r.cs k 1 (by omega) (by omega : k < r.cs.length)
    unfold cals
    rw [this]
    have e := nthCal_eq (l := r.cs) (k := k) (by omega)
    rw [e]
    rfl
end
set_option maxHeartbeats 8000000 in
theorem cuts_true (xs : Sm) (p : Int) (gp : Option Addr) (gn gc : Nat) (gs : List Int) (w : World) (hT : Tks w) (h : SmArg w xs) (hg : Sl w gp gn (gs.map (Value.int .i64))) (hnil : gp = none → gc = 0) (hle : gn ≤ gc) :
    Calls Tryd.prog 7 #[.agg (smA xs), .int .i64 p, .slice gp gn gc] w fun e w' => e = .returned (.bool true) ∧ Below w.heap.size w w' := by
  obtain ⟨k, hk⟩ : ∃ k : Nat, min (gn : Int) 10 = (k : Int) := ⟨(min (gn : Int) 10).toNat, by omega⟩
  have hk10 : k ≤ 10 := by omega
  have hkn : k ≤ gn := by omega
  have k1 : (k : Int) ≤ (gc : Int) := by omega
  have k2 : ¬ (k : Int) < 0 := by omega
  obtain ⟨G, hG⟩ : ∃ G, G = gs.take k := ⟨_, rfl⟩
  have hg0 := hg.take k hkn
  rw [← List.map_take, ← hG] at hg0
  clear hG hg
  obtain ⟨gx, sbx, seedx, lpx, lnx, lcx, rowsx, ppx, pnx, pcx, psx⟩ := xs
  obtain ⟨xs, hsmx⟩ : ∃ s : Sm, s = ⟨gx, sbx, seedx, lpx, lnx, lcx, rowsx, ppx, pnx, pcx, psx⟩ := ⟨_, rfl⟩
  have hAx : smA xs = #[.int .i64 gx, .int .i64 sbx, .int .u64 (seedx : Int), .slice lpx lnx lcx, .slice ppx pnx pcx] := by rw [hsmx]; rfl
  have hpnx : xs.pn = pnx := by rw [hsmx]
  rw [← hsmx] at h ⊢
  rw [hAx]
  clear hsmx
  have hB0 := (Below.refl w.heap.size w).alloc (Nat.le_refl _) (.cells #[.int .i64 gx, .int .i64 sbx, .int .u64 (seedx : Int), .slice lpx lnx lcx, .slice ppx pnx pcx] 26)
  have hb0 := World.alloc_heap_new w (.cells #[.int .i64 gx, .int .i64 sbx, .int .u64 (seedx : Int), .slice lpx lnx lcx, .slice ppx pnx pcx] 26)
  have hT0 := hT.next hB0
  have W0 := wakes_any _ hT0
  have hS0 := h.below hB0
  have hg1 := hg0.below hB0
  clear hT h hg0
  have hT0'h := Lib.hid hT0
  have hS0'h := Lib.hid hS0
  have hg1'h := Lib.hid hg1
  have hB0'h := Lib.hid hB0
  have hb0'h := Lib.hid hb0
  have W0'h := Lib.hid W0
  have hle'h := Lib.hid hle
  have hnil'h := Lib.hid hnil
  have hk10'h := Lib.hid hk10
  have hkn'h := Lib.hid hkn
  clear hT0 hS0 hg1 hB0 hb0 W0 hle hnil hk10 hkn
  go_enter Tryd.func7, Tryd.ntmps7
  go_wp2_with fail
  refine W0'h.out.mono ?_
  rintro e w1 ⟨rfl, hB1⟩
  have hb1 := heap_below hB1 hb0'h.out (lt_of_heap hb0'h.out)
  have hB01 := below_next hB0'h.out hB1
  have hT1 := hT0'h.out.next hB1
  have hS1 := hS0'h.out.below hB1
  have hg2 := hg1'h.out.below hB1
  have O := own_any xs w1 hS1
  rw [hAx] at O
  obtain ⟨x0, x1, x2, x3, x4⟩ := cells5' hb1
  clear hB1 hb0'h hB0'h W0'h hT0'h hS0'h hg1'h
  have hb1'h := Lib.hid hb1
  have hB01'h := Lib.hid hB01
  have hT1'h := Lib.hid hT1
  have hg2'h := Lib.hid hg2
  have O'h := Lib.hid O
  have hS1'h := Lib.hid hS1
  clear hb1 hB01 hT1 hg2 O hS1
  go_wp2_with fail
  refine O'h.out.mono ?_
  clear x0 x1 x2 x3 x4
  rintro e w2 ⟨s, rfl, hB2, hIn2, hs2⟩
  have hT2 := hT1'h.out.next hB2
  have hg3 := hg2'h.out.below hB2
  have hS2 := hS1'h.out.below hB2
  have hb2 := heap_below hB2 hb1'h.out (lt_of_heap hb1'h.out)
  have hB02 := below_next hB01'h.out hB2
  clear hB2 O'h hT1'h hg2'h hS1'h hB01'h hb1'h
  obtain ⟨gs, sbs, seeds, lps, lns, lcs, rowss, pps, pns, pcs, pss⟩ := s
  obtain ⟨s, hsms⟩ : ∃ s : Sm, s = ⟨gs, sbs, seeds, lps, lns, lcs, rowss, pps, pns, pcs, pss⟩ := ⟨_, rfl⟩
  have hAs : smA s = #[.int .i64 gs, .int .i64 sbs, .int .u64 (seeds : Int), .slice lps lns lcs, .slice pps pns pcs] := by rw [hsms]; rfl
  have hpns : s.pn = pns := by rw [hsms]
  rw [← hsms] at hIn2 hs2 ⊢
  rw [hAs]
  clear hsms
  have hB3 := (Below.refl w2.heap.size w2).alloc (Nat.le_refl _) (.cells #[.int .i64 gs, .int .i64 sbs, .int .u64 (seeds : Int), .slice lps lns lcs, .slice pps pns pcs] 26)
  have hb3 := World.alloc_heap_new w2 (.cells #[.int .i64 gs, .int .i64 sbs, .int .u64 (seeds : Int), .slice lps lns lcs, .slice pps pns pcs] 26)
  have hT3 := hT2.next hB3
  have hg4 := hg3.below hB3
  have hS3 := hS2.below hB3
  have hbx3 := heap_below hB3 hb2 (lt_of_heap hb2)
  have hB03 := below_next hB02 hB3
  have hIn3 := hIn2.below hB3
  obtain ⟨bs, hbs⟩ : ∃ bs, bs = w2.heap.size := ⟨_, rfl⟩
  rw [← hbs] at hb3
  obtain ⟨V3, hV3⟩ : ∃ V, V = w2.alloc (.cells #[.int .i64 gs, .int .i64 sbs, .int .u64 (seeds : Int), .slice lps lns lcs, .slice pps pns pcs] 26) := ⟨_, rfl⟩
  rw [← hV3] at hb3 hT3 hg4 hS3 hbx3 hB03 hIn3
  have CG := cloneI_any gp k gc (G.map (Value.int .i64)) V3 (by omega) (by intro v hv; obtain ⟨z, -, rfl⟩ := List.mem_map.1 hv; rfl) hnil'h.out hg4
  clear hB3 hT2 hg3 hS2 hb2 hB02 hIn2 hg4 hnil'h hle'h
  have hb3'h := Lib.hid hb3
  have hT3'h := Lib.hid hT3
  have hS3'h := Lib.hid hS3
  have hbx3'h := Lib.hid hbx3
  have hB03'h := Lib.hid hB03
  have hIn3'h := Lib.hid hIn3
  have hs2'h := Lib.hid hs2
  have CG'h := Lib.hid CG
  clear hb3 hT3 hS3 hbx3 hB03 hIn3 hs2 CG
  go_upto_region 4 with fail
  rw [← hbs, ← hV3]
  clear hbs hV3
  go_wp2_with fail
  refine CG'h.out.mono ?_
  rintro e w4 ⟨yp, yc, rfl, hB4, hrow4⟩
  have hG4 := Sl.of_row hrow4 (by have := hk10'h.out; unfold maxLen; omega)
  have hT4 := hT3'h.out.next hB4
  have hS4 := hS3'h.out.below hB4
  have hbs4 := heap_below hB4 hb3'h.out (lt_of_heap hb3'h.out)
  have hbx4 := heap_below hB4 hbx3'h.out (lt_of_heap hbx3'h.out)
  have hB04 := below_next hB03'h.out hB4
  have hIn4 := hIn3'h.out.below hB4
  have C := cut_any s p yp k yc G w4 hIn4 hG4
  rw [hAs] at C
  obtain ⟨x0, x1, x2, x3, x4⟩ := cells5' hbs4
  clear hB4 hrow4 CG'h hT3'h hS3'h hb3'h hbx3'h hB03'h hIn3'h k1 k2 hk
  have hG4'h := Lib.hid hG4
  have hT4'h := Lib.hid hT4
  have hS4'h := Lib.hid hS4
  have hbs4'h := Lib.hid hbs4
  have hbx4'h := Lib.hid hbx4
  have hB04'h := Lib.hid hB04
  have hIn4'h := Lib.hid hIn4
  have C'h := Lib.hid C
  clear hG4 hT4 hS4 hbs4 hbx4 hB04 hIn4 C
  go_wp2_with fail
  refine C'h.out.mono ?_
  clear x0 x1 x2 x3 x4 C'h
  rintro e w5 ⟨c, rfl, hB5, hIn5, hO5, hs5⟩
  obtain ⟨gc, sbc, seedc, lpc, lnc, lcc, rowsc, ppc, pnc, pcc, psc⟩ := c
  obtain ⟨c, hsmc⟩ : ∃ s : Sm, s = ⟨gc, sbc, seedc, lpc, lnc, lcc, rowsc, ppc, pnc, pcc, psc⟩ := ⟨_, rfl⟩
  have hAc : smA c = #[.int .i64 gc, .int .i64 sbc, .int .u64 (seedc : Int), .slice lpc lnc lcc, .slice ppc pnc pcc] := by rw [hsmc]; rfl
  have hpnc : c.pn = pnc := by rw [hsmc]
  rw [← hsmc] at hIn5 hO5 hs5 ⊢
  rw [hAc]
  clear hsmc
  have hbs5 := heap_below hB5 hbs4'h.out (lt_of_heap hbs4'h.out)
  have hbx5 := heap_below hB5 hbx4'h.out (lt_of_heap hbx4'h.out)
  have hB6 := (Below.refl w5.heap.size w5).alloc (Nat.le_refl _) (.cells #[.int .i64 gc, .int .i64 sbc, .int .u64 (seedc : Int), .slice lpc lnc lcc, .slice ppc pnc pcc] 26)
  have hlow6 := below_next hB5 hB6
  have hbc6 := World.alloc_heap_new w5 (.cells #[.int .i64 gc, .int .i64 sbc, .int .u64 (seedc : Int), .slice lpc lnc lcc, .slice ppc pnc pcc] 26)
  have hbs6 := heap_below hB6 hbs5 (lt_of_heap hbs5)
  have hbx6 := heap_below hB6 hbx5 (lt_of_heap hbx5)
  have hIn6 := hIn5.below hB6
  have hO6 := hO5.next hB6
  obtain ⟨bc, hbc⟩ : ∃ bc, bc = w5.heap.size := ⟨_, rfl⟩
  rw [← hbc] at hbc6
  obtain ⟨V6, hV6⟩ : ∃ V, V = w5.alloc (.cells #[.int .i64 gc, .int .i64 sbc, .int .u64 (seedc : Int), .slice lpc lnc lcc, .slice ppc pnc pcc] 26) := ⟨_, rfl⟩
  rw [← hV6] at hbc6 hbs6 hbx6 hlow6 hIn6 hO6
  clear hB5 hIn5 hO5 hbs5 hbx5 hB6
  have hs5'h := Lib.hid hs5
  have hbc6'h := Lib.hid hbc6
  have hbs6'h := Lib.hid hbs6
  have hbx6'h := Lib.hid hbx6
  have hlow6'h := Lib.hid hlow6
  have hIn6'h := Lib.hid hIn6
  have hO6'h := Lib.hid hO6
  clear hs5 hbc6 hbs6 hbx6 hlow6 hIn6 hO6
  go_upto_region 6 with fail
  rw [← hbc, ← hV6]
  clear hbc hV6
  refine wp_region_heldF (fun w' => Below V6.heap.size V6 w') 99 (by kernel_rfl) ?_
  have R := (Below.refl V6.heap.size V6).drew
  generalize V6.drew = V0 at R ⊢
  refine wpAnyF_take (i := 0) (v := .agg #[.int .i64 gc, .int .i64 sbc, .int .u64 (seedc : Int), .slice lpc lnc lcc, .slice ppc pnc pcc]) rfl (by kernel_rfl) (by kernel_rfl) (by kernel_rfl) (by kernel_rfl) (fun _ _ _ h => h) (Or.inl ⟨by kernel_rfl, fun w hSw => run_load_agg (by rfl) (by rfl) (heap_below hSw hbc6'h.out (lt_of_heap hbc6'h.out)) Tryd.underlying26 rfl info_sm⟩) R ?_; try simp only [Act.put, List.getElem_toArray, List.getElem_cons_succ, List.getElem_cons_zero, List.setIfInBounds_toArray, List.set_cons_zero, List.set_cons_succ]
  refine wpAnyF_take (i := 1) (v := .agg #[.int .i64 gx, .int .i64 sbx, .int .u64 (seedx : Int), .slice lpx lnx lcx, .slice ppx pnx pcx]) rfl (by kernel_rfl) (by kernel_rfl) (by kernel_rfl) (by kernel_rfl) (fun _ _ _ h => h) (Or.inl ⟨by kernel_rfl, fun w hSw => run_load_agg (by rfl) (by rfl) (heap_below hSw hbx6'h.out (lt_of_heap hbx6'h.out)) Tryd.underlying26 rfl info_sm⟩) R ?_; try simp only [Act.put, List.getElem_toArray, List.getElem_cons_succ, List.getElem_cons_zero, List.setIfInBounds_toArray, List.set_cons_zero, List.set_cons_succ]
  refine wpAnyF_take (i := 3) (v := .int .i64 p) rfl (by kernel_rfl) (by kernel_rfl) (by kernel_rfl) (by kernel_rfl) (fun _ _ _ h => h) (Or.inl ⟨by kernel_rfl, fun w hSw => by (try dsimp only at hSw); go_simp⟩) R ?_; try simp only [Act.put, List.getElem_toArray, List.getElem_cons_succ, List.getElem_cons_zero, List.setIfInBounds_toArray, List.set_cons_zero, List.set_cons_succ]
  refine wpAnyF_take (i := 4) (v := .slice yp k yc) rfl (by kernel_rfl) (by kernel_rfl) (by kernel_rfl) (by kernel_rfl) (fun _ _ _ h => h) (Or.inl ⟨by kernel_rfl, fun w hSw => by (try dsimp only at hSw); go_simp⟩) R ?_; try simp only [Act.put, List.getElem_toArray, List.getElem_cons_succ, List.getElem_cons_zero, List.setIfInBounds_toArray, List.set_cons_zero, List.set_cons_succ]
  have C := own_any xs V0 (hS4'h.out.below (below_next hlow6'h.out R))
  rw [hAx] at C
  refine wpAnyF_one (i := 2) (by kernel_rfl) rfl (fun K hK => ?_); go_simp
  refine C.mono ?_
  rintro e V1 ⟨d, rfl, hV1, hI1, hs1⟩
  have R1 := below_next R hV1
  clear R hV1 C
  dsimp only
  obtain ⟨gd, sbd, seedd, lpd, lnd, lcd, rowsd, ppd, pnd, pcd, psd⟩ := d
  obtain ⟨d, hsmd⟩ : ∃ s : Sm, s = ⟨gd, sbd, seedd, lpd, lnd, lcd, rowsd, ppd, pnd, pcd, psd⟩ := ⟨_, rfl⟩
  have hAd : smA d = #[.int .i64 gd, .int .i64 sbd, .int .u64 (seedd : Int), .slice lpd lnd lcd, .slice ppd pnd pcd] := by rw [hsmd]; rfl
  have hpnd : d.pn = pnd := by rw [hsmd]
  rw [← hsmd] at hI1 hs1 ⊢
  rw [hAd]
  clear hsmd
  refine hK.out _ _ (fun _ => R1) ?_; clear hK K; try simp only [Act.put, List.getElem_toArray, List.getElem_cons_succ, List.getElem_cons_zero, List.setIfInBounds_toArray, List.set_cons_zero, List.set_cons_succ]
  have C := dcut_any d p yp k yc G V1 hI1 (hG4'h.out.below (below_next hlow6'h.out R1))
  rw [hAd] at C
  refine wpAnyF_one (i := 5) (by kernel_rfl) rfl (fun K hK => ?_); go_simp
  refine C.mono ?_
  rintro e V2 ⟨e2, rfl, hV2, hI2, -, hse⟩
  have R2 := below_next R1 hV2
  clear R1 hV2 C hI1
  dsimp only
  obtain ⟨ge, sbe, seede, lpe, lne, lce, rowse, ppe, pne, pce, pse⟩ := e2
  obtain ⟨e2, hsme⟩ : ∃ s : Sm, s = ⟨ge, sbe, seede, lpe, lne, lce, rowse, ppe, pne, pce, pse⟩ := ⟨_, rfl⟩
  have hAe : smA e2 = #[.int .i64 ge, .int .i64 sbe, .int .u64 (seede : Int), .slice lpe lne lce, .slice ppe pne pce] := by rw [hsme]; rfl
  have hpne : e2.pn = pne := by rw [hsme]
  rw [← hsme] at hI2 hse ⊢
  rw [hAe]
  clear hsme
  refine hK.out _ _ (fun _ => R2) ?_; clear hK K; try simp only [Act.put, List.getElem_toArray, List.getElem_cons_succ, List.getElem_cons_zero, List.setIfInBounds_toArray, List.set_cons_zero, List.set_cons_succ]
  have C := dsame_any c e2 V2 (hIn6'h.out.below R2) hI2
  rw [hAc, hAe, hs5'h.out, hse, hs1, hs2'h.out, decide_eq_true rfl] at C
  refine wpAnyF_one (i := 6) (by kernel_rfl) rfl (fun K hK => ?_); go_simp
  refine C.mono ?_
  rintro e V3 ⟨rfl, hV3⟩
  have R3 := below_next R2 hV3
  clear R2 hV3 C hI2
  dsimp only
  refine hK.out _ _ (fun _ => R3) ?_; clear hK K; try simp only [Act.put, List.getElem_toArray, List.getElem_cons_succ, List.getElem_cons_zero, List.setIfInBounds_toArray, List.set_cons_zero, List.set_cons_succ]
  refine wpAnyF_take (i := 7) (v := .bool false) rfl (by kernel_rfl) (by kernel_rfl) (by kernel_rfl) (by kernel_rfl) (fun _ _ _ h => h) (Or.inl ⟨by kernel_rfl, fun w hSw => by (try dsimp only at hSw); go_simp⟩) R3 ?_; try simp only [Act.put, List.getElem_toArray, List.getElem_cons_succ, List.getElem_cons_zero, List.setIfInBounds_toArray, List.set_cons_zero, List.set_cons_succ]
  refine wpAnyF_done (by kernel_rfl) ?_ _
  have hO7 := hO6'h.out.next R3
  obtain ⟨e1, e2, e3, e4, e5, e6⟩ : c.lp = lpc ∧ c.ln = lnc ∧ c.lc = lcc ∧ c.pp = ppc ∧ c.pn = pnc ∧ c.pc = pcc := by
    have := hAc
    unfold smA at this
    simp at this
    exact ⟨this.2.2.2.1.1, this.2.2.2.1.2.1, this.2.2.2.1.2.2, this.2.2.2.2.1, this.2.2.2.2.2.1, this.2.2.2.2.2.2⟩
  have hrows := hIn6'h.out.rows
  have hmany : pnc ≤ 4200 := by rw [← e5]; exact hIn6'h.out.many
  have hfew : lnc ≤ 16 := by rw [← e2]; exact hrows.few
  have hlnr : lnc = c.rows.length := by rw [← e2]; exact hrows.len
  have hlen66 : ∀ r ∈ c.rows, r.len ≤ 66 := fun r hr => by rw [hrows.rlen hr]; exact hrows.short r hr
  have hI : CutI w4 bc c V3 := by
    refine ⟨below_next hlow6'h.out R3, ?_, ?_, PickAt.of hO7.picks, fun r hr => KeyAt.of (hO7.inner r hr) (hrows.rlen hr)⟩
    · rw [hAc]; exact heap_below R3 hbc6'h.out (lt_of_heap hbc6'h.out)
    · have := hO7.outer
      rw [← hrows.len] at this
      exact this
  clear hO7 hrows R3 hIn6'h hO6'h hlow6'h hbc6'h hbs6'h hbx6'h hs5'h hG4'h
  obtain ⟨-, -, -, -, x4⟩ := cells5' (by have := hI.box; rw [hAc] at this; exact this)
  have hI'h := Lib.hid hI
  have hmany'h := Lib.hid hmany
  have hfew'h := Lib.hid hfew
  have hlnr'h := Lib.hid hlnr
  have hlen66'h := Lib.hid hlen66
  have e1'h := Lib.hid e1
  have e2'h := Lib.hid e2
  have e3'h := Lib.hid e3
  have e4'h := Lib.hid e4
  have e5'h := Lib.hid e5
  have e6'h := Lib.hid e6
  clear hI hmany hfew hlnr hlen66 e1 e2 e3 e4 e5 e6
  go_wp2
  go_loopg [38] pnc (fun q ix wr => ∃ j : Nat, j + q = pnc ∧ ix = .int .i64 (j : Int) ∧ CutI w4 bc c wr)
  case atStart => exact ⟨0, by omega, rfl, hI'h.out⟩
  case round =>
    obtain ⟨j, hj, rfl, hI⟩ := hrel
    clear hI'h x4
    by_cases hlt : j < pnc
    · have i1 : (j : Int) < (pnc : Int) := by omega
      have i2 : (0 : Int) ≤ (j : Int) := by omega
      have i3 : (j : Int) + 1 ≤ 9223372036854775807 := by have := hmany'h.out; omega
      obtain ⟨b, cs, hsp, hBb, hhb, hce⟩ := hI.picks.resolve_left (by rw [e5'h.out]; omega)
      rw [e4'h.out] at hsp
      obtain ⟨u, hu⟩ := hce j (by rw [e5'h.out]; exact hlt)
      obtain ⟨-, -, -, -, x4⟩ := cells5' (by have := hI.box; rw [hAc] at this; exact this)
      have c1 : wr.cell? ⟨b, j, none⟩ = some (.int .u64 u) := blk_cell hhb hu
      have f1 := blk_free j hhb
      have hIn : ∀ v, CutI w4 bc c (wr.setCell ⟨b, j, none⟩ (.int .u64 v)) := fun v => hI.pick hhb hBb j v
      clear hI hBb hhb hce hu
      have hj'h := Lib.hid hj
      have hIn'h := Lib.hid hIn
      clear hj hIn
      rw [hsp]
      rw [hsp] at x4
      go_wp2
      rw [← hsp]
      go_roundg (gk - 1)
      case measure => have := hj'h.out; omega
      case rel => exact ⟨j + 1, by have := hj'h.out; omega, by go_num, hIn'h.out _⟩
    · have i1 : ¬ (j : Int) < (pnc : Int) := by omega
      obtain ⟨-, -, -, x3, -⟩ := cells5' (by have := hI.box; rw [hAc] at this; exact this)
      clear hj
      have hI'h := Lib.hid hI
      clear hI
      go_wp2
      go_loopg [52] lnc (fun q ix wr => ∃ j : Nat, j + q = lnc ∧ ix = .int .i64 (j : Int) ∧ CutI w4 bc c wr)
      case atStart => exact ⟨0, by omega, rfl, hI'h.out⟩
      case round =>
        obtain ⟨j2, hj, rfl, hI⟩ := hrel
        clear hI'h x3 i1
        obtain ⟨gj, rfl⟩ : ∃ gj : Nat, gj = gk := ⟨_, rfl⟩
        by_cases hlt2 : j2 < lnc
        · have i1 : (j2 : Int) < (lnc : Int) := by omega
          have i2 : (0 : Int) ≤ (j2 : Int) := by omega
          have i3 : (j2 : Int) + 1 ≤ 9223372036854775807 := by have := hfew'h.out; omega
          have hjl : j2 < c.rows.length := by have := hlnr'h.out; omega
          have hou := SlK.of_row hI.outer (by rw [e2'h.out]; have := hfew'h.out; unfold maxLen; omega)
          obtain ⟨b, o, hsp, hc⟩ := hou.some' (by rw [e2'h.out]; omega)
          rw [e1'h.out] at hsp
          obtain ⟨r, hr⟩ : ∃ r, r = nthR c.rows j2 := ⟨_, rfl⟩
          have hmem : r ∈ c.rows := by rw [hr]; exact nthR_mem hjl
          have c1 : wr.cell? ⟨b, o + j2, none⟩ = some (.slice r.sp r.len r.cap) := by
            have := hc j2 (crV r) (by rw [List.getElem?_map, nthR_at hjl, hr]; rfl)
            exact this
          have hrl : r.len ≤ 66 := hlen66'h.out r hmem
          clear hou hc hr
          obtain ⟨rp, rl, rc, rcs⟩ := r
          simp only at c1 hrl
          have hj'h := Lib.hid hj
          have hI'h := Lib.hid hI
          have hmem'h := Lib.hid hmem
          have hrl'h := Lib.hid hrl
          clear hj hI hmem hrl
          rw [hsp]
          go_wp2
          go_loopg [58] rl (fun q ix wr => ∃ i : Nat, i + q = rl ∧ ix = .int .i64 (i : Int) ∧ CutI w4 bc c wr)
          case atStart => exact ⟨0, by omega, rfl, hI'h.out⟩
          case round =>
            obtain ⟨i, hi, rfl, hI⟩ := hrel
            clear hI'h c1
            by_cases hlt3 : i < rl
            · have i4 : (i : Int) < (rl : Int) := by omega
              have i5 : (0 : Int) ≤ (i : Int) := by omega
              have i6 : (i : Int) + 1 ≤ 9223372036854775807 := by have := hrl'h.out; omega
              obtain ⟨b2, cs, hrp, hBb, hhb, hce⟩ := (hI.inner _ hmem'h.out).resolve_left (by simp only; omega)
              simp only at hrp hce
              subst hrp
              obtain ⟨u, hu⟩ := hce i hlt3
              have c2 : wr.cell? ⟨b2, i * 4 + 1, none⟩ = some (.int .u64 u) := blk_cell hhb hu
              have f2 := blk_free (i * 4 + 1) hhb
              have hIn : ∀ v, CutI w4 bc c (wr.setCell ⟨b2, i * 4 + 1, none⟩ (.int .u64 v)) := fun v => hI.key hhb hBb (i * 4 + 1) v
              clear hI hBb hhb hce hu
              have hi'h := Lib.hid hi
              have hIn'h := Lib.hid hIn
              clear hi hIn
              go_wp2
              go_roundg (gk - 1)
              case measure => have := hi'h.out; omega
              case rel => exact ⟨i + 1, by have := hi'h.out; omega, by go_num, hIn'h.out _⟩
            · have i4 : ¬ (i : Int) < (rl : Int) := by omega
              clear hi
              have hI'h := Lib.hid hI
              clear hI
              go_wp2
              rw [← hsp]
              go_roundg (gj - 1)
              case measure => have := hj'h.out; omega
              case rel => exact ⟨j2 + 1, by have := hj'h.out; omega, by go_num, hI'h.out⟩
        · have i1 : ¬ (j2 : Int) < (lnc : Int) := by omega
          have hL := hI.low
          clear hI hj
          have zs := heap_below hL hbs4'h.out (lt_of_heap hbs4'h.out)
          have zx := heap_below hL hbx4'h.out (lt_of_heap hbx4'h.out)
          have hB9 := below_next hB04'h.out hL
          have hI9 := hIn4'h.out.below hL
          have hS9 := hS4'h.out.below hL
          clear hL
          have hB9'h := Lib.hid hB9
          have hI9'h := Lib.hid hI9
          have hS9'h := Lib.hid hS9
          clear hB9 hI9 hS9
          go_upto_region 22 with fail
          refine wp_region_heldF (fun w' => Below wr.heap.size wr w') 99 (by kernel_rfl) ?_
          have R := (Below.refl wr.heap.size wr).drew
          generalize wr.drew = V0 at R ⊢
          refine wpAnyF_take (i := 0) (v := .agg #[.int .i64 gs, .int .i64 sbs, .int .u64 (seeds : Int), .slice lps lns lcs, .slice pps pns pcs]) rfl (by kernel_rfl) (by kernel_rfl) (by kernel_rfl) (by kernel_rfl) (fun _ _ _ h => h) (Or.inl ⟨by kernel_rfl, fun w hSw => run_load_agg (by rfl) (by rfl) (heap_below hSw zs (lt_of_heap zs)) Tryd.underlying26 rfl info_sm⟩) R ?_; try simp only [Act.put, List.getElem_toArray, List.getElem_cons_succ, List.getElem_cons_zero, List.setIfInBounds_toArray, List.set_cons_zero, List.set_cons_succ]
          refine wpAnyF_take (i := 1) (v := .agg #[.int .i64 gx, .int .i64 sbx, .int .u64 (seedx : Int), .slice lpx lnx lcx, .slice ppx pnx pcx]) rfl (by kernel_rfl) (by kernel_rfl) (by kernel_rfl) (by kernel_rfl) (fun _ _ _ h => h) (Or.inl ⟨by kernel_rfl, fun w hSw => run_load_agg (by rfl) (by rfl) (heap_below hSw zx (lt_of_heap zx)) Tryd.underlying26 rfl info_sm⟩) R ?_; try simp only [Act.put, List.getElem_toArray, List.getElem_cons_succ, List.getElem_cons_zero, List.setIfInBounds_toArray, List.set_cons_zero, List.set_cons_succ]
          have C := own_any xs V0 (hS9'h.out.below R)
          rw [hAx] at C
          refine wpAnyF_one (i := 2) (by kernel_rfl) rfl (fun K hK => ?_); go_simp
          refine C.mono ?_
          rintro e V1 ⟨f, rfl, hV1, hI1, hs1⟩
          have R1 := below_next R hV1
          clear R hV1 C
          dsimp only
          obtain ⟨gf, sbf, seedf, lpf, lnf, lcf, rowsf, ppf, pnf, pcf, psf⟩ := f
          obtain ⟨f, hsmf⟩ : ∃ s : Sm, s = ⟨gf, sbf, seedf, lpf, lnf, lcf, rowsf, ppf, pnf, pcf, psf⟩ := ⟨_, rfl⟩
          have hAf : smA f = #[.int .i64 gf, .int .i64 sbf, .int .u64 (seedf : Int), .slice lpf lnf lcf, .slice ppf pnf pcf] := by rw [hsmf]; rfl
          have hpnf : f.pn = pnf := by rw [hsmf]
          rw [← hsmf] at hI1 hs1 ⊢
          rw [hAf]
          clear hsmf
          refine hK.out _ _ (fun _ => R1) ?_; clear hK K; try simp only [Act.put, List.getElem_toArray, List.getElem_cons_succ, List.getElem_cons_zero, List.setIfInBounds_toArray, List.set_cons_zero, List.set_cons_succ]
          have C := dsame_any s f V1 (hI9'h.out.below R1) hI1
          rw [hAs, hAf, hs2'h.out, hs1, decide_eq_true rfl] at C
          refine wpAnyF_one (i := 3) (by kernel_rfl) rfl (fun K hK => ?_); go_simp
          refine C.mono ?_
          rintro e V2 ⟨rfl, hV2⟩
          have R2 := below_next R1 hV2
          clear R1 hV2 C hI1
          dsimp only
          refine hK.out _ _ (fun _ => R2) ?_; clear hK K; try simp only [Act.put, List.getElem_toArray, List.getElem_cons_succ, List.getElem_cons_zero, List.setIfInBounds_toArray, List.set_cons_zero, List.set_cons_succ]
          refine wpAnyF_take (i := 4) (v := .bool true) rfl (by kernel_rfl) (by kernel_rfl) (by kernel_rfl) (by kernel_rfl) (fun _ _ _ h => h) (Or.inl ⟨by kernel_rfl, fun w hSw => by (try dsimp only at hSw); go_simp⟩) R2 ?_; try simp only [Act.put, List.getElem_toArray, List.getElem_cons_succ, List.getElem_cons_zero, List.setIfInBounds_toArray, List.set_cons_zero, List.set_cons_succ]
          refine wpAnyF_done (by kernel_rfl) ?_ _
          have hlow := below_next hB9'h.out R2
          clear R2 zs zx
          have hlow'h := Lib.hid hlow
          clear hlow
          go_wp2
          go_ret
          exact ⟨rfl, hlow'h.out⟩
theorem walk_ScriptCuts (xs : Sm) (p : Int) (gp : Option Addr) (gn gc : Nat) (gs : List Int) (w : World) (hT : Tks w) (h : SmArg w xs) (hz0 : (Lit.int .i64 p).wf = true) (hnil : gp = none → gc = 0) (hle : gn ≤ gc) (hg : Sl w gp gn (gs.map (Value.int .i64))) (hz : ∀ z ∈ gs, (Lit.int .i64 z).wf = true) :
    Calls Tryd.prog 7 #[.agg (smA xs), .int .i64 p, .slice gp gn gc] w fun e w' => e = .returned (.bool true) ∧ Below w.heap.size w w' :=
  cuts_true xs p gp gn gc gs w hT h hg hnil hle
end Go.Proofs.YtifofdciablljaaDoor
