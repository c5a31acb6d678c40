/-
  Layer 3 (script): which scripts may be, are the same, what calls take, and the keys of scripts.
-/
import Derived.Test.YtifofdciablljaaDoorQ7
import Derived.Test.YtifofdciablljaaDoorQ5
import Derived.Deep.Cut
set_option linter.unusedSimpArgs false
set_option linter.unusedVariables false
set_option maxRecDepth 100000
namespace Go.Proofs.YtifofdciablljaaDoor
open Go.RowKit

section
variable {P : Program} {ops : Array Oper} {Q : Exit → Act → World → Prop} {md : Region.Mode} {S : World → Prop} {L : Nat}
theorem wpAnyF_three {i j m : Nat} {o o' o2 : Oper} {fuel : Nat} {listed : Array Bool} {a : Act} {w : World} (hr : Region.ready md ops listed = [i, j, m]) (ho : ops[i]? = some o) (ho' : ops[j]? = some o') (ho2 : ops[m]? = some o2)
    (h : ∀ K' : Act → World → Prop, Shut (∀ a w, (i ≠ L → S w) → wpAnyF P md ops Q S L fuel (listed.setIfInBounds i true) a w → K' a w) → if Region.wanted o (yielded ops a.tmps) = true then Oper.wp P o a w K' Q else K' (a.put o.dst undef) w)
    (h' : ∀ K' : Act → World → Prop, Shut (∀ a w, (j ≠ L → S w) → wpAnyF P md ops Q S L fuel (listed.setIfInBounds j true) a w → K' a w) → if Region.wanted o' (yielded ops a.tmps) = true then Oper.wp P o' a w K' Q else K' (a.put o'.dst undef) w)
    (h2 : ∀ K' : Act → World → Prop, Shut (∀ a w, (m ≠ L → S w) → wpAnyF P md ops Q S L fuel (listed.setIfInBounds m true) a w → K' a w) → if Region.wanted o2 (yielded ops a.tmps) = true then Oper.wp P o2 a w K' Q else K' (a.put o2.dst undef) w) :
    wpAnyF P md ops Q S L (fuel + 1) listed a w :=
  ⟨fun h0 => absurd (hr ▸ h0) (by simp), fun k hk => by
    rw [hr] at hk
    rcases List.mem_cons.1 hk with rfl | hk
    · exact wpOp_step ho (fun K' hK => h K' (fun a w hS hW => hK a w ⟨hS, hW⟩))
    · rcases List.mem_cons.1 hk with rfl | hk
      · exact wpOp_step ho' (fun K' hK => h' K' (fun a w hS hW => hK a w ⟨hS, hW⟩))
      · have : k = m := by simpa using hk
        subst this
        exact wpOp_step ho2 (fun K' hK => h2 K' (fun a w hS hW => hK a w ⟨hS, hW⟩))⟩
end
/-- While two scripts of one's own are made, in whatever order. -/
structure MayI (W0 : World) (L : List (Nat × Array Value)) (S : List Sm) (W : World) : Prop where
  low : Below W0.heap.size W0 W
  blk : ∀ x ∈ L, W0.heap.size ≤ x.1 ∧ W.heap[x.1]? = some (.cells x.2 26 (0, 0))
  own : ∀ s ∈ S, SmIn W s ∧ SmOwn W0.heap.size s W
/-- Two scripts of one's own lie there. -/
structure MayAt (W0 : World) (b7 b8 : Nat) (s1 s2 : Sm) (X Y : Scr) (W : World) : Prop where
  low : Below W0.heap.size W0 W
  one : W.heap[b7]? = some (.cells (smA s1) 26 (0, 0))
  two : W.heap[b8]? = some (.cells (smA s2) 26 (0, 0))
  in1 : SmIn W s1
  in2 : SmIn W s2
  scr1 : s1.scr = X
  scr2 : s2.scr = Y
section
variable {W0 : World} {L : List (Nat × Array Value)} {S : List Sm} {W W' : World}
theorem MayI.sm {s : Sm} (h : MayI W0 L S W) (hb : Below W.heap.size W W') (hi : SmIn W' s) (ho : SmOwn W.heap.size s W') : MayI W0 L (s :: S) W' :=
  ⟨below_next h.low hb, fun x hx => ⟨(h.blk x hx).1, heap_below hb (h.blk x hx).2 (lt_of_heap (h.blk x hx).2)⟩, fun t ht => by
    rcases List.mem_cons.1 ht with rfl | ht
    · exact ⟨hi, ho.mono h.low.size⟩
    · exact ⟨(h.own t ht).1.below hb, (h.own t ht).2.next hb⟩⟩
theorem MayI.fresh {x : Nat × Array Value} (h : MayI W0 L S W) (hx : x ∈ L) : x.1 ≠ W.heap.size := by
  have := lt_of_heap (h.blk x hx).2; omega
theorem MayI.box (h : MayI W0 L S W) : MayI W0 ((W.heap.size, #[.int .i64 0, .int .i64 0, .int .u64 0, .slice none 0 0, .slice none 0 0]) :: L) S (W.alloc (.cells #[.int .i64 0, .int .i64 0, .int .u64 0, .slice none 0 0, .slice none 0 0] 26)) := by
  have hB := (Below.refl W.heap.size W).alloc (Nat.le_refl _) (.cells #[.int .i64 0, .int .i64 0, .int .u64 0, .slice none 0 0, .slice none 0 0] 26)
  refine ⟨below_next h.low hB, fun x hx => ?_, fun t ht => ⟨(h.own t ht).1.below hB, (h.own t ht).2.next hB⟩⟩
  rcases List.mem_cons.1 hx with rfl | hx
  · exact ⟨h.low.size, World.alloc_heap_new _ _⟩
  · exact ⟨(h.blk x hx).1, heap_below hB (h.blk x hx).2 (lt_of_heap (h.blk x hx).2)⟩
theorem MayI.swap {x y : Nat × Array Value} (h : MayI W0 [x, y] S W) : MayI W0 [y, x] S W :=
  ⟨h.low, fun z hz => h.blk z (by simp at hz ⊢; exact hz.symm), h.own⟩
theorem SmOwn.cell {B b i : Nat} {sm : Sm} {w : World} {cs : Array Value} (h : SmOwn B sm w) (hb : w.heap[b]? = some (.cells cs 26 (0, 0))) (v : Value) : SmOwn B sm (w.setCell ⟨b, i, none⟩ v) := by
  have hgT : w.grownBy (w.setCell ⟨b, i, none⟩ v) (some b) := ⟨rfl, rfl, rfl, by simp [World.setCell], fun k hk hne => Below.heap_setCell _ _ _ _ (fun e => hne (by rw [e]))⟩
  exact ⟨ownsRow_other h.outer hgT (blk_apart h.outer hb (by decide)), fun r hr => ownsRow_other (h.inner r hr) hgT (blk_apart (h.inner r hr) hb (by decide)), ownsRow_other h.picks hgT (blk_apart h.picks hb (by decide))⟩
theorem MayI.cell {b i : Nat} {cs : Array Value} {y : Nat × Array Value} (h : MayI W0 [(b, cs), y] S W) (hne : b ≠ y.1) (v : Value) : MayI W0 [(b, cs.setIfInBounds i v), y] S (W.setCell ⟨b, i, none⟩ v) := by
  have h1 := h.blk (b, cs) (by simp)
  have h2 := h.blk y (by simp)
  refine ⟨h.low.setCell h1.1 v, fun x hx => ?_, fun t ht => ?_⟩
  · rcases List.mem_cons.1 hx with rfl | hx
    · exact ⟨h1.1, blk_set (i := i) v h1.2⟩
    · obtain rfl : x = y := by simpa using hx
      exact ⟨h2.1, (Below.heap_setCell _ _ _ _ (fun e => hne e.symm)).trans h2.2⟩
  · have ho := (h.own t ht).2.cell (i := i) h1.2 v
    exact ⟨(h.own t ht).1.own ho, ho⟩
theorem MayI.put5 {b : Nat} {z0 z1 z2 z3 z4 : Value} {y : Nat × Array Value} (h : MayI W0 [(b, #[z0, z1, z2, z3, z4]), y] S W) (v0 v1 v2 v3 v4 : Value) (hne : b ≠ y.1) :
    MayI W0 [(b, #[v0, v1, v2, v3, v4]), y] S (((((W.setCell ⟨b, 0, none⟩ v0).setCell ⟨b, 1, none⟩ v1).setCell ⟨b, 2, none⟩ v2).setCell ⟨b, 3, none⟩ v3).setCell ⟨b, 4, none⟩ v4) :=
  ((((h.cell (i := 0) hne v0).cell (i := 1) hne v1).cell (i := 2) hne v2).cell (i := 3) hne v3).cell (i := 4) hne v4
theorem MayI.at {b7 b8 : Nat} {A B : Array Value} {s1 s2 : Sm} {X Y : Scr} (h : MayI W0 [(b8, B), (b7, A)] S W) (h1 : s1 ∈ S) (h2 : s2 ∈ S) (e1 : smA s1 = A) (e2 : smA s2 = B) (x1 : s1.scr = X) (x2 : s2.scr = Y) : MayAt W0 b7 b8 s1 s2 X Y W :=
  ⟨h.low, by rw [e1]; exact (h.blk (b7, A) (by simp)).2, by rw [e2]; exact (h.blk (b8, B) (by simp)).2, (h.own s1 h1).1, (h.own s2 h2).1, x1, x2⟩
end
theorem keysL_le1056 {w : World} {s : Sm} (h : SmIn w s) : (keysL s.scr.lists.flatten).length ≤ 1056 := by
  have h1 : (keysL s.scr.lists.flatten).length ≤ s.scr.lists.flatten.length := by
    rw [← insK_keys]
    exact Nat.le_trans (insK_len _) (keyL_le _)
  have h2 := catC_le h.rows.short s.ln (by rw [h.rows.len]; exact Nat.le_refl _)
  have h3 := h.cat
  have h4 := h.rows.few
  rw [← h3] at h1 ⊢
  omega
set_option maxHeartbeats 16000000 in
theorem may_true (xs ys : Sm) (op : Option Addr) (on oc : Nat) (os : List Int) (w : World) (hT : Tks w) (h : SmArg w xs) (h' : SmArg w ys) (ho : Sl w op on (os.map (Value.int .i64))) :
    Calls Tryd.prog 3 #[.agg (smA xs), .agg (smA ys), .slice op on oc] w fun e w' => e = .returned (.bool true) ∧ Below w.heap.size w w' := by
  obtain ⟨gx, sbx, seedx, lpx, lnx, lcx, rowsx, ppx, pnx, pcx, psx⟩ := xs
  obtain ⟨xs, hsmx⟩ : ∃ s : Sm, s = ⟨gx, sbx, seedx, lpx, lnx, lcx, rowsx, ppx, pnx, pcx, psx⟩ := ⟨_, rfl⟩
  have hAx : smA xs = #[.int .i64 gx, .int .i64 sbx, .int .u64 (seedx : Int), .slice lpx lnx lcx, .slice ppx pnx pcx] := by rw [hsmx]; rfl
  have hpnx : xs.pn = pnx := by rw [hsmx]
  rw [← hsmx] at h ⊢
  rw [hAx]
  clear hsmx
  obtain ⟨gy, sby, seedy, lpy, lny, lcy, rowsy, ppy, pny, pcy, psy⟩ := ys
  obtain ⟨ys, hsmy⟩ : ∃ s : Sm, s = ⟨gy, sby, seedy, lpy, lny, lcy, rowsy, ppy, pny, pcy, psy⟩ := ⟨_, rfl⟩
  have hAy : smA ys = #[.int .i64 gy, .int .i64 sby, .int .u64 (seedy : Int), .slice lpy lny lcy, .slice ppy pny pcy] := by rw [hsmy]; rfl
  have hpny : ys.pn = pny := by rw [hsmy]
  rw [← hsmy] at h' ⊢
  rw [hAy]
  clear hsmy
  obtain ⟨W0, hW0⟩ : ∃ W0, W0 = (w.alloc (.cells #[.int .i64 gx, .int .i64 sbx, .int .u64 (seedx : Int), .slice lpx lnx lcx, .slice ppx pnx pcx] 26)).alloc (.cells #[.int .i64 gy, .int .i64 sby, .int .u64 (seedy : Int), .slice lpy lny lcy, .slice ppy pny pcy] 26) := ⟨_, rfl⟩
  have hB0 : Below w.heap.size w W0 := by rw [hW0]; exact ((Below.refl _ _).alloc (Nat.le_refl _) _).alloc (by simp) _
  have hbx : W0.heap[w.heap.size]? = some (.cells #[.int .i64 gx, .int .i64 sbx, .int .u64 (seedx : Int), .slice lpx lnx lcx, .slice ppx pnx pcx] 26 (0, 0)) := by rw [hW0]; exact (Below.heap_alloc _ _ _ (by simp)).trans (World.alloc_heap_new _ _)
  have hby : W0.heap[w.heap.size + 1]? = some (.cells #[.int .i64 gy, .int .i64 sby, .int .u64 (seedy : Int), .slice lpy lny lcy, .slice ppy pny pcy] 26 (0, 0)) := by rw [hW0]; exact heap_alloc2_new w _ _
  have hT0 := hT.next hB0
  have WK := wakes_any _ hT0
  have hS0 := h.below hB0
  have hS0' := h'.below hB0
  have ho0 := ho.below hB0
  clear hT h h' ho
  have hT0'h := Lib.hid hT0
  have hS0'h := Lib.hid hS0
  have hS0''h := Lib.hid hS0'
  have ho0'h := Lib.hid ho0
  have hbx'h := Lib.hid hbx
  have hby'h := Lib.hid hby
  have WK'h := Lib.hid WK
  have hB0'h := Lib.hid hB0
  clear hT0 hS0 hS0' ho0 hbx hby WK hB0
  go_enter Tryd.func3, Tryd.ntmps3
  go_upto_region 1 with fail
  change Code.wp _ _ _ _ ((w.alloc (.cells #[.int .i64 gx, .int .i64 sbx, .int .u64 (seedx : Int), .slice lpx lnx lcx, .slice ppx pnx pcx] 26)).alloc (.cells #[.int .i64 gy, .int .i64 sby, .int .u64 (seedy : Int), .slice lpy lny lcy, .slice ppy pny pcy] 26))
  rw [← hW0]
  clear hW0
  go_upto_region 3 with (go_at_call 9; refine WK'h.out.mono ?_; rintro e w1 ⟨rfl, hB1⟩; have hB1'h := Lib.hid hB1; clear hB1)
  have hB01 := below_next hB0'h.out hB1'h.out
  have hT1 := hT0'h.out.next hB1'h.out
  have hb1 := heap_below hB1'h.out hbx'h.out (lt_of_heap hbx'h.out)
  have hb2 := heap_below hB1'h.out hby'h.out (lt_of_heap hby'h.out)
  have hS1 := hS0'h.out.below hB1'h.out
  have hS1' := hS0''h.out.below hB1'h.out
  have ho1 := ho0'h.out.below hB1'h.out
  have O1 : ∀ V, Below w1.heap.size w1 V → Calls Tryd.prog 10 #[.agg #[.int .i64 gx, .int .i64 sbx, .int .u64 (seedx : Int), .slice lpx lnx lcx, .slice ppx pnx pcx]] V fun e w' => CutAt V (ownS xs.scr) e w' := fun V hV => by rw [← hAx]; exact own_own xs V (hS1.below hV)
  have O2 : ∀ V, Below w1.heap.size w1 V → Calls Tryd.prog 10 #[.agg #[.int .i64 gy, .int .i64 sby, .int .u64 (seedy : Int), .slice lpy lny lcy, .slice ppy pny pcy]] V fun e w' => CutAt V (ownS ys.scr) e w' := fun V hV => by rw [← hAy]; exact own_own ys V (hS1'.below hV)
  have X1 : ∀ V, Below w1.heap.size w1 V → Calls Tryd.prog 10 #[.agg #[.int .i64 gx, .int .i64 sbx, .int .u64 (seedx : Int), .slice lpx lnx lcx, .slice ppx pnx pcx]] V fun e w' => SmAt V (ownS xs.scr) e w' := fun V hV => by rw [← hAx]; exact own_any xs V (hS1.below hV)
  clear hS1 hS1' hB1'h hbx'h hby'h hT0'h hS0'h hS0''h ho0'h WK'h hB0'h hAx hAy
  have hB01'h := Lib.hid hB01
  have hT1'h := Lib.hid hT1
  have hb1'h := Lib.hid hb1
  have hb2'h := Lib.hid hb2
  have ho1'h := Lib.hid ho1
  have O1'h := Lib.hid O1
  have O2'h := Lib.hid O2
  have X1'h := Lib.hid X1
  clear hB01 hT1 hb1 hb2 ho1 O1 O2 X1
  go_cut [7, 8] from 14 (fun p7 p8 wr => ∃ b7 b8 s1 s2, p7 = .pointer (some ⟨b7, 0, none⟩) ∧ p8 = .pointer (some ⟨b8, 0, none⟩) ∧ MayAt w1 b7 b8 s1 s2 (ownS xs.scr) (ownS ys.scr) wr)
  case first =>
    refine wp_region_heldF (fun w' => Below w1.heap.size w1 w') 99 (by kernel_rfl) ?_
    have hM : MayI w1 [] [] w1.drew := ⟨(Below.refl _ _).drew, (fun x hx => by cases hx), (fun x hx => by cases hx)⟩
    generalize w1.drew = V0 at hM ⊢
    refine wpAnyF_take (i := 0) (v := .agg #[.int .i64 gx, .int .i64 sbx, .int .u64 (seedx : Int), .slice lpx lnx lcx, .slice ppx pnx pcx]) rfl (by kernel_rfl) (by kernel_rfl) (by kernel_rfl) (by kernel_rfl) (fun _ _ _ h => h) (Or.inl ⟨by kernel_rfl, fun w hSw => run_load_agg (by rfl) (by rfl) (heap_below hSw hb1'h.out (lt_of_heap hb1'h.out)) Tryd.underlying26 rfl info_sm⟩) hM.low ?_; try simp only [Act.put, List.getElem_toArray, List.getElem_cons_succ, List.getElem_cons_zero, List.setIfInBounds_toArray, List.set_cons_zero, List.set_cons_succ]
    refine wpAnyF_take (i := 2) (v := .agg #[.int .i64 gy, .int .i64 sby, .int .u64 (seedy : Int), .slice lpy lny lcy, .slice ppy pny pcy]) rfl (by kernel_rfl) (by kernel_rfl) (by kernel_rfl) (by kernel_rfl) (fun _ _ _ h => h) (Or.inl ⟨by kernel_rfl, fun w hSw => run_load_agg (by rfl) (by rfl) (heap_below hSw hb2'h.out (lt_of_heap hb2'h.out)) Tryd.underlying26 rfl info_sm⟩) hM.low ?_; try simp only [Act.put, List.getElem_toArray, List.getElem_cons_succ, List.getElem_cons_zero, List.setIfInBounds_toArray, List.set_cons_zero, List.set_cons_succ]
    refine wpAnyF_three (i := 1) (j := 4) (m := 5) (by kernel_rfl) rfl rfl rfl (fun K hK => ?_) (fun K hK => ?_) (fun K hK => ?_)
    ·
      go_simp
      refine (O1'h.out _ hM.low).mono ?_
      rintro e V1 ⟨s1, rfl, hBV, hI, hO, hsa⟩
      dsimp only
      replace hM := hM.sm hBV hI hO
      clear hBV hI hO
      obtain ⟨ga, sba, seeda, lpa, lna, lca, rowsa, ppa, pna, pca, psa⟩ := s1
      obtain ⟨s1, hsma⟩ : ∃ s : Sm, s = ⟨ga, sba, seeda, lpa, lna, lca, rowsa, ppa, pna, pca, psa⟩ := ⟨_, rfl⟩
      have hAa : smA s1 = #[.int .i64 ga, .int .i64 sba, .int .u64 (seeda : Int), .slice lpa lna lca, .slice ppa pna pca] := by rw [hsma]; rfl
      have hpna : s1.pn = pna := by rw [hsma]
      rw [← hsma] at hM hsa ⊢
      rw [hAa]
      clear hsma
      refine hK.out _ _ (fun _ => hM.low) ?_; clear hK K; try simp only [Act.put, List.getElem_toArray, List.getElem_cons_succ, List.getElem_cons_zero, List.setIfInBounds_toArray, List.set_cons_zero, List.set_cons_succ]
      refine wpAnyF_three (i := 3) (j := 4) (m := 5) (by kernel_rfl) rfl rfl rfl (fun K hK => ?_) (fun K hK => ?_) (fun K hK => ?_)
      ·
        go_simp
        refine (O2'h.out _ hM.low).mono ?_
        rintro e V2 ⟨s2, rfl, hBV, hI, hO, hsb⟩
        dsimp only
        replace hM := hM.sm hBV hI hO
        clear hBV hI hO
        obtain ⟨gb, sbb, seedb, lpb, lnb, lcb, rowsb, ppb, pnb, pcb, psb⟩ := s2
        obtain ⟨s2, hsmb⟩ : ∃ s : Sm, s = ⟨gb, sbb, seedb, lpb, lnb, lcb, rowsb, ppb, pnb, pcb, psb⟩ := ⟨_, rfl⟩
        have hAb : smA s2 = #[.int .i64 gb, .int .i64 sbb, .int .u64 (seedb : Int), .slice lpb lnb lcb, .slice ppb pnb pcb] := by rw [hsmb]; rfl
        have hpnb : s2.pn = pnb := by rw [hsmb]
        rw [← hsmb] at hM hsb ⊢
        rw [hAb]
        clear hsmb
        refine hK.out _ _ (fun _ => hM.low) ?_; clear hK K; try simp only [Act.put, List.getElem_toArray, List.getElem_cons_succ, List.getElem_cons_zero, List.setIfInBounds_toArray, List.set_cons_zero, List.set_cons_succ]
        refine wpAnyF_two (i := 4) (j := 5) (by kernel_rfl) rfl rfl (fun K hK => ?_) (fun K hK => ?_)
        ·
          go_simp
          replace hM := hM.box
          refine hK.out _ _ (fun _ => hM.low) ?_; clear hK K; try simp only [Act.put, List.getElem_toArray, List.getElem_cons_succ, List.getElem_cons_zero, List.setIfInBounds_toArray, List.set_cons_zero, List.set_cons_succ]
          generalize V2.alloc _ = V3 at hM ⊢
          generalize V2.heap.size = b7 at hM ⊢
          refine wpAnyF_one (i := 5) (by kernel_rfl) rfl (fun K hK => ?_)
          ·
            go_simp
            have hne : b7 ≠ V3.heap.size := hM.fresh (List.mem_cons_self ..)
            replace hM := hM.box
            refine hK.out _ _ (fun _ => hM.low) ?_; clear hK K; try simp only [Act.put, List.getElem_toArray, List.getElem_cons_succ, List.getElem_cons_zero, List.setIfInBounds_toArray, List.set_cons_zero, List.set_cons_succ]
            generalize V3.alloc _ = V4 at hM ⊢
            generalize V3.heap.size = b8 at hM hne ⊢
            have hM2 := MayI.swap hM
            have hne2 : b7 ≠ b8 := hne
            clear hM
            have hz := (hM2.blk _ (List.mem_cons_self ..)).2
            simp only at hz
            obtain ⟨z0, z1, z2, z3, z4⟩ := cells5' hz
            have f0 := blk_free 0 hz
            have f1 := blk_free 1 hz
            have f2 := blk_free 2 hz
            have f3 := blk_free 3 hz
            have f4 := blk_free 4 hz
            clear hz
            refine wpAnyF_one (i := 6) (by kernel_rfl) rfl (fun K hK => ?_); go_simp
            have hM3 := hM2.put5 (.int .i64 ga) (.int .i64 sba) (.int .u64 (seeda : Int)) (.slice lpa lna lca) (.slice ppa pna pca) hne2
            clear hM2 z0 z1 z2 z3 z4 f0 f1 f2 f3 f4
            refine hK.out _ _ (fun _ => hM3.low) ?_; clear hK K; try simp only [Act.put, List.getElem_toArray, List.getElem_cons_succ, List.getElem_cons_zero, List.setIfInBounds_toArray, List.set_cons_zero, List.set_cons_succ]
            generalize World.setCell _ _ _ = X7 at hM3 ⊢
            have hM4 := hM3.swap
            clear hM3
            have hz := (hM4.blk _ (List.mem_cons_self ..)).2
            simp only at hz
            obtain ⟨z0, z1, z2, z3, z4⟩ := cells5' hz
            have f0 := blk_free 0 hz
            have f1 := blk_free 1 hz
            have f2 := blk_free 2 hz
            have f3 := blk_free 3 hz
            have f4 := blk_free 4 hz
            clear hz
            refine wpAnyF_one (i := 7) (by kernel_rfl) rfl (fun K hK => ?_); go_simp
            have hM5 := hM4.put5 (.int .i64 gb) (.int .i64 sbb) (.int .u64 (seedb : Int)) (.slice lpb lnb lcb) (.slice ppb pnb pcb) hne2.symm
            clear hM4 z0 z1 z2 z3 z4 f0 f1 f2 f3 f4
            refine hK.out _ _ (fun _ => hM5.low) ?_; clear hK K; try simp only [Act.put, List.getElem_toArray, List.getElem_cons_succ, List.getElem_cons_zero, List.setIfInBounds_toArray, List.set_cons_zero, List.set_cons_succ]
            generalize World.setCell _ _ _ = X8 at hM5 ⊢
            refine wpAnyF_done (by kernel_rfl) ?_ _
            go_wp2
            go_meet
            exact ⟨b7, b8, s1, s2, rfl, rfl, hM5.at (by simp) (by simp) hAa hAb hsa hsb⟩
        ·
          go_simp
          replace hM := hM.box
          refine hK.out _ _ (fun _ => hM.low) ?_; clear hK K; try simp only [Act.put, List.getElem_toArray, List.getElem_cons_succ, List.getElem_cons_zero, List.setIfInBounds_toArray, List.set_cons_zero, List.set_cons_succ]
          generalize V2.alloc _ = V5 at hM ⊢
          generalize V2.heap.size = b8 at hM ⊢
          refine wpAnyF_one (i := 4) (by kernel_rfl) rfl (fun K hK => ?_)
          ·
            go_simp
            have hne : b8 ≠ V5.heap.size := hM.fresh (List.mem_cons_self ..)
            replace hM := hM.box
            refine hK.out _ _ (fun _ => hM.low) ?_; clear hK K; try simp only [Act.put, List.getElem_toArray, List.getElem_cons_succ, List.getElem_cons_zero, List.setIfInBounds_toArray, List.set_cons_zero, List.set_cons_succ]
            generalize V5.alloc _ = V6 at hM ⊢
            generalize V5.heap.size = b7 at hM hne ⊢
            have hM2 := id hM
            have hne2 : b7 ≠ b8 := hne.symm
            clear hM
            have hz := (hM2.blk _ (List.mem_cons_self ..)).2
            simp only at hz
            obtain ⟨z0, z1, z2, z3, z4⟩ := cells5' hz
            have f0 := blk_free 0 hz
            have f1 := blk_free 1 hz
            have f2 := blk_free 2 hz
            have f3 := blk_free 3 hz
            have f4 := blk_free 4 hz
            clear hz
            refine wpAnyF_one (i := 6) (by kernel_rfl) rfl (fun K hK => ?_); go_simp
            have hM3 := hM2.put5 (.int .i64 ga) (.int .i64 sba) (.int .u64 (seeda : Int)) (.slice lpa lna lca) (.slice ppa pna pca) hne2
            clear hM2 z0 z1 z2 z3 z4 f0 f1 f2 f3 f4
            refine hK.out _ _ (fun _ => hM3.low) ?_; clear hK K; try simp only [Act.put, List.getElem_toArray, List.getElem_cons_succ, List.getElem_cons_zero, List.setIfInBounds_toArray, List.set_cons_zero, List.set_cons_succ]
            generalize World.setCell _ _ _ = X7 at hM3 ⊢
            have hM4 := hM3.swap
            clear hM3
            have hz := (hM4.blk _ (List.mem_cons_self ..)).2
            simp only at hz
            obtain ⟨z0, z1, z2, z3, z4⟩ := cells5' hz
            have f0 := blk_free 0 hz
            have f1 := blk_free 1 hz
            have f2 := blk_free 2 hz
            have f3 := blk_free 3 hz
            have f4 := blk_free 4 hz
            clear hz
            refine wpAnyF_one (i := 7) (by kernel_rfl) rfl (fun K hK => ?_); go_simp
            have hM5 := hM4.put5 (.int .i64 gb) (.int .i64 sbb) (.int .u64 (seedb : Int)) (.slice lpb lnb lcb) (.slice ppb pnb pcb) hne2.symm
            clear hM4 z0 z1 z2 z3 z4 f0 f1 f2 f3 f4
            refine hK.out _ _ (fun _ => hM5.low) ?_; clear hK K; try simp only [Act.put, List.getElem_toArray, List.getElem_cons_succ, List.getElem_cons_zero, List.setIfInBounds_toArray, List.set_cons_zero, List.set_cons_succ]
            generalize World.setCell _ _ _ = X8 at hM5 ⊢
            refine wpAnyF_done (by kernel_rfl) ?_ _
            go_wp2
            go_meet
            exact ⟨b7, b8, s1, s2, rfl, rfl, hM5.at (by simp) (by simp) hAa hAb hsa hsb⟩
      ·
        go_simp
        replace hM := hM.box
        refine hK.out _ _ (fun _ => hM.low) ?_; clear hK K; try simp only [Act.put, List.getElem_toArray, List.getElem_cons_succ, List.getElem_cons_zero, List.setIfInBounds_toArray, List.set_cons_zero, List.set_cons_succ]
        generalize V1.alloc _ = V7 at hM ⊢
        generalize V1.heap.size = b7 at hM ⊢
        refine wpAnyF_two (i := 3) (j := 5) (by kernel_rfl) rfl rfl (fun K hK => ?_) (fun K hK => ?_)
        ·
          go_simp
          refine (O2'h.out _ hM.low).mono ?_
          rintro e V8 ⟨s2, rfl, hBV, hI, hO, hsb⟩
          dsimp only
          replace hM := hM.sm hBV hI hO
          clear hBV hI hO
          obtain ⟨gb, sbb, seedb, lpb, lnb, lcb, rowsb, ppb, pnb, pcb, psb⟩ := s2
          obtain ⟨s2, hsmb⟩ : ∃ s : Sm, s = ⟨gb, sbb, seedb, lpb, lnb, lcb, rowsb, ppb, pnb, pcb, psb⟩ := ⟨_, rfl⟩
          have hAb : smA s2 = #[.int .i64 gb, .int .i64 sbb, .int .u64 (seedb : Int), .slice lpb lnb lcb, .slice ppb pnb pcb] := by rw [hsmb]; rfl
          have hpnb : s2.pn = pnb := by rw [hsmb]
          rw [← hsmb] at hM hsb ⊢
          rw [hAb]
          clear hsmb
          refine hK.out _ _ (fun _ => hM.low) ?_; clear hK K; try simp only [Act.put, List.getElem_toArray, List.getElem_cons_succ, List.getElem_cons_zero, List.setIfInBounds_toArray, List.set_cons_zero, List.set_cons_succ]
          refine wpAnyF_one (i := 5) (by kernel_rfl) rfl (fun K hK => ?_)
          ·
            go_simp
            have hne : b7 ≠ V8.heap.size := hM.fresh (List.mem_cons_self ..)
            replace hM := hM.box
            refine hK.out _ _ (fun _ => hM.low) ?_; clear hK K; try simp only [Act.put, List.getElem_toArray, List.getElem_cons_succ, List.getElem_cons_zero, List.setIfInBounds_toArray, List.set_cons_zero, List.set_cons_succ]
            generalize V8.alloc _ = V9 at hM ⊢
            generalize V8.heap.size = b8 at hM hne ⊢
            have hM2 := MayI.swap hM
            have hne2 : b7 ≠ b8 := hne
            clear hM
            have hz := (hM2.blk _ (List.mem_cons_self ..)).2
            simp only at hz
            obtain ⟨z0, z1, z2, z3, z4⟩ := cells5' hz
            have f0 := blk_free 0 hz
            have f1 := blk_free 1 hz
            have f2 := blk_free 2 hz
            have f3 := blk_free 3 hz
            have f4 := blk_free 4 hz
            clear hz
            refine wpAnyF_one (i := 6) (by kernel_rfl) rfl (fun K hK => ?_); go_simp
            have hM3 := hM2.put5 (.int .i64 ga) (.int .i64 sba) (.int .u64 (seeda : Int)) (.slice lpa lna lca) (.slice ppa pna pca) hne2
            clear hM2 z0 z1 z2 z3 z4 f0 f1 f2 f3 f4
            refine hK.out _ _ (fun _ => hM3.low) ?_; clear hK K; try simp only [Act.put, List.getElem_toArray, List.getElem_cons_succ, List.getElem_cons_zero, List.setIfInBounds_toArray, List.set_cons_zero, List.set_cons_succ]
            generalize World.setCell _ _ _ = X7 at hM3 ⊢
            have hM4 := hM3.swap
            clear hM3
            have hz := (hM4.blk _ (List.mem_cons_self ..)).2
            simp only at hz
            obtain ⟨z0, z1, z2, z3, z4⟩ := cells5' hz
            have f0 := blk_free 0 hz
            have f1 := blk_free 1 hz
            have f2 := blk_free 2 hz
            have f3 := blk_free 3 hz
            have f4 := blk_free 4 hz
            clear hz
            refine wpAnyF_one (i := 7) (by kernel_rfl) rfl (fun K hK => ?_); go_simp
            have hM5 := hM4.put5 (.int .i64 gb) (.int .i64 sbb) (.int .u64 (seedb : Int)) (.slice lpb lnb lcb) (.slice ppb pnb pcb) hne2.symm
            clear hM4 z0 z1 z2 z3 z4 f0 f1 f2 f3 f4
            refine hK.out _ _ (fun _ => hM5.low) ?_; clear hK K; try simp only [Act.put, List.getElem_toArray, List.getElem_cons_succ, List.getElem_cons_zero, List.setIfInBounds_toArray, List.set_cons_zero, List.set_cons_succ]
            generalize World.setCell _ _ _ = X8 at hM5 ⊢
            refine wpAnyF_done (by kernel_rfl) ?_ _
            go_wp2
            go_meet
            exact ⟨b7, b8, s1, s2, rfl, rfl, hM5.at (by simp) (by simp) hAa hAb hsa hsb⟩
        ·
          go_simp
          have hne : b7 ≠ V7.heap.size := hM.fresh (List.mem_cons_self ..)
          replace hM := hM.box
          refine hK.out _ _ (fun _ => hM.low) ?_; clear hK K; try simp only [Act.put, List.getElem_toArray, List.getElem_cons_succ, List.getElem_cons_zero, List.setIfInBounds_toArray, List.set_cons_zero, List.set_cons_succ]
          generalize V7.alloc _ = V10 at hM ⊢
          generalize V7.heap.size = b8 at hM hne ⊢
          refine wpAnyF_one (i := 3) (by kernel_rfl) rfl (fun K hK => ?_)
          ·
            go_simp
            refine (O2'h.out _ hM.low).mono ?_
            rintro e V11 ⟨s2, rfl, hBV, hI, hO, hsb⟩
            dsimp only
            replace hM := hM.sm hBV hI hO
            clear hBV hI hO
            obtain ⟨gb, sbb, seedb, lpb, lnb, lcb, rowsb, ppb, pnb, pcb, psb⟩ := s2
            obtain ⟨s2, hsmb⟩ : ∃ s : Sm, s = ⟨gb, sbb, seedb, lpb, lnb, lcb, rowsb, ppb, pnb, pcb, psb⟩ := ⟨_, rfl⟩
            have hAb : smA s2 = #[.int .i64 gb, .int .i64 sbb, .int .u64 (seedb : Int), .slice lpb lnb lcb, .slice ppb pnb pcb] := by rw [hsmb]; rfl
            have hpnb : s2.pn = pnb := by rw [hsmb]
            rw [← hsmb] at hM hsb ⊢
            rw [hAb]
            clear hsmb
            refine hK.out _ _ (fun _ => hM.low) ?_; clear hK K; try simp only [Act.put, List.getElem_toArray, List.getElem_cons_succ, List.getElem_cons_zero, List.setIfInBounds_toArray, List.set_cons_zero, List.set_cons_succ]
            have hM2 := MayI.swap hM
            have hne2 : b7 ≠ b8 := hne
            clear hM
            have hz := (hM2.blk _ (List.mem_cons_self ..)).2
            simp only at hz
            obtain ⟨z0, z1, z2, z3, z4⟩ := cells5' hz
            have f0 := blk_free 0 hz
            have f1 := blk_free 1 hz
            have f2 := blk_free 2 hz
            have f3 := blk_free 3 hz
            have f4 := blk_free 4 hz
            clear hz
            refine wpAnyF_one (i := 6) (by kernel_rfl) rfl (fun K hK => ?_); go_simp
            have hM3 := hM2.put5 (.int .i64 ga) (.int .i64 sba) (.int .u64 (seeda : Int)) (.slice lpa lna lca) (.slice ppa pna pca) hne2
            clear hM2 z0 z1 z2 z3 z4 f0 f1 f2 f3 f4
            refine hK.out _ _ (fun _ => hM3.low) ?_; clear hK K; try simp only [Act.put, List.getElem_toArray, List.getElem_cons_succ, List.getElem_cons_zero, List.setIfInBounds_toArray, List.set_cons_zero, List.set_cons_succ]
            generalize World.setCell _ _ _ = X7 at hM3 ⊢
            have hM4 := hM3.swap
            clear hM3
            have hz := (hM4.blk _ (List.mem_cons_self ..)).2
            simp only at hz
            obtain ⟨z0, z1, z2, z3, z4⟩ := cells5' hz
            have f0 := blk_free 0 hz
            have f1 := blk_free 1 hz
            have f2 := blk_free 2 hz
            have f3 := blk_free 3 hz
            have f4 := blk_free 4 hz
            clear hz
            refine wpAnyF_one (i := 7) (by kernel_rfl) rfl (fun K hK => ?_); go_simp
            have hM5 := hM4.put5 (.int .i64 gb) (.int .i64 sbb) (.int .u64 (seedb : Int)) (.slice lpb lnb lcb) (.slice ppb pnb pcb) hne2.symm
            clear hM4 z0 z1 z2 z3 z4 f0 f1 f2 f3 f4
            refine hK.out _ _ (fun _ => hM5.low) ?_; clear hK K; try simp only [Act.put, List.getElem_toArray, List.getElem_cons_succ, List.getElem_cons_zero, List.setIfInBounds_toArray, List.set_cons_zero, List.set_cons_succ]
            generalize World.setCell _ _ _ = X8 at hM5 ⊢
            refine wpAnyF_done (by kernel_rfl) ?_ _
            go_wp2
            go_meet
            exact ⟨b7, b8, s1, s2, rfl, rfl, hM5.at (by simp) (by simp) hAa hAb hsa hsb⟩
      ·
        go_simp
        replace hM := hM.box
        refine hK.out _ _ (fun _ => hM.low) ?_; clear hK K; try simp only [Act.put, List.getElem_toArray, List.getElem_cons_succ, List.getElem_cons_zero, List.setIfInBounds_toArray, List.set_cons_zero, List.set_cons_succ]
        generalize V1.alloc _ = V12 at hM ⊢
        generalize V1.heap.size = b8 at hM ⊢
        refine wpAnyF_two (i := 3) (j := 4) (by kernel_rfl) rfl rfl (fun K hK => ?_) (fun K hK => ?_)
        ·
          go_simp
          refine (O2'h.out _ hM.low).mono ?_
          rintro e V13 ⟨s2, rfl, hBV, hI, hO, hsb⟩
          dsimp only
          replace hM := hM.sm hBV hI hO
          clear hBV hI hO
          obtain ⟨gb, sbb, seedb, lpb, lnb, lcb, rowsb, ppb, pnb, pcb, psb⟩ := s2
          obtain ⟨s2, hsmb⟩ : ∃ s : Sm, s = ⟨gb, sbb, seedb, lpb, lnb, lcb, rowsb, ppb, pnb, pcb, psb⟩ := ⟨_, rfl⟩
          have hAb : smA s2 = #[.int .i64 gb, .int .i64 sbb, .int .u64 (seedb : Int), .slice lpb lnb lcb, .slice ppb pnb pcb] := by rw [hsmb]; rfl
          have hpnb : s2.pn = pnb := by rw [hsmb]
          rw [← hsmb] at hM hsb ⊢
          rw [hAb]
          clear hsmb
          refine hK.out _ _ (fun _ => hM.low) ?_; clear hK K; try simp only [Act.put, List.getElem_toArray, List.getElem_cons_succ, List.getElem_cons_zero, List.setIfInBounds_toArray, List.set_cons_zero, List.set_cons_succ]
          refine wpAnyF_one (i := 4) (by kernel_rfl) rfl (fun K hK => ?_)
          ·
            go_simp
            have hne : b8 ≠ V13.heap.size := hM.fresh (List.mem_cons_self ..)
            replace hM := hM.box
            refine hK.out _ _ (fun _ => hM.low) ?_; clear hK K; try simp only [Act.put, List.getElem_toArray, List.getElem_cons_succ, List.getElem_cons_zero, List.setIfInBounds_toArray, List.set_cons_zero, List.set_cons_succ]
            generalize V13.alloc _ = V14 at hM ⊢
            generalize V13.heap.size = b7 at hM hne ⊢
            have hM2 := id hM
            have hne2 : b7 ≠ b8 := hne.symm
            clear hM
            have hz := (hM2.blk _ (List.mem_cons_self ..)).2
            simp only at hz
            obtain ⟨z0, z1, z2, z3, z4⟩ := cells5' hz
            have f0 := blk_free 0 hz
            have f1 := blk_free 1 hz
            have f2 := blk_free 2 hz
            have f3 := blk_free 3 hz
            have f4 := blk_free 4 hz
            clear hz
            refine wpAnyF_one (i := 6) (by kernel_rfl) rfl (fun K hK => ?_); go_simp
            have hM3 := hM2.put5 (.int .i64 ga) (.int .i64 sba) (.int .u64 (seeda : Int)) (.slice lpa lna lca) (.slice ppa pna pca) hne2
            clear hM2 z0 z1 z2 z3 z4 f0 f1 f2 f3 f4
            refine hK.out _ _ (fun _ => hM3.low) ?_; clear hK K; try simp only [Act.put, List.getElem_toArray, List.getElem_cons_succ, List.getElem_cons_zero, List.setIfInBounds_toArray, List.set_cons_zero, List.set_cons_succ]
            generalize World.setCell _ _ _ = X7 at hM3 ⊢
            have hM4 := hM3.swap
            clear hM3
            have hz := (hM4.blk _ (List.mem_cons_self ..)).2
            simp only at hz
            obtain ⟨z0, z1, z2, z3, z4⟩ := cells5' hz
            have f0 := blk_free 0 hz
            have f1 := blk_free 1 hz
            have f2 := blk_free 2 hz
            have f3 := blk_free 3 hz
            have f4 := blk_free 4 hz
            clear hz
            refine wpAnyF_one (i := 7) (by kernel_rfl) rfl (fun K hK => ?_); go_simp
            have hM5 := hM4.put5 (.int .i64 gb) (.int .i64 sbb) (.int .u64 (seedb : Int)) (.slice lpb lnb lcb) (.slice ppb pnb pcb) hne2.symm
            clear hM4 z0 z1 z2 z3 z4 f0 f1 f2 f3 f4
            refine hK.out _ _ (fun _ => hM5.low) ?_; clear hK K; try simp only [Act.put, List.getElem_toArray, List.getElem_cons_succ, List.getElem_cons_zero, List.setIfInBounds_toArray, List.set_cons_zero, List.set_cons_succ]
            generalize World.setCell _ _ _ = X8 at hM5 ⊢
            refine wpAnyF_done (by kernel_rfl) ?_ _
            go_wp2
            go_meet
            exact ⟨b7, b8, s1, s2, rfl, rfl, hM5.at (by simp) (by simp) hAa hAb hsa hsb⟩
        ·
          go_simp
          have hne : b8 ≠ V12.heap.size := hM.fresh (List.mem_cons_self ..)
          replace hM := hM.box
          refine hK.out _ _ (fun _ => hM.low) ?_; clear hK K; try simp only [Act.put, List.getElem_toArray, List.getElem_cons_succ, List.getElem_cons_zero, List.setIfInBounds_toArray, List.set_cons_zero, List.set_cons_succ]
          generalize V12.alloc _ = V15 at hM ⊢
          generalize V12.heap.size = b7 at hM hne ⊢
          refine wpAnyF_one (i := 3) (by kernel_rfl) rfl (fun K hK => ?_)
          ·
            go_simp
            refine (O2'h.out _ hM.low).mono ?_
            rintro e V16 ⟨s2, rfl, hBV, hI, hO, hsb⟩
            dsimp only
            replace hM := hM.sm hBV hI hO
            clear hBV hI hO
            obtain ⟨gb, sbb, seedb, lpb, lnb, lcb, rowsb, ppb, pnb, pcb, psb⟩ := s2
            obtain ⟨s2, hsmb⟩ : ∃ s : Sm, s = ⟨gb, sbb, seedb, lpb, lnb, lcb, rowsb, ppb, pnb, pcb, psb⟩ := ⟨_, rfl⟩
            have hAb : smA s2 = #[.int .i64 gb, .int .i64 sbb, .int .u64 (seedb : Int), .slice lpb lnb lcb, .slice ppb pnb pcb] := by rw [hsmb]; rfl
            have hpnb : s2.pn = pnb := by rw [hsmb]
            rw [← hsmb] at hM hsb ⊢
            rw [hAb]
            clear hsmb
            refine hK.out _ _ (fun _ => hM.low) ?_; clear hK K; try simp only [Act.put, List.getElem_toArray, List.getElem_cons_succ, List.getElem_cons_zero, List.setIfInBounds_toArray, List.set_cons_zero, List.set_cons_succ]
            have hM2 := id hM
            have hne2 : b7 ≠ b8 := hne.symm
            clear hM
            have hz := (hM2.blk _ (List.mem_cons_self ..)).2
            simp only at hz
            obtain ⟨z0, z1, z2, z3, z4⟩ := cells5' hz
            have f0 := blk_free 0 hz
            have f1 := blk_free 1 hz
            have f2 := blk_free 2 hz
            have f3 := blk_free 3 hz
            have f4 := blk_free 4 hz
            clear hz
            refine wpAnyF_one (i := 6) (by kernel_rfl) rfl (fun K hK => ?_); go_simp
            have hM3 := hM2.put5 (.int .i64 ga) (.int .i64 sba) (.int .u64 (seeda : Int)) (.slice lpa lna lca) (.slice ppa pna pca) hne2
            clear hM2 z0 z1 z2 z3 z4 f0 f1 f2 f3 f4
            refine hK.out _ _ (fun _ => hM3.low) ?_; clear hK K; try simp only [Act.put, List.getElem_toArray, List.getElem_cons_succ, List.getElem_cons_zero, List.setIfInBounds_toArray, List.set_cons_zero, List.set_cons_succ]
            generalize World.setCell _ _ _ = X7 at hM3 ⊢
            have hM4 := hM3.swap
            clear hM3
            have hz := (hM4.blk _ (List.mem_cons_self ..)).2
            simp only at hz
            obtain ⟨z0, z1, z2, z3, z4⟩ := cells5' hz
            have f0 := blk_free 0 hz
            have f1 := blk_free 1 hz
            have f2 := blk_free 2 hz
            have f3 := blk_free 3 hz
            have f4 := blk_free 4 hz
            clear hz
            refine wpAnyF_one (i := 7) (by kernel_rfl) rfl (fun K hK => ?_); go_simp
            have hM5 := hM4.put5 (.int .i64 gb) (.int .i64 sbb) (.int .u64 (seedb : Int)) (.slice lpb lnb lcb) (.slice ppb pnb pcb) hne2.symm
            clear hM4 z0 z1 z2 z3 z4 f0 f1 f2 f3 f4
            refine hK.out _ _ (fun _ => hM5.low) ?_; clear hK K; try simp only [Act.put, List.getElem_toArray, List.getElem_cons_succ, List.getElem_cons_zero, List.setIfInBounds_toArray, List.set_cons_zero, List.set_cons_succ]
            generalize World.setCell _ _ _ = X8 at hM5 ⊢
            refine wpAnyF_done (by kernel_rfl) ?_ _
            go_wp2
            go_meet
            exact ⟨b7, b8, s1, s2, rfl, rfl, hM5.at (by simp) (by simp) hAa hAb hsa hsb⟩
    ·
      go_simp
      replace hM := hM.box
      refine hK.out _ _ (fun _ => hM.low) ?_; clear hK K; try simp only [Act.put, List.getElem_toArray, List.getElem_cons_succ, List.getElem_cons_zero, List.setIfInBounds_toArray, List.set_cons_zero, List.set_cons_succ]
      generalize V0.alloc _ = V17 at hM ⊢
      generalize V0.heap.size = b7 at hM ⊢
      refine wpAnyF_two (i := 1) (j := 5) (by kernel_rfl) rfl rfl (fun K hK => ?_) (fun K hK => ?_)
      ·
        go_simp
        refine (O1'h.out _ hM.low).mono ?_
        rintro e V18 ⟨s1, rfl, hBV, hI, hO, hsa⟩
        dsimp only
        replace hM := hM.sm hBV hI hO
        clear hBV hI hO
        obtain ⟨ga, sba, seeda, lpa, lna, lca, rowsa, ppa, pna, pca, psa⟩ := s1
        obtain ⟨s1, hsma⟩ : ∃ s : Sm, s = ⟨ga, sba, seeda, lpa, lna, lca, rowsa, ppa, pna, pca, psa⟩ := ⟨_, rfl⟩
        have hAa : smA s1 = #[.int .i64 ga, .int .i64 sba, .int .u64 (seeda : Int), .slice lpa lna lca, .slice ppa pna pca] := by rw [hsma]; rfl
        have hpna : s1.pn = pna := by rw [hsma]
        rw [← hsma] at hM hsa ⊢
        rw [hAa]
        clear hsma
        refine hK.out _ _ (fun _ => hM.low) ?_; clear hK K; try simp only [Act.put, List.getElem_toArray, List.getElem_cons_succ, List.getElem_cons_zero, List.setIfInBounds_toArray, List.set_cons_zero, List.set_cons_succ]
        refine wpAnyF_two (i := 3) (j := 5) (by kernel_rfl) rfl rfl (fun K hK => ?_) (fun K hK => ?_)
        ·
          go_simp
          refine (O2'h.out _ hM.low).mono ?_
          rintro e V19 ⟨s2, rfl, hBV, hI, hO, hsb⟩
          dsimp only
          replace hM := hM.sm hBV hI hO
          clear hBV hI hO
          obtain ⟨gb, sbb, seedb, lpb, lnb, lcb, rowsb, ppb, pnb, pcb, psb⟩ := s2
          obtain ⟨s2, hsmb⟩ : ∃ s : Sm, s = ⟨gb, sbb, seedb, lpb, lnb, lcb, rowsb, ppb, pnb, pcb, psb⟩ := ⟨_, rfl⟩
          have hAb : smA s2 = #[.int .i64 gb, .int .i64 sbb, .int .u64 (seedb : Int), .slice lpb lnb lcb, .slice ppb pnb pcb] := by rw [hsmb]; rfl
          have hpnb : s2.pn = pnb := by rw [hsmb]
          rw [← hsmb] at hM hsb ⊢
          rw [hAb]
          clear hsmb
          refine hK.out _ _ (fun _ => hM.low) ?_; clear hK K; try simp only [Act.put, List.getElem_toArray, List.getElem_cons_succ, List.getElem_cons_zero, List.setIfInBounds_toArray, List.set_cons_zero, List.set_cons_succ]
          refine wpAnyF_one (i := 5) (by kernel_rfl) rfl (fun K hK => ?_)
          ·
            go_simp
            have hne : b7 ≠ V19.heap.size := hM.fresh (List.mem_cons_self ..)
            replace hM := hM.box
            refine hK.out _ _ (fun _ => hM.low) ?_; clear hK K; try simp only [Act.put, List.getElem_toArray, List.getElem_cons_succ, List.getElem_cons_zero, List.setIfInBounds_toArray, List.set_cons_zero, List.set_cons_succ]
            generalize V19.alloc _ = V20 at hM ⊢
            generalize V19.heap.size = b8 at hM hne ⊢
            have hM2 := MayI.swap hM
            have hne2 : b7 ≠ b8 := hne
            clear hM
            have hz := (hM2.blk _ (List.mem_cons_self ..)).2
            simp only at hz
            obtain ⟨z0, z1, z2, z3, z4⟩ := cells5' hz
            have f0 := blk_free 0 hz
            have f1 := blk_free 1 hz
            have f2 := blk_free 2 hz
            have f3 := blk_free 3 hz
            have f4 := blk_free 4 hz
            clear hz
            refine wpAnyF_one (i := 6) (by kernel_rfl) rfl (fun K hK => ?_); go_simp
            have hM3 := hM2.put5 (.int .i64 ga) (.int .i64 sba) (.int .u64 (seeda : Int)) (.slice lpa lna lca) (.slice ppa pna pca) hne2
            clear hM2 z0 z1 z2 z3 z4 f0 f1 f2 f3 f4
            refine hK.out _ _ (fun _ => hM3.low) ?_; clear hK K; try simp only [Act.put, List.getElem_toArray, List.getElem_cons_succ, List.getElem_cons_zero, List.setIfInBounds_toArray, List.set_cons_zero, List.set_cons_succ]
            generalize World.setCell _ _ _ = X7 at hM3 ⊢
            have hM4 := hM3.swap
            clear hM3
            have hz := (hM4.blk _ (List.mem_cons_self ..)).2
            simp only at hz
            obtain ⟨z0, z1, z2, z3, z4⟩ := cells5' hz
            have f0 := blk_free 0 hz
            have f1 := blk_free 1 hz
            have f2 := blk_free 2 hz
            have f3 := blk_free 3 hz
            have f4 := blk_free 4 hz
            clear hz
            refine wpAnyF_one (i := 7) (by kernel_rfl) rfl (fun K hK => ?_); go_simp
            have hM5 := hM4.put5 (.int .i64 gb) (.int .i64 sbb) (.int .u64 (seedb : Int)) (.slice lpb lnb lcb) (.slice ppb pnb pcb) hne2.symm
            clear hM4 z0 z1 z2 z3 z4 f0 f1 f2 f3 f4
            refine hK.out _ _ (fun _ => hM5.low) ?_; clear hK K; try simp only [Act.put, List.getElem_toArray, List.getElem_cons_succ, List.getElem_cons_zero, List.setIfInBounds_toArray, List.set_cons_zero, List.set_cons_succ]
            generalize World.setCell _ _ _ = X8 at hM5 ⊢
            refine wpAnyF_done (by kernel_rfl) ?_ _
            go_wp2
            go_meet
            exact ⟨b7, b8, s1, s2, rfl, rfl, hM5.at (by simp) (by simp) hAa hAb hsa hsb⟩
        ·
          go_simp
          have hne : b7 ≠ V18.heap.size := hM.fresh (List.mem_cons_self ..)
          replace hM := hM.box
          refine hK.out _ _ (fun _ => hM.low) ?_; clear hK K; try simp only [Act.put, List.getElem_toArray, List.getElem_cons_succ, List.getElem_cons_zero, List.setIfInBounds_toArray, List.set_cons_zero, List.set_cons_succ]
          generalize V18.alloc _ = V21 at hM ⊢
          generalize V18.heap.size = b8 at hM hne ⊢
          refine wpAnyF_one (i := 3) (by kernel_rfl) rfl (fun K hK => ?_)
          ·
            go_simp
            refine (O2'h.out _ hM.low).mono ?_
            rintro e V22 ⟨s2, rfl, hBV, hI, hO, hsb⟩
            dsimp only
            replace hM := hM.sm hBV hI hO
            clear hBV hI hO
            obtain ⟨gb, sbb, seedb, lpb, lnb, lcb, rowsb, ppb, pnb, pcb, psb⟩ := s2
            obtain ⟨s2, hsmb⟩ : ∃ s : Sm, s = ⟨gb, sbb, seedb, lpb, lnb, lcb, rowsb, ppb, pnb, pcb, psb⟩ := ⟨_, rfl⟩
            have hAb : smA s2 = #[.int .i64 gb, .int .i64 sbb, .int .u64 (seedb : Int), .slice lpb lnb lcb, .slice ppb pnb pcb] := by rw [hsmb]; rfl
            have hpnb : s2.pn = pnb := by rw [hsmb]
            rw [← hsmb] at hM hsb ⊢
            rw [hAb]
            clear hsmb
            refine hK.out _ _ (fun _ => hM.low) ?_; clear hK K; try simp only [Act.put, List.getElem_toArray, List.getElem_cons_succ, List.getElem_cons_zero, List.setIfInBounds_toArray, List.set_cons_zero, List.set_cons_succ]
            have hM2 := MayI.swap hM
            have hne2 : b7 ≠ b8 := hne
            clear hM
            have hz := (hM2.blk _ (List.mem_cons_self ..)).2
            simp only at hz
            obtain ⟨z0, z1, z2, z3, z4⟩ := cells5' hz
            have f0 := blk_free 0 hz
            have f1 := blk_free 1 hz
            have f2 := blk_free 2 hz
            have f3 := blk_free 3 hz
            have f4 := blk_free 4 hz
            clear hz
            refine wpAnyF_one (i := 6) (by kernel_rfl) rfl (fun K hK => ?_); go_simp
            have hM3 := hM2.put5 (.int .i64 ga) (.int .i64 sba) (.int .u64 (seeda : Int)) (.slice lpa lna lca) (.slice ppa pna pca) hne2
            clear hM2 z0 z1 z2 z3 z4 f0 f1 f2 f3 f4
            refine hK.out _ _ (fun _ => hM3.low) ?_; clear hK K; try simp only [Act.put, List.getElem_toArray, List.getElem_cons_succ, List.getElem_cons_zero, List.setIfInBounds_toArray, List.set_cons_zero, List.set_cons_succ]
            generalize World.setCell _ _ _ = X7 at hM3 ⊢
            have hM4 := hM3.swap
            clear hM3
            have hz := (hM4.blk _ (List.mem_cons_self ..)).2
            simp only at hz
            obtain ⟨z0, z1, z2, z3, z4⟩ := cells5' hz
            have f0 := blk_free 0 hz
            have f1 := blk_free 1 hz
            have f2 := blk_free 2 hz
            have f3 := blk_free 3 hz
            have f4 := blk_free 4 hz
            clear hz
            refine wpAnyF_one (i := 7) (by kernel_rfl) rfl (fun K hK => ?_); go_simp
            have hM5 := hM4.put5 (.int .i64 gb) (.int .i64 sbb) (.int .u64 (seedb : Int)) (.slice lpb lnb lcb) (.slice ppb pnb pcb) hne2.symm
            clear hM4 z0 z1 z2 z3 z4 f0 f1 f2 f3 f4
            refine hK.out _ _ (fun _ => hM5.low) ?_; clear hK K; try simp only [Act.put, List.getElem_toArray, List.getElem_cons_succ, List.getElem_cons_zero, List.setIfInBounds_toArray, List.set_cons_zero, List.set_cons_succ]
            generalize World.setCell _ _ _ = X8 at hM5 ⊢
            refine wpAnyF_done (by kernel_rfl) ?_ _
            go_wp2
            go_meet
            exact ⟨b7, b8, s1, s2, rfl, rfl, hM5.at (by simp) (by simp) hAa hAb hsa hsb⟩
      ·
        go_simp
        have hne : b7 ≠ V17.heap.size := hM.fresh (List.mem_cons_self ..)
        replace hM := hM.box
        refine hK.out _ _ (fun _ => hM.low) ?_; clear hK K; try simp only [Act.put, List.getElem_toArray, List.getElem_cons_succ, List.getElem_cons_zero, List.setIfInBounds_toArray, List.set_cons_zero, List.set_cons_succ]
        generalize V17.alloc _ = V23 at hM ⊢
        generalize V17.heap.size = b8 at hM hne ⊢
        refine wpAnyF_one (i := 1) (by kernel_rfl) rfl (fun K hK => ?_)
        ·
          go_simp
          refine (O1'h.out _ hM.low).mono ?_
          rintro e V24 ⟨s1, rfl, hBV, hI, hO, hsa⟩
          dsimp only
          replace hM := hM.sm hBV hI hO
          clear hBV hI hO
          obtain ⟨ga, sba, seeda, lpa, lna, lca, rowsa, ppa, pna, pca, psa⟩ := s1
          obtain ⟨s1, hsma⟩ : ∃ s : Sm, s = ⟨ga, sba, seeda, lpa, lna, lca, rowsa, ppa, pna, pca, psa⟩ := ⟨_, rfl⟩
          have hAa : smA s1 = #[.int .i64 ga, .int .i64 sba, .int .u64 (seeda : Int), .slice lpa lna lca, .slice ppa pna pca] := by rw [hsma]; rfl
          have hpna : s1.pn = pna := by rw [hsma]
          rw [← hsma] at hM hsa ⊢
          rw [hAa]
          clear hsma
          refine hK.out _ _ (fun _ => hM.low) ?_; clear hK K; try simp only [Act.put, List.getElem_toArray, List.getElem_cons_succ, List.getElem_cons_zero, List.setIfInBounds_toArray, List.set_cons_zero, List.set_cons_succ]
          refine wpAnyF_one (i := 3) (by kernel_rfl) rfl (fun K hK => ?_)
          ·
            go_simp
            refine (O2'h.out _ hM.low).mono ?_
            rintro e V25 ⟨s2, rfl, hBV, hI, hO, hsb⟩
            dsimp only
            replace hM := hM.sm hBV hI hO
            clear hBV hI hO
            obtain ⟨gb, sbb, seedb, lpb, lnb, lcb, rowsb, ppb, pnb, pcb, psb⟩ := s2
            obtain ⟨s2, hsmb⟩ : ∃ s : Sm, s = ⟨gb, sbb, seedb, lpb, lnb, lcb, rowsb, ppb, pnb, pcb, psb⟩ := ⟨_, rfl⟩
            have hAb : smA s2 = #[.int .i64 gb, .int .i64 sbb, .int .u64 (seedb : Int), .slice lpb lnb lcb, .slice ppb pnb pcb] := by rw [hsmb]; rfl
            have hpnb : s2.pn = pnb := by rw [hsmb]
            rw [← hsmb] at hM hsb ⊢
            rw [hAb]
            clear hsmb
            refine hK.out _ _ (fun _ => hM.low) ?_; clear hK K; try simp only [Act.put, List.getElem_toArray, List.getElem_cons_succ, List.getElem_cons_zero, List.setIfInBounds_toArray, List.set_cons_zero, List.set_cons_succ]
            have hM2 := MayI.swap hM
            have hne2 : b7 ≠ b8 := hne
            clear hM
            have hz := (hM2.blk _ (List.mem_cons_self ..)).2
            simp only at hz
            obtain ⟨z0, z1, z2, z3, z4⟩ := cells5' hz
            have f0 := blk_free 0 hz
            have f1 := blk_free 1 hz
            have f2 := blk_free 2 hz
            have f3 := blk_free 3 hz
            have f4 := blk_free 4 hz
            clear hz
            refine wpAnyF_one (i := 6) (by kernel_rfl) rfl (fun K hK => ?_); go_simp
            have hM3 := hM2.put5 (.int .i64 ga) (.int .i64 sba) (.int .u64 (seeda : Int)) (.slice lpa lna lca) (.slice ppa pna pca) hne2
            clear hM2 z0 z1 z2 z3 z4 f0 f1 f2 f3 f4
            refine hK.out _ _ (fun _ => hM3.low) ?_; clear hK K; try simp only [Act.put, List.getElem_toArray, List.getElem_cons_succ, List.getElem_cons_zero, List.setIfInBounds_toArray, List.set_cons_zero, List.set_cons_succ]
            generalize World.setCell _ _ _ = X7 at hM3 ⊢
            have hM4 := hM3.swap
            clear hM3
            have hz := (hM4.blk _ (List.mem_cons_self ..)).2
            simp only at hz
            obtain ⟨z0, z1, z2, z3, z4⟩ := cells5' hz
            have f0 := blk_free 0 hz
            have f1 := blk_free 1 hz
            have f2 := blk_free 2 hz
            have f3 := blk_free 3 hz
            have f4 := blk_free 4 hz
            clear hz
            refine wpAnyF_one (i := 7) (by kernel_rfl) rfl (fun K hK => ?_); go_simp
            have hM5 := hM4.put5 (.int .i64 gb) (.int .i64 sbb) (.int .u64 (seedb : Int)) (.slice lpb lnb lcb) (.slice ppb pnb pcb) hne2.symm
            clear hM4 z0 z1 z2 z3 z4 f0 f1 f2 f3 f4
            refine hK.out _ _ (fun _ => hM5.low) ?_; clear hK K; try simp only [Act.put, List.getElem_toArray, List.getElem_cons_succ, List.getElem_cons_zero, List.setIfInBounds_toArray, List.set_cons_zero, List.set_cons_succ]
            generalize World.setCell _ _ _ = X8 at hM5 ⊢
            refine wpAnyF_done (by kernel_rfl) ?_ _
            go_wp2
            go_meet
            exact ⟨b7, b8, s1, s2, rfl, rfl, hM5.at (by simp) (by simp) hAa hAb hsa hsb⟩
    ·
      go_simp
      replace hM := hM.box
      refine hK.out _ _ (fun _ => hM.low) ?_; clear hK K; try simp only [Act.put, List.getElem_toArray, List.getElem_cons_succ, List.getElem_cons_zero, List.setIfInBounds_toArray, List.set_cons_zero, List.set_cons_succ]
      generalize V0.alloc _ = V26 at hM ⊢
      generalize V0.heap.size = b8 at hM ⊢
      refine wpAnyF_two (i := 1) (j := 4) (by kernel_rfl) rfl rfl (fun K hK => ?_) (fun K hK => ?_)
      ·
        go_simp
        refine (O1'h.out _ hM.low).mono ?_
        rintro e V27 ⟨s1, rfl, hBV, hI, hO, hsa⟩
        dsimp only
        replace hM := hM.sm hBV hI hO
        clear hBV hI hO
        obtain ⟨ga, sba, seeda, lpa, lna, lca, rowsa, ppa, pna, pca, psa⟩ := s1
        obtain ⟨s1, hsma⟩ : ∃ s : Sm, s = ⟨ga, sba, seeda, lpa, lna, lca, rowsa, ppa, pna, pca, psa⟩ := ⟨_, rfl⟩
        have hAa : smA s1 = #[.int .i64 ga, .int .i64 sba, .int .u64 (seeda : Int), .slice lpa lna lca, .slice ppa pna pca] := by rw [hsma]; rfl
        have hpna : s1.pn = pna := by rw [hsma]
        rw [← hsma] at hM hsa ⊢
        rw [hAa]
        clear hsma
        refine hK.out _ _ (fun _ => hM.low) ?_; clear hK K; try simp only [Act.put, List.getElem_toArray, List.getElem_cons_succ, List.getElem_cons_zero, List.setIfInBounds_toArray, List.set_cons_zero, List.set_cons_succ]
        refine wpAnyF_two (i := 3) (j := 4) (by kernel_rfl) rfl rfl (fun K hK => ?_) (fun K hK => ?_)
        ·
          go_simp
          refine (O2'h.out _ hM.low).mono ?_
          rintro e V28 ⟨s2, rfl, hBV, hI, hO, hsb⟩
          dsimp only
          replace hM := hM.sm hBV hI hO
          clear hBV hI hO
          obtain ⟨gb, sbb, seedb, lpb, lnb, lcb, rowsb, ppb, pnb, pcb, psb⟩ := s2
          obtain ⟨s2, hsmb⟩ : ∃ s : Sm, s = ⟨gb, sbb, seedb, lpb, lnb, lcb, rowsb, ppb, pnb, pcb, psb⟩ := ⟨_, rfl⟩
          have hAb : smA s2 = #[.int .i64 gb, .int .i64 sbb, .int .u64 (seedb : Int), .slice lpb lnb lcb, .slice ppb pnb pcb] := by rw [hsmb]; rfl
          have hpnb : s2.pn = pnb := by rw [hsmb]
          rw [← hsmb] at hM hsb ⊢
          rw [hAb]
          clear hsmb
          refine hK.out _ _ (fun _ => hM.low) ?_; clear hK K; try simp only [Act.put, List.getElem_toArray, List.getElem_cons_succ, List.getElem_cons_zero, List.setIfInBounds_toArray, List.set_cons_zero, List.set_cons_succ]
          refine wpAnyF_one (i := 4) (by kernel_rfl) rfl (fun K hK => ?_)
          ·
            go_simp
            have hne : b8 ≠ V28.heap.size := hM.fresh (List.mem_cons_self ..)
            replace hM := hM.box
            refine hK.out _ _ (fun _ => hM.low) ?_; clear hK K; try simp only [Act.put, List.getElem_toArray, List.getElem_cons_succ, List.getElem_cons_zero, List.setIfInBounds_toArray, List.set_cons_zero, List.set_cons_succ]
            generalize V28.alloc _ = V29 at hM ⊢
            generalize V28.heap.size = b7 at hM hne ⊢
            have hM2 := id hM
            have hne2 : b7 ≠ b8 := hne.symm
            clear hM
            have hz := (hM2.blk _ (List.mem_cons_self ..)).2
            simp only at hz
            obtain ⟨z0, z1, z2, z3, z4⟩ := cells5' hz
            have f0 := blk_free 0 hz
            have f1 := blk_free 1 hz
            have f2 := blk_free 2 hz
            have f3 := blk_free 3 hz
            have f4 := blk_free 4 hz
            clear hz
            refine wpAnyF_one (i := 6) (by kernel_rfl) rfl (fun K hK => ?_); go_simp
            have hM3 := hM2.put5 (.int .i64 ga) (.int .i64 sba) (.int .u64 (seeda : Int)) (.slice lpa lna lca) (.slice ppa pna pca) hne2
            clear hM2 z0 z1 z2 z3 z4 f0 f1 f2 f3 f4
            refine hK.out _ _ (fun _ => hM3.low) ?_; clear hK K; try simp only [Act.put, List.getElem_toArray, List.getElem_cons_succ, List.getElem_cons_zero, List.setIfInBounds_toArray, List.set_cons_zero, List.set_cons_succ]
            generalize World.setCell _ _ _ = X7 at hM3 ⊢
            have hM4 := hM3.swap
            clear hM3
            have hz := (hM4.blk _ (List.mem_cons_self ..)).2
            simp only at hz
            obtain ⟨z0, z1, z2, z3, z4⟩ := cells5' hz
            have f0 := blk_free 0 hz
            have f1 := blk_free 1 hz
            have f2 := blk_free 2 hz
            have f3 := blk_free 3 hz
            have f4 := blk_free 4 hz
            clear hz
            refine wpAnyF_one (i := 7) (by kernel_rfl) rfl (fun K hK => ?_); go_simp
            have hM5 := hM4.put5 (.int .i64 gb) (.int .i64 sbb) (.int .u64 (seedb : Int)) (.slice lpb lnb lcb) (.slice ppb pnb pcb) hne2.symm
            clear hM4 z0 z1 z2 z3 z4 f0 f1 f2 f3 f4
            refine hK.out _ _ (fun _ => hM5.low) ?_; clear hK K; try simp only [Act.put, List.getElem_toArray, List.getElem_cons_succ, List.getElem_cons_zero, List.setIfInBounds_toArray, List.set_cons_zero, List.set_cons_succ]
            generalize World.setCell _ _ _ = X8 at hM5 ⊢
            refine wpAnyF_done (by kernel_rfl) ?_ _
            go_wp2
            go_meet
            exact ⟨b7, b8, s1, s2, rfl, rfl, hM5.at (by simp) (by simp) hAa hAb hsa hsb⟩
        ·
          go_simp
          have hne : b8 ≠ V27.heap.size := hM.fresh (List.mem_cons_self ..)
          replace hM := hM.box
          refine hK.out _ _ (fun _ => hM.low) ?_; clear hK K; try simp only [Act.put, List.getElem_toArray, List.getElem_cons_succ, List.getElem_cons_zero, List.setIfInBounds_toArray, List.set_cons_zero, List.set_cons_succ]
          generalize V27.alloc _ = V30 at hM ⊢
          generalize V27.heap.size = b7 at hM hne ⊢
          refine wpAnyF_one (i := 3) (by kernel_rfl) rfl (fun K hK => ?_)
          ·
            go_simp
            refine (O2'h.out _ hM.low).mono ?_
            rintro e V31 ⟨s2, rfl, hBV, hI, hO, hsb⟩
            dsimp only
            replace hM := hM.sm hBV hI hO
            clear hBV hI hO
            obtain ⟨gb, sbb, seedb, lpb, lnb, lcb, rowsb, ppb, pnb, pcb, psb⟩ := s2
            obtain ⟨s2, hsmb⟩ : ∃ s : Sm, s = ⟨gb, sbb, seedb, lpb, lnb, lcb, rowsb, ppb, pnb, pcb, psb⟩ := ⟨_, rfl⟩
            have hAb : smA s2 = #[.int .i64 gb, .int .i64 sbb, .int .u64 (seedb : Int), .slice lpb lnb lcb, .slice ppb pnb pcb] := by rw [hsmb]; rfl
            have hpnb : s2.pn = pnb := by rw [hsmb]
            rw [← hsmb] at hM hsb ⊢
            rw [hAb]
            clear hsmb
            refine hK.out _ _ (fun _ => hM.low) ?_; clear hK K; try simp only [Act.put, List.getElem_toArray, List.getElem_cons_succ, List.getElem_cons_zero, List.setIfInBounds_toArray, List.set_cons_zero, List.set_cons_succ]
            have hM2 := id hM
            have hne2 : b7 ≠ b8 := hne.symm
            clear hM
            have hz := (hM2.blk _ (List.mem_cons_self ..)).2
            simp only at hz
            obtain ⟨z0, z1, z2, z3, z4⟩ := cells5' hz
            have f0 := blk_free 0 hz
            have f1 := blk_free 1 hz
            have f2 := blk_free 2 hz
            have f3 := blk_free 3 hz
            have f4 := blk_free 4 hz
            clear hz
            refine wpAnyF_one (i := 6) (by kernel_rfl) rfl (fun K hK => ?_); go_simp
            have hM3 := hM2.put5 (.int .i64 ga) (.int .i64 sba) (.int .u64 (seeda : Int)) (.slice lpa lna lca) (.slice ppa pna pca) hne2
            clear hM2 z0 z1 z2 z3 z4 f0 f1 f2 f3 f4
            refine hK.out _ _ (fun _ => hM3.low) ?_; clear hK K; try simp only [Act.put, List.getElem_toArray, List.getElem_cons_succ, List.getElem_cons_zero, List.setIfInBounds_toArray, List.set_cons_zero, List.set_cons_succ]
            generalize World.setCell _ _ _ = X7 at hM3 ⊢
            have hM4 := hM3.swap
            clear hM3
            have hz := (hM4.blk _ (List.mem_cons_self ..)).2
            simp only at hz
            obtain ⟨z0, z1, z2, z3, z4⟩ := cells5' hz
            have f0 := blk_free 0 hz
            have f1 := blk_free 1 hz
            have f2 := blk_free 2 hz
            have f3 := blk_free 3 hz
            have f4 := blk_free 4 hz
            clear hz
            refine wpAnyF_one (i := 7) (by kernel_rfl) rfl (fun K hK => ?_); go_simp
            have hM5 := hM4.put5 (.int .i64 gb) (.int .i64 sbb) (.int .u64 (seedb : Int)) (.slice lpb lnb lcb) (.slice ppb pnb pcb) hne2.symm
            clear hM4 z0 z1 z2 z3 z4 f0 f1 f2 f3 f4
            refine hK.out _ _ (fun _ => hM5.low) ?_; clear hK K; try simp only [Act.put, List.getElem_toArray, List.getElem_cons_succ, List.getElem_cons_zero, List.setIfInBounds_toArray, List.set_cons_zero, List.set_cons_succ]
            generalize World.setCell _ _ _ = X8 at hM5 ⊢
            refine wpAnyF_done (by kernel_rfl) ?_ _
            go_wp2
            go_meet
            exact ⟨b7, b8, s1, s2, rfl, rfl, hM5.at (by simp) (by simp) hAa hAb hsa hsb⟩
      ·
        go_simp
        have hne : b8 ≠ V26.heap.size := hM.fresh (List.mem_cons_self ..)
        replace hM := hM.box
        refine hK.out _ _ (fun _ => hM.low) ?_; clear hK K; try simp only [Act.put, List.getElem_toArray, List.getElem_cons_succ, List.getElem_cons_zero, List.setIfInBounds_toArray, List.set_cons_zero, List.set_cons_succ]
        generalize V26.alloc _ = V32 at hM ⊢
        generalize V26.heap.size = b7 at hM hne ⊢
        refine wpAnyF_one (i := 1) (by kernel_rfl) rfl (fun K hK => ?_)
        ·
          go_simp
          refine (O1'h.out _ hM.low).mono ?_
          rintro e V33 ⟨s1, rfl, hBV, hI, hO, hsa⟩
          dsimp only
          replace hM := hM.sm hBV hI hO
          clear hBV hI hO
          obtain ⟨ga, sba, seeda, lpa, lna, lca, rowsa, ppa, pna, pca, psa⟩ := s1
          obtain ⟨s1, hsma⟩ : ∃ s : Sm, s = ⟨ga, sba, seeda, lpa, lna, lca, rowsa, ppa, pna, pca, psa⟩ := ⟨_, rfl⟩
          have hAa : smA s1 = #[.int .i64 ga, .int .i64 sba, .int .u64 (seeda : Int), .slice lpa lna lca, .slice ppa pna pca] := by rw [hsma]; rfl
          have hpna : s1.pn = pna := by rw [hsma]
          rw [← hsma] at hM hsa ⊢
          rw [hAa]
          clear hsma
          refine hK.out _ _ (fun _ => hM.low) ?_; clear hK K; try simp only [Act.put, List.getElem_toArray, List.getElem_cons_succ, List.getElem_cons_zero, List.setIfInBounds_toArray, List.set_cons_zero, List.set_cons_succ]
          refine wpAnyF_one (i := 3) (by kernel_rfl) rfl (fun K hK => ?_)
          ·
            go_simp
            refine (O2'h.out _ hM.low).mono ?_
            rintro e V34 ⟨s2, rfl, hBV, hI, hO, hsb⟩
            dsimp only
            replace hM := hM.sm hBV hI hO
            clear hBV hI hO
            obtain ⟨gb, sbb, seedb, lpb, lnb, lcb, rowsb, ppb, pnb, pcb, psb⟩ := s2
            obtain ⟨s2, hsmb⟩ : ∃ s : Sm, s = ⟨gb, sbb, seedb, lpb, lnb, lcb, rowsb, ppb, pnb, pcb, psb⟩ := ⟨_, rfl⟩
            have hAb : smA s2 = #[.int .i64 gb, .int .i64 sbb, .int .u64 (seedb : Int), .slice lpb lnb lcb, .slice ppb pnb pcb] := by rw [hsmb]; rfl
            have hpnb : s2.pn = pnb := by rw [hsmb]
            rw [← hsmb] at hM hsb ⊢
            rw [hAb]
            clear hsmb
            refine hK.out _ _ (fun _ => hM.low) ?_; clear hK K; try simp only [Act.put, List.getElem_toArray, List.getElem_cons_succ, List.getElem_cons_zero, List.setIfInBounds_toArray, List.set_cons_zero, List.set_cons_succ]
            have hM2 := id hM
            have hne2 : b7 ≠ b8 := hne.symm
            clear hM
            have hz := (hM2.blk _ (List.mem_cons_self ..)).2
            simp only at hz
            obtain ⟨z0, z1, z2, z3, z4⟩ := cells5' hz
            have f0 := blk_free 0 hz
            have f1 := blk_free 1 hz
            have f2 := blk_free 2 hz
            have f3 := blk_free 3 hz
            have f4 := blk_free 4 hz
            clear hz
            refine wpAnyF_one (i := 6) (by kernel_rfl) rfl (fun K hK => ?_); go_simp
            have hM3 := hM2.put5 (.int .i64 ga) (.int .i64 sba) (.int .u64 (seeda : Int)) (.slice lpa lna lca) (.slice ppa pna pca) hne2
            clear hM2 z0 z1 z2 z3 z4 f0 f1 f2 f3 f4
            refine hK.out _ _ (fun _ => hM3.low) ?_; clear hK K; try simp only [Act.put, List.getElem_toArray, List.getElem_cons_succ, List.getElem_cons_zero, List.setIfInBounds_toArray, List.set_cons_zero, List.set_cons_succ]
            generalize World.setCell _ _ _ = X7 at hM3 ⊢
            have hM4 := hM3.swap
            clear hM3
            have hz := (hM4.blk _ (List.mem_cons_self ..)).2
            simp only at hz
            obtain ⟨z0, z1, z2, z3, z4⟩ := cells5' hz
            have f0 := blk_free 0 hz
            have f1 := blk_free 1 hz
            have f2 := blk_free 2 hz
            have f3 := blk_free 3 hz
            have f4 := blk_free 4 hz
            clear hz
            refine wpAnyF_one (i := 7) (by kernel_rfl) rfl (fun K hK => ?_); go_simp
            have hM5 := hM4.put5 (.int .i64 gb) (.int .i64 sbb) (.int .u64 (seedb : Int)) (.slice lpb lnb lcb) (.slice ppb pnb pcb) hne2.symm
            clear hM4 z0 z1 z2 z3 z4 f0 f1 f2 f3 f4
            refine hK.out _ _ (fun _ => hM5.low) ?_; clear hK K; try simp only [Act.put, List.getElem_toArray, List.getElem_cons_succ, List.getElem_cons_zero, List.setIfInBounds_toArray, List.set_cons_zero, List.set_cons_succ]
            generalize World.setCell _ _ _ = X8 at hM5 ⊢
            refine wpAnyF_done (by kernel_rfl) ?_ _
            go_wp2
            go_meet
            exact ⟨b7, b8, s1, s2, rfl, rfl, hM5.at (by simp) (by simp) hAa hAb hsa hsb⟩
  case rest =>
    obtain ⟨b7, b8, s1, s2, rfl, rfl, hM⟩ := hcut
    have hTc := hT1'h.out.next hM.low
    have hoc := ho1'h.out.below hM.low
    have hxc := heap_below hM.low hb1'h.out (lt_of_heap hb1'h.out)
    have hBc := below_next hB01'h.out hM.low
    have XC : ∀ V, Below wc.heap.size wc V → Calls Tryd.prog 10 #[.agg #[.int .i64 gx, .int .i64 sbx, .int .u64 (seedx : Int), .slice lpx lnx lcx, .slice ppx pnx pcx]] V fun e w' => SmAt V (ownS xs.scr) e w' := fun V hV => X1'h.out V (below_next hM.low hV)
    have m1 := hM.one
    have m2 := hM.two
    have n1 := hM.in1
    have n2 := hM.in2
    have q1 := hM.scr1
    clear hM hT1'h ho1'h hb1'h hb2'h hB01'h O1'h O2'h X1'h
    obtain ⟨ga, sba, seeda, lpa, lna, lca, rowsa, ppa, pna, pca, psa⟩ := s1
    obtain ⟨s1, hsma⟩ : ∃ s : Sm, s = ⟨ga, sba, seeda, lpa, lna, lca, rowsa, ppa, pna, pca, psa⟩ := ⟨_, rfl⟩
    have hAa : smA s1 = #[.int .i64 ga, .int .i64 sba, .int .u64 (seeda : Int), .slice lpa lna lca, .slice ppa pna pca] := by rw [hsma]; rfl
    have hpna : s1.pn = pna := by rw [hsma]
    rw [← hsma] at m1 n1 q1
    clear hsma
    obtain ⟨gb, sbb, seedb, lpb, lnb, lcb, rowsb, ppb, pnb, pcb, psb⟩ := s2
    obtain ⟨s2, hsmb⟩ : ∃ s : Sm, s = ⟨gb, sbb, seedb, lpb, lnb, lcb, rowsb, ppb, pnb, pcb, psb⟩ := ⟨_, rfl⟩
    have hAb : smA s2 = #[.int .i64 gb, .int .i64 sbb, .int .u64 (seedb : Int), .slice lpb lnb lcb, .slice ppb pnb pcb] := by rw [hsmb]; rfl
    have hpnb : s2.pn = pnb := by rw [hsmb]
    rw [← hsmb] at m2 n2
    clear hsmb
    rw [hAa] at m1
    rw [hAb] at m2
    have hTc'h := Lib.hid hTc
    have hoc'h := Lib.hid hoc
    have hxc'h := Lib.hid hxc
    have hBc'h := Lib.hid hBc
    have XC'h := Lib.hid XC
    have m1'h := Lib.hid m1
    have m2'h := Lib.hid m2
    have n1'h := Lib.hid n1
    have n2'h := Lib.hid n2
    have q1'h := Lib.hid q1
    clear hTc hoc hxc hBc XC m1 m2 n1 n2 q1
    go_wp2
    go_loopg [20] on (fun q ix wr => ∃ j : Nat, j + q = on ∧ ix = .int .i64 (j : Int) ∧ Below wc.heap.size wc wr)
    case atStart => exact ⟨0, by omega, rfl, Below.refl _ _⟩
    case round =>
      obtain ⟨j, hj, rfl, hB⟩ := hrel
      by_cases hlt : j < on
      · have i1 : (j : Int) < (on : Int) := by omega
        have i2 : (0 : Int) ≤ (j : Int) := by omega
        have hmax := hoc'h.out.2.1
        unfold maxLen at hmax
        have i3 : (j : Int) + 1 ≤ 9223372036854775807 := by omega
        have hS := hoc'h.out.below hB
        have hjl : j < os.length := by have := hoc'h.out.1; simp at this; omega
        obtain ⟨b0, o0, rfl, hc⟩ := hS.some' (by omega)
        obtain ⟨x, hx⟩ : ∃ x, os[j]? = some x := ⟨_, List.getElem?_eq_getElem hjl⟩
        have c1 : wr.cell? ⟨b0, o0 + j, none⟩ = some (.int .i64 x) := hc j _ (by rw [List.getElem?_map, hx]; rfl)
        clear hS hc hx hmax
        by_cases h12 : j < 12
        · have i4 : (j : Int) < 12 := by omega
          have T1 := takes_any x wr (hTc'h.out.next hB)
          have T2 := dtakes_any x wr
          obtain ⟨t, ht⟩ : ∃ t, t = takesI x := ⟨_, rfl⟩
          rw [← ht] at T1 T2
          have i5 : (t != t) = false := by simp
          clear ht
          have hj'h := Lib.hid hj
          have hB'h := Lib.hid hB
          have T1'h := Lib.hid T1
          have T2'h := Lib.hid T2
          clear hj hB T1 T2
          go_wp2_with fail
          refine T1'h.out.mono ?_
          rintro e w5 ⟨rfl, hw5⟩
          obtain rfl := hw5.symm
          go_wp2_with fail
          refine T2'h.out.mono ?_
          rintro e w5 ⟨rfl, hw5⟩
          obtain rfl := hw5.symm
          go_wp2
          go_roundg (gk - 1)
          case measure => have := hj'h.out; omega
          case rel => exact ⟨j + 1, by have := hj'h.out; omega, by go_num, hB'h.out⟩
        · have i4 : ¬ (j : Int) < 12 := by omega
          have hj'h := Lib.hid hj
          have hB'h := Lib.hid hB
          clear hj hB
          go_wp2
          go_roundg (gk - 1)
          case measure => have := hj'h.out; omega
          case rel => exact ⟨j + 1, by have := hj'h.out; omega, by go_num, hB'h.out⟩
      · have i1 : ¬ (j : Int) < (on : Int) := by omega
        have r1 := heap_below hB m1'h.out (lt_of_heap m1'h.out)
        have C := check_any s1 wr (hTc'h.out.next hB) (n1'h.out.below hB)
        rw [hAa] at C
        obtain ⟨c0, hc0⟩ : ∃ c, c = chkS s1.scr := ⟨_, rfl⟩
        obtain ⟨r0, hr0⟩ : ∃ r, r = rightS s1.scr := ⟨_, rfl⟩
        have hcr : c0 = if r0 = true then 0 else 130 := by rw [hc0, hr0]; rfl
        rw [← hc0] at C
        obtain ⟨x0, x1, x2, x3, x4⟩ := cells5' r1
        clear hj r1 hc0
        have hB'h := Lib.hid hB
        have C'h := Lib.hid C
        have hr0'h := Lib.hid hr0
        clear hB C hr0
        cases r0 with
        | true =>
          obtain rfl : c0 = 0 := hcr
          go_wp2_with fail
          refine C'h.out.mono ?_
          rintro e w6 ⟨rfl, hB6⟩
          have hB7 := below_next hB'h.out hB6
          have r1 := heap_below hB7 m1'h.out (lt_of_heap m1'h.out)
          have D := dright_any s1 w6 (n1'h.out.below hB7)
          rw [hAa, ← hr0'h.out] at D
          clear x0 x1 x2 x3 x4 hB6 C'h
          obtain ⟨x0, x1, x2, x3, x4⟩ := cells5' r1
          clear r1
          have hB7'h := Lib.hid hB7
          have D'h := Lib.hid D
          clear hB7 D
          go_wp2_with fail
          refine D'h.out.mono ?_
          rintro e w5 ⟨rfl, hB8⟩
          have hB5 := below_next hB7'h.out hB8
          clear x0 x1 x2 x3 x4 hB8 D'h hB'h hB7'h hr0'h
          have z7 := heap_below hB5 m1'h.out (lt_of_heap m1'h.out)
          have z8 := heap_below hB5 m2'h.out (lt_of_heap m2'h.out)
          have zx := heap_below hB5 hxc'h.out (lt_of_heap hxc'h.out)
          have I1 : ∀ V, Below w5.heap.size w5 V → SmIn V s1 := fun V hV => n1'h.out.below (below_next hB5 hV)
          have I2 : ∀ V, Below w5.heap.size w5 V → SmIn V s2 := fun V hV => n2'h.out.below (below_next hB5 hV)
          have TT : ∀ V, Below w5.heap.size w5 V → Tks V := fun V hV => hTc'h.out.next (below_next hB5 hV)
          have OX : ∀ V, Below w5.heap.size w5 V → Calls Tryd.prog 10 #[.agg #[.int .i64 gx, .int .i64 sbx, .int .u64 (seedx : Int), .slice lpx lnx lcx, .slice ppx pnx pcx]] V fun e w' => SmAt V (ownS xs.scr) e w' := fun V hV => XC'h.out V (below_next hB5 hV)
          have hBB := below_next hBc'h.out hB5
          clear m1'h m2'h hxc'h XC'h hBc'h hB5 n1'h n2'h hTc'h hoc'h
          obtain ⟨r, hr⟩ : ∃ r, r = decide (s1.scr = s2.scr) := ⟨_, rfl⟩
          have hrr : (r == r) = true := by simp
          have I1'h := Lib.hid I1
          have I2'h := Lib.hid I2
          have TT'h := Lib.hid TT
          have OX'h := Lib.hid OX
          have hBB'h := Lib.hid hBB
          have hr'h := Lib.hid hr
          clear I1 I2 TT OX hBB hr
          go_upto_region 13 with fail
          refine wp_region_heldF (fun w' => Below w5.heap.size w5 w') 99 (by kernel_rfl) ?_
          have R := (Below.refl w5.heap.size w5).drew
          generalize w5.drew = V0 at R ⊢
          refine wpAnyF_take (i := 0) (v := .agg #[.int .i64 ga, .int .i64 sba, .int .u64 (seeda : Int), .slice lpa lna lca, .slice ppa pna pca]) rfl (by kernel_rfl) (by kernel_rfl) (by kernel_rfl) (by kernel_rfl) (fun _ _ _ h => h) (Or.inl ⟨by kernel_rfl, fun w hSw => run_load_agg (by rfl) (by rfl) (heap_below hSw z7 (lt_of_heap z7)) Tryd.underlying26 rfl info_sm⟩) R ?_; try simp only [Act.put, List.getElem_toArray, List.getElem_cons_succ, List.getElem_cons_zero, List.setIfInBounds_toArray, List.set_cons_zero, List.set_cons_succ]
          refine wpAnyF_take (i := 1) (v := .agg #[.int .i64 gb, .int .i64 sbb, .int .u64 (seedb : Int), .slice lpb lnb lcb, .slice ppb pnb pcb]) rfl (by kernel_rfl) (by kernel_rfl) (by kernel_rfl) (by kernel_rfl) (fun _ _ _ h => h) (Or.inl ⟨by kernel_rfl, fun w hSw => run_load_agg (by rfl) (by rfl) (heap_below hSw z8 (lt_of_heap z8)) Tryd.underlying26 rfl info_sm⟩) R ?_; try simp only [Act.put, List.getElem_toArray, List.getElem_cons_succ, List.getElem_cons_zero, List.setIfInBounds_toArray, List.set_cons_zero, List.set_cons_succ]
          refine wpAnyF_take (i := 3) (v := .agg #[.int .i64 ga, .int .i64 sba, .int .u64 (seeda : Int), .slice lpa lna lca, .slice ppa pna pca]) rfl (by kernel_rfl) (by kernel_rfl) (by kernel_rfl) (by kernel_rfl) (fun _ _ _ h => h) (Or.inl ⟨by kernel_rfl, fun w hSw => run_load_agg (by rfl) (by rfl) (heap_below hSw z7 (lt_of_heap z7)) Tryd.underlying26 rfl info_sm⟩) R ?_; try simp only [Act.put, List.getElem_toArray, List.getElem_cons_succ, List.getElem_cons_zero, List.setIfInBounds_toArray, List.set_cons_zero, List.set_cons_succ]
          refine wpAnyF_take (i := 4) (v := .agg #[.int .i64 gb, .int .i64 sbb, .int .u64 (seedb : Int), .slice lpb lnb lcb, .slice ppb pnb pcb]) rfl (by kernel_rfl) (by kernel_rfl) (by kernel_rfl) (by kernel_rfl) (fun _ _ _ h => h) (Or.inl ⟨by kernel_rfl, fun w hSw => run_load_agg (by rfl) (by rfl) (heap_below hSw z8 (lt_of_heap z8)) Tryd.underlying26 rfl info_sm⟩) R ?_; try simp only [Act.put, List.getElem_toArray, List.getElem_cons_succ, List.getElem_cons_zero, List.setIfInBounds_toArray, List.set_cons_zero, List.set_cons_succ]
          have C := same_any s1 s2 V0 (I1'h.out V0 R) (I2'h.out V0 R)
          rw [← hr'h.out, hAa, hAb] at C
          refine wpAnyF_one (i := 2) (by kernel_rfl) rfl (fun K hK => ?_); go_simp
          refine C.mono ?_
          rintro e V1 ⟨rfl, hV1⟩
          have R1 := below_next R hV1
          clear R hV1 C
          dsimp only
          refine hK.out _ _ (fun _ => R1) ?_; clear hK K; try simp only [Act.put, List.getElem_toArray, List.getElem_cons_succ, List.getElem_cons_zero, List.setIfInBounds_toArray, List.set_cons_zero, List.set_cons_succ]
          have C := dsame_any s1 s2 V1 (I1'h.out V1 R1) (I2'h.out V1 R1)
          rw [← hr'h.out, hAa, hAb] at C
          refine wpAnyF_one (i := 5) (by kernel_rfl) rfl (fun K hK => ?_); go_simp
          refine C.mono ?_
          rintro e V2 ⟨rfl, hV2⟩
          have R2 := below_next R1 hV2
          clear R1 hV2 C
          dsimp only
          refine hK.out _ _ (fun _ => R2) ?_; clear hK K; try simp only [Act.put, List.getElem_toArray, List.getElem_cons_succ, List.getElem_cons_zero, List.setIfInBounds_toArray, List.set_cons_zero, List.set_cons_succ]
          refine wpAnyF_take (i := 6) (v := .bool true) rfl (by kernel_rfl) (by kernel_rfl) (by kernel_rfl) (by kernel_rfl) (fun _ _ _ h => h) (Or.inl ⟨by kernel_rfl, fun w hSw => by (try dsimp only at hSw); go_simp⟩) R2 ?_; try simp only [Act.put, List.getElem_toArray, List.getElem_cons_succ, List.getElem_cons_zero, List.setIfInBounds_toArray, List.set_cons_zero, List.set_cons_succ]
          refine wpAnyF_take (i := 7) (v := .bool true) rfl (by kernel_rfl) (by kernel_rfl) (by kernel_rfl) (by kernel_rfl) (fun _ _ _ h => h) (Or.inl ⟨by kernel_rfl, fun w hSw => by (try dsimp only at hSw); go_simp⟩) R2 ?_; try simp only [Act.put, List.getElem_toArray, List.getElem_cons_succ, List.getElem_cons_zero, List.setIfInBounds_toArray, List.set_cons_zero, List.set_cons_succ]
          refine wpAnyF_take (i := 8) (v := .agg #[.int .i64 ga, .int .i64 sba, .int .u64 (seeda : Int), .slice lpa lna lca, .slice ppa pna pca]) rfl (by kernel_rfl) (by kernel_rfl) (by kernel_rfl) (by kernel_rfl) (fun _ _ _ h => h) (Or.inl ⟨by kernel_rfl, fun w hSw => run_load_agg (by rfl) (by rfl) (heap_below hSw z7 (lt_of_heap z7)) Tryd.underlying26 rfl info_sm⟩) R2 ?_; try simp only [Act.put, List.getElem_toArray, List.getElem_cons_succ, List.getElem_cons_zero, List.setIfInBounds_toArray, List.set_cons_zero, List.set_cons_succ]
          refine wpAnyF_take (i := 9) (v := .agg #[.int .i64 gx, .int .i64 sbx, .int .u64 (seedx : Int), .slice lpx lnx lcx, .slice ppx pnx pcx]) rfl (by kernel_rfl) (by kernel_rfl) (by kernel_rfl) (by kernel_rfl) (fun _ _ _ h => h) (Or.inl ⟨by kernel_rfl, fun w hSw => run_load_agg (by rfl) (by rfl) (heap_below hSw zx (lt_of_heap zx)) Tryd.underlying26 rfl info_sm⟩) R2 ?_; try simp only [Act.put, List.getElem_toArray, List.getElem_cons_succ, List.getElem_cons_zero, List.setIfInBounds_toArray, List.set_cons_zero, List.set_cons_succ]
          refine wpAnyF_one (i := 10) (by kernel_rfl) rfl (fun K hK => ?_); go_simp
          refine (OX'h.out V2 R2).mono ?_
          rintro e V3 ⟨s3, rfl, hV3, hI3, hs3⟩
          have R3 := below_next R2 hV3
          clear R2 hV3
          dsimp only
          obtain ⟨gc, sbc, seedc, lpc, lnc, lcc, rowsc, ppc, pnc, pcc, psc⟩ := s3
          obtain ⟨s3, hsmc⟩ : ∃ s : Sm, s = ⟨gc, sbc, seedc, lpc, lnc, lcc, rowsc, ppc, pnc, pcc, psc⟩ := ⟨_, rfl⟩
          have hAc : smA s3 = #[.int .i64 gc, .int .i64 sbc, .int .u64 (seedc : Int), .slice lpc lnc lcc, .slice ppc pnc pcc] := by rw [hsmc]; rfl
          have hpnc : s3.pn = pnc := by rw [hsmc]
          rw [← hsmc] at hI3 hs3 ⊢
          rw [hAc]
          clear hsmc
          refine hK.out _ _ (fun _ => R3) ?_; clear hK K; try simp only [Act.put, List.getElem_toArray, List.getElem_cons_succ, List.getElem_cons_zero, List.setIfInBounds_toArray, List.set_cons_zero, List.set_cons_succ]
          have C := same_any s1 s3 V3 (I1'h.out V3 R3) hI3
          rw [q1'h.out, hs3, decide_eq_true rfl, hAa, hAc] at C
          refine wpAnyF_one (i := 11) (by kernel_rfl) rfl (fun K hK => ?_); go_simp
          refine C.mono ?_
          rintro e V4 ⟨rfl, hV4⟩
          have R4 := below_next R3 hV4
          clear R3 hV4 C hI3 hs3
          dsimp only
          refine hK.out _ _ (fun _ => R4) ?_; clear hK K; try simp only [Act.put, List.getElem_toArray, List.getElem_cons_succ, List.getElem_cons_zero, List.setIfInBounds_toArray, List.set_cons_zero, List.set_cons_succ]
          refine wpAnyF_take (i := 12) (v := .bool true) rfl (by kernel_rfl) (by kernel_rfl) (by kernel_rfl) (by kernel_rfl) (fun _ _ _ h => h) (Or.inl ⟨by kernel_rfl, fun w hSw => by (try dsimp only at hSw); go_simp⟩) R4 ?_; try simp only [Act.put, List.getElem_toArray, List.getElem_cons_succ, List.getElem_cons_zero, List.setIfInBounds_toArray, List.set_cons_zero, List.set_cons_succ]
          refine wpAnyF_take (i := 13) (v := .bool true) rfl (by kernel_rfl) (by kernel_rfl) (by kernel_rfl) (by kernel_rfl) (fun _ _ _ h => h) (Or.inl ⟨by kernel_rfl, fun w hSw => by (try dsimp only at hSw); go_simp⟩) R4 ?_; try simp only [Act.put, List.getElem_toArray, List.getElem_cons_succ, List.getElem_cons_zero, List.setIfInBounds_toArray, List.set_cons_zero, List.set_cons_succ]
          refine wpAnyF_take (i := 14) (v := .agg #[.int .i64 ga, .int .i64 sba, .int .u64 (seeda : Int), .slice lpa lna lca, .slice ppa pna pca]) rfl (by kernel_rfl) (by kernel_rfl) (by kernel_rfl) (by kernel_rfl) (fun _ _ _ h => h) (Or.inl ⟨by kernel_rfl, fun w hSw => run_load_agg (by rfl) (by rfl) (heap_below hSw z7 (lt_of_heap z7)) Tryd.underlying26 rfl info_sm⟩) R4 ?_; try simp only [Act.put, List.getElem_toArray, List.getElem_cons_succ, List.getElem_cons_zero, List.setIfInBounds_toArray, List.set_cons_zero, List.set_cons_succ]
          refine wpAnyF_take (i := 16) (v := .agg #[.int .i64 ga, .int .i64 sba, .int .u64 (seeda : Int), .slice lpa lna lca, .slice ppa pna pca]) rfl (by kernel_rfl) (by kernel_rfl) (by kernel_rfl) (by kernel_rfl) (fun _ _ _ h => h) (Or.inl ⟨by kernel_rfl, fun w hSw => run_load_agg (by rfl) (by rfl) (heap_below hSw z7 (lt_of_heap z7)) Tryd.underlying26 rfl info_sm⟩) R4 ?_; try simp only [Act.put, List.getElem_toArray, List.getElem_cons_succ, List.getElem_cons_zero, List.setIfInBounds_toArray, List.set_cons_zero, List.set_cons_succ]
          have C := keys_any s1 V4 (TT'h.out V4 R4) (I1'h.out V4 R4)
          rw [hAa] at C
          refine wpAnyF_one (i := 15) (by kernel_rfl) rfl (fun K hK => ?_); go_simp
          refine C.mono ?_
          rintro e V5 ⟨kp, kn, kc, rfl, hV5, hrow5⟩
          have R5 := below_next R4 hV5
          have hkn := hrow5.1
          rw [u64s_length] at hkn
          have hkl := keysL_le1056 (I1'h.out V4 R4)
          have hS5 := Sl.of_row hrow5 (by unfold maxLen; omega)
          clear R4 hV5 C hrow5
          dsimp only
          refine hK.out _ _ (fun _ => R5) ?_; clear hK K; try simp only [Act.put, List.getElem_toArray, List.getElem_cons_succ, List.getElem_cons_zero, List.setIfInBounds_toArray, List.set_cons_zero, List.set_cons_succ]
          have C := dkeys_any s1 V5 (I1'h.out V5 R5)
          rw [hAa] at C
          refine wpAnyF_one (i := 17) (by kernel_rfl) rfl (fun K hK => ?_); go_simp
          refine C.mono ?_
          rintro e V6 ⟨jp, jn, jc, rfl, hV6, hrow6⟩
          have R6 := below_next R5 hV6
          have hjn := hrow6.1
          rw [u64s_length] at hjn
          have hS6 := Sl.of_row hrow6 (by unfold maxLen; omega)
          have hS5b := hS5.below hV6
          clear R5 hV6 C hrow6 hS5
          dsimp only
          refine hK.out _ _ (fun _ => R6) ?_; clear hK K; try simp only [Act.put, List.getElem_toArray, List.getElem_cons_succ, List.getElem_cons_zero, List.setIfInBounds_toArray, List.set_cons_zero, List.set_cons_succ]
          have C := equalU_any kp jp kn jn kc jc _ _ V6 hS5b hS6
          rw [decide_eq_true rfl] at C
          refine wpAnyF_one (i := 18) (by kernel_rfl) rfl (fun K hK => ?_); go_simp
          refine C.mono ?_
          rintro e V7 ⟨rfl, d, hV7⟩
          rw [hV7]
          have R7 := R6.trans (below_drewN' _ d)
          clear R6 hV7 C hS5b hS6
          generalize V6.drewN d = V7 at R7 ⊢
          dsimp only
          refine hK.out _ _ (fun _ => R7) ?_; clear hK K; try simp only [Act.put, List.getElem_toArray, List.getElem_cons_succ, List.getElem_cons_zero, List.setIfInBounds_toArray, List.set_cons_zero, List.set_cons_succ]
          refine wpAnyF_take (i := 19) (v := .bool true) rfl (by kernel_rfl) (by kernel_rfl) (by kernel_rfl) (by kernel_rfl) (fun _ _ _ h => h) (Or.inl ⟨by kernel_rfl, fun w hSw => by (try dsimp only at hSw); go_simp⟩) R7 ?_; try simp only [Act.put, List.getElem_toArray, List.getElem_cons_succ, List.getElem_cons_zero, List.setIfInBounds_toArray, List.set_cons_zero, List.set_cons_succ]
          refine wpAnyF_take (i := 20) (v := .bool true) rfl (by kernel_rfl) (by kernel_rfl) (by kernel_rfl) (by kernel_rfl) (fun _ _ _ h => h) (Or.inl ⟨by kernel_rfl, fun w hSw => by (try dsimp only at hSw); go_simp⟩) R7 ?_; try simp only [Act.put, List.getElem_toArray, List.getElem_cons_succ, List.getElem_cons_zero, List.setIfInBounds_toArray, List.set_cons_zero, List.set_cons_succ]
          refine wpAnyF_take (i := 21) (v := .agg #[.int .i64 ga, .int .i64 sba, .int .u64 (seeda : Int), .slice lpa lna lca, .slice ppa pna pca]) rfl (by kernel_rfl) (by kernel_rfl) (by kernel_rfl) (by kernel_rfl) (fun _ _ _ h => h) (Or.inl ⟨by kernel_rfl, fun w hSw => run_load_agg (by rfl) (by rfl) (heap_below hSw z7 (lt_of_heap z7)) Tryd.underlying26 rfl info_sm⟩) R7 ?_; try simp only [Act.put, List.getElem_toArray, List.getElem_cons_succ, List.getElem_cons_zero, List.setIfInBounds_toArray, List.set_cons_zero, List.set_cons_succ]
          refine wpAnyF_take (i := 22) (v := .agg #[.int .i64 gx, .int .i64 sbx, .int .u64 (seedx : Int), .slice lpx lnx lcx, .slice ppx pnx pcx]) rfl (by kernel_rfl) (by kernel_rfl) (by kernel_rfl) (by kernel_rfl) (fun _ _ _ h => h) (Or.inl ⟨by kernel_rfl, fun w hSw => run_load_agg (by rfl) (by rfl) (heap_below hSw zx (lt_of_heap zx)) Tryd.underlying26 rfl info_sm⟩) R7 ?_; try simp only [Act.put, List.getElem_toArray, List.getElem_cons_succ, List.getElem_cons_zero, List.setIfInBounds_toArray, List.set_cons_zero, List.set_cons_succ]
          refine wpAnyF_one (i := 23) (by kernel_rfl) rfl (fun K hK => ?_); go_simp
          refine (OX'h.out V7 R7).mono ?_
          rintro e V8 ⟨s4, rfl, hV8, hI4, hs4⟩
          have R8 := below_next R7 hV8
          clear R7 hV8
          dsimp only
          obtain ⟨gd, sbd, seedd, lpd, lnd, lcd, rowsd, ppd, pnd, pcd, psd⟩ := s4
          obtain ⟨s4, hsmd⟩ : ∃ s : Sm, s = ⟨gd, sbd, seedd, lpd, lnd, lcd, rowsd, ppd, pnd, pcd, psd⟩ := ⟨_, rfl⟩
          have hAd : smA s4 = #[.int .i64 gd, .int .i64 sbd, .int .u64 (seedd : Int), .slice lpd lnd lcd, .slice ppd pnd pcd] := by rw [hsmd]; rfl
          have hpnd : s4.pn = pnd := by rw [hsmd]
          rw [← hsmd] at hI4 hs4 ⊢
          rw [hAd]
          clear hsmd
          refine hK.out _ _ (fun _ => R8) ?_; clear hK K; try simp only [Act.put, List.getElem_toArray, List.getElem_cons_succ, List.getElem_cons_zero, List.setIfInBounds_toArray, List.set_cons_zero, List.set_cons_succ]
          have C := dsame_any s1 s4 V8 (I1'h.out V8 R8) hI4
          rw [q1'h.out, hs4, decide_eq_true rfl, hAa, hAd] at C
          refine wpAnyF_one (i := 24) (by kernel_rfl) rfl (fun K hK => ?_); go_simp
          refine C.mono ?_
          rintro e V9 ⟨rfl, hV9⟩
          have R9 := below_next R8 hV9
          clear R8 hV9 C hI4 hs4
          dsimp only
          refine hK.out _ _ (fun _ => R9) ?_; clear hK K; try simp only [Act.put, List.getElem_toArray, List.getElem_cons_succ, List.getElem_cons_zero, List.setIfInBounds_toArray, List.set_cons_zero, List.set_cons_succ]
          refine wpAnyF_take (i := 25) (v := .bool true) rfl (by kernel_rfl) (by kernel_rfl) (by kernel_rfl) (by kernel_rfl) (fun _ _ _ h => h) (Or.inl ⟨by kernel_rfl, fun w hSw => by (try dsimp only at hSw); go_simp⟩) R9 ?_; try simp only [Act.put, List.getElem_toArray, List.getElem_cons_succ, List.getElem_cons_zero, List.setIfInBounds_toArray, List.set_cons_zero, List.set_cons_succ]
          refine wpAnyF_take (i := 26) (v := .bool true) rfl (by kernel_rfl) (by kernel_rfl) (by kernel_rfl) (by kernel_rfl) (fun _ _ _ h => h) (Or.inl ⟨by kernel_rfl, fun w hSw => by (try dsimp only at hSw); go_simp⟩) R9 ?_; try simp only [Act.put, List.getElem_toArray, List.getElem_cons_succ, List.getElem_cons_zero, List.setIfInBounds_toArray, List.set_cons_zero, List.set_cons_succ]
          refine wpAnyF_done (by kernel_rfl) ?_ _
          have hlow := below_next hBB'h.out R9
          clear R9 z7 z8 zx
          have hlow'h := Lib.hid hlow
          clear hlow
          go_wp2
          go_ret
          exact ⟨rfl, hlow'h.out⟩
        | false =>
          obtain rfl : c0 = 130 := hcr
          go_wp2_with fail
          refine C'h.out.mono ?_
          rintro e w6 ⟨rfl, hB6⟩
          have hB7 := below_next hB'h.out hB6
          have r1 := heap_below hB7 m1'h.out (lt_of_heap m1'h.out)
          have D := dright_any s1 w6 (n1'h.out.below hB7)
          rw [hAa, ← hr0'h.out] at D
          clear x0 x1 x2 x3 x4 hB6 C'h
          obtain ⟨x0, x1, x2, x3, x4⟩ := cells5' r1
          clear r1
          have hB7'h := Lib.hid hB7
          have D'h := Lib.hid D
          clear hB7 D
          go_wp2_with fail
          refine D'h.out.mono ?_
          rintro e w5 ⟨rfl, hB8⟩
          have hB5 := below_next hB7'h.out hB8
          clear x0 x1 x2 x3 x4 hB8 D'h hB'h hB7'h hr0'h
          have z7 := heap_below hB5 m1'h.out (lt_of_heap m1'h.out)
          have z8 := heap_below hB5 m2'h.out (lt_of_heap m2'h.out)
          have zx := heap_below hB5 hxc'h.out (lt_of_heap hxc'h.out)
          have I1 : ∀ V, Below w5.heap.size w5 V → SmIn V s1 := fun V hV => n1'h.out.below (below_next hB5 hV)
          have I2 : ∀ V, Below w5.heap.size w5 V → SmIn V s2 := fun V hV => n2'h.out.below (below_next hB5 hV)
          have TT : ∀ V, Below w5.heap.size w5 V → Tks V := fun V hV => hTc'h.out.next (below_next hB5 hV)
          have OX : ∀ V, Below w5.heap.size w5 V → Calls Tryd.prog 10 #[.agg #[.int .i64 gx, .int .i64 sbx, .int .u64 (seedx : Int), .slice lpx lnx lcx, .slice ppx pnx pcx]] V fun e w' => SmAt V (ownS xs.scr) e w' := fun V hV => XC'h.out V (below_next hB5 hV)
          have hBB := below_next hBc'h.out hB5
          clear m1'h m2'h hxc'h XC'h hBc'h hB5 n1'h n2'h hTc'h hoc'h
          obtain ⟨r, hr⟩ : ∃ r, r = decide (s1.scr = s2.scr) := ⟨_, rfl⟩
          have hrr : (r == r) = true := by simp
          have I1'h := Lib.hid I1
          have I2'h := Lib.hid I2
          have TT'h := Lib.hid TT
          have OX'h := Lib.hid OX
          have hBB'h := Lib.hid hBB
          have hr'h := Lib.hid hr
          clear I1 I2 TT OX hBB hr
          go_upto_region 13 with fail
          refine wp_region_heldF (fun w' => Below w5.heap.size w5 w') 99 (by kernel_rfl) ?_
          have R := (Below.refl w5.heap.size w5).drew
          generalize w5.drew = V0 at R ⊢
          refine wpAnyF_take (i := 0) (v := .agg #[.int .i64 ga, .int .i64 sba, .int .u64 (seeda : Int), .slice lpa lna lca, .slice ppa pna pca]) rfl (by kernel_rfl) (by kernel_rfl) (by kernel_rfl) (by kernel_rfl) (fun _ _ _ h => h) (Or.inl ⟨by kernel_rfl, fun w hSw => run_load_agg (by rfl) (by rfl) (heap_below hSw z7 (lt_of_heap z7)) Tryd.underlying26 rfl info_sm⟩) R ?_; try simp only [Act.put, List.getElem_toArray, List.getElem_cons_succ, List.getElem_cons_zero, List.setIfInBounds_toArray, List.set_cons_zero, List.set_cons_succ]
          refine wpAnyF_take (i := 1) (v := .agg #[.int .i64 gb, .int .i64 sbb, .int .u64 (seedb : Int), .slice lpb lnb lcb, .slice ppb pnb pcb]) rfl (by kernel_rfl) (by kernel_rfl) (by kernel_rfl) (by kernel_rfl) (fun _ _ _ h => h) (Or.inl ⟨by kernel_rfl, fun w hSw => run_load_agg (by rfl) (by rfl) (heap_below hSw z8 (lt_of_heap z8)) Tryd.underlying26 rfl info_sm⟩) R ?_; try simp only [Act.put, List.getElem_toArray, List.getElem_cons_succ, List.getElem_cons_zero, List.setIfInBounds_toArray, List.set_cons_zero, List.set_cons_succ]
          refine wpAnyF_take (i := 3) (v := .agg #[.int .i64 ga, .int .i64 sba, .int .u64 (seeda : Int), .slice lpa lna lca, .slice ppa pna pca]) rfl (by kernel_rfl) (by kernel_rfl) (by kernel_rfl) (by kernel_rfl) (fun _ _ _ h => h) (Or.inl ⟨by kernel_rfl, fun w hSw => run_load_agg (by rfl) (by rfl) (heap_below hSw z7 (lt_of_heap z7)) Tryd.underlying26 rfl info_sm⟩) R ?_; try simp only [Act.put, List.getElem_toArray, List.getElem_cons_succ, List.getElem_cons_zero, List.setIfInBounds_toArray, List.set_cons_zero, List.set_cons_succ]
          refine wpAnyF_take (i := 4) (v := .agg #[.int .i64 gb, .int .i64 sbb, .int .u64 (seedb : Int), .slice lpb lnb lcb, .slice ppb pnb pcb]) rfl (by kernel_rfl) (by kernel_rfl) (by kernel_rfl) (by kernel_rfl) (fun _ _ _ h => h) (Or.inl ⟨by kernel_rfl, fun w hSw => run_load_agg (by rfl) (by rfl) (heap_below hSw z8 (lt_of_heap z8)) Tryd.underlying26 rfl info_sm⟩) R ?_; try simp only [Act.put, List.getElem_toArray, List.getElem_cons_succ, List.getElem_cons_zero, List.setIfInBounds_toArray, List.set_cons_zero, List.set_cons_succ]
          have C := same_any s1 s2 V0 (I1'h.out V0 R) (I2'h.out V0 R)
          rw [← hr'h.out, hAa, hAb] at C
          refine wpAnyF_one (i := 2) (by kernel_rfl) rfl (fun K hK => ?_); go_simp
          refine C.mono ?_
          rintro e V1 ⟨rfl, hV1⟩
          have R1 := below_next R hV1
          clear R hV1 C
          dsimp only
          refine hK.out _ _ (fun _ => R1) ?_; clear hK K; try simp only [Act.put, List.getElem_toArray, List.getElem_cons_succ, List.getElem_cons_zero, List.setIfInBounds_toArray, List.set_cons_zero, List.set_cons_succ]
          have C := dsame_any s1 s2 V1 (I1'h.out V1 R1) (I2'h.out V1 R1)
          rw [← hr'h.out, hAa, hAb] at C
          refine wpAnyF_one (i := 5) (by kernel_rfl) rfl (fun K hK => ?_); go_simp
          refine C.mono ?_
          rintro e V2 ⟨rfl, hV2⟩
          have R2 := below_next R1 hV2
          clear R1 hV2 C
          dsimp only
          refine hK.out _ _ (fun _ => R2) ?_; clear hK K; try simp only [Act.put, List.getElem_toArray, List.getElem_cons_succ, List.getElem_cons_zero, List.setIfInBounds_toArray, List.set_cons_zero, List.set_cons_succ]
          refine wpAnyF_take (i := 6) (v := .bool true) rfl (by kernel_rfl) (by kernel_rfl) (by kernel_rfl) (by kernel_rfl) (fun _ _ _ h => h) (Or.inl ⟨by kernel_rfl, fun w hSw => by (try dsimp only at hSw); go_simp⟩) R2 ?_; try simp only [Act.put, List.getElem_toArray, List.getElem_cons_succ, List.getElem_cons_zero, List.setIfInBounds_toArray, List.set_cons_zero, List.set_cons_succ]
          refine wpAnyF_take (i := 7) (v := .bool true) rfl (by kernel_rfl) (by kernel_rfl) (by kernel_rfl) (by kernel_rfl) (fun _ _ _ h => h) (Or.inl ⟨by kernel_rfl, fun w hSw => by (try dsimp only at hSw); go_simp⟩) R2 ?_; try simp only [Act.put, List.getElem_toArray, List.getElem_cons_succ, List.getElem_cons_zero, List.setIfInBounds_toArray, List.set_cons_zero, List.set_cons_succ]
          refine wpAnyF_take (i := 8) (v := .agg #[.int .i64 ga, .int .i64 sba, .int .u64 (seeda : Int), .slice lpa lna lca, .slice ppa pna pca]) rfl (by kernel_rfl) (by kernel_rfl) (by kernel_rfl) (by kernel_rfl) (fun _ _ _ h => h) (Or.inl ⟨by kernel_rfl, fun w hSw => run_load_agg (by rfl) (by rfl) (heap_below hSw z7 (lt_of_heap z7)) Tryd.underlying26 rfl info_sm⟩) R2 ?_; try simp only [Act.put, List.getElem_toArray, List.getElem_cons_succ, List.getElem_cons_zero, List.setIfInBounds_toArray, List.set_cons_zero, List.set_cons_succ]
          refine wpAnyF_take (i := 9) (v := .agg #[.int .i64 gx, .int .i64 sbx, .int .u64 (seedx : Int), .slice lpx lnx lcx, .slice ppx pnx pcx]) rfl (by kernel_rfl) (by kernel_rfl) (by kernel_rfl) (by kernel_rfl) (fun _ _ _ h => h) (Or.inl ⟨by kernel_rfl, fun w hSw => run_load_agg (by rfl) (by rfl) (heap_below hSw zx (lt_of_heap zx)) Tryd.underlying26 rfl info_sm⟩) R2 ?_; try simp only [Act.put, List.getElem_toArray, List.getElem_cons_succ, List.getElem_cons_zero, List.setIfInBounds_toArray, List.set_cons_zero, List.set_cons_succ]
          refine wpAnyF_one (i := 10) (by kernel_rfl) rfl (fun K hK => ?_); go_simp
          refine (OX'h.out V2 R2).mono ?_
          rintro e V3 ⟨s3, rfl, hV3, hI3, hs3⟩
          have R3 := below_next R2 hV3
          clear R2 hV3
          dsimp only
          obtain ⟨gc, sbc, seedc, lpc, lnc, lcc, rowsc, ppc, pnc, pcc, psc⟩ := s3
          obtain ⟨s3, hsmc⟩ : ∃ s : Sm, s = ⟨gc, sbc, seedc, lpc, lnc, lcc, rowsc, ppc, pnc, pcc, psc⟩ := ⟨_, rfl⟩
          have hAc : smA s3 = #[.int .i64 gc, .int .i64 sbc, .int .u64 (seedc : Int), .slice lpc lnc lcc, .slice ppc pnc pcc] := by rw [hsmc]; rfl
          have hpnc : s3.pn = pnc := by rw [hsmc]
          rw [← hsmc] at hI3 hs3 ⊢
          rw [hAc]
          clear hsmc
          refine hK.out _ _ (fun _ => R3) ?_; clear hK K; try simp only [Act.put, List.getElem_toArray, List.getElem_cons_succ, List.getElem_cons_zero, List.setIfInBounds_toArray, List.set_cons_zero, List.set_cons_succ]
          have C := same_any s1 s3 V3 (I1'h.out V3 R3) hI3
          rw [q1'h.out, hs3, decide_eq_true rfl, hAa, hAc] at C
          refine wpAnyF_one (i := 11) (by kernel_rfl) rfl (fun K hK => ?_); go_simp
          refine C.mono ?_
          rintro e V4 ⟨rfl, hV4⟩
          have R4 := below_next R3 hV4
          clear R3 hV4 C hI3 hs3
          dsimp only
          refine hK.out _ _ (fun _ => R4) ?_; clear hK K; try simp only [Act.put, List.getElem_toArray, List.getElem_cons_succ, List.getElem_cons_zero, List.setIfInBounds_toArray, List.set_cons_zero, List.set_cons_succ]
          refine wpAnyF_take (i := 12) (v := .bool true) rfl (by kernel_rfl) (by kernel_rfl) (by kernel_rfl) (by kernel_rfl) (fun _ _ _ h => h) (Or.inl ⟨by kernel_rfl, fun w hSw => by (try dsimp only at hSw); go_simp⟩) R4 ?_; try simp only [Act.put, List.getElem_toArray, List.getElem_cons_succ, List.getElem_cons_zero, List.setIfInBounds_toArray, List.set_cons_zero, List.set_cons_succ]
          refine wpAnyF_take (i := 13) (v := .bool true) rfl (by kernel_rfl) (by kernel_rfl) (by kernel_rfl) (by kernel_rfl) (fun _ _ _ h => h) (Or.inl ⟨by kernel_rfl, fun w hSw => by (try dsimp only at hSw); go_simp⟩) R4 ?_; try simp only [Act.put, List.getElem_toArray, List.getElem_cons_succ, List.getElem_cons_zero, List.setIfInBounds_toArray, List.set_cons_zero, List.set_cons_succ]
          refine wpAnyF_take (i := 14) (v := .agg #[.int .i64 ga, .int .i64 sba, .int .u64 (seeda : Int), .slice lpa lna lca, .slice ppa pna pca]) rfl (by kernel_rfl) (by kernel_rfl) (by kernel_rfl) (by kernel_rfl) (fun _ _ _ h => h) (Or.inl ⟨by kernel_rfl, fun w hSw => run_load_agg (by rfl) (by rfl) (heap_below hSw z7 (lt_of_heap z7)) Tryd.underlying26 rfl info_sm⟩) R4 ?_; try simp only [Act.put, List.getElem_toArray, List.getElem_cons_succ, List.getElem_cons_zero, List.setIfInBounds_toArray, List.set_cons_zero, List.set_cons_succ]
          refine wpAnyF_take (i := 16) (v := .agg #[.int .i64 ga, .int .i64 sba, .int .u64 (seeda : Int), .slice lpa lna lca, .slice ppa pna pca]) rfl (by kernel_rfl) (by kernel_rfl) (by kernel_rfl) (by kernel_rfl) (fun _ _ _ h => h) (Or.inl ⟨by kernel_rfl, fun w hSw => run_load_agg (by rfl) (by rfl) (heap_below hSw z7 (lt_of_heap z7)) Tryd.underlying26 rfl info_sm⟩) R4 ?_; try simp only [Act.put, List.getElem_toArray, List.getElem_cons_succ, List.getElem_cons_zero, List.setIfInBounds_toArray, List.set_cons_zero, List.set_cons_succ]
          have C := keys_any s1 V4 (TT'h.out V4 R4) (I1'h.out V4 R4)
          rw [hAa] at C
          refine wpAnyF_one (i := 15) (by kernel_rfl) rfl (fun K hK => ?_); go_simp
          refine C.mono ?_
          rintro e V5 ⟨kp, kn, kc, rfl, hV5, hrow5⟩
          have R5 := below_next R4 hV5
          have hkn := hrow5.1
          rw [u64s_length] at hkn
          have hkl := keysL_le1056 (I1'h.out V4 R4)
          have hS5 := Sl.of_row hrow5 (by unfold maxLen; omega)
          clear R4 hV5 C hrow5
          dsimp only
          refine hK.out _ _ (fun _ => R5) ?_; clear hK K; try simp only [Act.put, List.getElem_toArray, List.getElem_cons_succ, List.getElem_cons_zero, List.setIfInBounds_toArray, List.set_cons_zero, List.set_cons_succ]
          have C := dkeys_any s1 V5 (I1'h.out V5 R5)
          rw [hAa] at C
          refine wpAnyF_one (i := 17) (by kernel_rfl) rfl (fun K hK => ?_); go_simp
          refine C.mono ?_
          rintro e V6 ⟨jp, jn, jc, rfl, hV6, hrow6⟩
          have R6 := below_next R5 hV6
          have hjn := hrow6.1
          rw [u64s_length] at hjn
          have hS6 := Sl.of_row hrow6 (by unfold maxLen; omega)
          have hS5b := hS5.below hV6
          clear R5 hV6 C hrow6 hS5
          dsimp only
          refine hK.out _ _ (fun _ => R6) ?_; clear hK K; try simp only [Act.put, List.getElem_toArray, List.getElem_cons_succ, List.getElem_cons_zero, List.setIfInBounds_toArray, List.set_cons_zero, List.set_cons_succ]
          have C := equalU_any kp jp kn jn kc jc _ _ V6 hS5b hS6
          rw [decide_eq_true rfl] at C
          refine wpAnyF_one (i := 18) (by kernel_rfl) rfl (fun K hK => ?_); go_simp
          refine C.mono ?_
          rintro e V7 ⟨rfl, d, hV7⟩
          rw [hV7]
          have R7 := R6.trans (below_drewN' _ d)
          clear R6 hV7 C hS5b hS6
          generalize V6.drewN d = V7 at R7 ⊢
          dsimp only
          refine hK.out _ _ (fun _ => R7) ?_; clear hK K; try simp only [Act.put, List.getElem_toArray, List.getElem_cons_succ, List.getElem_cons_zero, List.setIfInBounds_toArray, List.set_cons_zero, List.set_cons_succ]
          refine wpAnyF_take (i := 19) (v := .bool true) rfl (by kernel_rfl) (by kernel_rfl) (by kernel_rfl) (by kernel_rfl) (fun _ _ _ h => h) (Or.inl ⟨by kernel_rfl, fun w hSw => by (try dsimp only at hSw); go_simp⟩) R7 ?_; try simp only [Act.put, List.getElem_toArray, List.getElem_cons_succ, List.getElem_cons_zero, List.setIfInBounds_toArray, List.set_cons_zero, List.set_cons_succ]
          refine wpAnyF_take (i := 20) (v := .bool true) rfl (by kernel_rfl) (by kernel_rfl) (by kernel_rfl) (by kernel_rfl) (fun _ _ _ h => h) (Or.inl ⟨by kernel_rfl, fun w hSw => by (try dsimp only at hSw); go_simp⟩) R7 ?_; try simp only [Act.put, List.getElem_toArray, List.getElem_cons_succ, List.getElem_cons_zero, List.setIfInBounds_toArray, List.set_cons_zero, List.set_cons_succ]
          refine wpAnyF_take (i := 21) (v := .agg #[.int .i64 ga, .int .i64 sba, .int .u64 (seeda : Int), .slice lpa lna lca, .slice ppa pna pca]) rfl (by kernel_rfl) (by kernel_rfl) (by kernel_rfl) (by kernel_rfl) (fun _ _ _ h => h) (Or.inl ⟨by kernel_rfl, fun w hSw => run_load_agg (by rfl) (by rfl) (heap_below hSw z7 (lt_of_heap z7)) Tryd.underlying26 rfl info_sm⟩) R7 ?_; try simp only [Act.put, List.getElem_toArray, List.getElem_cons_succ, List.getElem_cons_zero, List.setIfInBounds_toArray, List.set_cons_zero, List.set_cons_succ]
          refine wpAnyF_take (i := 22) (v := .agg #[.int .i64 gx, .int .i64 sbx, .int .u64 (seedx : Int), .slice lpx lnx lcx, .slice ppx pnx pcx]) rfl (by kernel_rfl) (by kernel_rfl) (by kernel_rfl) (by kernel_rfl) (fun _ _ _ h => h) (Or.inl ⟨by kernel_rfl, fun w hSw => run_load_agg (by rfl) (by rfl) (heap_below hSw zx (lt_of_heap zx)) Tryd.underlying26 rfl info_sm⟩) R7 ?_; try simp only [Act.put, List.getElem_toArray, List.getElem_cons_succ, List.getElem_cons_zero, List.setIfInBounds_toArray, List.set_cons_zero, List.set_cons_succ]
          refine wpAnyF_one (i := 23) (by kernel_rfl) rfl (fun K hK => ?_); go_simp
          refine (OX'h.out V7 R7).mono ?_
          rintro e V8 ⟨s4, rfl, hV8, hI4, hs4⟩
          have R8 := below_next R7 hV8
          clear R7 hV8
          dsimp only
          obtain ⟨gd, sbd, seedd, lpd, lnd, lcd, rowsd, ppd, pnd, pcd, psd⟩ := s4
          obtain ⟨s4, hsmd⟩ : ∃ s : Sm, s = ⟨gd, sbd, seedd, lpd, lnd, lcd, rowsd, ppd, pnd, pcd, psd⟩ := ⟨_, rfl⟩
          have hAd : smA s4 = #[.int .i64 gd, .int .i64 sbd, .int .u64 (seedd : Int), .slice lpd lnd lcd, .slice ppd pnd pcd] := by rw [hsmd]; rfl
          have hpnd : s4.pn = pnd := by rw [hsmd]
          rw [← hsmd] at hI4 hs4 ⊢
          rw [hAd]
          clear hsmd
          refine hK.out _ _ (fun _ => R8) ?_; clear hK K; try simp only [Act.put, List.getElem_toArray, List.getElem_cons_succ, List.getElem_cons_zero, List.setIfInBounds_toArray, List.set_cons_zero, List.set_cons_succ]
          have C := dsame_any s1 s4 V8 (I1'h.out V8 R8) hI4
          rw [q1'h.out, hs4, decide_eq_true rfl, hAa, hAd] at C
          refine wpAnyF_one (i := 24) (by kernel_rfl) rfl (fun K hK => ?_); go_simp
          refine C.mono ?_
          rintro e V9 ⟨rfl, hV9⟩
          have R9 := below_next R8 hV9
          clear R8 hV9 C hI4 hs4
          dsimp only
          refine hK.out _ _ (fun _ => R9) ?_; clear hK K; try simp only [Act.put, List.getElem_toArray, List.getElem_cons_succ, List.getElem_cons_zero, List.setIfInBounds_toArray, List.set_cons_zero, List.set_cons_succ]
          refine wpAnyF_take (i := 25) (v := .bool true) rfl (by kernel_rfl) (by kernel_rfl) (by kernel_rfl) (by kernel_rfl) (fun _ _ _ h => h) (Or.inl ⟨by kernel_rfl, fun w hSw => by (try dsimp only at hSw); go_simp⟩) R9 ?_; try simp only [Act.put, List.getElem_toArray, List.getElem_cons_succ, List.getElem_cons_zero, List.setIfInBounds_toArray, List.set_cons_zero, List.set_cons_succ]
          refine wpAnyF_take (i := 26) (v := .bool true) rfl (by kernel_rfl) (by kernel_rfl) (by kernel_rfl) (by kernel_rfl) (fun _ _ _ h => h) (Or.inl ⟨by kernel_rfl, fun w hSw => by (try dsimp only at hSw); go_simp⟩) R9 ?_; try simp only [Act.put, List.getElem_toArray, List.getElem_cons_succ, List.getElem_cons_zero, List.setIfInBounds_toArray, List.set_cons_zero, List.set_cons_succ]
          refine wpAnyF_done (by kernel_rfl) ?_ _
          have hlow := below_next hBB'h.out R9
          clear R9 z7 z8 zx
          have hlow'h := Lib.hid hlow
          clear hlow
          go_wp2
          go_ret
          exact ⟨rfl, hlow'h.out⟩
theorem walk_ScriptMay (xs ys : Sm) (op : Option Addr) (on oc : Nat) (os : List Int) (w : World) (hT : Tks w) (h : SmArg w xs) (h' : SmArg w ys) (hnil : op = none → oc = 0) (hle : on ≤ oc) (ho : Sl w op on (os.map (Value.int .i64))) (hz : ∀ z ∈ os, (Lit.int .i64 z).wf = true) :
    Calls Tryd.prog 3 #[.agg (smA xs), .agg (smA ys), .slice op on oc] w fun e w' => e = .returned (.bool true) ∧ Below w.heap.size w w' :=
  may_true xs ys op on oc os w hT h h' ho
end Go.Proofs.YtifofdciablljaaDoor
