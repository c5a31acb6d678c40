/-
  Layer 27 (order): which calls may be, which are ahead, and which free.
-/
import Derived.Test.YtogeohjeabbmaaaDoorZk
import Derived.Deep.LoopGhost
set_option linter.unusedSimpArgs false
set_option linter.unusedVariables false
set_option maxRecDepth 100000
namespace Go.Proofs.YtogeohjeabbmaaaDoor
open Go.RowKit

theorem check_few {l : List Mm} (h : checkB l = true) : l.length ≤ 80 := by
  unfold checkB at h
  simp only [Bool.and_eq_true, decide_eq_true_eq] at h
  omega
theorem free_small {l : List Mm} {n : Nat} (hn : n = l.length) (h80 : n ≤ 80) : (freeFrom l n 0).length ≤ 6400 ∧ ∀ p ∈ freeFrom l n 0, p.1 ≤ 5000 ∧ p.2 ≤ 5000 := by
  refine ⟨?_, fun p hp => ?_⟩
  · have h1 := freeFrom_len (l := l) n 0
    have h2 : n * l.length ≤ 80 * 80 := Nat.mul_le_mul h80 (by omega)
    omega
  · have := freeFrom_mem n 0 p hp
    omega
set_option maxHeartbeats 8000000 in
theorem walk_OrderMay (xp : Option Addr) (xn xc : Nat) (xs : List Mm) (w : World) (hT : Tks w) (hx : MsIn w xp xn xs) (hnil : xp = none → xc = 0) (hle : xn ≤ xc) (hfr : ∀ g, xp.map (·.block) = some g → xn ≠ 0 → g < w.heap.size) :
    Calls Tryd.prog 6 #[.slice xp xn xc] w fun e w' => e = .returned (.bool true) ∧ Below w.heap.size w w' := by
  have WK := wakes27_any w hT
  have hXW := fun W (hb : Below w.heap.size w W) => hx.below hb
  clear hfr hx
  have WK'h := Lib.hid WK
  have hT'h := Lib.hid hT
  have hXW'h := Lib.hid hXW
  have hnil'h := Lib.hid hnil
  have hle'h := Lib.hid hle
  clear WK hT hXW hnil hle
  go_enter Tryd.func6, Tryd.ntmps6
  go_wp2_with fail
  refine WK'h.out.mono ?_
  rintro e w1 ⟨rfl, hB1⟩
  have OW := own27_any xp xn xc xs w1 (hXW'h.out w1 hB1) hnil'h.out hle'h.out
  have hB1'h := Lib.hid hB1
  have OW'h := Lib.hid OW
  clear hB1 OW
  clear WK'h
  go_wp2_with fail
  refine OW'h.out.mono ?_
  rintro e w2 ⟨lp, lc, l, rfl, hb2, hM2, hll, hmd, hlc, hfar⟩
  obtain ⟨n, hn⟩ : ∃ n, n = l.length := ⟨_, rfl⟩
  rw [← hn] at hM2 hll hlc hmd ⊢
  have hB2 := below_next hB1'h.out hb2
  have hlow := hfar
  have hML : ∀ W, Below w2.heap.size w2 W → MsIn W lp n l := fun W hb => hM2.below hb
  have DR := drightM_any lp n lc l w2 hM2
  have hn82 : n ≤ 82 := by omega
  clear hb2 hB1'h OW'h hfar hM2
  obtain ⟨c, hc⟩ : ∃ c, c = checkB l := ⟨_, rfl⟩
  rw [← hc] at DR
  have hB2'h := Lib.hid hB2
  have hML'h := Lib.hid hML
  have hlc'h := Lib.hid hlc
  have DR'h := Lib.hid DR
  have hll'h := Lib.hid hll
  have hmd'h := Lib.hid hmd
  have hn'h := Lib.hid hn
  have hn82'h := Lib.hid hn82
  have hlow'h := Lib.hid hlow
  have hc'h := Lib.hid hc
  clear hB2 hML hlc DR hll hmd hn hn82 hlow hc
  go_wp2_with fail
  refine DR'h.out.mono ?_
  rintro e w3 ⟨rfl, hb3⟩
  have CK := checkM_any lp n lc l w3 (hT'h.out.next (below_next hB2'h.out hb3)) (hML'h.out w3 hb3) hlc'h.out
  rw [← hc'h.out] at CK
  have hX2 := hb3
  clear hb3 DR'h
  have hX2'h := Lib.hid hX2
  have CK'h := Lib.hid CK
  clear hX2 CK
  go_wp2_with fail
  refine CK'h.out.mono ?_
  rintro e w4 ⟨rfl, hb4⟩
  have hb24 := below_next hX2'h.out hb4
  clear hb4 hX2'h CK'h
  have hB4 := Below.refl w4.heap.size w4
  have hBase := below_next hB2'h.out hb24
  have hML4 : ∀ W, Below w4.heap.size w4 W → MsIn W lp n l := fun W hb => hML'h.out W (below_next hb24 hb)
  clear hML'h hb24
  have hML'h := Lib.hid hML4
  have hBase'h := Lib.hid hBase
  clear hML4 hBase hB2'h
  cases c with
  | true =>
    have h80 : n ≤ 80 := by have := check_few hc'h.out.symm; have := hn'h.out; omega
    have hsm := free_small hn'h.out h80
    have hfr : freeL l = freeFrom l n 0 := by unfold freeL; rw [← hc'h.out, hn'h.out]; rfl
    have hB4'h := Lib.hid hB4
    have h80'h := Lib.hid h80
    have hsm'h := Lib.hid hsm
    have hfr'h := Lib.hid hfr
    clear hB4 h80 hsm hfr
    simp only [if_true] at *
    go_wp2
    go_loopg [33] n (fun q v33 wr => ∃ j : Nat, j + q = n ∧ v33 = .int .i64 (j : Int) ∧ Below w4.heap.size w4 wr)
    case atStart => exact ⟨0, by omega, rfl, hB4'h.out⟩
    case round =>
      obtain ⟨j, hj, rfl, hB⟩ := hrel
      by_cases hlt : j < n
      · have i3 : (j : Int) < (n : Int) := by omega
        have i4 : (0 : Int) ≤ (j : Int) := by omega
        have i5 : (j : Int) + 1 ≤ 5000 := by have := hn82'h.out; omega
        have hS := hML'h.out wr hB
        obtain ⟨b, off, rfl⟩ := slk_some hS.sl (by omega)
        have hjl : j < l.length := by have := hn'h.out; omega
        obtain ⟨x, hx0⟩ : ∃ x, x = nthM l j := ⟨_, rfl⟩
        have hcl := fun (i : Nat) (v : Value) (hi : i < 13) (hv : (mmL x)[i]? = some v) => hS.cells hjl (i := i) (v := v) hi (by rw [← hx0]; exact hv)
        have hB3 := (Below.refl wr.heap.size wr).alloc (Nat.le_refl _) (.cells (mmA x) 39)
        have hb3 := World.alloc_heap_new wr (.cells (mmA x) 39)
        have AX := fun (y : Mm) W => ahead_any x y W
        have AY := fun (y : Mm) W => dahead_any x y W
        obtain ⟨mx, hmx⟩ : ∃ mx, mx = x.md := ⟨_, rfl⟩
        rw [← hmx] at AX AY
        clear hx0 hS hmx
        obtain ⟨⟨goerx, ⟨opx, kyx, cax, cbx⟩, ⟨errx, valx, donex⟩, prsx, beganx, atx, overx, toldx⟩, ppx, pnx, pcx, tpx, tnx, tcx⟩ := x
        have e0 := hcl 0 _ (by omega) rfl
        have e1 := hcl 1 _ (by omega) rfl
        have e2 := hcl 2 _ (by omega) rfl
        have e3 := hcl 3 _ (by omega) rfl
        have e4 := hcl 4 _ (by omega) rfl
        have e5 := hcl 5 _ (by omega) rfl
        have e6 := hcl 6 _ (by omega) rfl
        have e7 := hcl 7 _ (by omega) rfl
        have e8 := hcl 8 _ (by omega) rfl
        have e9 := hcl 9 _ (by omega) rfl
        have ea := hcl 10 _ (by omega) rfl
        have eb := hcl 11 _ (by omega) rfl
        have ec := hcl 12 _ (by omega) rfl
        simp only [Nat.add_zero] at e0
        simp only [mmA] at *
        clear hcl
        obtain ⟨W3, hW3⟩ : ∃ W3, W3 = wr.alloc (.cells #[.int .i64 goerx, .int .i64 opx, .int .u64 (kyx : Int), .int .u64 (cax : Int), .int .u64 (cbx : Int), .int .i64 errx, .int .u64 (valx : Int), .bool donex, .slice ppx pnx pcx, .int .i64 beganx, .int .i64 atx, .int .i64 overx, .slice tpx tnx tcx] 39) := ⟨_, rfl⟩
        rw [← hW3] at hB3 hb3
        obtain ⟨go, hgo⟩ : ∃ go : Nat, go = gk := ⟨_, rfl⟩
        have hj'h := Lib.hid hj
        have hB'h := Lib.hid hB
        have AX'h := Lib.hid AX
        have AY'h := Lib.hid AY
        have hB3'h := Lib.hid hB3
        have hb3'h := Lib.hid hb3
        have hjl'h := Lib.hid hjl
        have hlt'h := Lib.hid hlt
        have hgo'h := Lib.hid hgo
        clear hj hB AX AY hB3 hb3 hjl hlt hgo
        go_upto_region 11 with fail
        rw [← hW3]
        clear hW3 e0 e1 e2 e3 e4 e5 e6 e7 e8 e9 ea eb ec
        have hB5 := below_next hB'h.out hB3'h.out
        have hb3 := hb3'h.out
        clear hb3'h hB3'h hB'h
        generalize wr.heap.size = ab at hb3 ⊢
        have hB5'h := Lib.hid hB5
        have hb3'h := Lib.hid hb3
        clear hB5 hb3
        go_wp2
        go_loopg [40] n (fun q v40 wq => ∃ k : Nat, k + q = n ∧ v40 = .int .i64 (k : Int) ∧ Below w4.heap.size w4 wq ∧ wq.heap[ab]? = some (.cells #[.int .i64 goerx, .int .i64 opx, .int .u64 (kyx : Int), .int .u64 (cax : Int), .int .u64 (cbx : Int), .int .i64 errx, .int .u64 (valx : Int), .bool donex, .slice ppx pnx pcx, .int .i64 beganx, .int .i64 atx, .int .i64 overx, .slice tpx tnx tcx] 39 (0, 0)))
        case atStart => exact ⟨0, by omega, rfl, hB5'h.out, hb3'h.out⟩
        case round =>
          obtain ⟨k, hk, rfl, hB, hab⟩ := hrel
          by_cases hlt2 : k < n
          · have j1 : (k : Int) < (n : Int) := by omega
            have j2 : (0 : Int) ≤ (k : Int) := by omega
            have j3 : (k : Int) + 1 ≤ 5000 := by have := hn82'h.out; omega
            have hS := hML'h.out wr hB
            have hkl : k < l.length := by have := hn'h.out; omega
            obtain ⟨y, hy0⟩ : ∃ y, y = nthM l k := ⟨_, rfl⟩
            have hcl := fun (i : Nat) (v : Value) (hi : i < 13) (hv : (mmL y)[i]? = some v) => hS.cells hkl (i := i) (v := v) hi (by rw [← hy0]; exact hv)
            have AX := AX'h.out y
            have AY := AY'h.out y
            obtain ⟨p, hp⟩ : ∃ p, p = aheadM mx y.md := ⟨_, rfl⟩
            rw [← hp] at AX AY
            have hB5 := (Below.refl wr.heap.size wr).alloc (Nat.le_refl _) (.cells (mmA y) 39)
            have hb5 := World.alloc_heap_new wr (.cells (mmA y) 39)
            clear hp hy0 hS
            obtain ⟨⟨goery, ⟨opy, kyy, cay, cby⟩, ⟨erry, valy, doney⟩, prsy, begany, aty, overy, toldy⟩, ppy, pny, pcy, tpy, tny, tcy⟩ := y
            have e0 := hcl 0 _ (by omega) rfl
            have e1 := hcl 1 _ (by omega) rfl
            have e2 := hcl 2 _ (by omega) rfl
            have e3 := hcl 3 _ (by omega) rfl
            have e4 := hcl 4 _ (by omega) rfl
            have e5 := hcl 5 _ (by omega) rfl
            have e6 := hcl 6 _ (by omega) rfl
            have e7 := hcl 7 _ (by omega) rfl
            have e8 := hcl 8 _ (by omega) rfl
            have e9 := hcl 9 _ (by omega) rfl
            have ea := hcl 10 _ (by omega) rfl
            have eb := hcl 11 _ (by omega) rfl
            have ec := hcl 12 _ (by omega) rfl
            simp only [Nat.add_zero] at e0
            simp only [mmA] at *
            clear hcl
            obtain ⟨W6, hW6⟩ : ∃ W6, W6 = wr.alloc (.cells #[.int .i64 goery, .int .i64 opy, .int .u64 (kyy : Int), .int .u64 (cay : Int), .int .u64 (cby : Int), .int .i64 erry, .int .u64 (valy : Int), .bool doney, .slice ppy pny pcy, .int .i64 begany, .int .i64 aty, .int .i64 overy, .slice tpy tny tcy] 39) := ⟨_, rfl⟩
            rw [← hW6] at hB5 hb5
            have hk'h := Lib.hid hk
            have hB'h := Lib.hid hB
            have hab'h := Lib.hid hab
            have AX'h := Lib.hid AX
            have AY'h := Lib.hid AY
            have hB5'h := Lib.hid hB5
            have hb5'h := Lib.hid hb5
            have hkl'h := Lib.hid hkl
            have hlt2'h := Lib.hid hlt2
            clear hk hB hab AX AY hB5 hb5 hkl hlt2
            go_upto_region 14 with fail
            rw [← hW6]
            clear hW6 e0 e1 e2 e3 e4 e5 e6 e7 e8 e9 ea eb ec
            have hB6 := below_next hB'h.out hB5'h.out
            have hab6 := heap_below hB5'h.out hab'h.out (lt_of_heap hab'h.out)
            have hb5 := hb5'h.out
            clear hB5'h hB'h hab'h hb5'h
            generalize wr.heap.size = yb at hb5 ⊢
            have Cx := fun (w : World) (hw : Below W6.heap.size W6 w) => cells13 (heap_below hw hab6 (lt_of_heap hab6))
            have Cy := fun (w : World) (hw : Below W6.heap.size W6 w) => cells13 (heap_below hw hb5 (lt_of_heap hb5))
            have hB6'h := Lib.hid hB6
            have hab6'h := Lib.hid hab6
            have Cx'h := Lib.hid Cx
            have Cy'h := Lib.hid Cy
            clear hB6 hab6 Cx Cy
            clear hb5
            refine wp_region_heldF (fun w' => Below W6.heap.size W6 w') 99 (by kernel_rfl) ?_
            have R0 : Below W6.heap.size W6 W6.drew := Below.drew (Below.refl _ _)
            by_cases hi8 : (j : Int) < 8
            · have c1 : decide ((j : Int) < 8) = true := decide_eq_true hi8
              by_cases hk8 : (k : Int) < 8
              · have c2 : decide ((k : Int) < 8) = true := decide_eq_true hk8
                refine wpAnyF_take (i := 0) (v := .int .i64 (j : Int)) rfl (by kernel_rfl) (by kernel_rfl) (by kernel_rfl) (by kernel_rfl) (fun _ _ _ h => h) (Or.inl ⟨by kernel_rfl, fun w hSw => by (try dsimp only at hSw); go_simp⟩) R0 ?_; try simp only [Act.put, List.getElem_toArray, List.getElem_cons_succ, List.getElem_cons_zero, List.setIfInBounds_toArray, List.set_cons_zero, List.set_cons_succ]
                refine wpAnyF_take (i := 1) (v := .bool true) rfl (by kernel_rfl) (by kernel_rfl) (by kernel_rfl) (by kernel_rfl) (fun _ _ _ h => h) (Or.inl ⟨by kernel_rfl, fun w hSw => by (try dsimp only at hSw); go_simp⟩) R0 ?_; try simp only [Act.put, List.getElem_toArray, List.getElem_cons_succ, List.getElem_cons_zero, List.setIfInBounds_toArray, List.set_cons_zero, List.set_cons_succ]
                refine wpAnyF_take (i := 2) (v := .bool true) rfl (by kernel_rfl) (by kernel_rfl) (by kernel_rfl) (by kernel_rfl) (fun _ _ _ h => h) (Or.inl ⟨by kernel_rfl, fun w hSw => by (try dsimp only at hSw); go_simp⟩) R0 ?_; try simp only [Act.put, List.getElem_toArray, List.getElem_cons_succ, List.getElem_cons_zero, List.setIfInBounds_toArray, List.set_cons_zero, List.set_cons_succ]
                refine wpAnyF_take (i := 3) (v := .int .i64 (k : Int)) rfl (by kernel_rfl) (by kernel_rfl) (by kernel_rfl) (by kernel_rfl) (fun _ _ _ h => h) (Or.inl ⟨by kernel_rfl, fun w hSw => by (try dsimp only at hSw); go_simp⟩) R0 ?_; try simp only [Act.put, List.getElem_toArray, List.getElem_cons_succ, List.getElem_cons_zero, List.setIfInBounds_toArray, List.set_cons_zero, List.set_cons_succ]
                refine wpAnyF_take (i := 4) (v := .bool true) rfl (by kernel_rfl) (by kernel_rfl) (by kernel_rfl) (by kernel_rfl) (fun _ _ _ h => h) (Or.inl ⟨by kernel_rfl, fun w hSw => by (try dsimp only at hSw); go_simp⟩) R0 ?_; try simp only [Act.put, List.getElem_toArray, List.getElem_cons_succ, List.getElem_cons_zero, List.setIfInBounds_toArray, List.set_cons_zero, List.set_cons_succ]
                refine wpAnyF_take (i := 5) (v := .bool true) rfl (by kernel_rfl) (by kernel_rfl) (by kernel_rfl) (by kernel_rfl) (fun _ _ _ h => h) (Or.inl ⟨by kernel_rfl, fun w hSw => by (try dsimp only at hSw); go_simp⟩) R0 ?_; try simp only [Act.put, List.getElem_toArray, List.getElem_cons_succ, List.getElem_cons_zero, List.setIfInBounds_toArray, List.set_cons_zero, List.set_cons_succ]
                refine wpAnyF_take (i := 6) (v := .bool true) rfl (by kernel_rfl) (by kernel_rfl) (by kernel_rfl) (by kernel_rfl) (fun _ _ _ h => h) (Or.inl ⟨by kernel_rfl, fun w hSw => by (try dsimp only at hSw); go_simp⟩) R0 ?_; try simp only [Act.put, List.getElem_toArray, List.getElem_cons_succ, List.getElem_cons_zero, List.setIfInBounds_toArray, List.set_cons_zero, List.set_cons_succ]
                refine wpAnyF_take (i := 7) (v := .agg #[.int .i64 goerx, .int .i64 opx, .int .u64 (kyx : Int), .int .u64 (cax : Int), .int .u64 (cbx : Int), .int .i64 errx, .int .u64 (valx : Int), .bool donex, .slice ppx pnx pcx, .int .i64 beganx, .int .i64 atx, .int .i64 overx, .slice tpx tnx tcx]) rfl (by kernel_rfl) (by kernel_rfl) (by kernel_rfl) (by kernel_rfl) (fun _ _ _ h => h) (Or.inl ⟨by kernel_rfl, fun w hSw => by obtain ⟨q0, q1, q2, q3, q4, q5, q6, q7, q8, q9, qa, qb, qc⟩ := Cx'h.out w hSw; clear hSw; go_simp⟩) R0 ?_; try simp only [Act.put, List.getElem_toArray, List.getElem_cons_succ, List.getElem_cons_zero, List.setIfInBounds_toArray, List.set_cons_zero, List.set_cons_succ]
                refine wpAnyF_take (i := 8) (v := .agg #[.int .i64 goery, .int .i64 opy, .int .u64 (kyy : Int), .int .u64 (cay : Int), .int .u64 (cby : Int), .int .i64 erry, .int .u64 (valy : Int), .bool doney, .slice ppy pny pcy, .int .i64 begany, .int .i64 aty, .int .i64 overy, .slice tpy tny tcy]) rfl (by kernel_rfl) (by kernel_rfl) (by kernel_rfl) (by kernel_rfl) (fun _ _ _ h => h) (Or.inl ⟨by kernel_rfl, fun w hSw => by obtain ⟨q0, q1, q2, q3, q4, q5, q6, q7, q8, q9, qa, qb, qc⟩ := Cy'h.out w hSw; clear hSw; go_simp⟩) R0 ?_; try simp only [Act.put, List.getElem_toArray, List.getElem_cons_succ, List.getElem_cons_zero, List.setIfInBounds_toArray, List.set_cons_zero, List.set_cons_succ]
                refine wpAnyF_take (i := 10) (v := .agg #[.int .i64 goerx, .int .i64 opx, .int .u64 (kyx : Int), .int .u64 (cax : Int), .int .u64 (cbx : Int), .int .i64 errx, .int .u64 (valx : Int), .bool donex, .slice ppx pnx pcx, .int .i64 beganx, .int .i64 atx, .int .i64 overx, .slice tpx tnx tcx]) rfl (by kernel_rfl) (by kernel_rfl) (by kernel_rfl) (by kernel_rfl) (fun _ _ _ h => h) (Or.inl ⟨by kernel_rfl, fun w hSw => by obtain ⟨q0, q1, q2, q3, q4, q5, q6, q7, q8, q9, qa, qb, qc⟩ := Cx'h.out w hSw; clear hSw; go_simp⟩) R0 ?_; try simp only [Act.put, List.getElem_toArray, List.getElem_cons_succ, List.getElem_cons_zero, List.setIfInBounds_toArray, List.set_cons_zero, List.set_cons_succ]
                refine wpAnyF_take (i := 11) (v := .agg #[.int .i64 goery, .int .i64 opy, .int .u64 (kyy : Int), .int .u64 (cay : Int), .int .u64 (cby : Int), .int .i64 erry, .int .u64 (valy : Int), .bool doney, .slice ppy pny pcy, .int .i64 begany, .int .i64 aty, .int .i64 overy, .slice tpy tny tcy]) rfl (by kernel_rfl) (by kernel_rfl) (by kernel_rfl) (by kernel_rfl) (fun _ _ _ h => h) (Or.inl ⟨by kernel_rfl, fun w hSw => by obtain ⟨q0, q1, q2, q3, q4, q5, q6, q7, q8, q9, qa, qb, qc⟩ := Cy'h.out w hSw; clear hSw; go_simp⟩) R0 ?_; try simp only [Act.put, List.getElem_toArray, List.getElem_cons_succ, List.getElem_cons_zero, List.setIfInBounds_toArray, List.set_cons_zero, List.set_cons_succ]
                refine wpAnyF_one (i := 9) (by kernel_rfl) rfl (fun K hK => ?_); go_simp
                refine (AX'h.out _).mono ?_
                rintro e w7 ⟨rfl, hb7⟩
                have R1 := below_next R0 hb7
                clear hb7 R0
                refine hK.out _ _ (fun _ => R1) ?_; clear hK K; try simp only [Act.put, List.getElem_toArray, List.getElem_cons_succ, List.getElem_cons_zero, List.setIfInBounds_toArray, List.set_cons_zero, List.set_cons_succ]
                refine wpAnyF_one (i := 12) (by kernel_rfl) rfl (fun K hK => ?_); go_simp
                refine (AY'h.out _).mono ?_
                rintro e w8 ⟨rfl, hb8⟩
                have R2 := below_next R1 hb8
                clear hb8 R1
                refine hK.out _ _ (fun _ => R2) ?_; clear hK K; try simp only [Act.put, List.getElem_toArray, List.getElem_cons_succ, List.getElem_cons_zero, List.setIfInBounds_toArray, List.set_cons_zero, List.set_cons_succ]
                refine wpAnyF_take (i := 13) (v := .bool false) rfl (by kernel_rfl) (by kernel_rfl) (by kernel_rfl) (by kernel_rfl) (fun _ _ _ h => h) (Or.inl ⟨by kernel_rfl, fun w hSw => by (try dsimp only at hSw); go_simp⟩) R2 ?_; try simp only [Act.put, List.getElem_toArray, List.getElem_cons_succ, List.getElem_cons_zero, List.setIfInBounds_toArray, List.set_cons_zero, List.set_cons_succ]
                refine wpAnyF_take (i := 14) (v := .bool false) rfl (by kernel_rfl) (by kernel_rfl) (by kernel_rfl) (by kernel_rfl) (fun _ _ _ h => h) (Or.inl ⟨by kernel_rfl, fun w hSw => by (try dsimp only at hSw); go_simp⟩) R2 ?_; try simp only [Act.put, List.getElem_toArray, List.getElem_cons_succ, List.getElem_cons_zero, List.setIfInBounds_toArray, List.set_cons_zero, List.set_cons_succ]
                refine wpAnyF_done (by kernel_rfl) ?_ _
                have hB7 := below_next hB6'h.out R2
                have hab7 := heap_below R2 hab6'h.out (lt_of_heap hab6'h.out)
                clear R2
                have hB7'h := Lib.hid hB7
                have hab7'h := Lib.hid hab7
                clear hB7 hab7
                go_wp2
                go_roundg (gk - 1)
                case measure => have := hk'h.out; have := hlt2'h.out; omega
                case rel => exact ⟨k + 1, by have := hk'h.out; have := hlt2'h.out; omega, by go_num, hB7'h.out, hab7'h.out⟩
              · have c2 : decide ((k : Int) < 8) = false := decide_eq_false hk8
                refine wpAnyF_take (i := 0) (v := .int .i64 (j : Int)) rfl (by kernel_rfl) (by kernel_rfl) (by kernel_rfl) (by kernel_rfl) (fun _ _ _ h => h) (Or.inl ⟨by kernel_rfl, fun w hSw => by (try dsimp only at hSw); go_simp⟩) R0 ?_; try simp only [Act.put, List.getElem_toArray, List.getElem_cons_succ, List.getElem_cons_zero, List.setIfInBounds_toArray, List.set_cons_zero, List.set_cons_succ]
                refine wpAnyF_take (i := 1) (v := .bool true) rfl (by kernel_rfl) (by kernel_rfl) (by kernel_rfl) (by kernel_rfl) (fun _ _ _ h => h) (Or.inl ⟨by kernel_rfl, fun w hSw => by (try dsimp only at hSw); go_simp⟩) R0 ?_; try simp only [Act.put, List.getElem_toArray, List.getElem_cons_succ, List.getElem_cons_zero, List.setIfInBounds_toArray, List.set_cons_zero, List.set_cons_succ]
                refine wpAnyF_take (i := 2) (v := .bool true) rfl (by kernel_rfl) (by kernel_rfl) (by kernel_rfl) (by kernel_rfl) (fun _ _ _ h => h) (Or.inl ⟨by kernel_rfl, fun w hSw => by (try dsimp only at hSw); go_simp⟩) R0 ?_; try simp only [Act.put, List.getElem_toArray, List.getElem_cons_succ, List.getElem_cons_zero, List.setIfInBounds_toArray, List.set_cons_zero, List.set_cons_succ]
                refine wpAnyF_take (i := 3) (v := .int .i64 (k : Int)) rfl (by kernel_rfl) (by kernel_rfl) (by kernel_rfl) (by kernel_rfl) (fun _ _ _ h => h) (Or.inl ⟨by kernel_rfl, fun w hSw => by (try dsimp only at hSw); go_simp⟩) R0 ?_; try simp only [Act.put, List.getElem_toArray, List.getElem_cons_succ, List.getElem_cons_zero, List.setIfInBounds_toArray, List.set_cons_zero, List.set_cons_succ]
                refine wpAnyF_take (i := 4) (v := .bool false) rfl (by kernel_rfl) (by kernel_rfl) (by kernel_rfl) (by kernel_rfl) (fun _ _ _ h => h) (Or.inl ⟨by kernel_rfl, fun w hSw => by (try dsimp only at hSw); go_simp⟩) R0 ?_; try simp only [Act.put, List.getElem_toArray, List.getElem_cons_succ, List.getElem_cons_zero, List.setIfInBounds_toArray, List.set_cons_zero, List.set_cons_succ]
                refine wpAnyF_take (i := 5) (v := .bool false) rfl (by kernel_rfl) (by kernel_rfl) (by kernel_rfl) (by kernel_rfl) (fun _ _ _ h => h) (Or.inl ⟨by kernel_rfl, fun w hSw => by (try dsimp only at hSw); go_simp⟩) R0 ?_; try simp only [Act.put, List.getElem_toArray, List.getElem_cons_succ, List.getElem_cons_zero, List.setIfInBounds_toArray, List.set_cons_zero, List.set_cons_succ]
                refine wpAnyF_take (i := 6) (v := .bool false) rfl (by kernel_rfl) (by kernel_rfl) (by kernel_rfl) (by kernel_rfl) (fun _ _ _ h => h) (Or.inl ⟨by kernel_rfl, fun w hSw => by (try dsimp only at hSw); go_simp⟩) R0 ?_; try simp only [Act.put, List.getElem_toArray, List.getElem_cons_succ, List.getElem_cons_zero, List.setIfInBounds_toArray, List.set_cons_zero, List.set_cons_succ]
                refine wpAnyF_take (i := 7) (v := undef) rfl (by kernel_rfl) (by kernel_rfl) (by kernel_rfl) (by kernel_rfl) (fun _ _ _ h => h) (Or.inr ⟨by kernel_rfl, rfl⟩) R0 ?_; try simp only [Act.put, List.getElem_toArray, List.getElem_cons_succ, List.getElem_cons_zero, List.setIfInBounds_toArray, List.set_cons_zero, List.set_cons_succ]
                refine wpAnyF_take (i := 8) (v := undef) rfl (by kernel_rfl) (by kernel_rfl) (by kernel_rfl) (by kernel_rfl) (fun _ _ _ h => h) (Or.inr ⟨by kernel_rfl, rfl⟩) R0 ?_; try simp only [Act.put, List.getElem_toArray, List.getElem_cons_succ, List.getElem_cons_zero, List.setIfInBounds_toArray, List.set_cons_zero, List.set_cons_succ]
                refine wpAnyF_take (i := 9) (v := undef) rfl (by kernel_rfl) (by kernel_rfl) (by kernel_rfl) (by kernel_rfl) (fun _ _ _ h => h) (Or.inr ⟨by kernel_rfl, rfl⟩) R0 ?_; try simp only [Act.put, List.getElem_toArray, List.getElem_cons_succ, List.getElem_cons_zero, List.setIfInBounds_toArray, List.set_cons_zero, List.set_cons_succ]
                refine wpAnyF_take (i := 10) (v := undef) rfl (by kernel_rfl) (by kernel_rfl) (by kernel_rfl) (by kernel_rfl) (fun _ _ _ h => h) (Or.inr ⟨by kernel_rfl, rfl⟩) R0 ?_; try simp only [Act.put, List.getElem_toArray, List.getElem_cons_succ, List.getElem_cons_zero, List.setIfInBounds_toArray, List.set_cons_zero, List.set_cons_succ]
                refine wpAnyF_take (i := 11) (v := undef) rfl (by kernel_rfl) (by kernel_rfl) (by kernel_rfl) (by kernel_rfl) (fun _ _ _ h => h) (Or.inr ⟨by kernel_rfl, rfl⟩) R0 ?_; try simp only [Act.put, List.getElem_toArray, List.getElem_cons_succ, List.getElem_cons_zero, List.setIfInBounds_toArray, List.set_cons_zero, List.set_cons_succ]
                refine wpAnyF_take (i := 12) (v := undef) rfl (by kernel_rfl) (by kernel_rfl) (by kernel_rfl) (by kernel_rfl) (fun _ _ _ h => h) (Or.inr ⟨by kernel_rfl, rfl⟩) R0 ?_; try simp only [Act.put, List.getElem_toArray, List.getElem_cons_succ, List.getElem_cons_zero, List.setIfInBounds_toArray, List.set_cons_zero, List.set_cons_succ]
                refine wpAnyF_take (i := 13) (v := undef) rfl (by kernel_rfl) (by kernel_rfl) (by kernel_rfl) (by kernel_rfl) (fun _ _ _ h => h) (Or.inr ⟨by kernel_rfl, rfl⟩) R0 ?_; try simp only [Act.put, List.getElem_toArray, List.getElem_cons_succ, List.getElem_cons_zero, List.setIfInBounds_toArray, List.set_cons_zero, List.set_cons_succ]
                refine wpAnyF_take (i := 14) (v := .bool false) rfl (by kernel_rfl) (by kernel_rfl) (by kernel_rfl) (by kernel_rfl) (fun _ _ _ h => h) (Or.inl ⟨by kernel_rfl, fun w hSw => by (try dsimp only at hSw); go_simp⟩) R0 ?_; try simp only [Act.put, List.getElem_toArray, List.getElem_cons_succ, List.getElem_cons_zero, List.setIfInBounds_toArray, List.set_cons_zero, List.set_cons_succ]
                refine wpAnyF_done (by kernel_rfl) ?_ _
                have hB7 := below_next hB6'h.out R0
                have hab7 := heap_below R0 hab6'h.out (lt_of_heap hab6'h.out)
                clear R0 c1
                have hB7'h := Lib.hid hB7
                have hab7'h := Lib.hid hab7
                clear hB7 hab7
                go_wp2
                go_roundg (gk - 1)
                case measure => have := hk'h.out; have := hlt2'h.out; omega
                case rel => exact ⟨k + 1, by have := hk'h.out; have := hlt2'h.out; omega, by go_num, hB7'h.out, hab7'h.out⟩
            · have c1 : decide ((j : Int) < 8) = false := decide_eq_false hi8
              refine wpAnyF_take (i := 0) (v := .int .i64 (j : Int)) rfl (by kernel_rfl) (by kernel_rfl) (by kernel_rfl) (by kernel_rfl) (fun _ _ _ h => h) (Or.inl ⟨by kernel_rfl, fun w hSw => by (try dsimp only at hSw); go_simp⟩) R0 ?_; try simp only [Act.put, List.getElem_toArray, List.getElem_cons_succ, List.getElem_cons_zero, List.setIfInBounds_toArray, List.set_cons_zero, List.set_cons_succ]
              refine wpAnyF_take (i := 1) (v := .bool false) rfl (by kernel_rfl) (by kernel_rfl) (by kernel_rfl) (by kernel_rfl) (fun _ _ _ h => h) (Or.inl ⟨by kernel_rfl, fun w hSw => by (try dsimp only at hSw); go_simp⟩) R0 ?_; try simp only [Act.put, List.getElem_toArray, List.getElem_cons_succ, List.getElem_cons_zero, List.setIfInBounds_toArray, List.set_cons_zero, List.set_cons_succ]
              refine wpAnyF_take (i := 2) (v := .bool false) rfl (by kernel_rfl) (by kernel_rfl) (by kernel_rfl) (by kernel_rfl) (fun _ _ _ h => h) (Or.inl ⟨by kernel_rfl, fun w hSw => by (try dsimp only at hSw); go_simp⟩) R0 ?_; try simp only [Act.put, List.getElem_toArray, List.getElem_cons_succ, List.getElem_cons_zero, List.setIfInBounds_toArray, List.set_cons_zero, List.set_cons_succ]
              refine wpAnyF_take (i := 3) (v := undef) rfl (by kernel_rfl) (by kernel_rfl) (by kernel_rfl) (by kernel_rfl) (fun _ _ _ h => h) (Or.inr ⟨by kernel_rfl, rfl⟩) R0 ?_; try simp only [Act.put, List.getElem_toArray, List.getElem_cons_succ, List.getElem_cons_zero, List.setIfInBounds_toArray, List.set_cons_zero, List.set_cons_succ]
              refine wpAnyF_take (i := 4) (v := undef) rfl (by kernel_rfl) (by kernel_rfl) (by kernel_rfl) (by kernel_rfl) (fun _ _ _ h => h) (Or.inr ⟨by kernel_rfl, rfl⟩) R0 ?_; try simp only [Act.put, List.getElem_toArray, List.getElem_cons_succ, List.getElem_cons_zero, List.setIfInBounds_toArray, List.set_cons_zero, List.set_cons_succ]
              refine wpAnyF_take (i := 5) (v := .bool false) rfl (by kernel_rfl) (by kernel_rfl) (by kernel_rfl) (by kernel_rfl) (fun _ _ _ h => h) (Or.inl ⟨by kernel_rfl, fun w hSw => by (try dsimp only at hSw); go_simp⟩) R0 ?_; try simp only [Act.put, List.getElem_toArray, List.getElem_cons_succ, List.getElem_cons_zero, List.setIfInBounds_toArray, List.set_cons_zero, List.set_cons_succ]
              refine wpAnyF_take (i := 6) (v := .bool false) rfl (by kernel_rfl) (by kernel_rfl) (by kernel_rfl) (by kernel_rfl) (fun _ _ _ h => h) (Or.inl ⟨by kernel_rfl, fun w hSw => by (try dsimp only at hSw); go_simp⟩) R0 ?_; try simp only [Act.put, List.getElem_toArray, List.getElem_cons_succ, List.getElem_cons_zero, List.setIfInBounds_toArray, List.set_cons_zero, List.set_cons_succ]
              refine wpAnyF_take (i := 7) (v := undef) rfl (by kernel_rfl) (by kernel_rfl) (by kernel_rfl) (by kernel_rfl) (fun _ _ _ h => h) (Or.inr ⟨by kernel_rfl, rfl⟩) R0 ?_; try simp only [Act.put, List.getElem_toArray, List.getElem_cons_succ, List.getElem_cons_zero, List.setIfInBounds_toArray, List.set_cons_zero, List.set_cons_succ]
              refine wpAnyF_take (i := 8) (v := undef) rfl (by kernel_rfl) (by kernel_rfl) (by kernel_rfl) (by kernel_rfl) (fun _ _ _ h => h) (Or.inr ⟨by kernel_rfl, rfl⟩) R0 ?_; try simp only [Act.put, List.getElem_toArray, List.getElem_cons_succ, List.getElem_cons_zero, List.setIfInBounds_toArray, List.set_cons_zero, List.set_cons_succ]
              refine wpAnyF_take (i := 9) (v := undef) rfl (by kernel_rfl) (by kernel_rfl) (by kernel_rfl) (by kernel_rfl) (fun _ _ _ h => h) (Or.inr ⟨by kernel_rfl, rfl⟩) R0 ?_; try simp only [Act.put, List.getElem_toArray, List.getElem_cons_succ, List.getElem_cons_zero, List.setIfInBounds_toArray, List.set_cons_zero, List.set_cons_succ]
              refine wpAnyF_take (i := 10) (v := undef) rfl (by kernel_rfl) (by kernel_rfl) (by kernel_rfl) (by kernel_rfl) (fun _ _ _ h => h) (Or.inr ⟨by kernel_rfl, rfl⟩) R0 ?_; try simp only [Act.put, List.getElem_toArray, List.getElem_cons_succ, List.getElem_cons_zero, List.setIfInBounds_toArray, List.set_cons_zero, List.set_cons_succ]
              refine wpAnyF_take (i := 11) (v := undef) rfl (by kernel_rfl) (by kernel_rfl) (by kernel_rfl) (by kernel_rfl) (fun _ _ _ h => h) (Or.inr ⟨by kernel_rfl, rfl⟩) R0 ?_; try simp only [Act.put, List.getElem_toArray, List.getElem_cons_succ, List.getElem_cons_zero, List.setIfInBounds_toArray, List.set_cons_zero, List.set_cons_succ]
              refine wpAnyF_take (i := 12) (v := undef) rfl (by kernel_rfl) (by kernel_rfl) (by kernel_rfl) (by kernel_rfl) (fun _ _ _ h => h) (Or.inr ⟨by kernel_rfl, rfl⟩) R0 ?_; try simp only [Act.put, List.getElem_toArray, List.getElem_cons_succ, List.getElem_cons_zero, List.setIfInBounds_toArray, List.set_cons_zero, List.set_cons_succ]
              refine wpAnyF_take (i := 13) (v := undef) rfl (by kernel_rfl) (by kernel_rfl) (by kernel_rfl) (by kernel_rfl) (fun _ _ _ h => h) (Or.inr ⟨by kernel_rfl, rfl⟩) R0 ?_; try simp only [Act.put, List.getElem_toArray, List.getElem_cons_succ, List.getElem_cons_zero, List.setIfInBounds_toArray, List.set_cons_zero, List.set_cons_succ]
              refine wpAnyF_take (i := 14) (v := .bool false) rfl (by kernel_rfl) (by kernel_rfl) (by kernel_rfl) (by kernel_rfl) (fun _ _ _ h => h) (Or.inl ⟨by kernel_rfl, fun w hSw => by (try dsimp only at hSw); go_simp⟩) R0 ?_; try simp only [Act.put, List.getElem_toArray, List.getElem_cons_succ, List.getElem_cons_zero, List.setIfInBounds_toArray, List.set_cons_zero, List.set_cons_succ]
              refine wpAnyF_done (by kernel_rfl) ?_ _
              have hB7 := below_next hB6'h.out R0
              have hab7 := heap_below R0 hab6'h.out (lt_of_heap hab6'h.out)
              clear R0 c1
              have hB7'h := Lib.hid hB7
              have hab7'h := Lib.hid hab7
              clear hB7 hab7
              go_wp2
              go_roundg (gk - 1)
              case measure => have := hk'h.out; have := hlt2'h.out; omega
              case rel => exact ⟨k + 1, by have := hk'h.out; have := hlt2'h.out; omega, by go_num, hB7'h.out, hab7'h.out⟩
          · have j1 : ¬ (k : Int) < (n : Int) := by omega
            clear hk hlt2 hab
            have hB'h := Lib.hid hB
            clear hB
            go_wp2
            go_roundg (go - 1)
            case measure => have := hgo'h.out; have := hj'h.out; have := hlt'h.out; omega
            case rel => exact ⟨j + 1, by have := hgo'h.out; have := hj'h.out; have := hlt'h.out; omega, by go_num, hB'h.out⟩
      · have i3 : ¬ (j : Int) < (n : Int) := by omega
        clear hj hlt
        have DF := dfree_any lp n lc l wr (hML'h.out wr hB) h80'h.out
        have hB'h := Lib.hid hB
        have DF'h := Lib.hid DF
        clear hB DF
        go_wp2_with fail
        refine DF'h.out.mono ?_
        rintro e w5 ⟨s5, c5, rfl, hb5, hrow5⟩
        have hB5 := below_next hB'h.out hb5
        have FR := free_any lp n lc l w5 (hT'h.out.next (below_next hBase'h.out hB5)) (hML'h.out w5 hB5) hlc'h.out
        rw [hfr'h.out] at FR
        clear hb5 DF'h
        obtain ⟨fl, hfl⟩ : ∃ fl, fl = freeFrom l n 0 := ⟨_, rfl⟩
        rw [← hfl] at FR hrow5 ⊢
        have hsm := hsm'h.out
        rw [← hfl] at hsm
        have hK5 := SlK.of_row hrow5 (by have := hsm.1; unfold maxLen; omega)
        clear hfl hrow5 hsm'h hfr'h
        obtain ⟨fn, hfn⟩ : ∃ fn, fn = fl.length := ⟨_, rfl⟩
        rw [← hfn] at FR hK5 hsm ⊢
        have hB5'h := Lib.hid hB5
        have FR'h := Lib.hid FR
        have hK5'h := Lib.hid hK5
        have hsm'h := Lib.hid hsm
        have hfn'h := Lib.hid hfn
        clear hB5 FR hK5 hsm hfn
        go_wp2_with fail
        refine FR'h.out.mono ?_
        rintro e w6 ⟨s6, c6, rfl, hb6, hrow6⟩
        have hB6 := below_next hB5'h.out hb6
        have hK6 := SlK.of_row hrow6 (by have := hsm'h.out.1; unfold maxLen; omega)
        have EQ := equal2_self s6 s5 fn c6 c5 fl w6 hK6 (hK5'h.out.below hb6) hfn'h.out.symm hsm'h.out.2
        clear hb6 hrow6 hB5'h hK5'h hsm'h FR'h hK6
        have hB6'h := Lib.hid hB6
        have EQ'h := Lib.hid EQ
        clear hB6 EQ
        go_wp2_with fail
        refine EQ'h.out.mono ?_
        rintro e w7 ⟨rfl, d, rfl⟩
        have hB7 := hB6'h.out.trans (below_drewN' _ d)
        generalize w6.drewN d = w7 at hB7 ⊢
        have hW7 := below_next hBase'h.out hB7
        have OW := own27_any xp xn xc xs w7 (hXW'h.out w7 hW7) hnil'h.out hle'h.out
        clear hB6'h EQ'h
        have hB7'h := Lib.hid hB7
        have OW'h := Lib.hid OW
        have hW7'h := Lib.hid hW7
        clear hB7 OW hW7
        go_wp2_with fail
        refine OW'h.out.mono ?_
        rintro e w8 ⟨kp, kc, l2, rfl, hb8, hM8, hll8, hmd8, hlc8, hfar8⟩
        have hB8 := below_next hB7'h.out hb8
        have hlen2 : l2.length = n := by have := hll'h.out; omega
        rw [hlen2] at hM8 hmd8 ⊢
        have SM := same27_self lp kp n lc kc l l2 w8 (hML'h.out w8 hB8) hM8 (fun i hi => by rw [hmd'h.out i hi, hmd8 i hi])
        have hW8 := below_next hW7'h.out hb8
        clear hb8 hM8 hll8 hmd8 hlc8 hfar8 hlen2 hB8 hB7'h OW'h hW7'h
        have SM'h := Lib.hid SM
        have hW8'h := Lib.hid hW8
        clear SM hW8
        go_wp2_with fail
        refine SM'h.out.mono ?_
        rintro e w9 ⟨rfl, hb9⟩
        have hW9 := below_next hW8'h.out hb9
        clear hb9 SM'h hW8'h
        have hW9'h := Lib.hid hW9
        clear hW9
        go_wp2
        go_ret
        exact ⟨rfl, hW9'h.out⟩
  | false =>
    have hfr : freeL l = [] := by unfold freeL; rw [← hc'h.out]; rfl
    have hB4'h := Lib.hid hB4
    have hfr'h := Lib.hid hfr
    clear hB4 hfr
    simp only [Bool.false_eq_true, if_false] at *
    go_wp2
    go_loopg [33] n (fun q v33 wr => ∃ j : Nat, j + q = n ∧ v33 = .int .i64 (j : Int) ∧ Below w4.heap.size w4 wr)
    case atStart => exact ⟨0, by omega, rfl, hB4'h.out⟩
    case round =>
      obtain ⟨j, hj, rfl, hB⟩ := hrel
      by_cases hlt : j < n
      · have i3 : (j : Int) < (n : Int) := by omega
        have i4 : (0 : Int) ≤ (j : Int) := by omega
        have i5 : (j : Int) + 1 ≤ 5000 := by have := hn82'h.out; omega
        have hS := hML'h.out wr hB
        obtain ⟨b, off, rfl⟩ := slk_some hS.sl (by omega)
        have hjl : j < l.length := by have := hn'h.out; omega
        obtain ⟨x, hx0⟩ : ∃ x, x = nthM l j := ⟨_, rfl⟩
        have hcl := fun (i : Nat) (v : Value) (hi : i < 13) (hv : (mmL x)[i]? = some v) => hS.cells hjl (i := i) (v := v) hi (by rw [← hx0]; exact hv)
        have hB3 := (Below.refl wr.heap.size wr).alloc (Nat.le_refl _) (.cells (mmA x) 39)
        have hb3 := World.alloc_heap_new wr (.cells (mmA x) 39)
        have AX := fun (y : Mm) W => ahead_any x y W
        have AY := fun (y : Mm) W => dahead_any x y W
        obtain ⟨mx, hmx⟩ : ∃ mx, mx = x.md := ⟨_, rfl⟩
        rw [← hmx] at AX AY
        clear hx0 hS hmx
        obtain ⟨⟨goerx, ⟨opx, kyx, cax, cbx⟩, ⟨errx, valx, donex⟩, prsx, beganx, atx, overx, toldx⟩, ppx, pnx, pcx, tpx, tnx, tcx⟩ := x
        have e0 := hcl 0 _ (by omega) rfl
        have e1 := hcl 1 _ (by omega) rfl
        have e2 := hcl 2 _ (by omega) rfl
        have e3 := hcl 3 _ (by omega) rfl
        have e4 := hcl 4 _ (by omega) rfl
        have e5 := hcl 5 _ (by omega) rfl
        have e6 := hcl 6 _ (by omega) rfl
        have e7 := hcl 7 _ (by omega) rfl
        have e8 := hcl 8 _ (by omega) rfl
        have e9 := hcl 9 _ (by omega) rfl
        have ea := hcl 10 _ (by omega) rfl
        have eb := hcl 11 _ (by omega) rfl
        have ec := hcl 12 _ (by omega) rfl
        simp only [Nat.add_zero] at e0
        simp only [mmA] at *
        clear hcl
        obtain ⟨W3, hW3⟩ : ∃ W3, W3 = wr.alloc (.cells #[.int .i64 goerx, .int .i64 opx, .int .u64 (kyx : Int), .int .u64 (cax : Int), .int .u64 (cbx : Int), .int .i64 errx, .int .u64 (valx : Int), .bool donex, .slice ppx pnx pcx, .int .i64 beganx, .int .i64 atx, .int .i64 overx, .slice tpx tnx tcx] 39) := ⟨_, rfl⟩
        rw [← hW3] at hB3 hb3
        obtain ⟨go, hgo⟩ : ∃ go : Nat, go = gk := ⟨_, rfl⟩
        have hj'h := Lib.hid hj
        have hB'h := Lib.hid hB
        have AX'h := Lib.hid AX
        have AY'h := Lib.hid AY
        have hB3'h := Lib.hid hB3
        have hb3'h := Lib.hid hb3
        have hjl'h := Lib.hid hjl
        have hlt'h := Lib.hid hlt
        have hgo'h := Lib.hid hgo
        clear hj hB AX AY hB3 hb3 hjl hlt hgo
        go_upto_region 11 with fail
        rw [← hW3]
        clear hW3 e0 e1 e2 e3 e4 e5 e6 e7 e8 e9 ea eb ec
        have hB5 := below_next hB'h.out hB3'h.out
        have hb3 := hb3'h.out
        clear hb3'h hB3'h hB'h
        generalize wr.heap.size = ab at hb3 ⊢
        have hB5'h := Lib.hid hB5
        have hb3'h := Lib.hid hb3
        clear hB5 hb3
        go_wp2
        go_loopg [40] n (fun q v40 wq => ∃ k : Nat, k + q = n ∧ v40 = .int .i64 (k : Int) ∧ Below w4.heap.size w4 wq ∧ wq.heap[ab]? = some (.cells #[.int .i64 goerx, .int .i64 opx, .int .u64 (kyx : Int), .int .u64 (cax : Int), .int .u64 (cbx : Int), .int .i64 errx, .int .u64 (valx : Int), .bool donex, .slice ppx pnx pcx, .int .i64 beganx, .int .i64 atx, .int .i64 overx, .slice tpx tnx tcx] 39 (0, 0)))
        case atStart => exact ⟨0, by omega, rfl, hB5'h.out, hb3'h.out⟩
        case round =>
          obtain ⟨k, hk, rfl, hB, hab⟩ := hrel
          by_cases hlt2 : k < n
          · have j1 : (k : Int) < (n : Int) := by omega
            have j2 : (0 : Int) ≤ (k : Int) := by omega
            have j3 : (k : Int) + 1 ≤ 5000 := by have := hn82'h.out; omega
            have hS := hML'h.out wr hB
            have hkl : k < l.length := by have := hn'h.out; omega
            obtain ⟨y, hy0⟩ : ∃ y, y = nthM l k := ⟨_, rfl⟩
            have hcl := fun (i : Nat) (v : Value) (hi : i < 13) (hv : (mmL y)[i]? = some v) => hS.cells hkl (i := i) (v := v) hi (by rw [← hy0]; exact hv)
            have AX := AX'h.out y
            have AY := AY'h.out y
            obtain ⟨p, hp⟩ : ∃ p, p = aheadM mx y.md := ⟨_, rfl⟩
            rw [← hp] at AX AY
            have hB5 := (Below.refl wr.heap.size wr).alloc (Nat.le_refl _) (.cells (mmA y) 39)
            have hb5 := World.alloc_heap_new wr (.cells (mmA y) 39)
            clear hp hy0 hS
            obtain ⟨⟨goery, ⟨opy, kyy, cay, cby⟩, ⟨erry, valy, doney⟩, prsy, begany, aty, overy, toldy⟩, ppy, pny, pcy, tpy, tny, tcy⟩ := y
            have e0 := hcl 0 _ (by omega) rfl
            have e1 := hcl 1 _ (by omega) rfl
            have e2 := hcl 2 _ (by omega) rfl
            have e3 := hcl 3 _ (by omega) rfl
            have e4 := hcl 4 _ (by omega) rfl
            have e5 := hcl 5 _ (by omega) rfl
            have e6 := hcl 6 _ (by omega) rfl
            have e7 := hcl 7 _ (by omega) rfl
            have e8 := hcl 8 _ (by omega) rfl
            have e9 := hcl 9 _ (by omega) rfl
            have ea := hcl 10 _ (by omega) rfl
            have eb := hcl 11 _ (by omega) rfl
            have ec := hcl 12 _ (by omega) rfl
            simp only [Nat.add_zero] at e0
            simp only [mmA] at *
            clear hcl
            obtain ⟨W6, hW6⟩ : ∃ W6, W6 = wr.alloc (.cells #[.int .i64 goery, .int .i64 opy, .int .u64 (kyy : Int), .int .u64 (cay : Int), .int .u64 (cby : Int), .int .i64 erry, .int .u64 (valy : Int), .bool doney, .slice ppy pny pcy, .int .i64 begany, .int .i64 aty, .int .i64 overy, .slice tpy tny tcy] 39) := ⟨_, rfl⟩
            rw [← hW6] at hB5 hb5
            have hk'h := Lib.hid hk
            have hB'h := Lib.hid hB
            have hab'h := Lib.hid hab
            have AX'h := Lib.hid AX
            have AY'h := Lib.hid AY
            have hB5'h := Lib.hid hB5
            have hb5'h := Lib.hid hb5
            have hkl'h := Lib.hid hkl
            have hlt2'h := Lib.hid hlt2
            clear hk hB hab AX AY hB5 hb5 hkl hlt2
            go_upto_region 14 with fail
            rw [← hW6]
            clear hW6 e0 e1 e2 e3 e4 e5 e6 e7 e8 e9 ea eb ec
            have hB6 := below_next hB'h.out hB5'h.out
            have hab6 := heap_below hB5'h.out hab'h.out (lt_of_heap hab'h.out)
            have hb5 := hb5'h.out
            clear hB5'h hB'h hab'h hb5'h
            generalize wr.heap.size = yb at hb5 ⊢
            have Cx := fun (w : World) (hw : Below W6.heap.size W6 w) => cells13 (heap_below hw hab6 (lt_of_heap hab6))
            have Cy := fun (w : World) (hw : Below W6.heap.size W6 w) => cells13 (heap_below hw hb5 (lt_of_heap hb5))
            have hB6'h := Lib.hid hB6
            have hab6'h := Lib.hid hab6
            have Cx'h := Lib.hid Cx
            have Cy'h := Lib.hid Cy
            clear hB6 hab6 Cx Cy
            clear hb5
            refine wp_region_heldF (fun w' => Below W6.heap.size W6 w') 99 (by kernel_rfl) ?_
            have R0 : Below W6.heap.size W6 W6.drew := Below.drew (Below.refl _ _)
            by_cases hi8 : (j : Int) < 8
            · have c1 : decide ((j : Int) < 8) = true := decide_eq_true hi8
              by_cases hk8 : (k : Int) < 8
              · have c2 : decide ((k : Int) < 8) = true := decide_eq_true hk8
                refine wpAnyF_take (i := 0) (v := .int .i64 (j : Int)) rfl (by kernel_rfl) (by kernel_rfl) (by kernel_rfl) (by kernel_rfl) (fun _ _ _ h => h) (Or.inl ⟨by kernel_rfl, fun w hSw => by (try dsimp only at hSw); go_simp⟩) R0 ?_; try simp only [Act.put, List.getElem_toArray, List.getElem_cons_succ, List.getElem_cons_zero, List.setIfInBounds_toArray, List.set_cons_zero, List.set_cons_succ]
                refine wpAnyF_take (i := 1) (v := .bool true) rfl (by kernel_rfl) (by kernel_rfl) (by kernel_rfl) (by kernel_rfl) (fun _ _ _ h => h) (Or.inl ⟨by kernel_rfl, fun w hSw => by (try dsimp only at hSw); go_simp⟩) R0 ?_; try simp only [Act.put, List.getElem_toArray, List.getElem_cons_succ, List.getElem_cons_zero, List.setIfInBounds_toArray, List.set_cons_zero, List.set_cons_succ]
                refine wpAnyF_take (i := 2) (v := .bool true) rfl (by kernel_rfl) (by kernel_rfl) (by kernel_rfl) (by kernel_rfl) (fun _ _ _ h => h) (Or.inl ⟨by kernel_rfl, fun w hSw => by (try dsimp only at hSw); go_simp⟩) R0 ?_; try simp only [Act.put, List.getElem_toArray, List.getElem_cons_succ, List.getElem_cons_zero, List.setIfInBounds_toArray, List.set_cons_zero, List.set_cons_succ]
                refine wpAnyF_take (i := 3) (v := .int .i64 (k : Int)) rfl (by kernel_rfl) (by kernel_rfl) (by kernel_rfl) (by kernel_rfl) (fun _ _ _ h => h) (Or.inl ⟨by kernel_rfl, fun w hSw => by (try dsimp only at hSw); go_simp⟩) R0 ?_; try simp only [Act.put, List.getElem_toArray, List.getElem_cons_succ, List.getElem_cons_zero, List.setIfInBounds_toArray, List.set_cons_zero, List.set_cons_succ]
                refine wpAnyF_take (i := 4) (v := .bool true) rfl (by kernel_rfl) (by kernel_rfl) (by kernel_rfl) (by kernel_rfl) (fun _ _ _ h => h) (Or.inl ⟨by kernel_rfl, fun w hSw => by (try dsimp only at hSw); go_simp⟩) R0 ?_; try simp only [Act.put, List.getElem_toArray, List.getElem_cons_succ, List.getElem_cons_zero, List.setIfInBounds_toArray, List.set_cons_zero, List.set_cons_succ]
                refine wpAnyF_take (i := 5) (v := .bool true) rfl (by kernel_rfl) (by kernel_rfl) (by kernel_rfl) (by kernel_rfl) (fun _ _ _ h => h) (Or.inl ⟨by kernel_rfl, fun w hSw => by (try dsimp only at hSw); go_simp⟩) R0 ?_; try simp only [Act.put, List.getElem_toArray, List.getElem_cons_succ, List.getElem_cons_zero, List.setIfInBounds_toArray, List.set_cons_zero, List.set_cons_succ]
                refine wpAnyF_take (i := 6) (v := .bool true) rfl (by kernel_rfl) (by kernel_rfl) (by kernel_rfl) (by kernel_rfl) (fun _ _ _ h => h) (Or.inl ⟨by kernel_rfl, fun w hSw => by (try dsimp only at hSw); go_simp⟩) R0 ?_; try simp only [Act.put, List.getElem_toArray, List.getElem_cons_succ, List.getElem_cons_zero, List.setIfInBounds_toArray, List.set_cons_zero, List.set_cons_succ]
                refine wpAnyF_take (i := 7) (v := .agg #[.int .i64 goerx, .int .i64 opx, .int .u64 (kyx : Int), .int .u64 (cax : Int), .int .u64 (cbx : Int), .int .i64 errx, .int .u64 (valx : Int), .bool donex, .slice ppx pnx pcx, .int .i64 beganx, .int .i64 atx, .int .i64 overx, .slice tpx tnx tcx]) rfl (by kernel_rfl) (by kernel_rfl) (by kernel_rfl) (by kernel_rfl) (fun _ _ _ h => h) (Or.inl ⟨by kernel_rfl, fun w hSw => by obtain ⟨q0, q1, q2, q3, q4, q5, q6, q7, q8, q9, qa, qb, qc⟩ := Cx'h.out w hSw; clear hSw; go_simp⟩) R0 ?_; try simp only [Act.put, List.getElem_toArray, List.getElem_cons_succ, List.getElem_cons_zero, List.setIfInBounds_toArray, List.set_cons_zero, List.set_cons_succ]
                refine wpAnyF_take (i := 8) (v := .agg #[.int .i64 goery, .int .i64 opy, .int .u64 (kyy : Int), .int .u64 (cay : Int), .int .u64 (cby : Int), .int .i64 erry, .int .u64 (valy : Int), .bool doney, .slice ppy pny pcy, .int .i64 begany, .int .i64 aty, .int .i64 overy, .slice tpy tny tcy]) rfl (by kernel_rfl) (by kernel_rfl) (by kernel_rfl) (by kernel_rfl) (fun _ _ _ h => h) (Or.inl ⟨by kernel_rfl, fun w hSw => by obtain ⟨q0, q1, q2, q3, q4, q5, q6, q7, q8, q9, qa, qb, qc⟩ := Cy'h.out w hSw; clear hSw; go_simp⟩) R0 ?_; try simp only [Act.put, List.getElem_toArray, List.getElem_cons_succ, List.getElem_cons_zero, List.setIfInBounds_toArray, List.set_cons_zero, List.set_cons_succ]
                refine wpAnyF_take (i := 10) (v := .agg #[.int .i64 goerx, .int .i64 opx, .int .u64 (kyx : Int), .int .u64 (cax : Int), .int .u64 (cbx : Int), .int .i64 errx, .int .u64 (valx : Int), .bool donex, .slice ppx pnx pcx, .int .i64 beganx, .int .i64 atx, .int .i64 overx, .slice tpx tnx tcx]) rfl (by kernel_rfl) (by kernel_rfl) (by kernel_rfl) (by kernel_rfl) (fun _ _ _ h => h) (Or.inl ⟨by kernel_rfl, fun w hSw => by obtain ⟨q0, q1, q2, q3, q4, q5, q6, q7, q8, q9, qa, qb, qc⟩ := Cx'h.out w hSw; clear hSw; go_simp⟩) R0 ?_; try simp only [Act.put, List.getElem_toArray, List.getElem_cons_succ, List.getElem_cons_zero, List.setIfInBounds_toArray, List.set_cons_zero, List.set_cons_succ]
                refine wpAnyF_take (i := 11) (v := .agg #[.int .i64 goery, .int .i64 opy, .int .u64 (kyy : Int), .int .u64 (cay : Int), .int .u64 (cby : Int), .int .i64 erry, .int .u64 (valy : Int), .bool doney, .slice ppy pny pcy, .int .i64 begany, .int .i64 aty, .int .i64 overy, .slice tpy tny tcy]) rfl (by kernel_rfl) (by kernel_rfl) (by kernel_rfl) (by kernel_rfl) (fun _ _ _ h => h) (Or.inl ⟨by kernel_rfl, fun w hSw => by obtain ⟨q0, q1, q2, q3, q4, q5, q6, q7, q8, q9, qa, qb, qc⟩ := Cy'h.out w hSw; clear hSw; go_simp⟩) R0 ?_; try simp only [Act.put, List.getElem_toArray, List.getElem_cons_succ, List.getElem_cons_zero, List.setIfInBounds_toArray, List.set_cons_zero, List.set_cons_succ]
                refine wpAnyF_one (i := 9) (by kernel_rfl) rfl (fun K hK => ?_); go_simp
                refine (AX'h.out _).mono ?_
                rintro e w7 ⟨rfl, hb7⟩
                have R1 := below_next R0 hb7
                clear hb7 R0
                refine hK.out _ _ (fun _ => R1) ?_; clear hK K; try simp only [Act.put, List.getElem_toArray, List.getElem_cons_succ, List.getElem_cons_zero, List.setIfInBounds_toArray, List.set_cons_zero, List.set_cons_succ]
                refine wpAnyF_one (i := 12) (by kernel_rfl) rfl (fun K hK => ?_); go_simp
                refine (AY'h.out _).mono ?_
                rintro e w8 ⟨rfl, hb8⟩
                have R2 := below_next R1 hb8
                clear hb8 R1
                refine hK.out _ _ (fun _ => R2) ?_; clear hK K; try simp only [Act.put, List.getElem_toArray, List.getElem_cons_succ, List.getElem_cons_zero, List.setIfInBounds_toArray, List.set_cons_zero, List.set_cons_succ]
                refine wpAnyF_take (i := 13) (v := .bool false) rfl (by kernel_rfl) (by kernel_rfl) (by kernel_rfl) (by kernel_rfl) (fun _ _ _ h => h) (Or.inl ⟨by kernel_rfl, fun w hSw => by (try dsimp only at hSw); go_simp⟩) R2 ?_; try simp only [Act.put, List.getElem_toArray, List.getElem_cons_succ, List.getElem_cons_zero, List.setIfInBounds_toArray, List.set_cons_zero, List.set_cons_succ]
                refine wpAnyF_take (i := 14) (v := .bool false) rfl (by kernel_rfl) (by kernel_rfl) (by kernel_rfl) (by kernel_rfl) (fun _ _ _ h => h) (Or.inl ⟨by kernel_rfl, fun w hSw => by (try dsimp only at hSw); go_simp⟩) R2 ?_; try simp only [Act.put, List.getElem_toArray, List.getElem_cons_succ, List.getElem_cons_zero, List.setIfInBounds_toArray, List.set_cons_zero, List.set_cons_succ]
                refine wpAnyF_done (by kernel_rfl) ?_ _
                have hB7 := below_next hB6'h.out R2
                have hab7 := heap_below R2 hab6'h.out (lt_of_heap hab6'h.out)
                clear R2
                have hB7'h := Lib.hid hB7
                have hab7'h := Lib.hid hab7
                clear hB7 hab7
                go_wp2
                go_roundg (gk - 1)
                case measure => have := hk'h.out; have := hlt2'h.out; omega
                case rel => exact ⟨k + 1, by have := hk'h.out; have := hlt2'h.out; omega, by go_num, hB7'h.out, hab7'h.out⟩
              · have c2 : decide ((k : Int) < 8) = false := decide_eq_false hk8
                refine wpAnyF_take (i := 0) (v := .int .i64 (j : Int)) rfl (by kernel_rfl) (by kernel_rfl) (by kernel_rfl) (by kernel_rfl) (fun _ _ _ h => h) (Or.inl ⟨by kernel_rfl, fun w hSw => by (try dsimp only at hSw); go_simp⟩) R0 ?_; try simp only [Act.put, List.getElem_toArray, List.getElem_cons_succ, List.getElem_cons_zero, List.setIfInBounds_toArray, List.set_cons_zero, List.set_cons_succ]
                refine wpAnyF_take (i := 1) (v := .bool true) rfl (by kernel_rfl) (by kernel_rfl) (by kernel_rfl) (by kernel_rfl) (fun _ _ _ h => h) (Or.inl ⟨by kernel_rfl, fun w hSw => by (try dsimp only at hSw); go_simp⟩) R0 ?_; try simp only [Act.put, List.getElem_toArray, List.getElem_cons_succ, List.getElem_cons_zero, List.setIfInBounds_toArray, List.set_cons_zero, List.set_cons_succ]
                refine wpAnyF_take (i := 2) (v := .bool true) rfl (by kernel_rfl) (by kernel_rfl) (by kernel_rfl) (by kernel_rfl) (fun _ _ _ h => h) (Or.inl ⟨by kernel_rfl, fun w hSw => by (try dsimp only at hSw); go_simp⟩) R0 ?_; try simp only [Act.put, List.getElem_toArray, List.getElem_cons_succ, List.getElem_cons_zero, List.setIfInBounds_toArray, List.set_cons_zero, List.set_cons_succ]
                refine wpAnyF_take (i := 3) (v := .int .i64 (k : Int)) rfl (by kernel_rfl) (by kernel_rfl) (by kernel_rfl) (by kernel_rfl) (fun _ _ _ h => h) (Or.inl ⟨by kernel_rfl, fun w hSw => by (try dsimp only at hSw); go_simp⟩) R0 ?_; try simp only [Act.put, List.getElem_toArray, List.getElem_cons_succ, List.getElem_cons_zero, List.setIfInBounds_toArray, List.set_cons_zero, List.set_cons_succ]
                refine wpAnyF_take (i := 4) (v := .bool false) rfl (by kernel_rfl) (by kernel_rfl) (by kernel_rfl) (by kernel_rfl) (fun _ _ _ h => h) (Or.inl ⟨by kernel_rfl, fun w hSw => by (try dsimp only at hSw); go_simp⟩) R0 ?_; try simp only [Act.put, List.getElem_toArray, List.getElem_cons_succ, List.getElem_cons_zero, List.setIfInBounds_toArray, List.set_cons_zero, List.set_cons_succ]
                refine wpAnyF_take (i := 5) (v := .bool false) rfl (by kernel_rfl) (by kernel_rfl) (by kernel_rfl) (by kernel_rfl) (fun _ _ _ h => h) (Or.inl ⟨by kernel_rfl, fun w hSw => by (try dsimp only at hSw); go_simp⟩) R0 ?_; try simp only [Act.put, List.getElem_toArray, List.getElem_cons_succ, List.getElem_cons_zero, List.setIfInBounds_toArray, List.set_cons_zero, List.set_cons_succ]
                refine wpAnyF_take (i := 6) (v := .bool false) rfl (by kernel_rfl) (by kernel_rfl) (by kernel_rfl) (by kernel_rfl) (fun _ _ _ h => h) (Or.inl ⟨by kernel_rfl, fun w hSw => by (try dsimp only at hSw); go_simp⟩) R0 ?_; try simp only [Act.put, List.getElem_toArray, List.getElem_cons_succ, List.getElem_cons_zero, List.setIfInBounds_toArray, List.set_cons_zero, List.set_cons_succ]
                refine wpAnyF_take (i := 7) (v := undef) rfl (by kernel_rfl) (by kernel_rfl) (by kernel_rfl) (by kernel_rfl) (fun _ _ _ h => h) (Or.inr ⟨by kernel_rfl, rfl⟩) R0 ?_; try simp only [Act.put, List.getElem_toArray, List.getElem_cons_succ, List.getElem_cons_zero, List.setIfInBounds_toArray, List.set_cons_zero, List.set_cons_succ]
                refine wpAnyF_take (i := 8) (v := undef) rfl (by kernel_rfl) (by kernel_rfl) (by kernel_rfl) (by kernel_rfl) (fun _ _ _ h => h) (Or.inr ⟨by kernel_rfl, rfl⟩) R0 ?_; try simp only [Act.put, List.getElem_toArray, List.getElem_cons_succ, List.getElem_cons_zero, List.setIfInBounds_toArray, List.set_cons_zero, List.set_cons_succ]
                refine wpAnyF_take (i := 9) (v := undef) rfl (by kernel_rfl) (by kernel_rfl) (by kernel_rfl) (by kernel_rfl) (fun _ _ _ h => h) (Or.inr ⟨by kernel_rfl, rfl⟩) R0 ?_; try simp only [Act.put, List.getElem_toArray, List.getElem_cons_succ, List.getElem_cons_zero, List.setIfInBounds_toArray, List.set_cons_zero, List.set_cons_succ]
                refine wpAnyF_take (i := 10) (v := undef) rfl (by kernel_rfl) (by kernel_rfl) (by kernel_rfl) (by kernel_rfl) (fun _ _ _ h => h) (Or.inr ⟨by kernel_rfl, rfl⟩) R0 ?_; try simp only [Act.put, List.getElem_toArray, List.getElem_cons_succ, List.getElem_cons_zero, List.setIfInBounds_toArray, List.set_cons_zero, List.set_cons_succ]
                refine wpAnyF_take (i := 11) (v := undef) rfl (by kernel_rfl) (by kernel_rfl) (by kernel_rfl) (by kernel_rfl) (fun _ _ _ h => h) (Or.inr ⟨by kernel_rfl, rfl⟩) R0 ?_; try simp only [Act.put, List.getElem_toArray, List.getElem_cons_succ, List.getElem_cons_zero, List.setIfInBounds_toArray, List.set_cons_zero, List.set_cons_succ]
                refine wpAnyF_take (i := 12) (v := undef) rfl (by kernel_rfl) (by kernel_rfl) (by kernel_rfl) (by kernel_rfl) (fun _ _ _ h => h) (Or.inr ⟨by kernel_rfl, rfl⟩) R0 ?_; try simp only [Act.put, List.getElem_toArray, List.getElem_cons_succ, List.getElem_cons_zero, List.setIfInBounds_toArray, List.set_cons_zero, List.set_cons_succ]
                refine wpAnyF_take (i := 13) (v := undef) rfl (by kernel_rfl) (by kernel_rfl) (by kernel_rfl) (by kernel_rfl) (fun _ _ _ h => h) (Or.inr ⟨by kernel_rfl, rfl⟩) R0 ?_; try simp only [Act.put, List.getElem_toArray, List.getElem_cons_succ, List.getElem_cons_zero, List.setIfInBounds_toArray, List.set_cons_zero, List.set_cons_succ]
                refine wpAnyF_take (i := 14) (v := .bool false) rfl (by kernel_rfl) (by kernel_rfl) (by kernel_rfl) (by kernel_rfl) (fun _ _ _ h => h) (Or.inl ⟨by kernel_rfl, fun w hSw => by (try dsimp only at hSw); go_simp⟩) R0 ?_; try simp only [Act.put, List.getElem_toArray, List.getElem_cons_succ, List.getElem_cons_zero, List.setIfInBounds_toArray, List.set_cons_zero, List.set_cons_succ]
                refine wpAnyF_done (by kernel_rfl) ?_ _
                have hB7 := below_next hB6'h.out R0
                have hab7 := heap_below R0 hab6'h.out (lt_of_heap hab6'h.out)
                clear R0 c1
                have hB7'h := Lib.hid hB7
                have hab7'h := Lib.hid hab7
                clear hB7 hab7
                go_wp2
                go_roundg (gk - 1)
                case measure => have := hk'h.out; have := hlt2'h.out; omega
                case rel => exact ⟨k + 1, by have := hk'h.out; have := hlt2'h.out; omega, by go_num, hB7'h.out, hab7'h.out⟩
            · have c1 : decide ((j : Int) < 8) = false := decide_eq_false hi8
              refine wpAnyF_take (i := 0) (v := .int .i64 (j : Int)) rfl (by kernel_rfl) (by kernel_rfl) (by kernel_rfl) (by kernel_rfl) (fun _ _ _ h => h) (Or.inl ⟨by kernel_rfl, fun w hSw => by (try dsimp only at hSw); go_simp⟩) R0 ?_; try simp only [Act.put, List.getElem_toArray, List.getElem_cons_succ, List.getElem_cons_zero, List.setIfInBounds_toArray, List.set_cons_zero, List.set_cons_succ]
              refine wpAnyF_take (i := 1) (v := .bool false) rfl (by kernel_rfl) (by kernel_rfl) (by kernel_rfl) (by kernel_rfl) (fun _ _ _ h => h) (Or.inl ⟨by kernel_rfl, fun w hSw => by (try dsimp only at hSw); go_simp⟩) R0 ?_; try simp only [Act.put, List.getElem_toArray, List.getElem_cons_succ, List.getElem_cons_zero, List.setIfInBounds_toArray, List.set_cons_zero, List.set_cons_succ]
              refine wpAnyF_take (i := 2) (v := .bool false) rfl (by kernel_rfl) (by kernel_rfl) (by kernel_rfl) (by kernel_rfl) (fun _ _ _ h => h) (Or.inl ⟨by kernel_rfl, fun w hSw => by (try dsimp only at hSw); go_simp⟩) R0 ?_; try simp only [Act.put, List.getElem_toArray, List.getElem_cons_succ, List.getElem_cons_zero, List.setIfInBounds_toArray, List.set_cons_zero, List.set_cons_succ]
              refine wpAnyF_take (i := 3) (v := undef) rfl (by kernel_rfl) (by kernel_rfl) (by kernel_rfl) (by kernel_rfl) (fun _ _ _ h => h) (Or.inr ⟨by kernel_rfl, rfl⟩) R0 ?_; try simp only [Act.put, List.getElem_toArray, List.getElem_cons_succ, List.getElem_cons_zero, List.setIfInBounds_toArray, List.set_cons_zero, List.set_cons_succ]
              refine wpAnyF_take (i := 4) (v := undef) rfl (by kernel_rfl) (by kernel_rfl) (by kernel_rfl) (by kernel_rfl) (fun _ _ _ h => h) (Or.inr ⟨by kernel_rfl, rfl⟩) R0 ?_; try simp only [Act.put, List.getElem_toArray, List.getElem_cons_succ, List.getElem_cons_zero, List.setIfInBounds_toArray, List.set_cons_zero, List.set_cons_succ]
              refine wpAnyF_take (i := 5) (v := .bool false) rfl (by kernel_rfl) (by kernel_rfl) (by kernel_rfl) (by kernel_rfl) (fun _ _ _ h => h) (Or.inl ⟨by kernel_rfl, fun w hSw => by (try dsimp only at hSw); go_simp⟩) R0 ?_; try simp only [Act.put, List.getElem_toArray, List.getElem_cons_succ, List.getElem_cons_zero, List.setIfInBounds_toArray, List.set_cons_zero, List.set_cons_succ]
              refine wpAnyF_take (i := 6) (v := .bool false) rfl (by kernel_rfl) (by kernel_rfl) (by kernel_rfl) (by kernel_rfl) (fun _ _ _ h => h) (Or.inl ⟨by kernel_rfl, fun w hSw => by (try dsimp only at hSw); go_simp⟩) R0 ?_; try simp only [Act.put, List.getElem_toArray, List.getElem_cons_succ, List.getElem_cons_zero, List.setIfInBounds_toArray, List.set_cons_zero, List.set_cons_succ]
              refine wpAnyF_take (i := 7) (v := undef) rfl (by kernel_rfl) (by kernel_rfl) (by kernel_rfl) (by kernel_rfl) (fun _ _ _ h => h) (Or.inr ⟨by kernel_rfl, rfl⟩) R0 ?_; try simp only [Act.put, List.getElem_toArray, List.getElem_cons_succ, List.getElem_cons_zero, List.setIfInBounds_toArray, List.set_cons_zero, List.set_cons_succ]
              refine wpAnyF_take (i := 8) (v := undef) rfl (by kernel_rfl) (by kernel_rfl) (by kernel_rfl) (by kernel_rfl) (fun _ _ _ h => h) (Or.inr ⟨by kernel_rfl, rfl⟩) R0 ?_; try simp only [Act.put, List.getElem_toArray, List.getElem_cons_succ, List.getElem_cons_zero, List.setIfInBounds_toArray, List.set_cons_zero, List.set_cons_succ]
              refine wpAnyF_take (i := 9) (v := undef) rfl (by kernel_rfl) (by kernel_rfl) (by kernel_rfl) (by kernel_rfl) (fun _ _ _ h => h) (Or.inr ⟨by kernel_rfl, rfl⟩) R0 ?_; try simp only [Act.put, List.getElem_toArray, List.getElem_cons_succ, List.getElem_cons_zero, List.setIfInBounds_toArray, List.set_cons_zero, List.set_cons_succ]
              refine wpAnyF_take (i := 10) (v := undef) rfl (by kernel_rfl) (by kernel_rfl) (by kernel_rfl) (by kernel_rfl) (fun _ _ _ h => h) (Or.inr ⟨by kernel_rfl, rfl⟩) R0 ?_; try simp only [Act.put, List.getElem_toArray, List.getElem_cons_succ, List.getElem_cons_zero, List.setIfInBounds_toArray, List.set_cons_zero, List.set_cons_succ]
              refine wpAnyF_take (i := 11) (v := undef) rfl (by kernel_rfl) (by kernel_rfl) (by kernel_rfl) (by kernel_rfl) (fun _ _ _ h => h) (Or.inr ⟨by kernel_rfl, rfl⟩) R0 ?_; try simp only [Act.put, List.getElem_toArray, List.getElem_cons_succ, List.getElem_cons_zero, List.setIfInBounds_toArray, List.set_cons_zero, List.set_cons_succ]
              refine wpAnyF_take (i := 12) (v := undef) rfl (by kernel_rfl) (by kernel_rfl) (by kernel_rfl) (by kernel_rfl) (fun _ _ _ h => h) (Or.inr ⟨by kernel_rfl, rfl⟩) R0 ?_; try simp only [Act.put, List.getElem_toArray, List.getElem_cons_succ, List.getElem_cons_zero, List.setIfInBounds_toArray, List.set_cons_zero, List.set_cons_succ]
              refine wpAnyF_take (i := 13) (v := undef) rfl (by kernel_rfl) (by kernel_rfl) (by kernel_rfl) (by kernel_rfl) (fun _ _ _ h => h) (Or.inr ⟨by kernel_rfl, rfl⟩) R0 ?_; try simp only [Act.put, List.getElem_toArray, List.getElem_cons_succ, List.getElem_cons_zero, List.setIfInBounds_toArray, List.set_cons_zero, List.set_cons_succ]
              refine wpAnyF_take (i := 14) (v := .bool false) rfl (by kernel_rfl) (by kernel_rfl) (by kernel_rfl) (by kernel_rfl) (fun _ _ _ h => h) (Or.inl ⟨by kernel_rfl, fun w hSw => by (try dsimp only at hSw); go_simp⟩) R0 ?_; try simp only [Act.put, List.getElem_toArray, List.getElem_cons_succ, List.getElem_cons_zero, List.setIfInBounds_toArray, List.set_cons_zero, List.set_cons_succ]
              refine wpAnyF_done (by kernel_rfl) ?_ _
              have hB7 := below_next hB6'h.out R0
              have hab7 := heap_below R0 hab6'h.out (lt_of_heap hab6'h.out)
              clear R0 c1
              have hB7'h := Lib.hid hB7
              have hab7'h := Lib.hid hab7
              clear hB7 hab7
              go_wp2
              go_roundg (gk - 1)
              case measure => have := hk'h.out; have := hlt2'h.out; omega
              case rel => exact ⟨k + 1, by have := hk'h.out; have := hlt2'h.out; omega, by go_num, hB7'h.out, hab7'h.out⟩
          · have j1 : ¬ (k : Int) < (n : Int) := by omega
            clear hk hlt2 hab
            have hB'h := Lib.hid hB
            clear hB
            go_wp2
            go_roundg (go - 1)
            case measure => have := hgo'h.out; have := hj'h.out; have := hlt'h.out; omega
            case rel => exact ⟨j + 1, by have := hgo'h.out; have := hj'h.out; have := hlt'h.out; omega, by go_num, hB'h.out⟩
      · have i3 : ¬ (j : Int) < (n : Int) := by omega
        clear hj hlt
        have FR := free_any lp n lc l wr (hT'h.out.next (below_next hBase'h.out hB)) (hML'h.out wr hB) hlc'h.out
        rw [hfr'h.out] at FR
        have hK5 : SlK wr 2 none 0 (pairsN []) := SlK.nil _ _ _
        have hsm : (0 : Nat) ≤ 6400 ∧ ∀ p ∈ ([] : List (Nat × Nat)), p.1 ≤ 5000 ∧ p.2 ≤ 5000 := ⟨by omega, fun p hp => by cases hp⟩
        have hfn : 0 = ([] : List (Nat × Nat)).length := rfl
        simp only [List.length_nil] at FR
        have hB5 := hB
        clear hB hfr'h
        have hB5'h := Lib.hid hB5
        have FR'h := Lib.hid FR
        have hK5'h := Lib.hid hK5
        have hsm'h := Lib.hid hsm
        have hfn'h := Lib.hid hfn
        clear hB5 FR hK5 hsm hfn
        go_wp2_with fail
        refine FR'h.out.mono ?_
        rintro e w6 ⟨s6, c6, rfl, hb6, hrow6⟩
        have hB6 := below_next hB5'h.out hb6
        have hK6 := SlK.of_row hrow6 (by have := hsm'h.out.1; unfold maxLen; omega)
        have EQ := equal2_self s6 none 0 c6 0 [] w6 hK6 (hK5'h.out.below hb6) hfn'h.out.symm hsm'h.out.2
        clear hb6 hrow6 hB5'h hK5'h hsm'h FR'h hK6
        have hB6'h := Lib.hid hB6
        have EQ'h := Lib.hid EQ
        clear hB6 EQ
        go_wp2_with fail
        refine EQ'h.out.mono ?_
        rintro e w7 ⟨rfl, d, rfl⟩
        have hB7 := hB6'h.out.trans (below_drewN' _ d)
        generalize w6.drewN d = w7 at hB7 ⊢
        have hW7 := below_next hBase'h.out hB7
        have OW := own27_any xp xn xc xs w7 (hXW'h.out w7 hW7) hnil'h.out hle'h.out
        clear hB6'h EQ'h
        have hB7'h := Lib.hid hB7
        have OW'h := Lib.hid OW
        have hW7'h := Lib.hid hW7
        clear hB7 OW hW7
        go_wp2_with fail
        refine OW'h.out.mono ?_
        rintro e w8 ⟨kp, kc, l2, rfl, hb8, hM8, hll8, hmd8, hlc8, hfar8⟩
        have hB8 := below_next hB7'h.out hb8
        have hlen2 : l2.length = n := by have := hll'h.out; omega
        rw [hlen2] at hM8 hmd8 ⊢
        have SM := same27_self lp kp n lc kc l l2 w8 (hML'h.out w8 hB8) hM8 (fun i hi => by rw [hmd'h.out i hi, hmd8 i hi])
        have hW8 := below_next hW7'h.out hb8
        clear hb8 hM8 hll8 hmd8 hlc8 hfar8 hlen2 hB8 hB7'h OW'h hW7'h
        have SM'h := Lib.hid SM
        have hW8'h := Lib.hid hW8
        clear SM hW8
        go_wp2_with fail
        refine SM'h.out.mono ?_
        rintro e w9 ⟨rfl, hb9⟩
        have hW9 := below_next hW8'h.out hb9
        clear hb9 SM'h hW8'h
        have hW9'h := Lib.hid hW9
        clear hW9
        go_wp2
        go_ret
        exact ⟨rfl, hW9'h.out⟩
end Go.Proofs.YtogeohjeabbmaaaDoor
