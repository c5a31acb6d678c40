/-
 Several texts of mine in one: DocN DocO DocP DocQ DocR.
-/
import Derived.Test.YtogeohjeabbmaaaGreatDoorZj
import Derived.Deep.LoopGhost
import Derived.DeepKeys
import Derived.BigQuiet
/-
 The document's answer for layer 27: the pairs that are free of each other.
-/
set_option linter.unusedSimpArgs false
set_option linter.unusedVariables false
set_option maxRecDepth 100000
namespace Go.Proofs.YtogeohjeabbmaaaGreatDoor
open Go.RowKit

end Go.Proofs.YtogeohjeabbmaaaGreatDoor

/-
 slices.Equal at rows of two numbers, where both read the same.
-/
set_option linter.unusedSimpArgs false
set_option linter.unusedVariables false
set_option maxRecDepth 100000
namespace Go.Proofs.YtogeohjeabbmaaaGreatDoor
open Go.RowKit

end Go.Proofs.YtogeohjeabbmaaaGreatDoor

/-
 The law of layer 27: two made calls that read the same are the same.
-/
set_option linter.unusedSimpArgs false
set_option linter.unusedVariables false
set_option maxRecDepth 100000
namespace Go.Proofs.YtogeohjeabbmaaaGreatDoor
open Go.RowKit

theorem eqi_calM (c d : Cal) (w : World) : (Op.equalIn 10000 51 (.agg #[.int .i64 c.op, .int .u64 (c.key : Int), .int .u64 (c.a : Int), .int .u64 (c.b : Int)]) (.agg #[.int .i64 d.op, .int .u64 (d.key : Int), .int .u64 (d.a : Int), .int .u64 (d.b : Int)])).run Tryz.prog w = .ok (decide (c = d)) w := by
 have u3 := Tryz.underlying3
 have a3 := Tryz.isAgg3
 have z3 := Tryz.sizeOf3
 have u4 := Tryz.underlying49
 have a4 := Tryz.isAgg49
 have z4 := Tryz.sizeOf49
 rw [show (10000 : Nat) = 9999 + 1 from rfl, run_equalIn_struct w 9999 51 _ _ (by kernel_rfl) (by kernel_rfl)]
 simp only [Program.fieldsOf, Tryz.underlying51]
 go_simp
 obtain ⟨c1, c2, c3, c4⟩ := c
 obtain ⟨d1, d2, d3, d4⟩ := d
 by_cases h1 : c1 = d1 <;> by_cases h2 : c2 = d2 <;> by_cases h3 : c3 = d3 <;> by_cases h4 : c4 = d4 <;> simp [h1, h2, h3, h4] <;> omega
theorem eql_calM (c : Cal) (w : World) : (binOp .eql 51 (.agg #[.int .i64 c.op, .int .u64 (c.key : Int), .int .u64 (c.a : Int), .int .u64 (c.b : Int)]) (.agg #[.int .i64 c.op, .int .u64 (c.key : Int), .int .u64 (c.a : Int), .int .u64 (c.b : Int)])).run Tryz.prog w = .ok (.bool true) w := by
 rw [run_eql_struct, eqi_calM, decide_eq_true rfl]; rfl
set_option maxHeartbeats 2000000 in
theorem same1_self (x y : Mm) (w : World) (hx : MmIn w x) (hy : MmIn w y) (he : x.md = y.md) :
  Calls Tryz.prog 36 #[.agg (mmA x), .agg (mmA y)] w fun e w' => e = .returned (.bool true) ∧ Below w.heap.size w w' := by
 obtain ⟨px, tx, -, -, -, -, -⟩ := hx
 obtain ⟨py, ty, -, -, -, -, -⟩ := hy
 obtain ⟨m, ppx, pnx, pcx, tpx, tnx, tcx⟩ := x
 obtain ⟨m', ppy, pny, pcy, tpy, tny, tcy⟩ := y
 simp only at he
 subst he
 obtain ⟨goer, ⟨op, ky, ca, cb⟩, ⟨err, val, done⟩, ps, began, at', over, told⟩ := m
 simp only [mmA] at *
 obtain ⟨W2, hW2⟩ : ∃ W2, W2 = (w.alloc (.cells #[.int .i64 goer, .int .i64 op, .int .u64 (ky : Int), .int .u64 (ca : Int), .int .u64 (cb : Int), .int .i64 err, .int .u64 (val : Int), .bool done, .slice ppx pnx pcx, .int .i64 began, .int .i64 at', .int .i64 over, .slice tpx tnx tcx] 55)).alloc (.cells #[.int .i64 goer, .int .i64 op, .int .u64 (ky : Int), .int .u64 (ca : Int), .int .u64 (cb : Int), .int .i64 err, .int .u64 (val : Int), .bool done, .slice ppy pny pcy, .int .i64 began, .int .i64 at', .int .i64 over, .slice tpy tny tcy] 55) := ⟨_, rfl⟩
 have H := ((Hs.nil w).new #[.int .i64 goer, .int .i64 op, .int .u64 (ky : Int), .int .u64 (ca : Int), .int .u64 (cb : Int), .int .i64 err, .int .u64 (val : Int), .bool done, .slice ppx pnx pcx, .int .i64 began, .int .i64 at', .int .i64 over, .slice tpx tnx tcx] 55).new #[.int .i64 goer, .int .i64 op, .int .u64 (ky : Int), .int .u64 (ca : Int), .int .u64 (cb : Int), .int .i64 err, .int .u64 (val : Int), .bool done, .slice ppy pny pcy, .int .i64 began, .int .i64 at', .int .i64 over, .slice tpy tny tcy] 55
 rw [← hW2] at H
 have hB := H.old
 have hx0 := H.rows.2.1
 have hy0 := H.rows.1
 rw [World.size_alloc] at hy0
 obtain ⟨a0, a1, a2, a3, a4, a5, a6, a7, a8, a9, aa, a_b, ac⟩ := cells13 hx0
 obtain ⟨b0, b1, b2, b3, b4, b5, b6, b7, b8, b9, ba, bb, bc⟩ := cells13 hy0
 have EQ := equalI_any tpx tpy tnx tny tcx tcy told told W2 (tx.below hB) (ty.below hB)
 have RA := fun d => ralike_any ⟨err, val, done⟩ ⟨err, val, done⟩ ppx ppy pnx pny pcx pcy ps ps (W2.drewN d) ((px.below hB).below (below_drewN' _ _)) ((py.below hB).below (below_drewN' _ _))
 rw [show alikeB ⟨err, val, done⟩ ⟨err, val, done⟩ ps ps = true by unfold alikeB; simp] at RA
 rw [show (told == told) = true by simp] at EQ
 simp only [anA] at RA
 have hc := fun w => eql_calM ⟨op, ky, ca, cb⟩ w
 simp only at hc
 clear hx0 hy0 H px py tx ty
 have EQ'h := Lib.hid EQ
 have RA'h := Lib.hid RA
 have hB'h := Lib.hid hB
 have hW2'h := Lib.hid hW2
 clear EQ RA hB hW2
 go_enter Tryz.func36, Tryz.ntmps36
 go_upto_region 1 with fail
 rw [← hW2'h.out]
 go_wp2_with fail
 refine EQ'h.out.mono ?_
 rintro e w5 ⟨rfl, d, rfl⟩
 have f0 : ∀ q, (W2.drewN d).cell? q = W2.cell? q := fun q => rfl
 go_wp2_with fail
 refine (RA'h.out d).mono ?_
 rintro e w6 ⟨rfl, hb6⟩
 have hfin := below_next (hB'h.out.trans (below_drewN' _ _)) hb6
 clear hb6 a0 a1 a2 a3 a4 a5 a6 a7 a8 a9 aa a_b ac b0 b1 b2 b3 b4 b5 b6 b7 b8 b9 ba bb bc f0
 have hfin'h := Lib.hid hfin
 clear hfin
 go_wp2
 go_ret
 exact ⟨rfl, hfin'h.out⟩
end Go.Proofs.YtogeohjeabbmaaaGreatDoor

/-
 The law of layer 27: two rows of made calls that read the same are the same.
-/
set_option linter.unusedSimpArgs false
set_option linter.unusedVariables false
set_option maxRecDepth 100000
namespace Go.Proofs.YtogeohjeabbmaaaGreatDoor
open Go.RowKit

set_option maxHeartbeats 4000000 in
theorem equalM_self (sp sp' : Option Addr) (n cap cap' : Nat) (l l' : List Mm) (w : World) (h : MsIn w sp n l) (h' : MsIn w sp' n l') (he : ∀ i, i < n → (nthM l i).md = (nthM l' i).md) :
  Calls Tryz.prog 35 #[.slice sp n cap, .slice sp' n cap', .func (.func 36) #[] #[]] w fun e w' => e = .returned (.bool true) ∧ Below w.heap.size w w' := by
 have hlen := h.len
 have hlen' := h'.len
 have hmax := h.sl.2.1
 unfold maxLen at hmax
 have hne : ((n : Int) != (n : Int)) = false := by simp
 have hlen'h := Lib.hid hlen
 have hlen''h := Lib.hid hlen'
 have hmax'h := Lib.hid hmax
 have h'h := Lib.hid h
 have h''h := Lib.hid h'
 have he'h := Lib.hid he
 clear hlen hlen' hmax h h' he
 go_enter Tryz.func35, Tryz.ntmps35
 go_wp2
 go_loopg [17] n (fun q v9 wr => ∃ j : Nat, j + q = n ∧ v9 = .int .i64 (j : Int) ∧ Below w.heap.size w wr)
 case atStart => exact ⟨0, by omega, rfl, Below.refl _ _⟩
 case round =>
  obtain ⟨j, hj, rfl, hB⟩ := hrel
  by_cases hlt : j < n
  ·
   have i3 : (j : Int) < (n : Int) := by omega
   have i4 : (0 : Int) ≤ (j : Int) := by omega
   have i5 : (j : Int) + 1 ≤ 9223372036854775807 := by have := hmax'h.out; omega
   have hS := h'h.out.below hB
   have hS2 := h''h.out.below hB
   obtain ⟨b, off, rfl⟩ := slk_some hS.sl (by omega)
   obtain ⟨b2, off2, rfl⟩ := slk_some hS2.sl (by omega)
   have hjl : j < l.length := by have := hlen'h.out; omega
   have hjl2 : j < l'.length := by have := hlen''h.out; omega
   obtain ⟨x, hx0⟩ : ∃ x, x = nthM l j := ⟨_, rfl⟩
   obtain ⟨y, hy0⟩ : ∃ y, y = nthM l' j := ⟨_, rfl⟩
   have hcl := fun (i : Nat) (v : Value) (hi : i < 13) (hv : (mmL x)[i]? = some v) => hS.cells hjl (i := i) (v := v) hi (by rw [← hx0]; exact hv)
   have hB3 := (Below.refl wr.heap.size wr).alloc (Nat.le_refl _) (.cells (mmA x) 55)
   have hb3 := World.alloc_heap_new wr (.cells (mmA x) 55)
   have hcm := fun (i : Nat) (v : Value) (hi : i < 13) (hv : (mmL y)[i]? = some v) => (hS2.below hB3).cells hjl2 (i := i) (v := v) hi (by rw [← hy0]; exact hv)
   have hB4 := hB3.alloc hB3.size (.cells (mmA y) 55)
   have H := ((Hs.nil wr).new (mmA x) 55).new (mmA y) 55
   have SM := same1_self x y _ ((hS.each x (by rw [hx0]; exact nthM_mem hjl)).below hB4) ((hS2.each y (by rw [hy0]; exact nthM_mem hjl2)).below hB4) (by rw [hx0, hy0]; exact he'h.out j hlt)
   clear hx0 hy0 hS hS2 hb3
   obtain ⟨⟨goerx, ⟨opx, kyx, cax, cbx⟩, ⟨errx, valx, donex⟩, prsx, beganx, atx, overx, toldx⟩, ppx, pnx, pcx, tpx, tnx, tcx⟩ := x
   have e0 := hcl 0 _ (by omega) rfl
   have e1 := hcl 1 _ (by omega) rfl
   have e2 := hcl 2 _ (by omega) rfl
   have e3 := hcl 3 _ (by omega) rfl
   have e4 := hcl 4 _ (by omega) rfl
   have e5 := hcl 5 _ (by omega) rfl
   have e6 := hcl 6 _ (by omega) rfl
   have e7 := hcl 7 _ (by omega) rfl
   have e8 := hcl 8 _ (by omega) rfl
   have e9 := hcl 9 _ (by omega) rfl
   have ea := hcl 10 _ (by omega) rfl
   have eb := hcl 11 _ (by omega) rfl
   have ec := hcl 12 _ (by omega) rfl
   simp only [Nat.add_zero] at e0
   obtain ⟨⟨goery, ⟨opy, kyy, cay, cby⟩, ⟨erry, valy, doney⟩, prsy, begany, aty, overy, toldy⟩, ppy, pny, pcy, tpy, tny, tcy⟩ := y
   have d0 := hcm 0 _ (by omega) rfl
   have d1 := hcm 1 _ (by omega) rfl
   have d2 := hcm 2 _ (by omega) rfl
   have d3 := hcm 3 _ (by omega) rfl
   have d4 := hcm 4 _ (by omega) rfl
   have d5 := hcm 5 _ (by omega) rfl
   have d6 := hcm 6 _ (by omega) rfl
   have d7 := hcm 7 _ (by omega) rfl
   have d8 := hcm 8 _ (by omega) rfl
   have d9 := hcm 9 _ (by omega) rfl
   have da := hcm 10 _ (by omega) rfl
   have db := hcm 11 _ (by omega) rfl
   have dc := hcm 12 _ (by omega) rfl
   simp only [Nat.add_zero] at d0
   simp only [mmA] at *
   clear hcl hcm
   obtain ⟨W3, hW3⟩ : ∃ W3, W3 = wr.alloc (.cells #[.int .i64 goerx, .int .i64 opx, .int .u64 (kyx : Int), .int .u64 (cax : Int), .int .u64 (cbx : Int), .int .i64 errx, .int .u64 (valx : Int), .bool donex, .slice ppx pnx pcx, .int .i64 beganx, .int .i64 atx, .int .i64 overx, .slice tpx tnx tcx] 55) := ⟨_, rfl⟩
   rw [← hW3] at hB3 hB4 SM H d0 d1 d2 d3 d4 d5 d6 d7 d8 d9 da db dc
   obtain ⟨W4, hW4⟩ : ∃ W4, W4 = W3.alloc (.cells #[.int .i64 goery, .int .i64 opy, .int .u64 (kyy : Int), .int .u64 (cay : Int), .int .u64 (cby : Int), .int .i64 erry, .int .u64 (valy : Int), .bool doney, .slice ppy pny pcy, .int .i64 begany, .int .i64 aty, .int .i64 overy, .slice tpy tny tcy] 55) := ⟨_, rfl⟩
   rw [← hW4] at hB4 SM H
   have hz3 : W3.heap.size = wr.heap.size + 1 := by rw [hW3, World.size_alloc]
   have hx4 := H.rows.2.1
   have hy4 := H.rows.1
   clear H
   have hj'h := Lib.hid hj
   have hB'h := Lib.hid hB
   have SM'h := Lib.hid SM
   have hB3'h := Lib.hid hB3
   have hB4'h := Lib.hid hB4
   have hjl'h := Lib.hid hjl
   have hlt'h := Lib.hid hlt
   have hx4'h := Lib.hid hx4
   have hy4'h := Lib.hid hy4
   have hW4'h := Lib.hid hW4
   have hz3'h := Lib.hid hz3
   clear hj hB SM hB3 hB4 hjl hlt hx4 hy4 hW4 hz3
   go_upto_region 6 with fail
   rw [← hW3]
   clear hW3 e0 e1 e2 e3 e4 e5 e6 e7 e8 e9 ea eb ec
   go_upto_region 7 with fail
   rw [← hW4'h.out]
   clear d0 d1 d2 d3 d4 d5 d6 d7 d8 d9 da db dc
   obtain ⟨a0, a1, a2, a3, a4, a5, a6, a7, a8, a9, aa, a_b, ac⟩ := cells13 hx4'h.out
   obtain ⟨b0, b1, b2', b3, b4, b5, b6, b7, b8, b9, ba, bb, bc⟩ := cells13 hy4'h.out
   go_wp2_with fail
   refine SM'h.out.mono ?_
   rintro e W5 ⟨rfl, hb5⟩
   have hfin := below_next (below_next hB'h.out hB4'h.out) hb5
   clear hb5 a0 a1 a2 a3 a4 a5 a6 a7 a8 a9 aa a_b ac b0 b1 b2' b3 b4 b5 b6 b7 b8 b9 ba bb bc
   have hfin'h := Lib.hid hfin
   clear hfin
   go_wp2
   go_roundg (gk - 1)
   case measure => have := hj'h.out; have := hlt'h.out; omega
   case rel => exact ⟨j + 1, by have := hj'h.out; have := hlt'h.out; omega, by go_num, hfin'h.out⟩
  ·
   have i3 : ¬ (j : Int) < (n : Int) := by omega
   have hB'h := Lib.hid hB
   clear hB
   clear hj hlt
   go_wp2
   go_ret
   exact ⟨rfl, hB'h.out⟩
theorem same27_self (sp sp' : Option Addr) (n cap cap' : Nat) (l l' : List Mm) (w : World) (h : MsIn w sp n l) (h' : MsIn w sp' n l') (he : ∀ i, i < n → (nthM l i).md = (nthM l' i).md) :
  Calls Tryz.prog 17 #[.slice sp n cap, .slice sp' n cap'] w fun e w' => e = .returned (.bool true) ∧ Below w.heap.size w w' := by
 have E := equalM_self sp sp' n cap cap' l l' w h h' he
 have E'h := Lib.hid E
 clear E
 clear h h' he
 go_enter Tryz.func17, Tryz.ntmps17
 go_wp2_with fail
 refine E'h.out.mono ?_
 rintro e w2 ⟨rfl, hb⟩
 have hb'h := Lib.hid hb
 clear hb
 go_wp2
 go_ret
 exact ⟨rfl, hb'h.out⟩
end Go.Proofs.YtogeohjeabbmaaaGreatDoor

/-
 Plain: the pairs that are free are few, and small.
-/
set_option linter.unusedSimpArgs false
set_option linter.unusedVariables false
namespace Go.Proofs.YtogeohjeabbmaaaGreatDoor
open Go.RowKit

end Go.Proofs.YtogeohjeabbmaaaGreatDoor

