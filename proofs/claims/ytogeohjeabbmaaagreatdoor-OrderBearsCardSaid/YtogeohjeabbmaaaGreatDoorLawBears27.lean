/-
 Layer 27 (order): which orders bear calls out, and the map behind them.
-/
import Derived.Test.YtogeohjeabbmaaaGreatDoorDocX
import Derived.Test.YtogeohjeabbmaaaGreatDoorDocY
import Derived.Test.YtogeohjeabbmaaaGreatDoorZk
import Derived.Deep.CutRange
set_option linter.unusedSimpArgs false
set_option linter.unusedVariables false
set_option maxRecDepth 100000
namespace Go.Proofs.YtogeohjeabbmaaaGreatDoor
open Go.RowKit

theorem byat_form {w : World} {l : List Mm} {e : Ending} {w' : World} (h : ByAtP w l e w') : Below w.heap.size w w' ∧ ∃ (sp : Option Addr) (k cap : Nat) (er : Int) (A : List Nat), e = .returned (.tuple #[.slice sp k cap, .int .i64 er]) ∧ Sl w' sp k (ints A) ∧
  ((checkB l = false ∧ er = 370 ∧ A = []) ∨ (checkB l = true ∧ (((behindL l (intsZ (dByAt l l.length))).1 ≠ 0 ∧ er = 371 ∧ A = []) ∨ ((behindL l (intsZ (dByAt l l.length))).1 = 0 ∧ er = 0 ∧ A = dByAt l l.length)))) := by
 obtain ⟨hb, ⟨hc, rfl⟩ | ⟨hc, C, hp, hs, hr⟩⟩ := h
 ·
  exact ⟨hb, none, 0, 0, 370, [], rfl, Sl.nil _ _, .inl ⟨hc, rfl, rfl⟩⟩
 ·
  obtain rfl := dByAt_eq hp hs
  rcases hr with ⟨h1, rfl⟩ | ⟨h1, sp, cap, rfl, hS, hle, hlo⟩
  ·
   exact ⟨hb, none, 0, 0, 371, [], rfl, Sl.nil _ _, .inr ⟨hc, .inl ⟨h1, rfl, rfl⟩⟩⟩
  ·
   exact ⟨hb, sp, _, cap, 0, _, rfl, hS, .inr ⟨hc, .inr ⟨h1, rfl, rfl⟩⟩⟩
theorem metOk_nodup {n : Nat} : ∀ {r p : List Nat}, (∀ x ∈ r, x < n) → (p ++ r).Nodup → metOk n (intsZ r) (metR (intsZ p)) = true
 | [], p, _, _ => rfl
 | x :: r, p, h, hd => by
  show (decide (0 ≤ (x : Int) ∧ (x : Int) < n) && !metR (intsZ p) (x : Int).toNat && metOk n (intsZ r) (markB (metR (intsZ p)) (x : Int).toNat)) = true
  have hx := h x (List.mem_cons_self ..)
  have hxp : x ∉ p := fun hm => by
   have := (List.nodup_append.1 hd).2.2 x hm x (List.mem_cons_self ..)
   exact this rfl
  rw [decide_eq_true (by omega), metR_mark (by omega), show intsZ p ++ [(x : Int)] = intsZ (p ++ [x]) by rw [intsZ_append]; rfl, metOk_nodup (fun y hy => h y (List.mem_cons_of_mem _ hy)) (by rw [List.append_assoc]; exact hd)]
  have : metR (intsZ p) (x : Int).toNat = false := by
   rw [Int.toNat_natCast]
   exact decide_eq_false fun hm => hxp (intsZ_mem.1 hm)
  rw [this]; rfl
theorem dByAt_ok (l : List Mm) : metOk l.length (intsZ (dByAt l l.length)) noneB = true := by
 rw [← metR_nil]
 exact metOk_nodup (p := []) (fun x hx => dByAt_lt hx) (by rw [List.nil_append]; exact dByAt_nodup l _)
theorem intsZ_back {n : Nat} {os : List Int} (h : metOk n os noneB = true) : os = intsZ (os.map Int.toNat) := by
 unfold intsZ
 rw [List.map_map]
 conv => lhs; rw [← List.map_id os]
 refine List.map_congr_left fun x hx => ?_
 have := (metOk_mem h x hx).1
 simp; omega
theorem mapNat_lt {n : Nat} {os : List Int} (h : metOk n os noneB = true) : ∀ x ∈ os.map Int.toNat, x < n := fun x hx => by
 obtain ⟨z, hz, rfl⟩ := List.mem_map.1 hx
 have := metOk_mem h z hz
 omega
set_option maxHeartbeats 16000000 in
theorem walk_OrderBears (xp : Option Addr) (xn xc : Nat) (xs : List Mm) (yp : Option Addr) (yn yc : Nat) (ys : List Int) (w : World) (hT : Tks w) (hx : MsIn w xp xn xs) (hnil : xp = none → xc = 0) (hle : xn ≤ xc) (hfr : ∀ g, xp.map (·.block) = some g → xn ≠ 0 → g < w.heap.size)
  (hynil : yp = none → yc = 0) (hyle : yn ≤ yc) (hy : Sl w yp yn (ys.map (Value.int .i64))) (hwf : ∀ z ∈ ys, (Lit.int .i64 z).wf = true) :
  Calls Tryz.prog 3 #[.slice xp xn xc, .slice yp yn yc] w fun e w' => e = .returned (.bool true) ∧ Below w.heap.size w w' := by
 have WK := wakes27_any w hT
 have hXW := fun W (hb : Below w.heap.size w W) => hx.below hb
 have hylen : yn = ys.length := by have := hy.1; simpa using this
 obtain ⟨m, hm⟩ : ∃ m : Nat, min (yn : Int) 84 = (m : Int) := ⟨(min (yn : Int) 84).toNat, by omega⟩
 have hm84 : m ≤ 84 := by omega
 have hmy : m ≤ yn := by omega
 obtain ⟨os, hos⟩ : ∃ os, os = ys.take m := ⟨_, rfl⟩
 have hY : ∀ W, Below w.heap.size w W → Sl W yp m (os.map (Value.int .i64)) := fun W hb => by
  rw [hos, List.map_take]
  have := (SlK.of_sl (hy.below hb)).take m hmy
  rw [Nat.mul_one] at this
  exact this.sl
 have y1 : (m : Int) ≤ (yc : Int) := by omega
 have y2 : (0 : Int) ≤ (m : Int) := by omega
 have hosl : os.length = m := by rw [hos, List.length_take]; omega
 clear hfr hx hy hwf hylen hos
 have WK'h := Lib.hid WK
 have hT'h := Lib.hid hT
 have hXW'h := Lib.hid hXW
 have hnil'h := Lib.hid hnil
 have hle'h := Lib.hid hle
 have hY'h := Lib.hid hY
 have hynil'h := Lib.hid hynil
 have hyle'h := Lib.hid hyle
 have hm84'h := Lib.hid hm84
 have hmy'h := Lib.hid hmy
 have hosl'h := Lib.hid hosl
 clear WK hT hXW hnil hle hY hynil hyle hm84 hmy hosl
 go_enter Tryz.func3, Tryz.ntmps3
 go_wp2_with fail
 refine WK'h.out.mono ?_
 rintro e w1 ⟨rfl, hB1⟩
 have hB1'h := Lib.hid hB1
 clear hB1
 clear WK'h
 go_upto_region 3 with fail
 refine wp_region_heldF (fun w' => Below w1.heap.size w1 w') 99 (by kernel_rfl) ?_
 have R0 : Below w1.heap.size w1 w1.drew := Below.drew (Below.refl _ _)
 generalize w1.drew = V0 at R0 ⊢
 refine wpAnyF_take (i := 0) (v := .slice xp xn xc) rfl (by kernel_rfl) (by kernel_rfl) (by kernel_rfl) (by kernel_rfl) (fun _ _ _ h => h) (Or.inl ⟨by kernel_rfl, fun w hSw => by (try dsimp only at hSw); go_simp⟩) R0 ?_; try simp only [Act.put, List.getElem_toArray, List.getElem_cons_succ, List.getElem_cons_zero, List.setIfInBounds_toArray, List.set_cons_zero, List.set_cons_succ]
 refine wpAnyF_take (i := 2) (v := .slice yp yn yc) rfl (by kernel_rfl) (by kernel_rfl) (by kernel_rfl) (by kernel_rfl) (fun _ _ _ h => h) (Or.inl ⟨by kernel_rfl, fun w hSw => by (try dsimp only at hSw); go_simp⟩) R0 ?_; try simp only [Act.put, List.getElem_toArray, List.getElem_cons_succ, List.getElem_cons_zero, List.setIfInBounds_toArray, List.set_cons_zero, List.set_cons_succ]
 refine wpAnyF_take (i := 3) (v := .slice yp yn yc) rfl (by kernel_rfl) (by kernel_rfl) (by kernel_rfl) (by kernel_rfl) (fun _ _ _ h => h) (Or.inl ⟨by kernel_rfl, fun w hSw => by (try dsimp only at hSw); go_simp⟩) R0 ?_; try simp only [Act.put, List.getElem_toArray, List.getElem_cons_succ, List.getElem_cons_zero, List.setIfInBounds_toArray, List.set_cons_zero, List.set_cons_succ]
 refine wpAnyF_take (i := 4) (v := .int .i64 (yn : Int)) rfl (by kernel_rfl) (by kernel_rfl) (by kernel_rfl) (by kernel_rfl) (fun _ _ _ h => h) (Or.inl ⟨by kernel_rfl, fun w hSw => by (try dsimp only at hSw); go_simp⟩) R0 ?_; try simp only [Act.put, List.getElem_toArray, List.getElem_cons_succ, List.getElem_cons_zero, List.setIfInBounds_toArray, List.set_cons_zero, List.set_cons_succ]
 refine wpAnyF_take (i := 5) (v := .int .i64 (m : Int)) rfl (by kernel_rfl) (by kernel_rfl) (by kernel_rfl) (by kernel_rfl) (fun _ _ _ h => h) (Or.inl ⟨by kernel_rfl, fun w hSw => by (try dsimp only at hSw); go_simp⟩) R0 ?_; try simp only [Act.put, List.getElem_toArray, List.getElem_cons_succ, List.getElem_cons_zero, List.setIfInBounds_toArray, List.set_cons_zero, List.set_cons_succ]
 refine wpAnyF_take (i := 6) (v := .slice yp m yc) rfl (by kernel_rfl) (by kernel_rfl) (by kernel_rfl) (by kernel_rfl) (fun _ _ _ h => h) (Or.inl ⟨by kernel_rfl, fun w hSw => by (try dsimp only at hSw); go_simp⟩) R0 ?_; try simp only [Act.put, List.getElem_toArray, List.getElem_cons_succ, List.getElem_cons_zero, List.setIfInBounds_toArray, List.set_cons_zero, List.set_cons_succ]
 refine wpAnyF_one (i := 1) (by kernel_rfl) rfl (fun K hK => ?_); go_simp
 refine (own27_any xp xn xc xs V0 (hXW'h.out V0 (below_next hB1'h.out R0)) hnil'h.out hle'h.out).mono ?_
 rintro e V1 ⟨lp, lc, l, rfl, hb1, hM1, hll, hmd, hlc, hfar⟩
 obtain ⟨n, hn⟩ : ∃ n, n = l.length := ⟨_, rfl⟩
 rw [← hn] at hM1 hll hlc hmd ⊢
 dsimp only
 have R1 := below_next R0 hb1
 clear hb1 R0
 refine hK.out _ _ (fun _ => R1) ?_; clear hK K; try simp only [Act.put, List.getElem_toArray, List.getElem_cons_succ, List.getElem_cons_zero, List.setIfInBounds_toArray, List.set_cons_zero, List.set_cons_succ]
 refine wpAnyF_one (i := 7) (by kernel_rfl) rfl (fun K hK => ?_); go_simp
 refine (cloneZ_any yp m yc (os.map (Value.int .i64)) V1 (by have := hm84'h.out; omega) (oneCell_ints _ _) hynil'h.out (SlK.of_sl (hY'h.out V1 (below_next hB1'h.out R1)))).mono ?_
 rintro e V2 ⟨rp, rc, rfl, hb2, hrow⟩
 dsimp only
 have R2 := below_next R1 hb2
 have hM2 := hM1.below hb2
 have hO2 := (SlK.of_row hrow (by have := hm84'h.out; unfold maxLen; omega)).sl
 have hrc : m ≤ rc := by obtain ⟨_, _, e, h1, -, -⟩ := row_form hrow; injection e with _ _ e; omega
 have hfar2 : ∀ g, lp.map (·.block) = some g → g < V2.heap.size := fun g hg => by have := hfar g hg; have := hb2.size; omega
 clear hb2 R1 hM1 hrow hfar
 refine hK.out _ _ (fun _ => R2) ?_; clear hK K; try simp only [Act.put, List.getElem_toArray, List.getElem_cons_succ, List.getElem_cons_zero, List.setIfInBounds_toArray, List.set_cons_zero, List.set_cons_succ]
 refine wpAnyF_take (i := 8) (v := .slice lp n lc) rfl (by kernel_rfl) (by kernel_rfl) (by kernel_rfl) (by kernel_rfl) (fun _ _ _ h => h) (Or.inl ⟨by kernel_rfl, fun w hSw => by (try dsimp only at hSw); go_simp⟩) R2 ?_; try simp only [Act.put, List.getElem_toArray, List.getElem_cons_succ, List.getElem_cons_zero, List.setIfInBounds_toArray, List.set_cons_zero, List.set_cons_succ]
 refine wpAnyF_take (i := 9) (v := .slice rp m rc) rfl (by kernel_rfl) (by kernel_rfl) (by kernel_rfl) (by kernel_rfl) (fun _ _ _ h => h) (Or.inl ⟨by kernel_rfl, fun w hSw => by (try dsimp only at hSw); go_simp⟩) R2 ?_; try simp only [Act.put, List.getElem_toArray, List.getElem_cons_succ, List.getElem_cons_zero, List.setIfInBounds_toArray, List.set_cons_zero, List.set_cons_succ]
 refine wpAnyF_done (by kernel_rfl) ?_ _
 have hB2 := below_next hB1'h.out R2
 have hT2 := hT'h.out.next hB2
 have hML : ∀ W, Below V2.heap.size V2 W → MsIn W lp n l := fun W hb => hM2.below hb
 have hO : ∀ W, Below V2.heap.size V2 W → Sl W rp m (os.map (Value.int .i64)) := fun W hb => hO2.below hb
 have BE := behindX_any lp n lc l rp m rc os V2 hT2 hM2 hlc hO2 (by have := hm84'h.out; omega)
 obtain ⟨E, hE⟩ : ∃ E, E = (behindL l os).1 := ⟨_, rfl⟩
 obtain ⟨P, hP⟩ : ∃ P, P = (behindL l os).2 := ⟨_, rfl⟩
 have hEP : behindL l os = (E, P) := by rw [hE, hP]
 rw [← hE, ← hP] at BE
 clear R2 hM2 hO2 hB1'h hT2 hE hP
 have hB2'h := Lib.hid hB2
 have hML'h := Lib.hid hML
 have hO'h := Lib.hid hO
 have BE'h := Lib.hid BE
 have hEP'h := Lib.hid hEP
 have hll'h := Lib.hid hll
 have hmd'h := Lib.hid hmd
 have hlc'h := Lib.hid hlc
 have hfar2'h := Lib.hid hfar2
 have hn'h := Lib.hid hn
 have hrc'h := Lib.hid hrc
 clear hB2 hML hO BE hEP hll hmd hlc hfar2 hn hrc
 go_upto_region 5 with (first | (go_at_call 8; refine BE'h.out.mono ?_; rintro e w4 ⟨s4, n4, c4, rfl, hb4, hS4, -⟩; have hb4'h := Lib.hid hb4; have hS4'h := Lib.hid hS4; clear hb4 hS4))
 have hal := (Below.refl w4.heap.size w4).alloc (Nat.le_refl _) (.cells #[.slice s4 n4 c4] 29)
 have hk4 := World.alloc_heap_new w4 (.cells #[.slice s4 n4 c4] 29)
 have hS4 := hS4'h.out.below hal
 have hC4 := below_next hb4'h.out hal
 clear hal hb4'h hS4'h BE'h
 generalize w4.alloc _ = W4 at hk4 hS4 hC4 ⊢
 generalize w4.heap.size = mb1 at hk4 ⊢
 have BY := byat_any lp n lc l W4 (hT'h.out.next (below_next hB2'h.out hC4)) (hML'h.out W4 hC4) hlc'h.out (fun g hg => by have := hfar2'h.out g hg; have := hC4.size; omega)
 have hk4'h := Lib.hid hk4
 have hS4'h := Lib.hid hS4
 have hC4'h := Lib.hid hC4
 have BY'h := Lib.hid BY
 clear hk4 hS4 hC4 BY
 go_wp2_with fail
 refine BY'h.out.mono ?_
 rintro e w5 hBY
 obtain ⟨hb5, sa, ka, ca, er2, A, rfl, hSa, hA⟩ := byat_form hBY
 rw [← hn'h.out] at hA
 have hC5 := below_next hC4'h.out hb5
 have hk5 := heap_below hb5 hk4'h.out (lt_of_heap hk4'h.out)
 have hS5 := hS4'h.out.below hb5
 clear hBY hb5 hC4'h hk4'h hS4'h BY'h hfar2'h
 have H5 := (Hs.nil w5).new #[.slice none 0 0] 29
 have hSa'h := Lib.hid hSa
 have hA'h := Lib.hid hA
 have hC5'h := Lib.hid hC5
 have hk5'h := Lib.hid hk5
 have hS5'h := Lib.hid hS5
 have H5'h := Lib.hid H5
 clear hSa hA hC5 hk5 hS5 H5
 go_upto_region 9 with fail
 generalize w5.alloc _ = W5 at H5'h ⊢
 generalize w5.heap.size = mb2 at H5'h ⊢
 have IN : ∀ W, Below w5.heap.size w5 W → Below V2.heap.size V2 W := fun W hb => below_next hC5'h.out hb
 obtain ⟨c, hc⟩ : ∃ c, c = checkB l := ⟨_, rfl⟩
 have IN'h := Lib.hid IN
 have hc'h := Lib.hid hc
 clear IN hc
 have hB5 := IN'h.out W5 H5'h.out.old
 have DR := drightM_any lp n lc l W5 (hML'h.out W5 hB5)
 rw [← hc'h.out] at DR
 clear hB5
 have DR'h := Lib.hid DR
 clear DR
 go_wp2_with fail
 refine DR'h.out.mono ?_
 rintro e w6 ⟨rfl, hb6⟩
 have H6 := H5'h.out.next hb6
 clear hb6 DR'h H5'h
 have H6'h := Lib.hid H6
 clear H6
 go_upto_if 42 with fail
 go_cut [12, 13, 14, 15, 16, 17, 18, 19] from 43 (fun v12 v13 v14 v15 v16 v17 v18 v19 wr => v13 = .int .i64 E ∧ v14 = .int .i64 er2 ∧ ∃ st kt ct sw nw cw, v12 = .slice st kt ct ∧ Sl wr st kt (ints A) ∧ Hs w5 [(mb2, #[.slice sw nw cw], 29)] wr ∧ SlK wr 2 sw nw (prs P))
 case first =>
  cases c with
  | false =>
   have hb0 : behindL l os = (370, []) := by unfold behindL; rw [if_pos hc'h.out.symm]
   rw [hEP'h.out] at hb0
   obtain ⟨rfl, rfl⟩ := Prod.mk.inj hb0
   have hA2 : er2 = 370 ∧ A = [] := by
    rcases hA'h.out with ⟨-, h⟩ | ⟨h, -⟩
    ·
     exact h
    ·
     rw [← hc'h.out] at h; cases h
   obtain ⟨rfl, rfl⟩ := hA2
   go_wp2
   go_meet
   exact ⟨rfl, rfl, none, 0, 0, none, 0, 0, rfl, Sl.nil _ _, H6'h.out, SlK.nil _ _ _⟩
  | true =>
   have hB6 := IN'h.out w6 H6'h.out.old
   have RO := drow_any n rp m rc os w6 (hO'h.out w6 hB6) hrc'h.out
   obtain ⟨ro, hro⟩ : ∃ ro, ro = metOk n os noneB := ⟨_, rfl⟩
   rw [← hro] at RO
   have hB6'h := Lib.hid hB6
   have RO'h := Lib.hid RO
   have hro'h := Lib.hid hro
   clear hB6 RO hro
   go_wp2_with fail
   refine RO'h.out.mono ?_
   rintro e w7 ⟨rfl, hw7⟩
   obtain rfl := hw7.symm
   clear RO'h
   go_upto_if 46 with fail
   go_cut [13, 15, 16] from 47 (fun v13 v15 v16 wr => v13 = .int .i64 E ∧ ∃ sw nw cw, Hs w5 [(mb2, #[.slice sw nw cw], 29)] wr ∧ SlK wr 2 sw nw (prs P))
   case first =>
    cases ro with
    | false =>
     have hb0 : behindL l os = (2, []) := by
      unfold behindL
      rw [if_neg (by rw [← hc'h.out]; decide), if_pos (by rw [← hn'h.out]; exact hro'h.out.symm)]
     rw [hEP'h.out] at hb0
     obtain ⟨rfl, rfl⟩ := Prod.mk.inj hb0
     go_wp2
     go_meet
     exact ⟨rfl, none, 0, 0, H6'h.out, SlK.nil _ _ _⟩
    | true =>
     have hok : metOk l.length os noneB = true := by rw [← hn'h.out]; exact hro'h.out.symm
     have hbk := intsZ_back hok
     have hlt := mapNat_lt hok
     have hdoc := behindL_doc hc'h.out.symm hok
     obtain ⟨rs, hrs⟩ : ∃ rs, rs = os.map Int.toNat := ⟨_, rfl⟩
     rw [← hrs] at hbk hlt
     have hOr : Sl w6 rp m (ints rs) := by rw [ints_Z, ← hbk]; exact hO'h.out w6 hB6'h.out
     have DB := dbehind_any lp n lc l rp m rc rs w6 (hML'h.out w6 hB6'h.out) hc'h.out.symm hOr hrc'h.out hlt (by have := hm84'h.out; omega)
     rw [← hbk] at DB
     rw [hEP'h.out] at hdoc
     obtain ⟨D, hD⟩ : ∃ D, D = dBehindL l os := ⟨_, rfl⟩
     rw [← hD] at DB hdoc
     clear hok hbk hlt hrs hOr hD
     have DB'h := Lib.hid DB
     have hdoc'h := Lib.hid hdoc
     clear DB hdoc
     go_upto_region 14 with (first | (go_at_call 12; refine DB'h.out.mono ?_; rintro e w8 ⟨s8, n8, c8, rfl, hb8, hS8⟩; have hb8'h := Lib.hid hb8; have hS8'h := Lib.hid hS8; clear hb8 hS8))
     have hal := (Below.refl w8.heap.size w8).alloc (Nat.le_refl _) (.cells #[.slice s8 n8 c8] 29)
     have H8 := (H6'h.out.next hb8'h.out).new #[.slice s8 n8 c8] 29
     have hS8 := hS8'h.out.below hal
     clear hal hb8'h hS8'h DB'h H6'h hB6'h
     generalize w8.alloc _ = W8 at H8 hS8 ⊢
     generalize w8.heap.size = mb3 at H8 ⊢
     cases D with
     | none =>
      obtain ⟨rfl, rfl⟩ := Prod.mk.inj hdoc'h.out
      have H9 := H8.tail
      clear H8 hS8
      have H9'h := Lib.hid H9
      clear H9
      go_wp2
      go_meet
      exact ⟨rfl, none, 0, 0, H9'h.out, SlK.nil _ _ _⟩
     | some ps =>
      obtain ⟨rfl, rfl⟩ := Prod.mk.inj hdoc'h.out
      have u0 : W8.cell? ⟨mb3, 0, none⟩ = some (.slice s8 n8 c8) := blk_cell (i := 0) H8.rows.1 rfl
      have y0 : W8.cell? ⟨mb2, 0, none⟩ = some (.slice none 0 0) := blk_cell (i := 0) H8.rows.2.1 rfl
      have y0f := blk_free 0 H8.rows.2.1
      have H9 := H8.tail.put 0 rfl 0 (.slice s8 n8 c8)
      have hS9 := slk_put hS8 H8.rows.2.1 (.slice s8 n8 c8)
      simp only [Option.isSome_some]
      clear H8 hS8
      have H9'h := Lib.hid H9
      have hS9'h := Lib.hid hS9
      clear H9 hS9
      go_wp2
      go_meet
      exact ⟨rfl, s8, n8, c8, H9'h.out, hS9'h.out⟩
   case rest =>
    obtain ⟨rfl, sw, nw, cw, HW, hSW⟩ := hcut
    have hBc := IN'h.out wc HW.old
    have DY := dbyat_any lp n lc l wc (hML'h.out wc hBc) (by have := hll'h.out; omega)
    obtain ⟨D, hD⟩ : ∃ D, D = dByAt l n := ⟨_, rfl⟩
    rw [← hD] at DY
    clear H6'h hB6'h
    have HW'h := Lib.hid HW
    have hSW'h := Lib.hid hSW
    have hBc'h := Lib.hid hBc
    have DY'h := Lib.hid DY
    clear HW hSW hBc DY
    go_wp2_with fail
    refine DY'h.out.mono ?_
    rintro e w6 ⟨sd, cd, rfl, hb6, hrow6⟩
    have hSd := Sl.of_row hrow6 (by rw [hD]; have := dByAt_len l n; have := hll'h.out; unfold maxLen; omega)
    have hcd : D.length ≤ cd := by obtain ⟨_, _, e, h1, -, -⟩ := row_form hrow6; injection e with _ _ e; omega
    have hA2 := hA'h.out.resolve_left fun h => by rw [← hc'h.out] at h; cases h.1
    have hdoc := behindL_doc hc'h.out.symm (dByAt_ok l)
    rw [← hn'h.out, ← hD] at hdoc
    rw [← hD] at hA2
    have hB6 := below_next hBc'h.out hb6
    have DB := dbehind_any lp n lc l sd D.length cd D w6 (hML'h.out w6 hB6) hc'h.out.symm hSd hcd (fun x hx => by rw [hD, hn'h.out] at hx; exact dByAt_lt hx) (by rw [hD]; have := dByAt_len l n; have := hll'h.out; omega)
    obtain ⟨dl, hdl⟩ : ∃ dl, dl = D.length := ⟨_, rfl⟩
    rw [← hdl] at hSd DB ⊢
    obtain ⟨D2, hD2⟩ : ∃ D2, D2 = dBehindL l (intsZ D) := ⟨_, rfl⟩
    rw [← hD2] at DB hdoc
    have HW6 := HW'h.out.next hb6
    have hSW6 := hSW'h.out.below hb6
    clear hrow6 DY'h hD2 hB6 hcd hD hdl hb6 hBc'h HW'h hSW'h
    have hSd'h := Lib.hid hSd
    have hA2'h := Lib.hid hA2
    have hdoc'h := Lib.hid hdoc
    have DB'h := Lib.hid DB
    have HW6'h := Lib.hid HW6
    have hSW6'h := Lib.hid hSW6
    clear hSd hA2 hdoc DB HW6 hSW6
    go_upto_region 19 with (first | (go_at_call 12; refine DB'h.out.mono ?_; rintro e w8 ⟨s8, n8, c8, rfl, hb8, -⟩; have hb8'h := Lib.hid hb8; clear hb8))
    have hal := below_next hb8'h.out ((Below.refl w8.heap.size w8).alloc (Nat.le_refl _) (.cells #[.slice s8 n8 c8] 29))
    have hS9 := hSd'h.out.below hal
    have HW9 := HW6'h.out.next hal
    have hSW9 := hSW6'h.out.below hal
    clear hal hb8'h DB'h hSd'h HW6'h hSW6'h
    generalize w8.alloc _ = W8 at hS9 HW9 hSW9 ⊢
    generalize w8.heap.size = mb3
    have hS9'h := Lib.hid hS9
    have HW9'h := Lib.hid HW9
    have hSW9'h := Lib.hid hSW9
    clear hS9 HW9 hSW9
    cases D2 with
    | none =>
     have hA3 : er2 = 371 ∧ A = [] := by
      rcases hA2'h.out.2 with ⟨-, h⟩ | ⟨h, -⟩
      ·
       exact h
      ·
       rw [hdoc'h.out] at h; cases h
     obtain ⟨rfl, rfl⟩ := hA3
     simp only [Option.isSome_none]
     go_wp2
     go_meet
     exact ⟨rfl, rfl, none, 0, 0, sw, nw, cw, rfl, Sl.nil _ _, HW9'h.out, hSW9'h.out⟩
    | some ps =>
     have hA3 : er2 = 0 ∧ A = D := by
      rcases hA2'h.out.2 with ⟨h, -⟩ | ⟨-, h⟩
      ·
       rw [hdoc'h.out] at h; exact absurd rfl h
      ·
       exact h
     obtain ⟨rfl, rfl⟩ := hA3
     simp only [Option.isSome_some]
     go_wp2
     go_meet
     exact ⟨rfl, rfl, sd, dl, cd, sw, nw, cw, rfl, hS9'h.out, HW9'h.out, hSW9'h.out⟩
 case rest =>
  obtain ⟨rfl, rfl, st, kt, ct, sw, nw, cw, rfl, hSt, HW, hSW⟩ := hcut
  have hC := IN'h.out wc HW.old
  have hmW := heap_below HW.old hk5'h.out (lt_of_heap hk5'h.out)
  have hPW := hS5'h.out.below HW.old
  have hSaW := hSa'h.out.below HW.old
  clear hk5'h hS5'h hSa'h H6'h IN'h hA'h hc'h
  have hwW := HW.rows.1
  have BR := bears_any lp n lc l rp m rc os wc (hT'h.out.next (below_next hB2'h.out hC)) (hML'h.out wc hC) hlc'h.out (hO'h.out wc hC) (by have := hm84'h.out; omega)
  rw [hEP'h.out] at BR
  have f1 : (E == E) = true := by simp
  have f2 : (er2 == er2) = true := by simp
  clear HW
  have hC'h := Lib.hid hC
  have hmW'h := Lib.hid hmW
  have hPW'h := Lib.hid hPW
  have hSaW'h := Lib.hid hSaW
  have hSt'h := Lib.hid hSt
  have hSW'h := Lib.hid hSW
  have hwW'h := Lib.hid hwW
  have BR'h := Lib.hid BR
  clear hC hmW hPW hSaW hSt hSW hwW BR
  rcases int_zero_or E with ⟨h0, h1, h2⟩ | ⟨h0, h1, h2⟩
  ·
   rw [decide_eq_true h0] at BR'h
   clear h0
   go_wp2_with fail
   refine BR'h.out.mono ?_
   rintro e w7 ⟨rfl, hb7⟩
   have hC7 := below_next hC'h.out hb7
   have hm7 := heap_below hb7 hmW'h.out (lt_of_heap hmW'h.out)
   have hw7 := heap_below hb7 hwW'h.out (lt_of_heap hwW'h.out)
   have SA := rsame_any s4 sw n4 nw c4 cw P P w7 (hPW'h.out.below hb7) (hSW'h.out.below hb7)
   rw [decide_eq_true (rfl : P = P)] at SA
   have hSa7 := hSaW'h.out.below hb7
   have hSt7 := hSt'h.out.below hb7
   have u0 : w7.cell? ⟨mb1, 0, none⟩ = some (.slice s4 n4 c4) := blk_cell (i := 0) hm7 rfl
   have u1 : w7.cell? ⟨mb2, 0, none⟩ = some (.slice sw nw cw) := blk_cell (i := 0) hw7 rfl
   clear hb7 BR'h hC'h hmW'h hPW'h hSaW'h hSt'h hSW'h hwW'h hm7 hw7
   have hC7'h := Lib.hid hC7
   have SA'h := Lib.hid SA
   have hSa7'h := Lib.hid hSa7
   have hSt7'h := Lib.hid hSt7
   clear hC7 SA hSa7 hSt7
   go_wp2_with fail
   refine SA'h.out.mono ?_
   rintro e w8 ⟨rfl, hb8⟩
   have hC8 := below_next hC7'h.out hb8
   have EQ := equal_at sa st ka kt ca ct A A w8 (hSa7'h.out.below hb8) (hSt7'h.out.below hb8)
   rw [show (intsZ A == intsZ A) = true from beq_self_eq_true _] at EQ
   clear hb8 SA'h hC7'h hSa7'h hSt7'h u0 u1
   have hC8'h := Lib.hid hC8
   have EQ'h := Lib.hid EQ
   clear hC8 EQ
   go_wp2_with fail
   refine EQ'h.out.mono ?_
   rintro e w9 ⟨rfl, d, rfl⟩
   have hC := hC8'h.out.trans (below_drewN' w8 d)
   clear EQ'h hC8'h
   generalize World.drewN w8 d = wv at hC ⊢
   have hC'h := Lib.hid hC
   clear hC
   have OW := own27_any xp xn xc xs wv (hXW'h.out wv (below_next hB2'h.out hC'h.out)) hnil'h.out hle'h.out
   have OW'h := Lib.hid OW
   clear OW
   go_wp2_with fail
   refine OW'h.out.mono ?_
   rintro e w8 ⟨kp, kc, l2, rfl, hb8, hM8, hll8, hmd8, hlc8, hfar8⟩
   have hC8 := below_next hC'h.out hb8
   have hlen2 : l2.length = n := by have := hll'h.out; omega
   rw [hlen2] at hM8 hmd8 ⊢
   have SM := same27_self lp kp n lc kc l l2 w8 (hML'h.out w8 hC8) hM8 (fun i hi => by rw [hmd'h.out i hi, hmd8 i hi])
   clear hb8 hM8 hll8 hmd8 hlc8 hfar8 hlen2 OW'h hC'h
   have SM'h := Lib.hid SM
   have hC8'h := Lib.hid hC8
   clear SM hC8
   go_wp2_with fail
   refine SM'h.out.mono ?_
   rintro e w9 ⟨rfl, hb9⟩
   have hC9 := below_next hC8'h.out hb9
   clear hb9 SM'h hC8'h
   have hC9'h := Lib.hid hC9
   clear hC9
   have EQ := equalI_any rp yp m m rc yc os os w9 (hO'h.out _ hC9'h.out) (hY'h.out _ (below_next hB2'h.out hC9'h.out))
   rw [show (os == os) = true from beq_self_eq_true _] at EQ
   have EQ'h := Lib.hid EQ
   clear EQ
   go_wp2_with fail
   refine EQ'h.out.mono ?_
   rintro e w10 ⟨rfl, d, rfl⟩
   have hCf := below_next hB2'h.out (hC9'h.out.trans (below_drewN' _ d))
   clear EQ'h hC9'h
   have hCf'h := Lib.hid hCf
   clear hCf
   go_wp2
   go_ret
   exact ⟨rfl, hCf'h.out⟩
  ·
   rw [decide_eq_false h0] at BR'h
   clear h0
   go_wp2_with fail
   refine BR'h.out.mono ?_
   rintro e w7 ⟨rfl, hb7⟩
   have hC7 := below_next hC'h.out hb7
   have hm7 := heap_below hb7 hmW'h.out (lt_of_heap hmW'h.out)
   have hw7 := heap_below hb7 hwW'h.out (lt_of_heap hwW'h.out)
   have SA := rsame_any s4 sw n4 nw c4 cw P P w7 (hPW'h.out.below hb7) (hSW'h.out.below hb7)
   rw [decide_eq_true (rfl : P = P)] at SA
   have hSa7 := hSaW'h.out.below hb7
   have hSt7 := hSt'h.out.below hb7
   have u0 : w7.cell? ⟨mb1, 0, none⟩ = some (.slice s4 n4 c4) := blk_cell (i := 0) hm7 rfl
   have u1 : w7.cell? ⟨mb2, 0, none⟩ = some (.slice sw nw cw) := blk_cell (i := 0) hw7 rfl
   clear hb7 BR'h hC'h hmW'h hPW'h hSaW'h hSt'h hSW'h hwW'h hm7 hw7
   have hC7'h := Lib.hid hC7
   have SA'h := Lib.hid SA
   have hSa7'h := Lib.hid hSa7
   have hSt7'h := Lib.hid hSt7
   clear hC7 SA hSa7 hSt7
   go_wp2_with fail
   refine SA'h.out.mono ?_
   rintro e w8 ⟨rfl, hb8⟩
   have hC8 := below_next hC7'h.out hb8
   have EQ := equal_at sa st ka kt ca ct A A w8 (hSa7'h.out.below hb8) (hSt7'h.out.below hb8)
   rw [show (intsZ A == intsZ A) = true from beq_self_eq_true _] at EQ
   clear hb8 SA'h hC7'h hSa7'h hSt7'h u0 u1
   have hC8'h := Lib.hid hC8
   have EQ'h := Lib.hid EQ
   clear hC8 EQ
   go_wp2_with fail
   refine EQ'h.out.mono ?_
   rintro e w9 ⟨rfl, d, rfl⟩
   have hC := hC8'h.out.trans (below_drewN' w8 d)
   clear EQ'h hC8'h
   generalize World.drewN w8 d = wv at hC ⊢
   have hC'h := Lib.hid hC
   clear hC
   have OW := own27_any xp xn xc xs wv (hXW'h.out wv (below_next hB2'h.out hC'h.out)) hnil'h.out hle'h.out
   have OW'h := Lib.hid OW
   clear OW
   go_wp2_with fail
   refine OW'h.out.mono ?_
   rintro e w8 ⟨kp, kc, l2, rfl, hb8, hM8, hll8, hmd8, hlc8, hfar8⟩
   have hC8 := below_next hC'h.out hb8
   have hlen2 : l2.length = n := by have := hll'h.out; omega
   rw [hlen2] at hM8 hmd8 ⊢
   have SM := same27_self lp kp n lc kc l l2 w8 (hML'h.out w8 hC8) hM8 (fun i hi => by rw [hmd'h.out i hi, hmd8 i hi])
   clear hb8 hM8 hll8 hmd8 hlc8 hfar8 hlen2 OW'h hC'h
   have SM'h := Lib.hid SM
   have hC8'h := Lib.hid hC8
   clear SM hC8
   go_wp2_with fail
   refine SM'h.out.mono ?_
   rintro e w9 ⟨rfl, hb9⟩
   have hC9 := below_next hC8'h.out hb9
   clear hb9 SM'h hC8'h
   have hC9'h := Lib.hid hC9
   clear hC9
   have EQ := equalI_any rp yp m m rc yc os os w9 (hO'h.out _ hC9'h.out) (hY'h.out _ (below_next hB2'h.out hC9'h.out))
   rw [show (os == os) = true from beq_self_eq_true _] at EQ
   have EQ'h := Lib.hid EQ
   clear EQ
   go_wp2_with fail
   refine EQ'h.out.mono ?_
   rintro e w10 ⟨rfl, d, rfl⟩
   have hCf := below_next hB2'h.out (hC9'h.out.trans (below_drewN' _ d))
   clear EQ'h hC9'h
   have hCf'h := Lib.hid hCf
   clear hCf
   go_wp2
   go_ret
   exact ⟨rfl, hCf'h.out⟩
end Go.Proofs.YtogeohjeabbmaaaGreatDoor
