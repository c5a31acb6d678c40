/-
 The document's answer for layer 27: Behind, the map behind an order.
-/
import Derived.Test.YtogeohjeabbmaaaGreatDoorDocV
set_option linter.unusedSimpArgs false
set_option linter.unusedVariables false
set_option maxRecDepth 100000
namespace Go.Proofs.YtogeohjeabbmaaaGreatDoor
open Go.RowKit

/-! ### Rows of numbers -/
def nthQ (rs : List Nat) (k : Nat) : Nat := rs.getD k 0
theorem nthQ_eq {rs : List Nat} {k : Nat} (h : k < rs.length) : rs[k] = nthQ rs k := by
 unfold nthQ
 rw [List.getD_eq_getElem?_getD, List.getElem?_eq_getElem h]; rfl
theorem nthQ_mem {rs : List Nat} {k : Nat} (h : k < rs.length) : nthQ rs k ∈ rs := by rw [← nthQ_eq h]; exact List.getElem_mem h
theorem dropQ {rs : List Nat} {k : Nat} (h : k < rs.length) : rs.drop k = nthQ rs k :: rs.drop (k + 1) := by rw [← nthQ_eq h]; exact List.drop_eq_getElem_cons h
theorem takeQ {rs : List Nat} {k : Nat} (h : k < rs.length) : rs.take (k + 1) = rs.take k ++ [nthQ rs k] := by
 rw [List.take_add_one, List.getElem?_eq_getElem h, nthQ_eq h]; rfl
theorem cellQ {w : World} {b off n : Nat} {rs : List Nat} (h : Sl w (some ⟨b, off, none⟩) n (ints rs)) {k : Nat} (hk : k < rs.length) : w.cell? ⟨b, off + k, none⟩ = some (.int .i64 (nthQ rs k : Int)) := by
 refine (SlK.of_sl h).cell (j := k) ?_
 unfold ints
 rw [List.getElem?_map, List.getElem?_eq_getElem hk, nthQ_eq hk]
 rfl
theorem ints_take (l : List Nat) (k : Nat) : (ints l).take k = ints (l.take k) := by unfold ints; rw [List.map_take]
theorem ints_one' (l : List Nat) : ∀ v ∈ ints l, v.oneCell' = true := by
 intro v hv
 obtain ⟨n, -, rfl⟩ := List.mem_map.1 hv
 rfl
theorem own_lit' (W : World) (t : TypeId) (n : Nat) (vs : Array Value) (hn : vs.size = n) (hm : n ≤ maxLen) : (W.alloc (.cells vs t)).ownsRow W.heap.size t 1 (.slice (some ⟨W.heap.size, 0, none⟩) n n) n vs.toList :=
 ⟨by simp [hn], .inr ⟨W.heap.size, n, vs, rfl, Nat.le_refl _, World.alloc_heap_new _ _, Nat.le_refl _, hm, by simp [hn], by rw [Nat.mul_one, ← hn]; exact List.take_of_length_le (by simp)⟩⟩
theorem drop_ints {w : World} {b o k r c : Nat} {l : List Nat} (h : Sl w (some ⟨b, o, none⟩) (k + r) (ints l)) : SlK w 1 (if k + r + c = k then some ⟨b, o, none⟩ else some ⟨b, o + k, none⟩) r (ints (l.drop k)) := by
 have h1 := (SlK.of_sl h).drop k (by omega)
 rw [Nat.add_sub_cancel_left] at h1
 have e : (ints l).drop k = ints (l.drop k) := by unfold ints; rw [List.map_drop]
 rw [e] at h1
 split
 ·
  rename_i he
  obtain rfl : r = 0 := by omega
  exact ⟨h1.1, h1.2.1, .inl rfl⟩
 ·
  exact h1
def lateN (l : List Mm) (D : List Nat) (x : Nat) : Bool := D.any fun k => aheadM (nthM l x).md (nthM l k).md
theorem late_N (l : List Mm) (D : List Nat) (x : Nat) : lateB l (intsZ D) (x : Int) = lateN l D x := by
 unfold lateB intsZ lateN
 rw [List.any_map]
 rfl
theorem alongN {l : List Mm} {rs : List Nat} {j : Nat} {ps : Ps} (h : j < rs.length) : alongD l (intsZ (rs.take j)) (intsZ (rs.drop j)) ps = if lateN l (rs.take j) (nthQ rs j) then none else if goesB (nthM l (nthQ rs j)).md ps then alongD l (intsZ (rs.take (j + 1))) (intsZ (rs.drop (j + 1))) (stepP (nthM l (nthQ rs j)).md ps) else none := by
 rw [dropQ h]
 show alongD l _ ((nthQ rs j : Int) :: intsZ (rs.drop (j + 1))) ps = _
 rw [alongD_cons, late_N, Int.toNat_natCast, takeQ h, intsZ_append]
 rfl
theorem late_none {l : List Mm} {rs : List Nat} {j : Nat} (hj : j ≤ rs.length) {x : Nat} (h : ∀ i, i < j → aheadM (nthM l x).md (nthM l (nthQ rs i)).md = false) : lateN l (rs.take j) x = false := by
 unfold lateN
 rw [List.any_eq_false]
 intro k hk
 obtain ⟨i, hi, rfl⟩ := List.getElem_of_mem hk
 rw [List.length_take] at hi
 rw [List.getElem_take, nthQ_eq (by omega), h i (by omega)]
 simp
theorem late_some {l : List Mm} {rs : List Nat} {j : Nat} (hj : j ≤ rs.length) {x i : Nat} (hi : i < j) (h : aheadM (nthM l x).md (nthM l (nthQ rs i)).md = true) : lateN l (rs.take j) x = true := by
 unfold lateN
 rw [List.any_eq_true]
 refine ⟨nthQ rs i, ?_, h⟩
 rw [← nthQ_eq (by omega)]
 exact List.mem_take_iff_getElem.2 ⟨i, by omega, rfl⟩
/-- What Behind leaves. -/
def DBehP (w : World) (r : Option Ps) (e : Ending) (w' : World) : Prop :=
 ∃ s n c, e = .returned (.tuple #[.agg #[.slice s n c], .bool r.isSome]) ∧ Below w.heap.size w w' ∧ SlK w' 2 s n (prs (r.getD []))
theorem check_80 {l : List Mm} (h : checkB l = true) : l.length ≤ 80 := by
 unfold checkB at h
 simp only [Bool.and_eq_true, decide_eq_true_eq] at h
 omega
theorem range_all {l : List Mm} {os : List Int} (h : ∀ i, i < l.length → dOneB l os i = false) : dWholeB l os = true := by
 unfold dWholeB
 rw [List.all_eq_true]
 intro i hi
 rw [h i (List.mem_range.1 hi)]
 rfl
theorem range_some {l : List Mm} {os : List Int} {i : Nat} (hi : i < l.length) (h : dOneB l os i = true) : dWholeB l os = false := by
 unfold dWholeB
 rw [List.all_eq_false]
 exact ⟨i, List.mem_range.2 hi, by rw [h]; decide⟩
theorem len_stepP1 (m : Md) (ps : Ps) {j : Nat} (h : ps.length ≤ j) : (stepP m ps).length ≤ j + 1 := Nat.le_trans (len_stepP m ps) (by omega)
set_option maxHeartbeats 16000000 in
theorem dbehind_any (sp : Option Addr) (n cap : Nat) (l : List Mm) (op : Option Addr) (on oc : Nat) (rs : List Nat) (w : World) (h : MsIn w sp n l) (hck : checkB l = true) (hO : Sl w op on (ints rs)) (hole : on ≤ oc) (hin : ∀ x ∈ rs, x < l.length) (hon : on ≤ 4096) :
  Calls Tryz.prog 12 #[.slice sp n cap, .slice op on oc] w (DBehP w (dBehindL l (intsZ rs))) := by
 have hlen := h.len
 have holen : on = rs.length := by have := hO.1; simpa [ints_length] using this
 have h80 : n ≤ 80 := by rw [hlen]; exact check_80 hck
 obtain ⟨R, hR⟩ : ∃ R, R = dBehindL l (intsZ rs) := ⟨_, rfl⟩
 rw [← hR]
 unfold dBehindL at hR
 have IN := fun (x : Int) W (hb : Below w.heap.size w W) => in_any op on oc (intsZ rs) x W (by rw [← ints_Z]; exact hO.below hb)
 have H0 := (Hs.nil w).new #[.slice none 0 0] 29
 have h'h := Lib.hid h
 have hck'h := Lib.hid hck
 have hO'h := Lib.hid hO
 have hole'h := Lib.hid hole
 have hin'h := Lib.hid hin
 have hon'h := Lib.hid hon
 have hlen'h := Lib.hid hlen
 have holen'h := Lib.hid holen
 have h80'h := Lib.hid h80
 have hR'h := Lib.hid hR
 have IN'h := Lib.hid IN
 have H0'h := Lib.hid H0
 clear h hck hO hole hin hon hlen holen h80 hR IN H0
 go_enter Tryz.func12, Tryz.ntmps12
 go_upto_region 1 with fail
 generalize w.alloc _ = W0 at H0'h ⊢
 go_wp2
 go_loopg [16] n (fun q v16 wr => ∃ j : Nat, j + q = n ∧ v16 = .int .i64 (j : Int) ∧ (∀ i, i < j → dOneB l (intsZ rs) i = false) ∧ Hs w [(w.heap.size, #[.slice none 0 0], 29)] wr)
 case atStart => exact ⟨0, by omega, rfl, fun i hi => by omega, H0'h.out⟩
 case round =>
  obtain ⟨j, hj, rfl, hall, H⟩ := hrel
  by_cases hlt : j < n
  ·
   have i3 : (j : Int) < (n : Int) := by omega
   have i4 : (0 : Int) ≤ (j : Int) := by omega
   have i5 : (j : Int) + 1 ≤ 5000 := by have := h80'h.out; omega
   have hS := h'h.out.below H.old
   obtain ⟨b, off, rfl⟩ := slk_some hS.sl (by omega)
   have hjl : j < l.length := by have := hlen'h.out; omega
   obtain ⟨x, hx0⟩ : ∃ x, x = nthM l j := ⟨_, rfl⟩
   have hcl := fun (i : Nat) (v : Value) (hi : i < 13) (hv : (mmL x)[i]? = some v) => hS.cells hjl (i := i) (v := v) hi (by rw [← hx0]; exact hv)
   obtain ⟨r, hr⟩ : ∃ r, r = decide ((j : Int) ∈ intsZ rs) := ⟨_, rfl⟩
   have hone : dOneB l (intsZ rs) j = ((decide (x.md.call.op = 6) && r) || (!decide (x.md.call.op = 6) && decide (x.md.over ≠ 0) && !r)) := by rw [hx0, hr]; rfl
   have IN := fun W hb => IN'h.out (j : Int) W hb
   rw [← hr] at IN
   have H3 := H.new (mmA x) 55
   have hBx := H.old
   clear hx0 hS hr
   obtain ⟨⟨goerx, ⟨opx, kyx, cax, cbx⟩, ⟨errx, valx, donex⟩, prsx, beganx, atx, overx, toldx⟩, ppx, pnx, pcx, tpx, tnx, tcx⟩ := x
   have e0 := hcl 0 _ (by omega) rfl
   have e1 := hcl 1 _ (by omega) rfl
   have e2 := hcl 2 _ (by omega) rfl
   have e3 := hcl 3 _ (by omega) rfl
   have e4 := hcl 4 _ (by omega) rfl
   have e5 := hcl 5 _ (by omega) rfl
   have e6 := hcl 6 _ (by omega) rfl
   have e7 := hcl 7 _ (by omega) rfl
   have e8 := hcl 8 _ (by omega) rfl
   have e9 := hcl 9 _ (by omega) rfl
   have ea := hcl 10 _ (by omega) rfl
   have eb := hcl 11 _ (by omega) rfl
   have ec := hcl 12 _ (by omega) rfl
   simp only [Nat.add_zero] at e0
   simp only [mmA] at *
   clear hcl
   obtain ⟨W3, hW3⟩ : ∃ W3, W3 = wr.alloc (.cells #[.int .i64 goerx, .int .i64 opx, .int .u64 (kyx : Int), .int .u64 (cax : Int), .int .u64 (cbx : Int), .int .i64 errx, .int .u64 (valx : Int), .bool donex, .slice ppx pnx pcx, .int .i64 beganx, .int .i64 atx, .int .i64 overx, .slice tpx tnx tcx] 55) := ⟨_, rfl⟩
   rw [← hW3] at H3
   have hj'h := Lib.hid hj
   have hall'h := Lib.hid hall
   have H'h := Lib.hid H
   have H3'h := Lib.hid H3
   have IN'h := Lib.hid IN
   have hjl'h := Lib.hid hjl
   have hlt'h := Lib.hid hlt
   have hone'h := Lib.hid hone
   have hBx'h := Lib.hid hBx
   clear hj hall H H3 IN hjl hlt hone hBx
   go_upto_region 4 with fail
   rw [← hW3]
   clear hW3 e0 e1 e2 e3 e4 e5 e6 e7 e8 e9 ea eb ec H'h
   have H3 := H3'h.out
   clear H3'h
   generalize wr.heap.size = ab at H3 ⊢
   obtain ⟨b0, b1, b2, b3, b4, b5, b6, b7, b8, b9, ba, bb, bc⟩ := cells13 H3.rows.1
   have H3'h := Lib.hid H3
   clear H3
   by_cases h6 : opx = 6
   ·
    have c1 : (opx == 6) = true := by simp [h6]
    have c2 : (opx != 6) = false := by simp [h6]
    have hone2 : dOneB l (intsZ rs) j = r := by rw [hone'h.out]; simp [h6]
    clear h6 hone'h
    have hone2'h := Lib.hid hone2
    clear hone2
    go_wp2_with fail
    refine (IN'h.out W3 H3'h.out.old).mono ?_
    rintro e w4 ⟨rfl, hw4⟩
    obtain rfl := hw4.symm
    cases r with
    | true =>
     obtain rfl : R = none := by rw [hR'h.out, range_some hjl'h.out hone2'h.out]; rfl
     have y0 : World.cell? W3 ⟨w.heap.size, 0, none⟩ = some (.slice none 0 0) := blk_cell (i := 0) H3'h.out.rows.2.1 rfl
     have y0f := blk_free 0 H3'h.out.rows.2.1
     have HF := Hs.put H3'h.out 1 rfl 0 (.slice none 0 0)
     have HF'h := Lib.hid HF
     clear HF
     go_wp2
     clear y0 y0f
     generalize World.setCell _ _ _ = V9 at HF'h ⊢
     have e9 : V9.cell? ⟨w.heap.size, 0, none⟩ = some (.slice none 0 0) := blk_cell (i := 0) HF'h.out.rows.2.1 rfl
     refine bodyPost_ret (v := .tuple #[.agg #[.slice none 0 0], .bool false]) ?_ rfl ⟨none, 0, 0, rfl, HF'h.out.old, SlK.nil _ _ _⟩
     simp [results, Tryz.results12, go_sem, e9]
    | false =>
     have hall2 : ∀ i, i < j + 1 → dOneB l (intsZ rs) i = false := fun i hi => by
      by_cases e : i = j
      ·
       rw [e, hone2'h.out]; try rfl
      ·
       exact hall'h.out i (by omega)
     have hall2'h := Lib.hid hall2
     clear hall2
     go_wp2
     go_roundg (gk - 1)
     case measure => have := hj'h.out; have := hlt'h.out; omega
     case rel => exact ⟨j + 1, by have := hj'h.out; have := hlt'h.out; omega, by go_num, hall2'h.out, H3'h.out.tail⟩
   ·
    have c1 : (opx == 6) = false := by simp [h6]
    have c2 : (opx != 6) = true := by simp [h6]
    rcases int_zero_or overx with ⟨h0, h1, h2⟩ | ⟨h0, h1, h2⟩
    ·
     have hone2 : dOneB l (intsZ rs) j = false := by rw [hone'h.out]; simp [h6, h0]
     clear h6 hone'h h0 IN'h
     have hone2'h := Lib.hid hone2
     clear hone2
     have hall2 : ∀ i, i < j + 1 → dOneB l (intsZ rs) i = false := fun i hi => by
      by_cases e : i = j
      ·
       rw [e, hone2'h.out]; try rfl
      ·
       exact hall'h.out i (by omega)
     have hall2'h := Lib.hid hall2
     clear hall2
     go_wp2
     go_roundg (gk - 1)
     case measure => have := hj'h.out; have := hlt'h.out; omega
     case rel => exact ⟨j + 1, by have := hj'h.out; have := hlt'h.out; omega, by go_num, hall2'h.out, H3'h.out.tail⟩
    ·
     have hone2 : dOneB l (intsZ rs) j = !r := by rw [hone'h.out]; simp [h6, h0]
     clear h6 hone'h h0
     have hone2'h := Lib.hid hone2
     clear hone2
     go_wp2_with fail
     refine (IN'h.out W3 H3'h.out.old).mono ?_
     rintro e w4 ⟨rfl, hw4⟩
     obtain rfl := hw4.symm
     cases r with
     | true =>
      have hall2 : ∀ i, i < j + 1 → dOneB l (intsZ rs) i = false := fun i hi => by
       by_cases e : i = j
       ·
        rw [e, hone2'h.out]; try rfl
       ·
        exact hall'h.out i (by omega)
      have hall2'h := Lib.hid hall2
      clear hall2
      go_wp2
      go_roundg (gk - 1)
      case measure => have := hj'h.out; have := hlt'h.out; omega
      case rel => exact ⟨j + 1, by have := hj'h.out; have := hlt'h.out; omega, by go_num, hall2'h.out, H3'h.out.tail⟩
     | false =>
      obtain rfl : R = none := by rw [hR'h.out, range_some hjl'h.out hone2'h.out]; rfl
      have y0 : World.cell? W3 ⟨w.heap.size, 0, none⟩ = some (.slice none 0 0) := blk_cell (i := 0) H3'h.out.rows.2.1 rfl
      have y0f := blk_free 0 H3'h.out.rows.2.1
      have HF := Hs.put H3'h.out 1 rfl 0 (.slice none 0 0)
      have HF'h := Lib.hid HF
      clear HF
      go_wp2
      clear y0 y0f
      generalize World.setCell _ _ _ = V9 at HF'h ⊢
      have e9 : V9.cell? ⟨w.heap.size, 0, none⟩ = some (.slice none 0 0) := blk_cell (i := 0) HF'h.out.rows.2.1 rfl
      refine bodyPost_ret (v := .tuple #[.agg #[.slice none 0 0], .bool false]) ?_ rfl ⟨none, 0, 0, rfl, HF'h.out.old, SlK.nil _ _ _⟩
      simp [results, Tryz.results12, go_sem, e9]
  ·
   have i3 : ¬ (j : Int) < (n : Int) := by omega
   have hwh : dWholeB l (intsZ rs) = true := range_all fun i hi => hall i (by have := hlen'h.out; omega)
   have hR2 : R = alongD l (intsZ (rs.take 0)) (intsZ (rs.drop 0)) [] := by rw [hR'h.out, hwh]; rfl
   have hops : ∀ x ∈ rs, (nthM l x).md.call.op ≠ 6 := fun x hx e => by
    have h1 := dOne_not hwh (hin'h.out x hx)
    unfold dOneB at h1
    rw [show rangesM (nthM l x).md = true from decide_eq_true e, decide_eq_true (intsZ_mem.2 hx)] at h1
    simp at h1
   clear hall hj hlt hwh hR'h IN'h
   have H'h := Lib.hid H
   have hR2'h := Lib.hid hR2
   have hops'h := Lib.hid hops
   clear H hR2 hops
   go_upto_region 8 with fail
   have H1 := H'h.out.new #[.slice none 0 0] 29
   clear H'h
   generalize hW1 : wr.alloc _ = W1 at H1 ⊢
   clear hW1
   generalize wr.heap.size = mb at H1 ⊢
   have H1'h := Lib.hid H1
   clear H1
   go_wp2
   go_loopg [51] on (fun q v51 wr => ∃ (j : Nat) (ps : Ps) (mp : Option Addr) (mn mc : Nat), j + q = on ∧ v51 = .int .i64 (j : Int) ∧ R = alongD l (intsZ (rs.take j)) (intsZ (rs.drop j)) ps ∧ upB ps = true ∧ ps.length ≤ j ∧ SlK wr 2 mp mn (prs ps) ∧ Hs w [(mb, #[.slice mp mn mc], 29), (w.heap.size, #[.slice none 0 0], 29)] wr)
   case atStart => exact ⟨0, [], none, 0, 0, by omega, rfl, hR2'h.out, rfl, Nat.le_refl _, SlK.nil _ _ _, H1'h.out⟩
   case round =>
    obtain ⟨j, ps, mp, mn, mc, hj, rfl, hRj, hup, hpl, hM, H⟩ := hrel
    obtain ⟨wo, rfl⟩ : ∃ wo : World, wo = wr := ⟨_, rfl⟩
    by_cases hlt : j < on
    ·
     have i3 : (j : Int) < (on : Int) := by omega
     have i4 : (0 : Int) ≤ (j : Int) := by omega
     have i5 : (j : Int) + 1 ≤ 5000 := by have := hon'h.out; omega
     have i6 : (j : Int) ≤ (oc : Int) := by have := hole'h.out; omega
     have hjr : j < rs.length := by have := holen'h.out; omega
     have hOw := hO'h.out.below H.old
     obtain ⟨ob, oo, rfl⟩ := slk_some (SlK.of_sl hOw) (by omega)
     have d1 := cellQ hOw hjr
     rw [alongN hjr] at hRj
     have hxl := hin'h.out _ (nthQ_mem hjr)
     have hx6 := hops'h.out _ (nthQ_mem hjr)
     obtain ⟨x, hx⟩ : ∃ x, x = nthQ rs j := ⟨_, rfl⟩
     rw [← hx] at d1 hRj hxl hx6
     obtain ⟨go, rfl⟩ : ∃ go : Nat, go = gk := ⟨_, rfl⟩
     have k1 : (x : Int) < (n : Int) := by have := hlen'h.out; omega
     have k2 : (0 : Int) ≤ (x : Int) := by omega
     clear hx
     have hj'h := Lib.hid hj
     have hRj'h := Lib.hid hRj
     have hup'h := Lib.hid hup
     have hpl'h := Lib.hid hpl
     have hM'h := Lib.hid hM
     have H'h := Lib.hid H
     have hlt'h := Lib.hid hlt
     have hjr'h := Lib.hid hjr
     have hOw'h := Lib.hid hOw
     have hxl'h := Lib.hid hxl
     have hx6'h := Lib.hid hx6
     clear hj hRj hup hpl hM H hlt hjr hOw hxl hx6
     go_wp2
     clear d1 i3
     go_loopg [60] j (fun q v60 wq => ∃ k : Nat, k + q = j ∧ v60 = .int .i64 (k : Int) ∧ (∀ i, i < k → aheadM (nthM l x).md (nthM l (nthQ rs i)).md = false) ∧ Below wo.heap.size wo wq)
     case atStart => exact ⟨0, by omega, rfl, fun i hi => by omega, Below.refl _ _⟩
     case round =>
      obtain ⟨k, hk, rfl, hall2, hB⟩ := hrel
      by_cases hlt2 : k < j
      ·
       have j1 : (k : Int) < (j : Int) := by omega
       have j2 : (0 : Int) ≤ (k : Int) := by omega
       have j3 : (k : Int) + 1 ≤ 5000 := by omega
       have hkr : k < rs.length := by have := hjr'h.out; omega
       have d2 := cellQ (hOw'h.out.below hB) hkr
       have hyl := hin'h.out _ (nthQ_mem hkr)
       obtain ⟨y, hy⟩ : ∃ y, y = nthQ rs k := ⟨_, rfl⟩
       rw [← hy] at d2 hyl
       have k3 : (y : Int) < (n : Int) := by have := hlen'h.out; omega
       have k4 : (0 : Int) ≤ (y : Int) := by omega
       have hS := h'h.out.below (below_next H'h.out.old hB)
       try (obtain ⟨b, off, rfl⟩ := slk_some hS.sl (by omega))
       obtain ⟨mx, hmx0⟩ : ∃ mx, mx = nthM l x := ⟨_, rfl⟩
       obtain ⟨my, hmy0⟩ : ∃ my, my = nthM l y := ⟨_, rfl⟩
       have hcl := fun (i : Nat) (v : Value) (hi : i < 13) (hv : (mmL mx)[i]? = some v) => hS.cells hxl'h.out (i := i) (v := v) hi (by rw [← hmx0]; exact hv)
       have hcm := fun (i : Nat) (v : Value) (hi : i < 13) (hv : (mmL my)[i]? = some v) => hS.cells hyl (i := i) (v := v) hi (by rw [← hmy0]; exact hv)
       have AX := fun W => dahead_any mx my W
       obtain ⟨p, hp⟩ : ∃ p, p = aheadM mx.md my.md := ⟨_, rfl⟩
       rw [← hp] at AX
       rw [hmx0, hmy0] at hp
       clear hmx0 hmy0 hS
       obtain ⟨⟨goerx, ⟨opx, kyx, cax, cbx⟩, ⟨errx, valx, donex⟩, prsx, beganx, atx, overx, toldx⟩, ppx, pnx, pcx, tpx, tnx, tcx⟩ := mx
       have e0 := hcl 0 _ (by omega) rfl
       have e1 := hcl 1 _ (by omega) rfl
       have e2 := hcl 2 _ (by omega) rfl
       have e3 := hcl 3 _ (by omega) rfl
       have e4 := hcl 4 _ (by omega) rfl
       have e5 := hcl 5 _ (by omega) rfl
       have e6 := hcl 6 _ (by omega) rfl
       have e7 := hcl 7 _ (by omega) rfl
       have e8 := hcl 8 _ (by omega) rfl
       have e9 := hcl 9 _ (by omega) rfl
       have ea := hcl 10 _ (by omega) rfl
       have eb := hcl 11 _ (by omega) rfl
       have ec := hcl 12 _ (by omega) rfl
       simp only [Nat.add_zero] at e0
       have Cx : ∀ W : World, Below wr.heap.size wr W → W.cell? ⟨b, off + x * 13, none⟩ = some (.int .i64 goerx) ∧ W.cell? ⟨b, off + x * 13 + 1, none⟩ = some (.int .i64 opx) ∧ W.cell? ⟨b, off + x * 13 + 2, none⟩ = some (.int .u64 (kyx : Int)) ∧ W.cell? ⟨b, off + x * 13 + 3, none⟩ = some (.int .u64 (cax : Int)) ∧ W.cell? ⟨b, off + x * 13 + 4, none⟩ = some (.int .u64 (cbx : Int)) ∧ W.cell? ⟨b, off + x * 13 + 5, none⟩ = some (.int .i64 errx) ∧ W.cell? ⟨b, off + x * 13 + 6, none⟩ = some (.int .u64 (valx : Int)) ∧ W.cell? ⟨b, off + x * 13 + 7, none⟩ = some (.bool donex) ∧ W.cell? ⟨b, off + x * 13 + 8, none⟩ = some (.slice ppx pnx pcx) ∧ W.cell? ⟨b, off + x * 13 + 9, none⟩ = some (.int .i64 beganx) ∧ W.cell? ⟨b, off + x * 13 + 10, none⟩ = some (.int .i64 atx) ∧ W.cell? ⟨b, off + x * 13 + 11, none⟩ = some (.int .i64 overx) ∧ W.cell? ⟨b, off + x * 13 + 12, none⟩ = some (.slice tpx tnx tcx) :=
        fun W hW => ⟨(hW.cell (lt_of_cell e0)).trans e0, (hW.cell (lt_of_cell e1)).trans e1, (hW.cell (lt_of_cell e2)).trans e2, (hW.cell (lt_of_cell e3)).trans e3, (hW.cell (lt_of_cell e4)).trans e4, (hW.cell (lt_of_cell e5)).trans e5, (hW.cell (lt_of_cell e6)).trans e6, (hW.cell (lt_of_cell e7)).trans e7, (hW.cell (lt_of_cell e8)).trans e8, (hW.cell (lt_of_cell e9)).trans e9, (hW.cell (lt_of_cell ea)).trans ea, (hW.cell (lt_of_cell eb)).trans eb, (hW.cell (lt_of_cell ec)).trans ec⟩
       clear e0 e1 e2 e3 e4 e5 e6 e7 e8 e9 ea eb ec
       obtain ⟨⟨goery, ⟨opy, kyy, cay, cby⟩, ⟨erry, valy, doney⟩, prsy, begany, aty, overy, toldy⟩, ppy, pny, pcy, tpy, tny, tcy⟩ := my
       have e0 := hcm 0 _ (by omega) rfl
       have e1 := hcm 1 _ (by omega) rfl
       have e2 := hcm 2 _ (by omega) rfl
       have e3 := hcm 3 _ (by omega) rfl
       have e4 := hcm 4 _ (by omega) rfl
       have e5 := hcm 5 _ (by omega) rfl
       have e6 := hcm 6 _ (by omega) rfl
       have e7 := hcm 7 _ (by omega) rfl
       have e8 := hcm 8 _ (by omega) rfl
       have e9 := hcm 9 _ (by omega) rfl
       have ea := hcm 10 _ (by omega) rfl
       have eb := hcm 11 _ (by omega) rfl
       have ec := hcm 12 _ (by omega) rfl
       simp only [Nat.add_zero] at e0
       have Cy : ∀ W : World, Below wr.heap.size wr W → W.cell? ⟨b, off + y * 13, none⟩ = some (.int .i64 goery) ∧ W.cell? ⟨b, off + y * 13 + 1, none⟩ = some (.int .i64 opy) ∧ W.cell? ⟨b, off + y * 13 + 2, none⟩ = some (.int .u64 (kyy : Int)) ∧ W.cell? ⟨b, off + y * 13 + 3, none⟩ = some (.int .u64 (cay : Int)) ∧ W.cell? ⟨b, off + y * 13 + 4, none⟩ = some (.int .u64 (cby : Int)) ∧ W.cell? ⟨b, off + y * 13 + 5, none⟩ = some (.int .i64 erry) ∧ W.cell? ⟨b, off + y * 13 + 6, none⟩ = some (.int .u64 (valy : Int)) ∧ W.cell? ⟨b, off + y * 13 + 7, none⟩ = some (.bool doney) ∧ W.cell? ⟨b, off + y * 13 + 8, none⟩ = some (.slice ppy pny pcy) ∧ W.cell? ⟨b, off + y * 13 + 9, none⟩ = some (.int .i64 begany) ∧ W.cell? ⟨b, off + y * 13 + 10, none⟩ = some (.int .i64 aty) ∧ W.cell? ⟨b, off + y * 13 + 11, none⟩ = some (.int .i64 overy) ∧ W.cell? ⟨b, off + y * 13 + 12, none⟩ = some (.slice tpy tny tcy) :=
        fun W hW => ⟨(hW.cell (lt_of_cell e0)).trans e0, (hW.cell (lt_of_cell e1)).trans e1, (hW.cell (lt_of_cell e2)).trans e2, (hW.cell (lt_of_cell e3)).trans e3, (hW.cell (lt_of_cell e4)).trans e4, (hW.cell (lt_of_cell e5)).trans e5, (hW.cell (lt_of_cell e6)).trans e6, (hW.cell (lt_of_cell e7)).trans e7, (hW.cell (lt_of_cell e8)).trans e8, (hW.cell (lt_of_cell e9)).trans e9, (hW.cell (lt_of_cell ea)).trans ea, (hW.cell (lt_of_cell eb)).trans eb, (hW.cell (lt_of_cell ec)).trans ec⟩
       clear e0 e1 e2 e3 e4 e5 e6 e7 e8 e9 ea eb ec
       simp only [mmA] at *
       clear hcl hcm
       have hk'h := Lib.hid hk
       have hlt2'h := Lib.hid hlt2
       have hall2'h := Lib.hid hall2
       have hB'h := Lib.hid hB
       have AX'h := Lib.hid AX
       have Cx'h := Lib.hid Cx
       have Cy'h := Lib.hid Cy
       have hkr'h := Lib.hid hkr
       have hyl'h := Lib.hid hyl
       have hp'h := Lib.hid hp
       have hy'h := Lib.hid hy
       clear hk hlt2 hall2 hB AX Cx Cy hkr hyl hp hy
       go_upto_region 14 with fail
       clear d2
       refine wp_region_heldF (fun w' => Below wr.heap.size wr w') 99 (by kernel_rfl) ?_
       have R0 : Below wr.heap.size wr wr.drew := Below.drew (Below.refl _ _)
       refine wpAnyF_take (i := 0) (v := .slice (some ⟨b, off, none⟩) n cap) rfl (by kernel_rfl) (by kernel_rfl) (by kernel_rfl) (by kernel_rfl) (fun _ _ _ h => h) (Or.inl ⟨by kernel_rfl, fun w hSw => by (try dsimp only at hSw); go_simp⟩) R0 ?_; try simp only [Act.put, List.getElem_toArray, List.getElem_cons_succ, List.getElem_cons_zero, List.setIfInBounds_toArray, List.set_cons_zero, List.set_cons_succ]
       refine wpAnyF_take (i := 1) (v := .int .i64 (x : Int)) rfl (by kernel_rfl) (by kernel_rfl) (by kernel_rfl) (by kernel_rfl) (fun _ _ _ h => h) (Or.inl ⟨by kernel_rfl, fun w hSw => by (try dsimp only at hSw); go_simp⟩) R0 ?_; try simp only [Act.put, List.getElem_toArray, List.getElem_cons_succ, List.getElem_cons_zero, List.setIfInBounds_toArray, List.set_cons_zero, List.set_cons_succ]
       refine wpAnyF_take (i := 2) (v := .pointer (some ⟨b, off + x * 13, none⟩)) rfl (by kernel_rfl) (by kernel_rfl) (by kernel_rfl) (by kernel_rfl) (fun _ _ _ h => h) (Or.inl ⟨by kernel_rfl, fun w hSw => by (try dsimp only at hSw); go_simp⟩) R0 ?_; try simp only [Act.put, List.getElem_toArray, List.getElem_cons_succ, List.getElem_cons_zero, List.setIfInBounds_toArray, List.set_cons_zero, List.set_cons_succ]
       refine wpAnyF_take (i := 3) (v := .agg #[.int .i64 goerx, .int .i64 opx, .int .u64 (kyx : Int), .int .u64 (cax : Int), .int .u64 (cbx : Int), .int .i64 errx, .int .u64 (valx : Int), .bool donex, .slice ppx pnx pcx, .int .i64 beganx, .int .i64 atx, .int .i64 overx, .slice tpx tnx tcx]) rfl (by kernel_rfl) (by kernel_rfl) (by kernel_rfl) (by kernel_rfl) (fun _ _ _ h => h) (Or.inl ⟨by kernel_rfl, fun w hSw => by obtain ⟨q0, q1, q2, q3, q4, q5, q6, q7, q8, q9, qa, qb, qc⟩ := Cx'h.out w hSw; clear hSw; go_simp⟩) R0 ?_; try simp only [Act.put, List.getElem_toArray, List.getElem_cons_succ, List.getElem_cons_zero, List.setIfInBounds_toArray, List.set_cons_zero, List.set_cons_succ]
       refine wpAnyF_take (i := 4) (v := .slice (some ⟨b, off, none⟩) n cap) rfl (by kernel_rfl) (by kernel_rfl) (by kernel_rfl) (by kernel_rfl) (fun _ _ _ h => h) (Or.inl ⟨by kernel_rfl, fun w hSw => by (try dsimp only at hSw); go_simp⟩) R0 ?_; try simp only [Act.put, List.getElem_toArray, List.getElem_cons_succ, List.getElem_cons_zero, List.setIfInBounds_toArray, List.set_cons_zero, List.set_cons_succ]
       refine wpAnyF_take (i := 5) (v := .int .i64 (y : Int)) rfl (by kernel_rfl) (by kernel_rfl) (by kernel_rfl) (by kernel_rfl) (fun _ _ _ h => h) (Or.inl ⟨by kernel_rfl, fun w hSw => by (try dsimp only at hSw); go_simp⟩) R0 ?_; try simp only [Act.put, List.getElem_toArray, List.getElem_cons_succ, List.getElem_cons_zero, List.setIfInBounds_toArray, List.set_cons_zero, List.set_cons_succ]
       refine wpAnyF_take (i := 6) (v := .pointer (some ⟨b, off + y * 13, none⟩)) rfl (by kernel_rfl) (by kernel_rfl) (by kernel_rfl) (by kernel_rfl) (fun _ _ _ h => h) (Or.inl ⟨by kernel_rfl, fun w hSw => by (try dsimp only at hSw); go_simp⟩) R0 ?_; try simp only [Act.put, List.getElem_toArray, List.getElem_cons_succ, List.getElem_cons_zero, List.setIfInBounds_toArray, List.set_cons_zero, List.set_cons_succ]
       refine wpAnyF_take (i := 7) (v := .agg #[.int .i64 goery, .int .i64 opy, .int .u64 (kyy : Int), .int .u64 (cay : Int), .int .u64 (cby : Int), .int .i64 erry, .int .u64 (valy : Int), .bool doney, .slice ppy pny pcy, .int .i64 begany, .int .i64 aty, .int .i64 overy, .slice tpy tny tcy]) rfl (by kernel_rfl) (by kernel_rfl) (by kernel_rfl) (by kernel_rfl) (fun _ _ _ h => h) (Or.inl ⟨by kernel_rfl, fun w hSw => by obtain ⟨q0, q1, q2, q3, q4, q5, q6, q7, q8, q9, qa, qb, qc⟩ := Cy'h.out w hSw; clear hSw; go_simp⟩) R0 ?_; try simp only [Act.put, List.getElem_toArray, List.getElem_cons_succ, List.getElem_cons_zero, List.setIfInBounds_toArray, List.set_cons_zero, List.set_cons_succ]
       refine wpAnyF_one (i := 8) (by kernel_rfl) rfl (fun K hK => ?_); go_simp
       refine (AX'h.out _).mono ?_
       rintro e w7 ⟨rfl, hb7⟩
       have R1 := below_next R0 hb7
       clear hb7 R0
       refine hK.out _ _ (fun _ => R1) ?_; clear hK K; try simp only [Act.put, List.getElem_toArray, List.getElem_cons_succ, List.getElem_cons_zero, List.setIfInBounds_toArray, List.set_cons_zero, List.set_cons_succ]
       refine wpAnyF_done (by kernel_rfl) ?_ _
       have hB7 := below_next hB'h.out R1
       clear R1 Cx'h Cy'h AX'h
       have hB7'h := Lib.hid hB7
       clear hB7
       cases p with
       | true =>
        have hlate : lateN l (rs.take j) x = true := late_some (by have := hjr'h.out; omega) hlt2'h.out (by rw [← hy'h.out]; exact hp'h.out.symm)
        obtain rfl : R = none := by rw [hRj'h.out, hlate]; rfl
        have H9 := H'h.out.next hB7'h.out
        clear hlate
        have H9'h := Lib.hid H9
        clear H9
        have y0 : World.cell? w7 ⟨w.heap.size, 0, none⟩ = some (.slice none 0 0) := blk_cell (i := 0) H9'h.out.rows.2.1 rfl
        have y0f := blk_free 0 H9'h.out.rows.2.1
        have HF := Hs.put H9'h.out 1 rfl 0 (.slice none 0 0)
        have HF'h := Lib.hid HF
        clear HF
        go_wp2
        clear y0 y0f
        generalize World.setCell _ _ _ = V9 at HF'h ⊢
        have e9 : V9.cell? ⟨w.heap.size, 0, none⟩ = some (.slice none 0 0) := blk_cell (i := 0) HF'h.out.rows.2.1 rfl
        refine bodyPost_ret (v := .tuple #[.agg #[.slice none 0 0], .bool false]) ?_ rfl ⟨none, 0, 0, rfl, HF'h.out.old, SlK.nil _ _ _⟩
        simp [results, Tryz.results12, go_sem, e9]
       | false =>
        have hall3 : ∀ i, i < k + 1 → aheadM (nthM l x).md (nthM l (nthQ rs i)).md = false := fun i hi => by
         by_cases e : i = k
         ·
          rw [e, ← hy'h.out]; exact hp'h.out.symm
         ·
          exact hall2'h.out i (by omega)
        have hall3'h := Lib.hid hall3
        clear hall3
        go_wp2
        go_roundg (gk - 1)
        case measure => have := hk'h.out; have := hlt2'h.out; omega
        case rel => exact ⟨k + 1, by have := hk'h.out; have := hlt2'h.out; omega, by go_num, hall3'h.out, hB7'h.out⟩
      ·
       have j1 : ¬ (k : Int) < (j : Int) := by omega
       have hlate : lateN l (rs.take j) x = false := late_none (by have := hjr'h.out; omega) fun i hi => hall2 i (by omega)
       have hRj2 := hRj'h.out
       rw [hlate] at hRj2
       simp only [Bool.false_eq_true, if_false] at hRj2
       have H9 := H'h.out.next hB
       have hM9 := hM'h.out.below hB
       clear hk hlt2 hall2 hlate hRj'h H'h hM'h hB hOw'h
       have hS := h'h.out.below H9.old
       try (obtain ⟨b, off, rfl⟩ := slk_some hS.sl (by omega))
       obtain ⟨mx, hmx0⟩ : ∃ mx, mx = nthM l x := ⟨_, rfl⟩
       have hcl := fun (i : Nat) (v : Value) (hi : i < 13) (hv : (mmL mx)[i]? = some v) => hS.cells hxl'h.out (i := i) (v := v) hi (by rw [← hmx0]; exact hv)
       have hMm := hS.each mx (by rw [hmx0]; exact nthM_mem hxl'h.out)
       have hop := right_all hck'h.out hxl'h.out
       have hx6 := hx6'h.out
       rw [← hmx0] at hRj2 hop hx6
       have hmn : mn ≤ 4096 := by have := prs_len hM9; have := hpl'h.out; have := hlt'h.out; have := hon'h.out; omega
       have ST := fun W (hb : Below wr.heap.size wr W) => dstep_any mp mn mc ps mx W (hM9.below hb) hup'h.out hmn (hMm.below hb) hop hx6
       obtain ⟨g, hg⟩ : ∃ g, g = goesB mx.md ps := ⟨_, rfl⟩
       have hup2 := up_stepP mx.md hup'h.out
       have hpl2 := len_stepP1 mx.md ps hpl'h.out
       obtain ⟨ps2, hps2⟩ : ∃ ps2, ps2 = stepP mx.md ps := ⟨_, rfl⟩
       rw [← hg, ← hps2] at ST hRj2
       rw [← hps2] at hup2 hpl2
       have y1 : wr.cell? ⟨mb, 0, none⟩ = some (.slice mp mn mc) := blk_cell (i := 0) H9.rows.1 rfl
       clear hmx0 hS hMm hop hx6 hg hps2 hmn hM9
       obtain ⟨⟨goerx, ⟨opx, kyx, cax, cbx⟩, ⟨errx, valx, donex⟩, prsx, beganx, atx, overx, toldx⟩, ppx, pnx, pcx, tpx, tnx, tcx⟩ := mx
       have e0 := hcl 0 _ (by omega) rfl
       have e1 := hcl 1 _ (by omega) rfl
       have e2 := hcl 2 _ (by omega) rfl
       have e3 := hcl 3 _ (by omega) rfl
       have e4 := hcl 4 _ (by omega) rfl
       have e5 := hcl 5 _ (by omega) rfl
       have e6 := hcl 6 _ (by omega) rfl
       have e7 := hcl 7 _ (by omega) rfl
       have e8 := hcl 8 _ (by omega) rfl
       have e9 := hcl 9 _ (by omega) rfl
       have ea := hcl 10 _ (by omega) rfl
       have eb := hcl 11 _ (by omega) rfl
       have ec := hcl 12 _ (by omega) rfl
       simp only [Nat.add_zero] at e0
       have Cx : ∀ W : World, W.heap[b]? = wr.heap[b]? → W.cell? ⟨b, off + x * 13, none⟩ = some (.int .i64 goerx) ∧ W.cell? ⟨b, off + x * 13 + 1, none⟩ = some (.int .i64 opx) ∧ W.cell? ⟨b, off + x * 13 + 2, none⟩ = some (.int .u64 (kyx : Int)) ∧ W.cell? ⟨b, off + x * 13 + 3, none⟩ = some (.int .u64 (cax : Int)) ∧ W.cell? ⟨b, off + x * 13 + 4, none⟩ = some (.int .u64 (cbx : Int)) ∧ W.cell? ⟨b, off + x * 13 + 5, none⟩ = some (.int .i64 errx) ∧ W.cell? ⟨b, off + x * 13 + 6, none⟩ = some (.int .u64 (valx : Int)) ∧ W.cell? ⟨b, off + x * 13 + 7, none⟩ = some (.bool donex) ∧ W.cell? ⟨b, off + x * 13 + 8, none⟩ = some (.slice ppx pnx pcx) ∧ W.cell? ⟨b, off + x * 13 + 9, none⟩ = some (.int .i64 beganx) ∧ W.cell? ⟨b, off + x * 13 + 10, none⟩ = some (.int .i64 atx) ∧ W.cell? ⟨b, off + x * 13 + 11, none⟩ = some (.int .i64 overx) ∧ W.cell? ⟨b, off + x * 13 + 12, none⟩ = some (.slice tpx tnx tcx) :=
        fun W hW => ⟨cell_of_heap hW e0, cell_of_heap hW e1, cell_of_heap hW e2, cell_of_heap hW e3, cell_of_heap hW e4, cell_of_heap hW e5, cell_of_heap hW e6, cell_of_heap hW e7, cell_of_heap hW e8, cell_of_heap hW e9, cell_of_heap hW ea, cell_of_heap hW eb, cell_of_heap hW ec⟩
       clear e0 e1 e2 e3 e4 e5 e6 e7 e8 e9 ea eb ec
       simp only [mmA] at *
       clear hcl
       have hbm : b ≠ mb := by
        have h1 := lt_of_cell (h'h.out.cells hxl'h.out (i := 0) (by omega) rfl)
        have h2 := H9.low _ (List.mem_cons_self ..)
        simp only at h1 h2
        omega
       have hbw : b < wr.heap.size := by
        have h1 := lt_of_cell (h'h.out.cells hxl'h.out (i := 0) (by omega) rfl)
        have h2 := H9.old.size
        simp only at h1
        omega
       have hRj2'h := Lib.hid hRj2
       have H9'h := Lib.hid H9
       have ST'h := Lib.hid ST
       have hup2'h := Lib.hid hup2
       have hpl2'h := Lib.hid hpl2
       have Cx'h := Lib.hid Cx
       have hbm'h := Lib.hid hbm
       have hbw'h := Lib.hid hbw
       clear hRj2 H9 ST hup2 hpl2 Cx hbm hbw
       go_upto_region 18 with fail
       refine wp_region_heldF (fun w' => w'.heap[b]? = wr.heap[b]?) 99 (by kernel_rfl) ?_
       have R0 : wr.drew.heap[b]? = wr.heap[b]? := rfl
       have B0 : Below wr.heap.size wr wr.drew := Below.drew (Below.refl _ _)
       replace y1 : wr.drew.cell? ⟨mb, 0, none⟩ = some (.slice mp mn mc) := y1
       refine wpAnyF_take (i := 1) (v := .slice (some ⟨b, off, none⟩) n cap) rfl (by kernel_rfl) (by kernel_rfl) (by kernel_rfl) (by kernel_rfl) (fun _ _ _ h => h) (Or.inl ⟨by kernel_rfl, fun w hSw => by (try dsimp only at hSw); go_simp⟩) R0 ?_; try simp only [Act.put, List.getElem_toArray, List.getElem_cons_succ, List.getElem_cons_zero, List.setIfInBounds_toArray, List.set_cons_zero, List.set_cons_succ]
       refine wpAnyF_take (i := 2) (v := .int .i64 (x : Int)) rfl (by kernel_rfl) (by kernel_rfl) (by kernel_rfl) (by kernel_rfl) (fun _ _ _ h => h) (Or.inl ⟨by kernel_rfl, fun w hSw => by (try dsimp only at hSw); go_simp⟩) R0 ?_; try simp only [Act.put, List.getElem_toArray, List.getElem_cons_succ, List.getElem_cons_zero, List.setIfInBounds_toArray, List.set_cons_zero, List.set_cons_succ]
       refine wpAnyF_take (i := 3) (v := .pointer (some ⟨b, off + x * 13, none⟩)) rfl (by kernel_rfl) (by kernel_rfl) (by kernel_rfl) (by kernel_rfl) (fun _ _ _ h => h) (Or.inl ⟨by kernel_rfl, fun w hSw => by (try dsimp only at hSw); go_simp⟩) R0 ?_; try simp only [Act.put, List.getElem_toArray, List.getElem_cons_succ, List.getElem_cons_zero, List.setIfInBounds_toArray, List.set_cons_zero, List.set_cons_succ]
       refine wpAnyF_take (i := 4) (v := .agg #[.int .i64 goerx, .int .i64 opx, .int .u64 (kyx : Int), .int .u64 (cax : Int), .int .u64 (cbx : Int), .int .i64 errx, .int .u64 (valx : Int), .bool donex, .slice ppx pnx pcx, .int .i64 beganx, .int .i64 atx, .int .i64 overx, .slice tpx tnx tcx]) rfl (by kernel_rfl) (by kernel_rfl) (by kernel_rfl) (by kernel_rfl) (fun _ _ _ h => h) (Or.inl ⟨by kernel_rfl, fun w hSw => by obtain ⟨q0, q1, q2, q3, q4, q5, q6, q7, q8, q9, qa, qb, qc⟩ := Cx'h.out w hSw; clear hSw; go_simp⟩) R0 ?_; try simp only [Act.put, List.getElem_toArray, List.getElem_cons_succ, List.getElem_cons_zero, List.setIfInBounds_toArray, List.set_cons_zero, List.set_cons_succ]
       refine wpAnyF_one (i := 0) (by kernel_rfl) rfl (fun K hK => ?_); go_simp
       refine hK.out _ _ (fun _ => R0) ?_; clear hK K; try simp only [Act.put, List.getElem_toArray, List.getElem_cons_succ, List.getElem_cons_zero, List.setIfInBounds_toArray, List.set_cons_zero, List.set_cons_succ]
       clear y1
       refine wpAnyF_one (i := 5) (by kernel_rfl) rfl (fun K hK => ?_); go_simp
       refine (ST'h.out _ B0).mono ?_
       rintro e w7 ⟨s7, n7, c7, rfl, hb7, hM7⟩
       have R1 : w7.heap[b]? = wr.heap[b]? := hb7.block b hbw'h.out
       have B1 := below_next B0 hb7
       clear hb7 R0 B0
       refine hK.out _ _ (fun _ => R1) ?_; clear hK K; try simp only [Act.put, List.getElem_toArray, List.getElem_cons_succ, List.getElem_cons_zero, List.setIfInBounds_toArray, List.set_cons_zero, List.set_cons_succ]
       refine wpAnyF_take (i := 6) (v := .tuple #[.agg #[.slice s7 n7 c7], .bool g]) rfl (by kernel_rfl) (by kernel_rfl) (by kernel_rfl) (by kernel_rfl) (fun _ _ _ h => h) (Or.inl ⟨by kernel_rfl, fun w hSw => by (try dsimp only at hSw); go_simp⟩) R1 ?_; try simp only [Act.put, List.getElem_toArray, List.getElem_cons_succ, List.getElem_cons_zero, List.setIfInBounds_toArray, List.set_cons_zero, List.set_cons_succ]
       refine wpAnyF_take (i := 7) (v := .agg #[.slice s7 n7 c7]) rfl (by kernel_rfl) (by kernel_rfl) (by kernel_rfl) (by kernel_rfl) (fun _ _ _ h => h) (Or.inl ⟨by kernel_rfl, fun w hSw => by (try dsimp only at hSw); go_simp⟩) R1 ?_; try simp only [Act.put, List.getElem_toArray, List.getElem_cons_succ, List.getElem_cons_zero, List.setIfInBounds_toArray, List.set_cons_zero, List.set_cons_succ]
       refine wpAnyF_take (i := 8) (v := .bool g) rfl (by kernel_rfl) (by kernel_rfl) (by kernel_rfl) (by kernel_rfl) (fun _ _ _ h => h) (Or.inl ⟨by kernel_rfl, fun w hSw => by (try dsimp only at hSw); go_simp⟩) R1 ?_; try simp only [Act.put, List.getElem_toArray, List.getElem_cons_succ, List.getElem_cons_zero, List.setIfInBounds_toArray, List.set_cons_zero, List.set_cons_succ]
       have H7 := H9'h.out.next B1
       have y1 : w7.cell? ⟨mb, 0, none⟩ = some (.slice mp mn mc) := blk_cell (i := 0) H7.rows.1 rfl
       have y1f := blk_free 0 H7.rows.1
       have H8 := H7.put 0 rfl 0 (.slice s7 n7 c7)
       have hM8 := slk_put hM7 H7.rows.1 (.slice s7 n7 c7)
       have R9 : (w7.setCell ⟨mb, 0, none⟩ (.slice s7 n7 c7)).heap[b]? = wr.heap[b]? := (Below.heap_setCell _ _ _ _ hbm'h.out).trans R1
       clear H7 R1 B1 hM7 H9'h ST'h Cx'h
       refine wpAnyF_one (i := 9) (by kernel_rfl) rfl (fun K hK => ?_); go_simp
       refine hK.out _ _ (fun _ => R9) ?_; clear hK K; try simp only [Act.put, List.getElem_toArray, List.getElem_cons_succ, List.getElem_cons_zero, List.setIfInBounds_toArray, List.set_cons_zero, List.set_cons_succ]
       clear y1 y1f
       refine wpAnyF_take (i := 10) (v := .bool g) rfl (by kernel_rfl) (by kernel_rfl) (by kernel_rfl) (by kernel_rfl) (fun _ _ _ h => h) (Or.inl ⟨by kernel_rfl, fun w hSw => by (try dsimp only at hSw); go_simp⟩) R9 ?_; try simp only [Act.put, List.getElem_toArray, List.getElem_cons_succ, List.getElem_cons_zero, List.setIfInBounds_toArray, List.set_cons_zero, List.set_cons_succ]
       clear R9
       refine wpAnyF_done (by kernel_rfl) ?_ _
       generalize World.setCell _ _ _ = V8 at H8 hM8 ⊢
       change Hs w [(mb, #[.slice s7 n7 c7], 29), _] V8 at H8
       have H8'h := Lib.hid H8
       have hM8'h := Lib.hid hM8
       clear H8 hM8
       cases g with
       | true =>
        simp only [if_true] at hRj2'h
        go_wp2
        go_roundg (go - 1)
        case measure => have := hj'h.out; have := hlt'h.out; omega
        case rel => exact ⟨j + 1, ps2, s7, n7, c7, by have := hj'h.out; have := hlt'h.out; omega, by go_num, hRj2'h.out, hup2'h.out, hpl2'h.out, hM8'h.out, H8'h.out⟩
       | false =>
        simp only [Bool.false_eq_true, if_false] at hRj2'h
        obtain rfl : R = none := hRj2'h.out
        have y0 : World.cell? V8 ⟨w.heap.size, 0, none⟩ = some (.slice none 0 0) := blk_cell (i := 0) H8'h.out.rows.2.1 rfl
        have y0f := blk_free 0 H8'h.out.rows.2.1
        have HF := Hs.put H8'h.out 1 rfl 0 (.slice none 0 0)
        have HF'h := Lib.hid HF
        clear HF
        go_wp2
        clear y0 y0f
        generalize World.setCell _ _ _ = V9 at HF'h ⊢
        have e9 : V9.cell? ⟨w.heap.size, 0, none⟩ = some (.slice none 0 0) := blk_cell (i := 0) HF'h.out.rows.2.1 rfl
        refine bodyPost_ret (v := .tuple #[.agg #[.slice none 0 0], .bool false]) ?_ rfl ⟨none, 0, 0, rfl, HF'h.out.old, SlK.nil _ _ _⟩
        simp [results, Tryz.results12, go_sem, e9]
    ·
     have i3 : ¬ (j : Int) < (on : Int) := by omega
     obtain rfl : R = some ps := by
      rw [hRj, List.drop_eq_nil_of_le (by have := holen'h.out; omega)]
      rfl
     have y0 : wo.cell? ⟨w.heap.size, 0, none⟩ = some (.slice none 0 0) := blk_cell (i := 0) H.rows.2.1 rfl
     have y0f := blk_free 0 H.rows.2.1
     have y1 : wo.cell? ⟨mb, 0, none⟩ = some (.slice mp mn mc) := blk_cell (i := 0) H.rows.1 rfl
     have HF := H.put 1 rfl 0 (.slice mp mn mc)
     have hMF := slk_put hM H.rows.2.1 (.slice mp mn mc)
     clear hj hlt hRj hup hpl hM H
     have HF'h := Lib.hid HF
     have hMF'h := Lib.hid hMF
     clear HF hMF
     go_wp2
     clear y0 y0f y1
     generalize World.setCell _ _ _ = V9 at HF'h hMF'h ⊢
     have e9 : V9.cell? ⟨w.heap.size, 0, none⟩ = some (.slice mp mn mc) := blk_cell (i := 0) HF'h.out.rows.2.1 rfl
     refine bodyPost_ret (v := .tuple #[.agg #[.slice mp mn mc], .bool true]) ?_ rfl ⟨mp, mn, mc, rfl, HF'h.out.old, hMF'h.out⟩
     simp [results, Tryz.results12, go_sem, e9]
end Go.Proofs.YtogeohjeabbmaaaGreatDoor
