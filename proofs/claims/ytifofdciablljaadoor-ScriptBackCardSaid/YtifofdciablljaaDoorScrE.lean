/-
  Layer 3 (script): are scripts the same? Rows of calls compared; Clone at calls, words, bytes.
-/
import Derived.Test.YtifofdciablljaaDoorScrD
import Derived.Test.YtifofdciablljaaDoorEq64
import Derived.Deep.QuietTactic
import Derived.BigQuiet
import Derived.Deep.LoopGhost
set_option linter.unusedSimpArgs false
set_option linter.unusedVariables false
set_option maxRecDepth 100000
namespace Go.Proofs.YtifofdciablljaaDoor
open Go.RowKit

theorem nthCal_eq {l : List Cal} {k : Nat} (h : k < l.length) : l[k] = nthCal l k := by unfold nthCal; rw [List.getD_eq_getElem?_getD, List.getElem?_eq_getElem h]; rfl
theorem nthCal_at {l : List Cal} {k : Nat} (h : k < l.length) : l[k]? = some (nthCal l k) := by rw [List.getElem?_eq_getElem h, nthCal_eq h]
theorem cals_len {w : World} {sp : Option Addr} {n : Nat} {l : List Cal} (h : SlK w 4 sp n (cals l)) : n = l.length := slk_len calL_len (by decide) h
theorem cals_cells {w : World} {b off n : Nat} {l : List Cal} (h : SlK w 4 (some ⟨b, off, none⟩) n (cals l)) {k : Nat} (hk : k < l.length) :
    w.cell? ⟨b, off + k * 4, none⟩ = some (.int .i64 (nthCal l k).op) ∧ w.cell? ⟨b, off + k * 4 + 1, none⟩ = some (.int .u64 ((nthCal l k).key : Int)) ∧
    w.cell? ⟨b, off + k * 4 + 2, none⟩ = some (.int .u64 ((nthCal l k).a : Int)) ∧ w.cell? ⟨b, off + k * 4 + 3, none⟩ = some (.int .u64 ((nthCal l k).b : Int)) :=
  ⟨slk_cell0 calL_len h (nthCal_at hk) (by decide) rfl, slk_cell (i := 1) calL_len h (nthCal_at hk) (by decide) rfl, slk_cell (i := 2) calL_len h (nthCal_at hk) (by decide) rfl, slk_cell (i := 3) calL_len h (nthCal_at hk) (by decide) rfl⟩
theorem eqi_cal (c d : Cal) (w : World) : (Op.equalIn 10000 57 (.agg #[.int .i64 c.op, .int .u64 (c.key : Int), .int .u64 (c.a : Int), .int .u64 (c.b : Int)]) (.agg #[.int .i64 d.op, .int .u64 (d.key : Int), .int .u64 (d.a : Int), .int .u64 (d.b : Int)])).run Tryd.prog w = .ok (decide (c = d)) w := by
  have u3 := Tryd.underlying3
  have a3 := Tryd.isAgg3
  have z3 := Tryd.sizeOf3
  have u4 := Tryd.underlying22
  have a4 := Tryd.isAgg22
  have z4 := Tryd.sizeOf22
  rw [show (10000 : Nat) = 9999 + 1 from rfl, run_equalIn_struct w 9999 57 _ _ (by kernel_rfl) (by kernel_rfl)]
  simp only [Program.fieldsOf, Tryd.underlying57]
  go_simp
  obtain ⟨c1, c2, c3, c4⟩ := c
  obtain ⟨d1, d2, d3, d4⟩ := d
  by_cases h1 : c1 = d1 <;> by_cases h2 : c2 = d2 <;> by_cases h3 : c3 = d3 <;> by_cases h4 : c4 = d4 <;> simp [h1, h2, h3, h4] <;> omega
theorem neq_cal (c d : Cal) (w : World) : (binOp .neq 57 (.agg #[.int .i64 c.op, .int .u64 (c.key : Int), .int .u64 (c.a : Int), .int .u64 (c.b : Int)]) (.agg #[.int .i64 d.op, .int .u64 (d.key : Int), .int .u64 (d.a : Int), .int .u64 (d.b : Int)])).run Tryd.prog w = .ok (.bool (!decide (c = d))) w := by
  rw [run_neq_struct, eqi_cal]; rfl
set_option maxHeartbeats 1000000 in
theorem equalCal_any (sp sp' : Option Addr) (n n' cap cap' : Nat) (l l' : List Cal) (w : World) (h : SlK w 4 sp n (cals l)) (h' : SlK w 4 sp' n' (cals l')) :
    Calls Tryd.prog 42 #[.slice sp n cap, .slice sp' n' cap'] w fun e w' => e = .returned (.bool (decide (l = l'))) ∧ ∃ d, w' = w.drewN d := by
  have hlen := cals_len h
  have hlen' := cals_len h'
  have hmax := h.2.1
  unfold maxLen at hmax
  by_cases hnn : n = n'
  · subst hnn
    have hne : ((n : Int) != (n : Int)) = false := by simp
    have hlen'h := Lib.hid hlen
    have hlen''h := Lib.hid hlen'
    have h'h := Lib.hid h
    have h''h := Lib.hid h'
    clear hlen hlen' h h'
    go_enter Tryd.func42, Tryd.ntmps42
    go_wp2
    go_loopg [13] n (fun q i wr => ∃ k : Nat, k + q = n ∧ i = .int .i64 k ∧ (∀ j, j < k → nthCal l j = nthCal l' j) ∧ ∃ d, wr = w.drewN d)
    case atStart => exact ⟨0, by omega, rfl, fun j hj => by omega, 0, rfl⟩
    case round =>
      obtain ⟨k, hk, rfl, hall, d, rfl⟩ := hrel
      have hkn : k ≤ n := by omega
      have hk'h := Lib.hid hk
      have hall'h := Lib.hid hall
      clear hk hall
      by_cases hlt : k < n
      · obtain ⟨b, off, rfl⟩ := slk_some h'h.out (by omega)
        obtain ⟨b', off', rfl⟩ := slk_some h''h.out (by omega)
        have hkl : k < l.length := by have := hlen'h.out; omega
        have hkl' : k < l'.length := by have := hlen''h.out; omega
        obtain ⟨c1, c2, c3, c4⟩ := cals_cells h'h.out hkl
        obtain ⟨d1, d2, d3, d4⟩ := cals_cells h''h.out hkl'
        have c1' : ∀ q, (w.drewN q).cell? ⟨b, off + k * 4, none⟩ = some (.int .i64 (nthCal l k).op) := fun q => c1
        have c2' : ∀ q, (w.drewN q).cell? ⟨b, off + k * 4 + 1, none⟩ = some (.int .u64 ((nthCal l k).key : Int)) := fun q => c2
        have c3' : ∀ q, (w.drewN q).cell? ⟨b, off + k * 4 + 2, none⟩ = some (.int .u64 ((nthCal l k).a : Int)) := fun q => c3
        have c4' : ∀ q, (w.drewN q).cell? ⟨b, off + k * 4 + 3, none⟩ = some (.int .u64 ((nthCal l k).b : Int)) := fun q => c4
        have d1' : ∀ q, (w.drewN q).cell? ⟨b', off' + k * 4, none⟩ = some (.int .i64 (nthCal l' k).op) := fun q => d1
        have d2' : ∀ q, (w.drewN q).cell? ⟨b', off' + k * 4 + 1, none⟩ = some (.int .u64 ((nthCal l' k).key : Int)) := fun q => d2
        have d3' : ∀ q, (w.drewN q).cell? ⟨b', off' + k * 4 + 2, none⟩ = some (.int .u64 ((nthCal l' k).a : Int)) := fun q => d3
        have d4' : ∀ q, (w.drewN q).cell? ⟨b', off' + k * 4 + 3, none⟩ = some (.int .u64 ((nthCal l' k).b : Int)) := fun q => d4
        have i1 : (k : Int) < (n : Int) := by omega
        have i2 : (0 : Int) ≤ (k : Int) := by omega
        have hq := fun w => neq_cal (nthCal l k) (nthCal l' k) w
        clear c1 c2 c3 c4 d1 d2 d3 d4
        by_cases he : nthCal l k = nthCal l' k
        · have hx : (!decide (nthCal l k = nthCal l' k)) = false := by rw [he]; simp
          rw [hx] at hq
          have he'h := Lib.hid he
          clear he
          clear hx
          go_wp2_with fail
          go_quiet (fail)
          go_wp2
          go_roundg (gk - 1)
          case measure => have := hk'h.out; omega
          case rel =>
            refine ⟨k + 1, by have := hk'h.out; omega, by go_num, fun j hj => ?_, d + nq, rfl⟩
            by_cases e : j = k
            · rw [e]; exact he'h.out
            · exact hall'h.out j (by omega)
        · have hx : (!decide (nthCal l k = nthCal l' k)) = true := by simp [he]
          rw [hx] at hq
          have hf : decide (l = l') = false := by
            rw [decide_eq_false_iff_not]; intro e; exact he (by rw [e])
          have he'h := Lib.hid he
          have hf'h := Lib.hid hf
          clear he hf
          clear hx
          go_wp2_with fail
          go_quiet (fail)
          go_wp2
          go_ret
          exact ⟨ret_bool hf'h.out.symm, d + nq, by first | rfl | exact World.drewN_drewN ..⟩
      · have hn : ¬ (k : Int) < (n : Int) := by omega
        have ht : decide (l = l') = true := by
          rw [decide_eq_true_eq]
          refine List.ext_getElem (by have := hlen'h.out; have := hlen''h.out; omega) fun j h1 h2 => ?_
          rw [nthCal_eq h1, nthCal_eq h2]
          exact hall'h.out j (by have := hlen'h.out; omega)
        have ht'h := Lib.hid ht
        clear ht
        go_wp2
        go_ret
        exact ⟨ret_bool ht'h.out.symm, d, rfl⟩
  · have hne : ((n : Int) != (n' : Int)) = true := by simp; omega
    have hf : decide (l = l') = false := by
      rw [decide_eq_false_iff_not]; intro e; subst e; omega
    have hlen'h := Lib.hid hlen
    have hlen''h := Lib.hid hlen'
    have h'h := Lib.hid h
    have h''h := Lib.hid h'
    have hnn'h := Lib.hid hnn
    have hf'h := Lib.hid hf
    clear hlen hlen' h h' hnn hf
    go_enter Tryd.func42, Tryd.ntmps42
    go_wp2
    go_ret
    exact ⟨ret_bool hf'h.out.symm, 0, rfl⟩
/-! ### slices.Clone at []api.Call: 4 cells an element -/
theorem info_cloneCal : (Tryd.prog.info? 57).map (fun i => (i.zero, i.size, i.bytes)) = some (some (.agg #[.int .i64 0, .int .u64 0, .int .u64 0, .int .u64 0]), 4, 32) := by kernel_rfl
theorem cloneCal_nil (w : World) : Calls Tryd.prog 36 #[.slice none 0 0] w fun e w' => e = .returned (.slice none 0 0) ∧ w' = w := by
  have hnil := Lib.run_eql_slice_nil (P := Tryd.prog)
  go_enter Tryd.func36, Tryd.ntmps36
  go_wp2
  go_ret
  exact ⟨rfl, rfl⟩
theorem cloneCal_some (ad : Addr) (n cap : Nat) (vs : List Value) (w : World) (hn : n ≤ 4096) (hone : ∀ v ∈ vs, v.oneCell' = true) (h : SlK w 4 (some ad) n vs) :
    Calls Tryd.prog 36 #[.slice (some ad) n cap] w fun e w' => ∃ sp' cap', e = .returned (.slice sp' n cap') ∧ Below w.heap.size w w' ∧ w'.ownsRow w.heap.size 57 4 (.slice sp' n cap') n vs := by
  have hnil := Lib.run_eql_slice_nil (P := Tryd.prog)
  obtain ⟨i0, hi, hz0, hz1, hz2⟩ := info_parts info_cloneCal
  have hown0 : (w.alloc (.cells #[] 57)).ownsRow w.heap.size 57 4 (.slice (some ⟨w.heap.size, 0, none⟩) 0 0) 0 [] :=
    ⟨by simp, .inr ⟨w.heap.size, 0, #[], rfl, Nat.le_refl _, World.alloc_heap_new _ _, Nat.le_refl _, Nat.zero_le _, by simp, by simp⟩⟩
  have hS2 : SlK (w.alloc (.cells #[] 57)) 4 (some ad) n vs := h.below ((Below.refl _ w).alloc (Nat.le_refl _) _)
  have hS2'h := Lib.hid hS2
  have hone'h := Lib.hid hone
  clear hS2 hone
  clear h
  go_enter Tryd.func36, Tryd.ntmps36
  go_wp2_with (at_builtin; refine wpList_append_slk _ rfl (.tmp 5) (.tmp 6) 55 rfl w.heap.size 57 i0 (.agg #[.int .i64 0, .int .u64 0, .int .u64 0, .int .u64 0]) 4 32 Tryd.underlying55 hi hz0 hz1 hz2 rfl (by decide) _ 0 [] rfl hown0 (some ad) n cap vs rfl hS2'h.out hone'h.out (by unfold maxLen; omega) (by omega) (by simp) ?_; intro v' w1 hown' hgrow hwh)
  rw [Nat.zero_add, List.nil_append] at hown'
  obtain ⟨sp', cap', rfl⟩ := row_slice' hown'
  have hown''h := Lib.hid hown'
  have hwh'h := Lib.hid hwh
  clear hown' hwh
  go_wp2
  go_ret
  exact ⟨sp', cap', rfl, ((Below.refl _ w).alloc (Nat.le_refl _) _).grown hgrow (by simp) (fun j hj => by cases hj; exact Nat.le_refl _), hown''h.out⟩
theorem cloneCal_any (sp : Option Addr) (n cap : Nat) (vs : List Value) (w : World) (hn : n ≤ 4096) (hone : ∀ v ∈ vs, v.oneCell' = true) (hc : sp = none → cap = 0) (h : SlK w 4 sp n vs) :
    Calls Tryd.prog 36 #[.slice sp n cap] w fun e w' => ∃ sp' cap', e = .returned (.slice sp' n cap') ∧ Below w.heap.size w w' ∧ w'.ownsRow w.heap.size 57 4 (.slice sp' n cap') n vs := by
  cases sp with
  | some ad => exact cloneCal_some ad n cap vs w hn hone h
  | none =>
    obtain rfl : cap = 0 := hc rfl
    have h0 : n = 0 := by
      rcases h.2.2 with h0 | ⟨b, off, he, _⟩
      · exact h0
      · cases he
    subst h0
    have hl : vs = [] := List.eq_nil_of_length_eq_zero (by have := h.1; simpa using this)
    refine (cloneCal_nil w).mono ?_
    rintro e w' ⟨rfl, rfl⟩
    exact ⟨none, 0, rfl, Below.refl _ _, by rw [hl]; exact World.ownsRow_nil _ _ _ _⟩
/-! ### slices.Clone at []uint64 -/
theorem info_clone64 : (Tryd.prog.info? 22).map (fun i => (i.zero, i.size, i.bytes)) = some (some (.int .u64 0), 1, 8) := by kernel_rfl
theorem clone64_nil (w : World) : Calls Tryd.prog 35 #[.slice none 0 0] w fun e w' => e = .returned (.slice none 0 0) ∧ w' = w := by
  have hnil := Lib.run_eql_slice_nil (P := Tryd.prog)
  go_enter Tryd.func35, Tryd.ntmps35
  go_wp2
  go_ret
  exact ⟨rfl, rfl⟩
theorem clone64_some (ad : Addr) (n cap : Nat) (vs : List Value) (w : World) (hn : n ≤ 100000) (hone : ∀ v ∈ vs, v.oneCell' = true) (h : Sl w (some ad) n vs) :
    Calls Tryd.prog 35 #[.slice (some ad) n cap] w fun e w' => ∃ sp' cap', e = .returned (.slice sp' n cap') ∧ Below w.heap.size w w' ∧ w'.ownsRow w.heap.size 22 1 (.slice sp' n cap') n vs := by
  have hnil := Lib.run_eql_slice_nil (P := Tryd.prog)
  obtain ⟨i0, hi, hz0, hz1, hz2⟩ := info_parts info_clone64
  have hown0 : (w.alloc (.cells #[] 22)).ownsRow w.heap.size 22 1 (.slice (some ⟨w.heap.size, 0, none⟩) 0 0) 0 [] :=
    ⟨rfl, .inr ⟨w.heap.size, 0, #[], rfl, Nat.le_refl _, World.alloc_heap_new _ _, Nat.le_refl _, Nat.zero_le _, rfl, rfl⟩⟩
  have hl := h.1
  have hcs : ∀ j u, vs[j]? = some u → (w.alloc (.cells #[] 22)).cell? (ad.add j) = some u := by
    intro j u hu
    have hj : j < vs.length := (List.getElem?_eq_some_iff.1 hu).1
    obtain ⟨b, off, he, hc⟩ := h.some' (by omega)
    cases he
    have hadd : (⟨b, off, none⟩ : Addr).add j = ⟨b, off + j, none⟩ := by unfold Addr.add; split <;> simp_all
    rw [hadd]
    exact keep_alloc _ _ _ _ (hc j u hu)
  have hcs'h := Lib.hid hcs
  have hl'h := Lib.hid hl
  have hone'h := Lib.hid hone
  clear hcs hl hone
  clear h
  go_enter Tryd.func35, Tryd.ntmps35
  go_wp2_with (at_builtin; refine wpList_append_own _ rfl (.tmp 5) (.tmp 6) 24 rfl w.heap.size 22 i0 (.int .u64 0) 1 8 Tryd.underlying24 hi hz0 hz1 hz2 rfl (by decide) _ 0 [] rfl hown0 ad n cap vs rfl (by rw [← hl'h.out]; omega) hcs'h.out hone'h.out (by unfold maxLen; omega) (by omega) (by simp) ?_; intro v' w1 hown' hgrow hwh)
  rw [Nat.zero_add, List.nil_append] at hown'
  obtain ⟨sp', cap', rfl⟩ := row_slice' hown'
  have hown''h := Lib.hid hown'
  have hwh'h := Lib.hid hwh
  clear hown' hwh
  go_wp2
  go_ret
  exact ⟨sp', cap', rfl, ((Below.refl _ w).alloc (Nat.le_refl _) _).grown hgrow (by simp) (fun j hj => by cases hj; exact Nat.le_refl _), hown''h.out⟩
theorem clone64_any (sp : Option Addr) (n cap : Nat) (vs : List Value) (w : World) (hn : n ≤ 100000) (hone : ∀ v ∈ vs, v.oneCell' = true) (hc : sp = none → cap = 0) (h : Sl w sp n vs) :
    Calls Tryd.prog 35 #[.slice sp n cap] w fun e w' => ∃ sp' cap', e = .returned (.slice sp' n cap') ∧ Below w.heap.size w w' ∧ w'.ownsRow w.heap.size 22 1 (.slice sp' n cap') n vs := by
  cases sp with
  | some ad => exact clone64_some ad n cap vs w hn hone h
  | none =>
    obtain rfl : cap = 0 := hc rfl
    have h0 : n = 0 := by
      rcases h.2.2 with h0 | ⟨b, off, he, _⟩
      · exact h0
      · cases he
    subst h0
    have hl : vs = [] := List.eq_nil_of_length_eq_zero h.1.symm
    refine (clone64_nil w).mono ?_
    rintro e w' ⟨rfl, rfl⟩
    exact ⟨none, 0, rfl, Below.refl _ _, by rw [hl]; exact World.ownsRow_nil _ _ _ _⟩
/-! ### slices.Clone at []int -/
theorem info_cloneI : (Tryd.prog.info? 3).map (fun i => (i.zero, i.size, i.bytes)) = some (some (.int .i64 0), 1, 8) := by kernel_rfl
theorem cloneI_nil (w : World) : Calls Tryd.prog 29 #[.slice none 0 0] w fun e w' => e = .returned (.slice none 0 0) ∧ w' = w := by
  have hnil := Lib.run_eql_slice_nil (P := Tryd.prog)
  go_enter Tryd.func29, Tryd.ntmps29
  go_wp2
  go_ret
  exact ⟨rfl, rfl⟩
theorem cloneI_some (ad : Addr) (n cap : Nat) (vs : List Value) (w : World) (hn : n ≤ 100000) (hone : ∀ v ∈ vs, v.oneCell' = true) (h : Sl w (some ad) n vs) :
    Calls Tryd.prog 29 #[.slice (some ad) n cap] w fun e w' => ∃ sp' cap', e = .returned (.slice sp' n cap') ∧ Below w.heap.size w w' ∧ w'.ownsRow w.heap.size 3 1 (.slice sp' n cap') n vs := by
  have hnil := Lib.run_eql_slice_nil (P := Tryd.prog)
  obtain ⟨i0, hi, hz0, hz1, hz2⟩ := info_parts info_cloneI
  have hown0 : (w.alloc (.cells #[] 3)).ownsRow w.heap.size 3 1 (.slice (some ⟨w.heap.size, 0, none⟩) 0 0) 0 [] :=
    ⟨rfl, .inr ⟨w.heap.size, 0, #[], rfl, Nat.le_refl _, World.alloc_heap_new _ _, Nat.le_refl _, Nat.zero_le _, rfl, rfl⟩⟩
  have hl := h.1
  have hcs : ∀ j u, vs[j]? = some u → (w.alloc (.cells #[] 3)).cell? (ad.add j) = some u := by
    intro j u hu
    have hj : j < vs.length := (List.getElem?_eq_some_iff.1 hu).1
    obtain ⟨b, off, he, hc⟩ := h.some' (by omega)
    cases he
    have hadd : (⟨b, off, none⟩ : Addr).add j = ⟨b, off + j, none⟩ := by unfold Addr.add; split <;> simp_all
    rw [hadd]
    exact keep_alloc _ _ _ _ (hc j u hu)
  have hcs'h := Lib.hid hcs
  have hl'h := Lib.hid hl
  have hone'h := Lib.hid hone
  clear hcs hl hone
  clear h
  go_enter Tryd.func29, Tryd.ntmps29
  go_wp2_with (at_builtin; refine wpList_append_own _ rfl (.tmp 5) (.tmp 6) 27 rfl w.heap.size 3 i0 (.int .i64 0) 1 8 Tryd.underlying27 hi hz0 hz1 hz2 rfl (by decide) _ 0 [] rfl hown0 ad n cap vs rfl (by rw [← hl'h.out]; omega) hcs'h.out hone'h.out (by unfold maxLen; omega) (by omega) (by simp) ?_; intro v' w1 hown' hgrow hwh)
  rw [Nat.zero_add, List.nil_append] at hown'
  obtain ⟨sp', cap', rfl⟩ := row_slice' hown'
  have hown''h := Lib.hid hown'
  have hwh'h := Lib.hid hwh
  clear hown' hwh
  go_wp2
  go_ret
  exact ⟨sp', cap', rfl, ((Below.refl _ w).alloc (Nat.le_refl _) _).grown hgrow (by simp) (fun j hj => by cases hj; exact Nat.le_refl _), hown''h.out⟩
theorem cloneI_any (sp : Option Addr) (n cap : Nat) (vs : List Value) (w : World) (hn : n ≤ 100000) (hone : ∀ v ∈ vs, v.oneCell' = true) (hc : sp = none → cap = 0) (h : Sl w sp n vs) :
    Calls Tryd.prog 29 #[.slice sp n cap] w fun e w' => ∃ sp' cap', e = .returned (.slice sp' n cap') ∧ Below w.heap.size w w' ∧ w'.ownsRow w.heap.size 3 1 (.slice sp' n cap') n vs := by
  cases sp with
  | some ad => exact cloneI_some ad n cap vs w hn hone h
  | none =>
    obtain rfl : cap = 0 := hc rfl
    have h0 : n = 0 := by
      rcases h.2.2 with h0 | ⟨b, off, he, _⟩
      · exact h0
      · cases he
    subst h0
    have hl : vs = [] := List.eq_nil_of_length_eq_zero h.1.symm
    refine (cloneI_nil w).mono ?_
    rintro e w' ⟨rfl, rfl⟩
    exact ⟨none, 0, rfl, Below.refl _ _, by rw [hl]; exact World.ownsRow_nil _ _ _ _⟩
/-! ### slices.Clone at []uint8 -/
theorem info_clone8 : (Tryd.prog.info? 5).map (fun i => (i.zero, i.size, i.bytes)) = some (some (.int .u8 0), 1, 1) := by kernel_rfl
theorem clone8_nil (w : World) : Calls Tryd.prog 25 #[.slice none 0 0] w fun e w' => e = .returned (.slice none 0 0) ∧ w' = w := by
  have hnil := Lib.run_eql_slice_nil (P := Tryd.prog)
  go_enter Tryd.func25, Tryd.ntmps25
  go_wp2
  go_ret
  exact ⟨rfl, rfl⟩
theorem clone8_some (ad : Addr) (n cap : Nat) (vs : List Value) (w : World) (hn : n ≤ 100000) (hone : ∀ v ∈ vs, v.oneCell' = true) (h : Sl w (some ad) n vs) :
    Calls Tryd.prog 25 #[.slice (some ad) n cap] w fun e w' => ∃ sp' cap', e = .returned (.slice sp' n cap') ∧ Below w.heap.size w w' ∧ w'.ownsRow w.heap.size 5 1 (.slice sp' n cap') n vs := by
  have hnil := Lib.run_eql_slice_nil (P := Tryd.prog)
  obtain ⟨i0, hi, hz0, hz1, hz2⟩ := info_parts info_clone8
  have hown0 : (w.alloc (.cells #[] 5)).ownsRow w.heap.size 5 1 (.slice (some ⟨w.heap.size, 0, none⟩) 0 0) 0 [] :=
    ⟨rfl, .inr ⟨w.heap.size, 0, #[], rfl, Nat.le_refl _, World.alloc_heap_new _ _, Nat.le_refl _, Nat.zero_le _, rfl, rfl⟩⟩
  have hl := h.1
  have hcs : ∀ j u, vs[j]? = some u → (w.alloc (.cells #[] 5)).cell? (ad.add j) = some u := by
    intro j u hu
    have hj : j < vs.length := (List.getElem?_eq_some_iff.1 hu).1
    obtain ⟨b, off, he, hc⟩ := h.some' (by omega)
    cases he
    have hadd : (⟨b, off, none⟩ : Addr).add j = ⟨b, off + j, none⟩ := by unfold Addr.add; split <;> simp_all
    rw [hadd]
    exact keep_alloc _ _ _ _ (hc j u hu)
  have hcs'h := Lib.hid hcs
  have hl'h := Lib.hid hl
  have hone'h := Lib.hid hone
  clear hcs hl hone
  clear h
  go_enter Tryd.func25, Tryd.ntmps25
  go_wp2_with (at_builtin; refine wpList_append_own _ rfl (.tmp 5) (.tmp 6) 38 rfl w.heap.size 5 i0 (.int .u8 0) 1 1 Tryd.underlying38 hi hz0 hz1 hz2 rfl (by decide) _ 0 [] rfl hown0 ad n cap vs rfl (by rw [← hl'h.out]; omega) hcs'h.out hone'h.out (by unfold maxLen; omega) (by omega) (by simp) ?_; intro v' w1 hown' hgrow hwh)
  rw [Nat.zero_add, List.nil_append] at hown'
  obtain ⟨sp', cap', rfl⟩ := row_slice' hown'
  have hown''h := Lib.hid hown'
  have hwh'h := Lib.hid hwh
  clear hown' hwh
  go_wp2
  go_ret
  exact ⟨sp', cap', rfl, ((Below.refl _ w).alloc (Nat.le_refl _) _).grown hgrow (by simp) (fun j hj => by cases hj; exact Nat.le_refl _), hown''h.out⟩
theorem clone8_any (sp : Option Addr) (n cap : Nat) (vs : List Value) (w : World) (hn : n ≤ 100000) (hone : ∀ v ∈ vs, v.oneCell' = true) (hc : sp = none → cap = 0) (h : Sl w sp n vs) :
    Calls Tryd.prog 25 #[.slice sp n cap] w fun e w' => ∃ sp' cap', e = .returned (.slice sp' n cap') ∧ Below w.heap.size w w' ∧ w'.ownsRow w.heap.size 5 1 (.slice sp' n cap') n vs := by
  cases sp with
  | some ad => exact clone8_some ad n cap vs w hn hone h
  | none =>
    obtain rfl : cap = 0 := hc rfl
    have h0 : n = 0 := by
      rcases h.2.2 with h0 | ⟨b, off, he, _⟩
      · exact h0
      · cases he
    subst h0
    have hl : vs = [] := List.eq_nil_of_length_eq_zero h.1.symm
    refine (clone8_nil w).mono ?_
    rintro e w' ⟨rfl, rfl⟩
    exact ⟨none, 0, rfl, Below.refl _ _, by rw [hl]; exact World.ownsRow_nil _ _ _ _⟩

/-! ### EqualFunc at rows of calls -/
set_option maxHeartbeats 1000000 in
theorem equalRows_any (sp sp' : Option Addr) (n n' cap cap' : Nat) (l l' : List CRow) (w : World) (h : RowsIn w sp n l) (h' : RowsIn w sp' n' l') :
    Calls Tryd.prog 41 #[.slice sp n cap, .slice sp' n' cap', .func (.func 42) #[] #[]] w fun e w' =>
      e = .returned (.bool (decide (l.map (·.cs) = l'.map (·.cs)))) ∧ ∃ d, w' = w.drewN d := by
  have hlen := h.len
  have hlen' := h'.len
  have hfew := h.few
  have hfew' := h'.few
  by_cases hnn : n = n'
  · subst hnn
    have hne : ((n : Int) != (n : Int)) = false := by simp
    have hlen'h := Lib.hid hlen
    have hlen''h := Lib.hid hlen'
    have h'h := Lib.hid h
    have h''h := Lib.hid h'
    clear hlen hlen' h h'
    go_enter Tryd.func41, Tryd.ntmps41
    go_wp2
    go_loopg [17] n (fun q i wr => ∃ k : Nat, k + q = n ∧ i = .int .i64 k ∧ (∀ j, j < k → (nthR l j).cs = (nthR l' j).cs) ∧ ∃ d, wr = w.drewN d)
    case atStart => exact ⟨0, by omega, rfl, fun j hj => by omega, 0, rfl⟩
    case round =>
      obtain ⟨k, hk, rfl, hall, d, rfl⟩ := hrel
      have hkn : k ≤ n := by omega
      have hk'h := Lib.hid hk
      have hall'h := Lib.hid hall
      clear hk hall
      by_cases hlt : k < n
      · have hkl : k < l.length := by have := hlen'h.out; omega
        have hkl' : k < l'.length := by have := hlen''h.out; omega
        obtain ⟨b, off, rfl, c1⟩ := h'h.out.head hlt
        obtain ⟨b', off', rfl, c2⟩ := h''h.out.head hlt
        have c1' : ∀ q, (w.drewN q).cell? ⟨b, off + k, none⟩ = some (.slice (nthR l k).sp (nthR l k).len (nthR l k).cap) := fun q => c1
        have c2' : ∀ q, (w.drewN q).cell? ⟨b', off' + k, none⟩ = some (.slice (nthR l' k).sp (nthR l' k).len (nthR l' k).cap) := fun q => c2
        have E := equalCal_any (nthR l k).sp (nthR l' k).sp (nthR l k).len (nthR l' k).len (nthR l k).cap (nthR l' k).cap _ _ (w.drewN d) (h'h.out.each _ (nthR_mem hkl)) (h''h.out.each _ (nthR_mem hkl'))
        have i1 : (k : Int) < (n : Int) := by omega
        have i2 : (0 : Int) ≤ (k : Int) := by omega
        clear c1 c2 hkl hkl'
        have hf : ¬ (nthR l k).cs = (nthR l' k).cs → decide (l.map (·.cs) = l'.map (·.cs)) = false := fun he => by
          rw [decide_eq_false_iff_not]; intro e; apply he
          have h1 := congrArg (fun z : List (List Cal) => z[k]?) e
          simp only [List.getElem?_map] at h1
          rw [nthR_at (by have := hlen'h.out; omega), nthR_at (by have := hlen''h.out; omega)] at h1
          simpa using h1
        have hx : ∀ v : Bool, decide ((nthR l k).cs = (nthR l' k).cs) = v → (v = true ↔ (nthR l k).cs = (nthR l' k).cs) := fun v hv => by rw [← hv]; simp
        cases he : decide ((nthR l k).cs = (nthR l' k).cs) with
        | true =>
          rw [he] at E
          have he2 := (hx true he).1 rfl
          have he2'h := Lib.hid he2
          have E'h := Lib.hid E
          clear he2 E
          clear he hx hf
          go_wp2_with fail
          refine E'h.out.mono ?_
          rintro e w2 ⟨rfl, d2, rfl⟩
          go_wp2
          go_roundg (gk - 1)
          case measure => have := hk'h.out; omega
          case rel =>
            refine ⟨k + 1, by have := hk'h.out; omega, by go_num, fun j hj => ?_, d + d2, rfl⟩
            by_cases e : j = k
            · rw [e]; exact he2'h.out
            · exact hall'h.out j (by omega)
        | false =>
          rw [he] at E
          have hf2 := hf (fun e => by have := (hx false he).2 e; cases this)
          have hf2'h := Lib.hid hf2
          have E'h := Lib.hid E
          clear hf2 E
          clear he hx hf
          go_wp2_with fail
          refine E'h.out.mono ?_
          rintro e w2 ⟨rfl, d2, rfl⟩
          go_wp2
          go_ret
          exact ⟨ret_bool hf2'h.out.symm, d + d2, rfl⟩
      · have hn : ¬ (k : Int) < (n : Int) := by omega
        have ht : decide (l.map (·.cs) = l'.map (·.cs)) = true := by
          rw [decide_eq_true_eq]
          refine List.ext_getElem (by have := hlen'h.out; have := hlen''h.out; simp; omega) fun j h1 h2 => ?_
          have h1' : j < l.length := by simpa using h1
          have h2' : j < l'.length := by simpa using h2
          have e1 : l[j] = nthR l j := by have := nthR_at h1'; rw [List.getElem?_eq_getElem h1'] at this; injection this
          have e2 : l'[j] = nthR l' j := by have := nthR_at h2'; rw [List.getElem?_eq_getElem h2'] at this; injection this
          rw [List.getElem_map, List.getElem_map, e1, e2]
          exact hall'h.out j (by have := hlen'h.out; omega)
        have ht'h := Lib.hid ht
        clear ht
        go_wp2
        go_ret
        exact ⟨ret_bool ht'h.out.symm, d, rfl⟩
  · have hne : ((n : Int) != (n' : Int)) = true := by simp; omega
    have hf : decide (l.map (·.cs) = l'.map (·.cs)) = false := by
      rw [decide_eq_false_iff_not]; intro e
      have := congrArg List.length e
      simp at this
      omega
    have hlen'h := Lib.hid hlen
    have hlen''h := Lib.hid hlen'
    have h'h := Lib.hid h
    have h''h := Lib.hid h'
    have hnn'h := Lib.hid hnn
    have hf'h := Lib.hid hf
    clear hlen hlen' h h' hnn hf
    go_enter Tryd.func41, Tryd.ntmps41
    go_wp2
    go_ret
    exact ⟨ret_bool hf'h.out.symm, 0, rfl⟩
theorem equalU_any (sp sp' : Option Addr) (n n' cap cap' : Nat) (l l' : List Nat) (w : World) (h : Sl w sp n (u64s l)) (h' : Sl w sp' n' (u64s l')) :
    Calls Tryd.prog 17 #[.slice sp n cap, .slice sp' n' cap'] w fun e w' => e = .returned (.bool (decide (l = l'))) ∧ ∃ d, w' = w.drewN d := by
  have := equal64_any sp sp' n n' cap cap' (l.map Int.ofNat) (l'.map Int.ofNat) w (by rw [← u64s_ints]; exact h) (by rw [← u64s_ints]; exact h')
  have e : (l.map Int.ofNat == l'.map Int.ofNat) = decide (l = l') := by
    rw [Bool.eq_iff_iff, beq_iff_eq, decide_eq_true_eq]
    exact List.map_inj_right (fun x y h => Int.ofNat.inj h)
  rwa [e] at this
theorem scr_eq (s t : Sm) : decide (s.scr = t.scr) = (decide (s.goers = t.goers) && decide (s.slabs = t.slabs) && decide (s.seed = t.seed) && decide (s.picks = t.picks) && decide (s.rows.map (·.cs) = t.rows.map (·.cs))) := by
  have h : s.scr = t.scr ↔ (s.goers = t.goers ∧ s.slabs = t.slabs ∧ s.seed = t.seed ∧ s.picks = t.picks ∧ s.rows.map (·.cs) = t.rows.map (·.cs)) :=
    ⟨fun h => ⟨congrArg Scr.goers h, congrArg Scr.slabs h, congrArg Scr.seed h, congrArg Scr.picks h, congrArg Scr.lists h⟩, fun ⟨a, b, c, d, e⟩ => by unfold Sm.scr; rw [a, b, c, d, e]⟩
  rw [Bool.eq_iff_iff, decide_eq_true_eq, h]
  simp only [Bool.and_eq_true, decide_eq_true_eq, and_assoc]
set_option maxHeartbeats 1000000 in
theorem same_any (s t : Sm) (w : World) (h : SmIn w s) (h' : SmIn w t) :
    Calls Tryd.prog 15 #[.agg (smA s), .agg (smA t)] w fun e w' => e = .returned (.bool (decide (s.scr = t.scr))) ∧ Below w.heap.size w w' := by
  have hB1 : Below w.heap.size w (w.alloc (.cells (smA s) 26)) := (Below.refl _ _).alloc (Nat.le_refl _) _
  have hB2 : Below w.heap.size w ((w.alloc (.cells (smA s) 26)).alloc (.cells (smA t) 26)) := hB1.alloc (by simp) _
  have hs2 := h.below hB2
  have ht2 := h'.below hB2
  have P := equalU_any s.pp t.pp s.pn t.pn s.pc t.pc _ _ _ hs2.picks ht2.picks
  have R := fun q => equalRows_any s.lp t.lp s.ln t.ln s.lc t.lc _ _ (((w.alloc (.cells (smA s) 26)).alloc (.cells (smA t) 26)).drewN q) (hs2.below (below_drewN' _ _)).rows (ht2.below (below_drewN' _ _)).rows
  have e := scr_eq s t
  rw [e]
  generalize decide (s.picks = t.picks) = vp at *
  generalize decide (s.rows.map (·.cs) = t.rows.map (·.cs)) = vr at *
  clear e h h' hs2 ht2
  obtain ⟨g, sb, seed, lp, ln, lc, rows, pp, pn, pc, picks⟩ := s
  obtain ⟨g', sb', seed', lp', ln', lc', rows', pp', pn', pc', picks'⟩ := t
  simp only [smA] at P R hB1 hB2 ⊢
  have P'h := Lib.hid P
  have R'h := Lib.hid R
  have hB1'h := Lib.hid hB1
  have hB2'h := Lib.hid hB2
  clear P R hB1 hB2
  by_cases h1 : g = g'
  · by_cases h2 : sb = sb'
    · by_cases h3 : seed = seed'
      · subst h1 h2 h3
        cases vp with
        | false =>
          simp only [decide_true, Bool.true_and, Bool.and_false, Bool.false_and]
          go_enter Tryd.func15, Tryd.ntmps15
          go_wp2_with fail
          refine P'h.out.mono ?_
          rintro e w2 ⟨rfl, d, rfl⟩
          go_wp2
          go_ret
          exact ⟨rfl, hB2'h.out.trans ((below_drewN' _ _).mono hB2'h.out.size)⟩
        | true =>
          simp only [decide_true, Bool.true_and]
          go_enter Tryd.func15, Tryd.ntmps15
          go_wp2_with fail
          refine P'h.out.mono ?_
          rintro e w2 ⟨rfl, d, rfl⟩
          go_wp2_with fail
          refine (R'h.out d).mono ?_
          rintro e w2 ⟨rfl, d2, rfl⟩
          go_wp2
          go_ret
          exact ⟨ret_bool (by cases vr <;> rfl), hB2'h.out.trans ((below_drewN' _ (d + d2)).mono hB2'h.out.size)⟩
      · have h3z : ¬ ((seed : Int) = (seed' : Int)) := by omega
        subst h1 h2
        simp only [h3, decide_true, decide_false, Bool.true_and, Bool.and_false, Bool.false_and]
        go_enter Tryd.func15, Tryd.ntmps15
        go_wp2
        go_ret
        exact ⟨rfl, hB2'h.out⟩
    · subst h1
      simp only [h2, decide_true, decide_false, Bool.true_and, Bool.and_false, Bool.false_and]
      go_enter Tryd.func15, Tryd.ntmps15
      go_wp2
      go_ret
      exact ⟨rfl, hB2'h.out⟩
  · simp only [h1, decide_true, decide_false, Bool.true_and, Bool.and_false, Bool.false_and]
    go_enter Tryd.func15, Tryd.ntmps15
    go_wp2
    go_ret
    exact ⟨rfl, hB2'h.out⟩
end Go.Proofs.YtifofdciablljaaDoor
