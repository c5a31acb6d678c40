/-
  Package model and the document: which maps there are; copies.
-/
import Derived.Test.YtogeohjeabbmaaaDoorModel
import Derived.IntWalk
set_option linter.unusedSimpArgs false
set_option linter.unusedVariables false
set_option maxRecDepth 100000
namespace Go.Proofs.YtogeohjeabbmaaaDoor
open Go.RowKit

/-! ### slices.Clone at []api.Pair: 2 cells an element -/
theorem info_cloneP : (Tryd.prog.info? 72).map (fun i => (i.zero, i.size, i.bytes)) = some (some (.agg #[.int .u64 0, .int .u64 0]), 2, 16) := by kernel_rfl
theorem cloneP_nil (w : World) : Calls Tryd.prog 36 #[.slice none 0 0] w fun e w' => e = .returned (.slice none 0 0) ∧ w' = w := by
  have hnil := Lib.run_eql_slice_nil (P := Tryd.prog)
  go_enter Tryd.func36, Tryd.ntmps36
  go_wp2
  go_ret
  exact ⟨rfl, rfl⟩
theorem cloneP_some (ad : Addr) (n cap : Nat) (vs : List Value) (w : World) (hn : n ≤ 4096) (hone : ∀ v ∈ vs, v.oneCell' = true) (h : SlK w 2 (some ad) n vs) :
    Calls Tryd.prog 36 #[.slice (some ad) n cap] w fun e w' => ∃ sp' cap', e = .returned (.slice sp' n cap') ∧ Below w.heap.size w w' ∧ w'.ownsRow w.heap.size 72 2 (.slice sp' n cap') n vs := by
  have hnil := Lib.run_eql_slice_nil (P := Tryd.prog)
  obtain ⟨i0, hi, hz0, hz1, hz2⟩ := info_parts info_cloneP
  have hown0 : (w.alloc (.cells #[] 72)).ownsRow w.heap.size 72 2 (.slice (some ⟨w.heap.size, 0, none⟩) 0 0) 0 [] :=
    ⟨by simp, .inr ⟨w.heap.size, 0, #[], rfl, Nat.le_refl _, World.alloc_heap_new _ _, Nat.le_refl _, Nat.zero_le _, by simp, by simp⟩⟩
  have hS2 : SlK (w.alloc (.cells #[] 72)) 2 (some ad) n vs := h.below ((Below.refl _ w).alloc (Nat.le_refl _) _)
  have hS2'h := Lib.hid hS2
  have hone'h := Lib.hid hone
  clear hS2 hone
  clear h
  go_enter Tryd.func36, Tryd.ntmps36
  go_wp2_with (at_builtin; refine wpList_append_slk _ rfl (.tmp 5) (.tmp 6) 26 rfl w.heap.size 72 i0 (.agg #[.int .u64 0, .int .u64 0]) 2 16 Tryd.underlying26 hi hz0 hz1 hz2 rfl (by decide) _ 0 [] rfl hown0 (some ad) n cap vs rfl hS2'h.out hone'h.out (by unfold maxLen; omega) (by omega) (by simp) ?_; intro v' w1 hown' hgrow hwh)
  rw [Nat.zero_add, List.nil_append] at hown'
  obtain ⟨sp', cap', rfl⟩ := row_slice' hown'
  have hown''h := Lib.hid hown'
  have hwh'h := Lib.hid hwh
  clear hown' hwh
  go_wp2
  go_ret
  exact ⟨sp', cap', rfl, ((Below.refl _ w).alloc (Nat.le_refl _) _).grown hgrow (by simp) (fun j hj => by cases hj; exact Nat.le_refl _), hown''h.out⟩
theorem cloneP_any (sp : Option Addr) (n cap : Nat) (vs : List Value) (w : World) (hn : n ≤ 4096) (hone : ∀ v ∈ vs, v.oneCell' = true) (hc : sp = none → cap = 0) (h : SlK w 2 sp n vs) :
    Calls Tryd.prog 36 #[.slice sp n cap] w fun e w' => ∃ sp' cap', e = .returned (.slice sp' n cap') ∧ Below w.heap.size w w' ∧ w'.ownsRow w.heap.size 72 2 (.slice sp' n cap') n vs := by
  cases sp with
  | some ad => exact cloneP_some ad n cap vs w hn hone h
  | none =>
    obtain rfl : cap = 0 := hc rfl
    have h0 : n = 0 := by
      rcases h.2.2 with h0 | ⟨b, off, he, _⟩
      · exact h0
      · cases he
    subst h0
    have hl : vs = [] := List.eq_nil_of_length_eq_zero (by have := h.1; simpa using this)
    refine (cloneP_nil w).mono ?_
    rintro e w' ⟨rfl, rfl⟩
    exact ⟨none, 0, rfl, Below.refl _ _, by rw [hl]; exact World.ownsRow_nil _ _ _ _⟩
def errUp (b : Bool) : Value := .int .i64 (if b then 0 else 340)
set_option maxHeartbeats 1000000 in
theorem mcheck_any (sp : Option Addr) (n cap : Nat) (ps : Ps) (w : World) (h : SlK w 2 sp n (prs ps)) :
    Calls Tryd.prog 25 #[.agg #[.slice sp n cap]] w fun e w' => e = .returned (errUp (upB ps)) ∧ Below w.heap.size w w' := by
  have hlen := prs_len h
  have hmax := h.2.1
  unfold maxLen at hmax
  have H0 := (Hs.nil w).new #[.slice sp n cap] 28
  have c0 : (w.alloc (.cells #[.slice sp n cap] 28)).cell? ⟨w.heap.size, 0, none⟩ = some (.slice sp n cap) := blk_cell H0.rows.1 rfl
  have hlen'h := Lib.hid hlen
  have h'h := Lib.hid h
  clear hlen h
  go_enter Tryd.func25, Tryd.ntmps25
  go_upto_region 2 with fail
  clear c0
  have H0'h := Lib.hid H0
  clear H0
  go_wp2
  go_loopg [8] n (fun q i wr => ∃ k : Nat, k + q = n ∧ i = .int .i64 k ∧ (∀ j, j + 1 < k → (nthP ps j).1 < (nthP ps (j + 1)).1) ∧ Hs w [(w.heap.size, #[.slice sp n cap], 28)] wr)
  case atStart => exact ⟨0, by omega, rfl, fun j hj => by omega, H0'h.out⟩
  case round =>
    obtain ⟨k, hk, rfl, hall, hH⟩ := hrel
    have hkn : k ≤ n := by omega
    by_cases hlt : k < n
    · have hS := h'h.out.below hH.old
      obtain ⟨b, off, rfl⟩ := prs_some hS (by omega)
      have hkl : k < ps.length := by have := hlen'h.out; omega
      obtain ⟨c1, c2⟩ := prs_cells hS hkl
      have i1 : (k : Int) < (n : Int) := by omega
      have i2 : (0 : Int) ≤ (k : Int) := by omega
      have hk'h := Lib.hid hk
      have hall'h := Lib.hid hall
      have hH'h := Lib.hid hH
      have hS'h := Lib.hid hS
      clear hk hall hH hS
      go_upto_region 4 with fail
      clear c1 c2
      have hH4 := hH'h.out.new #[.int .u64 ((nthP ps k).1 : Int), .int .u64 ((nthP ps k).2 : Int)] 72
      generalize World.alloc _ _ = W4 at hH4 ⊢
      have hS4 := h'h.out.below hH4.old
      have x0 : W4.cell? ⟨w.heap.size, 0, none⟩ = some (.slice (some ⟨b, off, none⟩) n cap) := blk_cell hH4.rows.2.1 rfl
      have x1 : W4.cell? ⟨wr.heap.size, 0, none⟩ = some (.int .u64 ((nthP ps k).1 : Int)) := blk_cell hH4.rows.1 rfl
      have x0' : ∀ q, (W4.drewN q).cell? ⟨w.heap.size, 0, none⟩ = some (.slice (some ⟨b, off, none⟩) n cap) := fun q => x0
      have x1' : ∀ q, (W4.drewN q).cell? ⟨wr.heap.size, 0, none⟩ = some (.int .u64 ((nthP ps k).1 : Int)) := fun q => x1
      cases k with
      | zero =>
        have z0 : decide ((0 : Int) < ((0 : Nat) : Int)) = false := by decide
        generalize (nthP ps 0).1 = y at *
        clear x0 x1
        have hH4'h := Lib.hid hH4
        have hS4'h := Lib.hid hS4
        clear hH4 hS4
        go_wp2_with fail
        go_quiet (fail)
        go_wp2
        go_roundg (gk - 1)
        case measure => have := hk'h.out; omega
        case rel => exact ⟨1, by have := hk'h.out; omega, by go_num, fun j hj => by omega, hH4'h.out.tail.drewN nq⟩
      | succ k =>
        obtain ⟨d1, d2⟩ := prs_cells hS4 (k := k) (by omega)
        have d1' : ∀ q, (W4.drewN q).cell? ⟨b, off + k * 2, none⟩ = some (.int .u64 ((nthP ps k).1 : Int)) := fun q => d1
        have j1 : (k : Int) < (n : Int) := by omega
        have j2 : (0 : Int) ≤ (k : Int) := by omega
        have j3 : ((k + 1 : Nat) : Int) - 1 = (k : Int) := by omega
        have j4 : IntKind.i64.wrap (((k : Int) + 1) - 1) = (k : Int) := by rw [show ((k : Int) + 1) - 1 = (k : Int) by omega]; exact IntWalk.i64_in _ (by omega)
        have z0 : decide ((0 : Int) < ((k + 1 : Nat) : Int)) = true := by rw [decide_eq_true_eq]; omega
        clear x0 x1 d1 d2
        by_cases hc : (nthP ps k).1 < (nthP ps (k + 1)).1
        · have t0 : decide ((((nthP ps (k + 1)).1 : Nat) : Int) ≤ (((nthP ps k).1 : Nat) : Int)) = false := by simp; omega
          have t1 : decide ((nthP ps (k + 1)).1 ≤ (nthP ps k).1) = false := by simp; omega
          generalize hy : (nthP ps (k + 1)).1 = y at *
          generalize hz : (nthP ps k).1 = z at *
          have hH4'h := Lib.hid hH4
          have hS4'h := Lib.hid hS4
          have hc'h := Lib.hid hc
          have hy'h := Lib.hid hy
          have hz'h := Lib.hid hz
          clear hH4 hS4 hc hy hz
          go_wp2_with fail
          go_quiet (fail)
          go_wp2
          go_roundg (gk - 1)
          case measure => have := hk'h.out; omega
          case rel =>
            refine ⟨k + 2, by have := hk'h.out; omega, by go_num, fun j hj => ?_, hH4'h.out.tail.drewN nq⟩
            by_cases e : j = k
            · subst e; rw [hy'h.out, hz'h.out]; exact hc'h.out
            · exact hall'h.out j (by omega)
        · have t0 : decide ((((nthP ps (k + 1)).1 : Nat) : Int) ≤ (((nthP ps k).1 : Nat) : Int)) = true := by simp; omega
          have t1 : decide ((nthP ps (k + 1)).1 ≤ (nthP ps k).1) = true := by simp; omega
          have hf : upB ps = false := by
            rw [Bool.eq_false_iff, ne_eq, up_iff]
            intro hh; exact hc (hh k (by omega))
          generalize (nthP ps (k + 1)).1 = y at *
          generalize (nthP ps k).1 = z at *
          have hH4'h := Lib.hid hH4
          have hS4'h := Lib.hid hS4
          have hc'h := Lib.hid hc
          have hf'h := Lib.hid hf
          clear hH4 hS4 hc hf
          go_wp2_with fail
          go_quiet (fail)
          go_wp2
          go_ret
          exact ⟨by rw [hf'h.out]; rfl, (hH4'h.out.drewN nq).old⟩
    · obtain rfl : k = n := by omega
      have ht : upB ps = true := (up_iff ps).2 fun i hi => hall i (by have := hlen'h.out; omega)
      clear hall
      have hH'h := Lib.hid hH
      have hk'h := Lib.hid hk
      have ht'h := Lib.hid ht
      clear hH hk ht
      go_wp2
      go_ret
      exact ⟨by rw [ht'h.out]; rfl, hH'h.out.old⟩
end Go.Proofs.YtogeohjeabbmaaaDoor
