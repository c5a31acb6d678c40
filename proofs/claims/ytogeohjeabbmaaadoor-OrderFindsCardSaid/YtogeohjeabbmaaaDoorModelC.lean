/-
  Package model and the document: maps, and answers, compared; the document's Get.
-/
import Derived.Test.YtogeohjeabbmaaaDoorModelB
set_option linter.unusedSimpArgs false
set_option linter.unusedVariables false
set_option maxRecDepth 100000
namespace Go.Proofs.YtogeohjeabbmaaaDoor
open Go.RowKit

theorem msame_any (sp sp' : Option Addr) (n n' cap cap' : Nat) (a b : Ps) (w : World) (ha : SlK w 2 sp n (prs a)) (hb : SlK w 2 sp' n' (prs b)) :
    Calls Tryd.prog 11 #[.agg #[.slice sp n cap], .agg #[.slice sp' n' cap']] w fun e w' => e = .returned (.bool (decide (a = b))) ∧ Below w.heap.size w w' := by
  have hB : Below w.heap.size w ((w.alloc (.cells #[.slice sp n cap] 28)).alloc (.cells #[.slice sp' n' cap'] 28)) := ((Below.refl _ _).alloc (Nat.le_refl _) _).alloc (by simp) _
  have ha'h := Lib.hid ha
  have hb'h := Lib.hid hb
  have hB'h := Lib.hid hB
  clear ha hb hB
  go_enter Tryd.func11, Tryd.ntmps11
  go_wp2_with (go_at_call 32; refine (equalP_any _ _ _ _ _ _ a b _ (ha'h.out.below (by first | assumption | exact hB'h.out)) (hb'h.out.below (by first | assumption | exact hB'h.out))).mono ?_; rintro e w2 ⟨rfl, d, rfl⟩)
  go_ret
  exact ⟨rfl, hB'h.out.trans (below_drewN' _ _)⟩
/-- The document's comparison of pairs: the same walk, with a block a round. -/
theorem rpairs_any (sp sp' : Option Addr) (n n' cap cap' : Nat) (l l' : Ps) (w : World) (h : SlK w 2 sp n (prs l)) (h' : SlK w 2 sp' n' (prs l')) :
    Calls Tryd.prog 67 #[.slice sp n cap, .slice sp' n' cap'] w fun e w' => e = .returned (.bool (decide (l = l'))) ∧ Below w.heap.size w w' := by
  have hlen := prs_len h
  have hlen' := prs_len h'
  have hmax := h.2.1
  unfold maxLen at hmax
  by_cases hnn : n = n'
  · subst hnn
    have hne : ((n : Int) != (n : Int)) = false := by simp
    have hlen'h := Lib.hid hlen
    have hlen''h := Lib.hid hlen'
    have h'h := Lib.hid h
    have h''h := Lib.hid h'
    clear hlen hlen' h h'
    go_enter Tryd.func67, Tryd.ntmps67
    go_wp2
    go_loopg [14] n (fun q i wr => ∃ k : Nat, k + q = n ∧ i = .int .i64 k ∧ (∀ j, j < k → nthP l j = nthP l' j) ∧ Below w.heap.size w wr)
    case atStart => exact ⟨0, by omega, rfl, fun j hj => by omega, Below.refl _ _⟩
    case round =>
      obtain ⟨k, hk, rfl, hall, hbr⟩ := hrel
      have hkn : k ≤ n := by omega
      by_cases hlt : k < n
      · have hSr := h'h.out.below hbr
        obtain ⟨b, off, rfl⟩ := prs_some h'h.out (by omega)
        obtain ⟨b', off', rfl⟩ := prs_some h''h.out (by omega)
        have hkl : k < l.length := by have := hlen'h.out; omega
        have hkl' : k < l'.length := by have := hlen''h.out; omega
        obtain ⟨c1, c2⟩ := prs_cells hSr hkl
        have i1 : (k : Int) < (n : Int) := by omega
        have i2 : (0 : Int) ≤ (k : Int) := by omega
        have hk'h := Lib.hid hk
        have hall'h := Lib.hid hall
        have hbr'h := Lib.hid hbr
        have hSr'h := Lib.hid hSr
        clear hk hall hbr hSr
        go_upto_region 6 with fail
        clear c1 c2
        have H6 := (Hs.nil wr).new #[.int .u64 ((nthP l k).1 : Int), .int .u64 ((nthP l k).2 : Int)] 72
        generalize World.alloc _ _ = W6 at H6 ⊢
        obtain ⟨d1, d2⟩ := prs_cells ((h''h.out.below hbr'h.out).below H6.old) hkl'
        have e1 : W6.cell? ⟨wr.heap.size, 0, none⟩ = some (.int .u64 ((nthP l k).1 : Int)) := blk_cell H6.rows.1 rfl
        have e2 : W6.cell? ⟨wr.heap.size, 1, none⟩ = some (.int .u64 ((nthP l k).2 : Int)) := blk_cell H6.rows.1 rfl
        have c1' : ∀ q, (W6.drewN q).cell? ⟨wr.heap.size, 0, none⟩ = some (.int .u64 ((nthP l k).1 : Int)) := fun q => e1
        have c2' : ∀ q, (W6.drewN q).cell? ⟨wr.heap.size, 1, none⟩ = some (.int .u64 ((nthP l k).2 : Int)) := fun q => e2
        have d1' : ∀ q, (W6.drewN q).cell? ⟨b', off' + k * 2, none⟩ = some (.int .u64 ((nthP l' k).1 : Int)) := fun q => d1
        have d2' : ∀ q, (W6.drewN q).cell? ⟨b', off' + k * 2 + 1, none⟩ = some (.int .u64 ((nthP l' k).2 : Int)) := fun q => d2
        have hq := fun w => neq_pair (nthP l k).1 (nthP l k).2 (nthP l' k).1 (nthP l' k).2 w
        clear d1 d2 e1 e2
        by_cases he : nthP l k = nthP l' k
        · have hx : (!decide (((nthP l k).1, (nthP l k).2) = ((nthP l' k).1, (nthP l' k).2))) = false := by rw [he]; simp
          rw [hx] at hq
          generalize (nthP l k).1 = x1 at *
          generalize (nthP l k).2 = x2 at *
          generalize (nthP l' k).1 = y1 at *
          generalize (nthP l' k).2 = y2 at *
          have he'h := Lib.hid he
          have H6'h := Lib.hid H6
          clear he H6
          clear hx
          go_wp2_with fail
          go_quiet (fail)
          go_wp2
          go_roundg (gk - 1)
          case measure => have := hk'h.out; omega
          case rel =>
            refine ⟨k + 1, by have := hk'h.out; omega, by go_num, fun j hj => ?_, below_next hbr'h.out (H6'h.out.drewN nq).old⟩
            by_cases e : j = k
            · rw [e]; exact he'h.out
            · exact hall'h.out j (by omega)
        · have hx : (!decide (((nthP l k).1, (nthP l k).2) = ((nthP l' k).1, (nthP l' k).2))) = true := by
            simp only [Bool.not_eq_true', decide_eq_false_iff_not]
            intro e; exact he (Prod.ext (congrArg Prod.fst e) (congrArg Prod.snd e))
          rw [hx] at hq
          have hf : decide (l = l') = false := by
            rw [decide_eq_false_iff_not]; intro e; exact he (by rw [e])
          generalize (nthP l k).1 = x1 at *
          generalize (nthP l k).2 = x2 at *
          generalize (nthP l' k).1 = y1 at *
          generalize (nthP l' k).2 = y2 at *
          have he'h := Lib.hid he
          have hf'h := Lib.hid hf
          have H6'h := Lib.hid H6
          clear he hf H6
          clear hx
          go_wp2_with fail
          go_quiet (fail)
          go_wp2
          go_ret
          exact ⟨ret_bool hf'h.out.symm, below_next hbr'h.out (H6'h.out.drewN nq).old⟩
      · have hn : ¬ (k : Int) < (n : Int) := by omega
        have ht : decide (l = l') = true := by
          rw [decide_eq_true_eq]
          refine List.ext_getElem (by have := hlen'h.out; have := hlen''h.out; omega) fun j h1 h2 => ?_
          rw [nthP_eq h1, nthP_eq h2]
          exact hall j (by have := hlen'h.out; omega)
        have ht'h := Lib.hid ht
        have hbr'h := Lib.hid hbr
        have hall'h := Lib.hid hall
        have hk'h := Lib.hid hk
        clear ht hbr hall hk
        go_wp2
        go_ret
        exact ⟨ret_bool ht'h.out.symm, hbr'h.out⟩
  · have hne : ((n : Int) != (n' : Int)) = true := by simp; omega
    have hf : decide (l = l') = false := by
      rw [decide_eq_false_iff_not]; intro e; subst e; omega
    have hlen'h := Lib.hid hlen
    have hlen''h := Lib.hid hlen'
    have h'h := Lib.hid h
    have h''h := Lib.hid h'
    have hnn'h := Lib.hid hnn
    have hf'h := Lib.hid hf
    clear hlen hlen' h h' hnn hf
    go_enter Tryd.func67, Tryd.ntmps67
    go_wp2
    go_ret
    exact ⟨ret_bool hf'h.out.symm, Below.refl _ _⟩
/-- An answer, but for its pairs. -/
structure An where
  err : Int
  val : Nat
  done : Bool
deriving DecidableEq
def anA (a : An) (sp : Option Addr) (n cap : Nat) : Array Value := #[.int .i64 a.err, .int .u64 (a.val : Int), .bool a.done, .slice sp n cap]
def alikeB (x y : An) (a b : Ps) : Bool := decide (x = y ∧ a = b)
end Go.Proofs.YtogeohjeabbmaaaDoor
