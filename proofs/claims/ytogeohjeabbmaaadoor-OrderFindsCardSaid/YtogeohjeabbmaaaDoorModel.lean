/-
  Package model: rows of pairs compared; which maps there are.
-/
import Derived.Test.YtogeohjeabbmaaaDoorModelPure
import Derived.Laws.StructEq
import Derived.Deep.QuietTactic
import Derived.BigQuiet
import Derived.Deep.LoopGhost
import Derived.Deep.Cut
set_option linter.unusedSimpArgs false
set_option linter.unusedVariables false
set_option maxRecDepth 100000
namespace Go.Proofs.YtogeohjeabbmaaaDoor
open Go.RowKit

theorem eqi_pair (a b c d : Nat) (w : World) : (Op.equalIn 10000 72 (.agg #[.int .u64 (a : Int), .int .u64 (b : Int)]) (.agg #[.int .u64 (c : Int), .int .u64 (d : Int)])).run Tryd.prog w = .ok (decide ((a, b) = (c, d))) w := by
  have u3 := Tryd.underlying29
  have a3 := Tryd.isAgg29
  have z3 := Tryd.sizeOf29
  rw [show (10000 : Nat) = 9999 + 1 from rfl, run_equalIn_struct w 9999 72 _ _ (by kernel_rfl) (by kernel_rfl)]
  simp only [Program.fieldsOf, Tryd.underlying72]
  go_simp
  by_cases h1 : a = c <;> by_cases h2 : b = d <;> simp [h1, h2] <;> omega
theorem eql_pair (a b c d : Nat) (w : World) : (binOp .eql 72 (.agg #[.int .u64 (a : Int), .int .u64 (b : Int)]) (.agg #[.int .u64 (c : Int), .int .u64 (d : Int)])).run Tryd.prog w = .ok (.bool (decide ((a, b) = (c, d)))) w := by
  rw [run_eql_struct, eqi_pair]; rfl
theorem neq_pair (a b c d : Nat) (w : World) : (binOp .neq 72 (.agg #[.int .u64 (a : Int), .int .u64 (b : Int)]) (.agg #[.int .u64 (c : Int), .int .u64 (d : Int)])).run Tryd.prog w = .ok (.bool (!decide ((a, b) = (c, d)))) w := by
  rw [run_neq_struct, eqi_pair]; rfl
/-- The cells of an element. -/
theorem prs_cells {w : World} {b off n : Nat} {ps : Ps} (h : SlK w 2 (some ⟨b, off, none⟩) n (prs ps)) {k : Nat} (hk : k < ps.length) :
    w.cell? ⟨b, off + k * 2, none⟩ = some (.int .u64 ((nthP ps k).1 : Int)) ∧ w.cell? ⟨b, off + k * 2 + 1, none⟩ = some (.int .u64 ((nthP ps k).2 : Int)) := by
  obtain ⟨h1, h2⟩ := prs_at hk
  exact ⟨h.cell h1, by have := h.cell h2; rwa [← Nat.add_assoc] at this⟩
theorem prs_len {w : World} {sp : Option Addr} {n : Nat} {ps : Ps} (h : SlK w 2 sp n (prs ps)) : n = ps.length := by
  have := h.1; rw [prs_length] at this; omega
theorem prs_some {w : World} {sp : Option Addr} {n : Nat} {ps : Ps} (h : SlK w 2 sp n (prs ps)) (hn : 0 < n) : ∃ b off, sp = some ⟨b, off, none⟩ := by
  obtain ⟨b, off, e, _⟩ := h.some' hn; exact ⟨b, off, e⟩
set_option maxHeartbeats 1000000 in
theorem equalP_any (sp sp' : Option Addr) (n n' cap cap' : Nat) (l l' : Ps) (w : World) (h : SlK w 2 sp n (prs l)) (h' : SlK w 2 sp' n' (prs l')) :
    Calls Tryd.prog 32 #[.slice sp n cap, .slice sp' n' cap'] w fun e w' => e = .returned (.bool (decide (l = l'))) ∧ ∃ d, w' = w.drewN d := by
  have hlen := prs_len h
  have hlen' := prs_len h'
  have hmax := h.2.1
  unfold maxLen at hmax
  by_cases hnn : n = n'
  · subst hnn
    have hne : ((n : Int) != (n : Int)) = false := by simp
    have hlen'h := Lib.hid hlen
    have hlen''h := Lib.hid hlen'
    have h'h := Lib.hid h
    have h''h := Lib.hid h'
    clear hlen hlen' h h'
    go_enter Tryd.func32, Tryd.ntmps32
    go_wp2
    go_loopg [13] n (fun q i wr => ∃ k : Nat, k + q = n ∧ i = .int .i64 k ∧ (∀ j, j < k → nthP l j = nthP l' j) ∧ ∃ d, wr = w.drewN d)
    case atStart => exact ⟨0, by omega, rfl, fun j hj => by omega, 0, rfl⟩
    case round =>
      obtain ⟨k, hk, rfl, hall, d, rfl⟩ := hrel
      have hkn : k ≤ n := by omega
      have hk'h := Lib.hid hk
      have hall'h := Lib.hid hall
      clear hk hall
      by_cases hlt : k < n
      · obtain ⟨b, off, rfl⟩ := prs_some h'h.out (by omega)
        obtain ⟨b', off', rfl⟩ := prs_some h''h.out (by omega)
        have hkl : k < l.length := by have := hlen'h.out; omega
        have hkl' : k < l'.length := by have := hlen''h.out; omega
        obtain ⟨c1, c2⟩ := prs_cells h'h.out hkl
        obtain ⟨d1, d2⟩ := prs_cells h''h.out hkl'
        have c1' : ∀ q, (w.drewN q).cell? ⟨b, off + k * 2, none⟩ = some (.int .u64 ((nthP l k).1 : Int)) := fun q => c1
        have c2' : ∀ q, (w.drewN q).cell? ⟨b, off + k * 2 + 1, none⟩ = some (.int .u64 ((nthP l k).2 : Int)) := fun q => c2
        have d1' : ∀ q, (w.drewN q).cell? ⟨b', off' + k * 2, none⟩ = some (.int .u64 ((nthP l' k).1 : Int)) := fun q => d1
        have d2' : ∀ q, (w.drewN q).cell? ⟨b', off' + k * 2 + 1, none⟩ = some (.int .u64 ((nthP l' k).2 : Int)) := fun q => d2
        have i1 : (k : Int) < (n : Int) := by omega
        have i2 : (0 : Int) ≤ (k : Int) := by omega
        have hq := fun w => neq_pair (nthP l k).1 (nthP l k).2 (nthP l' k).1 (nthP l' k).2 w
        clear c1 c2 d1 d2
        by_cases he : nthP l k = nthP l' k
        · have hx : (!decide (((nthP l k).1, (nthP l k).2) = ((nthP l' k).1, (nthP l' k).2))) = false := by rw [he]; simp
          rw [hx] at hq
          generalize (nthP l k).1 = x1 at *
          generalize (nthP l k).2 = x2 at *
          generalize (nthP l' k).1 = y1 at *
          generalize (nthP l' k).2 = y2 at *
          have he'h := Lib.hid he
          clear he
          clear hx
          go_wp2_with fail
          go_quiet (fail)
          go_wp2
          go_roundg (gk - 1)
          case measure => have := hk'h.out; omega
          case rel =>
            refine ⟨k + 1, by have := hk'h.out; omega, by go_num, fun j hj => ?_, d + nq, rfl⟩
            by_cases e : j = k
            · rw [e]; exact he'h.out
            · exact hall'h.out j (by omega)
        · have hx : (!decide (((nthP l k).1, (nthP l k).2) = ((nthP l' k).1, (nthP l' k).2))) = true := by
            simp only [Bool.not_eq_true', decide_eq_false_iff_not]
            intro e; exact he (Prod.ext (congrArg Prod.fst e) (congrArg Prod.snd e))
          rw [hx] at hq
          have hf : decide (l = l') = false := by
            rw [decide_eq_false_iff_not]; intro e; exact he (by rw [e])
          generalize (nthP l k).1 = x1 at *
          generalize (nthP l k).2 = x2 at *
          generalize (nthP l' k).1 = y1 at *
          generalize (nthP l' k).2 = y2 at *
          have he'h := Lib.hid he
          have hf'h := Lib.hid hf
          clear he hf
          clear hx
          go_wp2_with fail
          go_quiet (fail)
          go_wp2
          go_ret
          exact ⟨ret_bool hf'h.out.symm, d + nq, by first | rfl | exact World.drewN_drewN ..⟩
      · have hn : ¬ (k : Int) < (n : Int) := by omega
        have ht : decide (l = l') = true := by
          rw [decide_eq_true_eq]
          refine List.ext_getElem (by have := hlen'h.out; have := hlen''h.out; omega) fun j h1 h2 => ?_
          rw [nthP_eq h1, nthP_eq h2]
          exact hall'h.out j (by have := hlen'h.out; omega)
        have ht'h := Lib.hid ht
        clear ht
        go_wp2
        go_ret
        exact ⟨ret_bool ht'h.out.symm, d, rfl⟩
  · have hne : ((n : Int) != (n' : Int)) = true := by simp; omega
    have hf : decide (l = l') = false := by
      rw [decide_eq_false_iff_not]; intro e; subst e; omega
    have hlen'h := Lib.hid hlen
    have hlen''h := Lib.hid hlen'
    have h'h := Lib.hid h
    have h''h := Lib.hid h'
    have hnn'h := Lib.hid hnn
    have hf'h := Lib.hid hf
    clear hlen hlen' h h' hnn hf
    go_enter Tryd.func32, Tryd.ntmps32
    go_wp2
    go_ret
    exact ⟨ret_bool hf'h.out.symm, 0, rfl⟩
end Go.Proofs.YtogeohjeabbmaaaDoor
