/-
  Several texts of mine in one: Eq64 RanEq RanP RanQ RanR RanS RanT RanU RanV RanW RanX.
-/
import Derived.Test.YthfeiiibedmkiaaSlK
import Derived.Deep.QuietTactic
import Derived.BigQuiet
import Derived.Deep.LoopGhost
import Derived.Test.YthfeiiibedmkiaaPr1
import Derived.Test.YthfeiiibedmkiaaModelD
import Derived.Deep.Cut
/-
  slices.Equal at rows of words.
-/
set_option linter.unusedSimpArgs false
set_option linter.unusedVariables false
set_option maxRecDepth 100000
namespace Go.Proofs.Ythfeiiibedmkiaa
open Go.RowKit

/-! ### slices.Equal at []uint64, of one kind of numbers -/
theorem equal64_any (sp sp' : Option Addr) (n n' cap cap' : Nat) (l l' : List Int) (w : World) (h : Sl w sp n (l.map (Value.int .u64))) (h' : Sl w sp' n' (l'.map (Value.int .u64))) :
    Calls Try.prog 33 #[.slice sp n cap, .slice sp' n' cap'] w fun e w' => e = .returned (.bool (l == l')) ∧ ∃ d, w' = w.drewN d := by
  have hlen : n = l.length := by have := h.1; simpa using this
  have hlen' : n' = l'.length := by have := h'.1; simpa using this
  have hmax := h.2.1
  unfold maxLen at hmax
  by_cases hnn : n = n'
  · subst hnn
    have hne : ((n : Int) != (n : Int)) = false := by simp
    have hlen'h := Lib.hid hlen
    have hlen''h := Lib.hid hlen'
    have h'h := Lib.hid h
    have h''h := Lib.hid h'
    clear hlen hlen' h h'
    go_enter Try.func33, Try.ntmps33
    go_wp2
    go_loopg [13] n (fun q i wr => ∃ k : Nat, k + q = n ∧ i = .int .i64 k ∧ (∀ j, j < k → nthZ l j = nthZ l' j) ∧ ∃ d, wr = w.drewN d)
    case atStart => exact ⟨0, by omega, rfl, fun j hj => by omega, 0, rfl⟩
    case round =>
      obtain ⟨k, hk, rfl, hall, d, rfl⟩ := hrel
      have hkn : k ≤ n := by omega
      have hk'h := Lib.hid hk
      have hall'h := Lib.hid hall
      clear hk hall
      by_cases hlt : k < n
      · obtain ⟨b, off, rfl, hc1⟩ := h'h.out.some' (by omega)
        obtain ⟨b', off', rfl, hc2⟩ := h''h.out.some' (by omega)
        have hkl : k < l.length := by have := hlen'h.out; omega
        have hkl' : k < l'.length := by have := hlen''h.out; omega
        have c1 := hc1 k _ (i64s_at hkl)
        have c2 := hc2 k _ (i64s_at hkl')
        have c1' : ∀ q, (w.drewN q).cell? ⟨b, off + k, none⟩ = some (.int .u64 (nthZ l k)) := fun q => c1
        have c2' : ∀ q, (w.drewN q).cell? ⟨b', off' + k, none⟩ = some (.int .u64 (nthZ l' k)) := fun q => c2
        have i1 : (k : Int) < (n : Int) := by omega
        have i2 : (0 : Int) ≤ (k : Int) := by omega
        clear hc1 hc2
        by_cases he : nthZ l k = nthZ l' k
        · have hx : (nthZ l k != nthZ l' k) = false := by simp [he]
          have he'h := Lib.hid he
          clear he
          go_wp2_with fail
          go_quiet (fail)
          go_wp2
          go_roundg (gk - 1)
          case measure => have := hk'h.out; omega
          case rel =>
            refine ⟨k + 1, by have := hk'h.out; omega, by go_num, fun j hj => ?_, d + nq, rfl⟩
            by_cases e : j = k
            · rw [e]; exact he'h.out
            · exact hall'h.out j (by omega)
        · have hx : (nthZ l k != nthZ l' k) = true := by simp [he]
          have hf : (l == l') = false := by
            rw [beq_eq_false_iff_ne]; intro e; exact he (by rw [e])
          have he'h := Lib.hid he
          have hf'h := Lib.hid hf
          clear he hf
          go_wp2_with fail
          go_quiet (fail)
          go_wp2
          go_ret
          exact ⟨ret_bool hf'h.out.symm, d + nq, by first | rfl | exact World.drewN_drewN ..⟩
      · have hn : ¬ (k : Int) < (n : Int) := by omega
        have ht : (l == l') = true := by
          rw [beq_iff_eq]
          refine List.ext_getElem (by have := hlen'h.out; have := hlen''h.out; omega) fun j h1 h2 => ?_
          rw [nthZ_eq h1, nthZ_eq h2]
          exact hall'h.out j (by have := hlen'h.out; omega)
        have ht'h := Lib.hid ht
        clear ht
        go_wp2
        go_ret
        exact ⟨ret_bool ht'h.out.symm, d, rfl⟩
  · have hne : ((n : Int) != (n' : Int)) = true := by simp; omega
    have hf : (l == l') = false := by
      rw [beq_eq_false_iff_ne]; intro e; subst e; omega
    have hlen'h := Lib.hid hlen
    have hlen''h := Lib.hid hlen'
    have h'h := Lib.hid h
    have h''h := Lib.hid h'
    have hnn'h := Lib.hid hnn
    have hf'h := Lib.hid hf
    clear hlen hlen' h h' hnn hf
    go_enter Try.func33, Try.ntmps33
    go_wp2
    go_ret
    exact ⟨ret_bool hf'h.out.symm, 0, rfl⟩
theorem same64 (sp sp' : Option Addr) (n cap cap' : Nat) (l : List Nat) (w : World) (h : Sl w sp n (u64s l)) (h' : Sl w sp' n (u64s l)) :
    Calls Try.prog 33 #[.slice sp n cap, .slice sp' n cap'] w fun e w' => e = .returned (.bool true) ∧ ∃ d, w' = w.drewN d := by
  rw [u64s_ints] at h h'
  have := equal64_any sp sp' n n cap cap' _ _ w h h'
  rwa [beq_self_eq_true] at this
end Go.Proofs.Ythfeiiibedmkiaa

/-
  slices.Equal at rows of times, and of changes; Clone at changes.
-/
set_option linter.unusedSimpArgs false
set_option linter.unusedVariables false
set_option maxRecDepth 100000
namespace Go.Proofs.Ythfeiiibedmkiaa
open Go.RowKit

def nthT (l : List (Int × Int)) (k : Nat) : Int × Int := l.getD k (0, 0)
theorem nthT_eq {l : List (Int × Int)} {k : Nat} (h : k < l.length) : l[k] = nthT l k := by unfold nthT; rw [List.getD_eq_getElem?_getD, List.getElem?_eq_getElem h]; rfl
theorem nthT_at {l : List (Int × Int)} {k : Nat} (h : k < l.length) : l[k]? = some (nthT l k) := by rw [List.getElem?_eq_getElem h, nthT_eq h]
theorem tms_len {w : World} {sp : Option Addr} {n : Nat} {l : List (Int × Int)} (h : SlK w 2 sp n (tms l)) : n = l.length := slk_len tmL_len (by decide) h
theorem tms_some {w : World} {sp : Option Addr} {n : Nat} {l : List (Int × Int)} (h : SlK w 2 sp n (tms l)) (hn : 0 < n) : ∃ b off, sp = some ⟨b, off, none⟩ := slk_some h hn
theorem tms_cells {w : World} {b off n : Nat} {l : List (Int × Int)} (h : SlK w 2 (some ⟨b, off, none⟩) n (tms l)) {k : Nat} (hk : k < l.length) :
    w.cell? ⟨b, off + k * 2, none⟩ = some (.int .i64 (nthT l k).1) ∧ w.cell? ⟨b, off + k * 2 + 1, none⟩ = some (.int .i64 (nthT l k).2) :=
  ⟨slk_cell0 tmL_len h (nthT_at hk) (by decide) rfl, slk_cell (i := 1) tmL_len h (nthT_at hk) (by decide) rfl⟩
theorem eqi_time (a b c d : Int) (w : World) : (Op.equalIn 10000 43 (.agg #[.int .i64 a, .int .i64 b]) (.agg #[.int .i64 c, .int .i64 d])).run Try.prog w = .ok (decide ((a, b) = (c, d))) w := by
  have u3 := Try.underlying3
  have a3 := Try.isAgg3
  have z3 := Try.sizeOf3
  rw [show (10000 : Nat) = 9999 + 1 from rfl, run_equalIn_struct w 9999 43 _ _ (by kernel_rfl) (by kernel_rfl)]
  simp only [Program.fieldsOf, Try.underlying43]
  go_simp
  by_cases h1 : a = c <;> by_cases h2 : b = d <;> simp [h1, h2]
theorem neq_time (a b c d : Int) (w : World) : (binOp .neq 43 (.agg #[.int .i64 a, .int .i64 b]) (.agg #[.int .i64 c, .int .i64 d])).run Try.prog w = .ok (.bool (!decide ((a, b) = (c, d)))) w := by
  rw [run_neq_struct, eqi_time]; rfl
theorem eqi_ch (c d : Ch) (w : World) : (Op.equalIn 10000 46 (.agg #[.int .i64 c.stp, .int .u64 (c.key : Int), .bool c.has, .int .u64 (c.val : Int)]) (.agg #[.int .i64 d.stp, .int .u64 (d.key : Int), .bool d.has, .int .u64 (d.val : Int)])).run Try.prog w = .ok (decide (c = d)) w := by
  have u3 := Try.underlying3
  have a3 := Try.isAgg3
  have z3 := Try.sizeOf3
  have u4 := Try.underlying36
  have a4 := Try.isAgg36
  have z4 := Try.sizeOf36
  have u5 := Try.underlying4
  have a5 := Try.isAgg4
  have z5 := Try.sizeOf4
  rw [show (10000 : Nat) = 9999 + 1 from rfl, run_equalIn_struct w 9999 46 _ _ (by kernel_rfl) (by kernel_rfl)]
  simp only [Program.fieldsOf, Try.underlying46]
  go_simp
  obtain ⟨c1, c2, c3, c4⟩ := c
  obtain ⟨d1, d2, d3, d4⟩ := d
  by_cases h1 : c1 = d1 <;> by_cases h2 : c2 = d2 <;> by_cases h3 : c3 = d3 <;> by_cases h4 : c4 = d4 <;> simp [h1, h2, h3, h4] <;> omega
theorem neq_ch (c d : Ch) (w : World) : (binOp .neq 46 (.agg #[.int .i64 c.stp, .int .u64 (c.key : Int), .bool c.has, .int .u64 (c.val : Int)]) (.agg #[.int .i64 d.stp, .int .u64 (d.key : Int), .bool d.has, .int .u64 (d.val : Int)])).run Try.prog w = .ok (.bool (!decide (c = d))) w := by
  rw [run_neq_struct, eqi_ch]; rfl
set_option maxHeartbeats 1000000 in
theorem equalT_any (sp sp' : Option Addr) (n n' cap cap' : Nat) (l l' : List (Int × Int)) (w : World) (h : SlK w 2 sp n (tms l)) (h' : SlK w 2 sp' n' (tms l')) :
    Calls Try.prog 17 #[.slice sp n cap, .slice sp' n' cap'] w fun e w' => e = .returned (.bool (decide (l = l'))) ∧ ∃ d, w' = w.drewN d := by
  have hlen := tms_len h
  have hlen' := tms_len h'
  have hmax := h.2.1
  unfold maxLen at hmax
  by_cases hnn : n = n'
  · subst hnn
    have hne : ((n : Int) != (n : Int)) = false := by simp
    have hlen'h := Lib.hid hlen
    have hlen''h := Lib.hid hlen'
    have h'h := Lib.hid h
    have h''h := Lib.hid h'
    clear hlen hlen' h h'
    go_enter Try.func17, Try.ntmps17
    go_wp2
    go_loopg [13] n (fun q i wr => ∃ k : Nat, k + q = n ∧ i = .int .i64 k ∧ (∀ j, j < k → nthT l j = nthT l' j) ∧ ∃ d, wr = w.drewN d)
    case atStart => exact ⟨0, by omega, rfl, fun j hj => by omega, 0, rfl⟩
    case round =>
      obtain ⟨k, hk, rfl, hall, d, rfl⟩ := hrel
      have hkn : k ≤ n := by omega
      have hk'h := Lib.hid hk
      have hall'h := Lib.hid hall
      clear hk hall
      by_cases hlt : k < n
      · obtain ⟨b, off, rfl⟩ := tms_some h'h.out (by omega)
        obtain ⟨b', off', rfl⟩ := tms_some h''h.out (by omega)
        have hkl : k < l.length := by have := hlen'h.out; omega
        have hkl' : k < l'.length := by have := hlen''h.out; omega
        obtain ⟨c1, c2⟩ := tms_cells h'h.out hkl
        obtain ⟨d1, d2⟩ := tms_cells h''h.out hkl'
        have c1' : ∀ q, (w.drewN q).cell? ⟨b, off + k * 2, none⟩ = some (.int .i64 (nthT l k).1) := fun q => c1
        have c2' : ∀ q, (w.drewN q).cell? ⟨b, off + k * 2 + 1, none⟩ = some (.int .i64 (nthT l k).2) := fun q => c2
        have d1' : ∀ q, (w.drewN q).cell? ⟨b', off' + k * 2, none⟩ = some (.int .i64 (nthT l' k).1) := fun q => d1
        have d2' : ∀ q, (w.drewN q).cell? ⟨b', off' + k * 2 + 1, none⟩ = some (.int .i64 (nthT l' k).2) := fun q => d2
        have i1 : (k : Int) < (n : Int) := by omega
        have i2 : (0 : Int) ≤ (k : Int) := by omega
        have hq := fun w => neq_time (nthT l k).1 (nthT l k).2 (nthT l' k).1 (nthT l' k).2 w
        clear c1 c2 d1 d2
        by_cases he : nthT l k = nthT l' k
        · have hx : (!decide (((nthT l k).1, (nthT l k).2) = ((nthT l' k).1, (nthT l' k).2))) = false := by rw [he]; simp
          rw [hx] at hq
          generalize (nthT l k).1 = x1 at *
          generalize (nthT l k).2 = x2 at *
          generalize (nthT l' k).1 = y1 at *
          generalize (nthT l' k).2 = y2 at *
          have he'h := Lib.hid he
          clear he
          clear hx
          go_wp2_with fail
          go_quiet (fail)
          go_wp2
          go_roundg (gk - 1)
          case measure => have := hk'h.out; omega
          case rel =>
            refine ⟨k + 1, by have := hk'h.out; omega, by go_num, fun j hj => ?_, d + nq, rfl⟩
            by_cases e : j = k
            · rw [e]; exact he'h.out
            · exact hall'h.out j (by omega)
        · have hx : (!decide (((nthT l k).1, (nthT l k).2) = ((nthT l' k).1, (nthT l' k).2))) = true := by
            simp only [Bool.not_eq_true', decide_eq_false_iff_not]
            intro e; exact he (Prod.ext (congrArg Prod.fst e) (congrArg Prod.snd e))
          rw [hx] at hq
          have hf : decide (l = l') = false := by
            rw [decide_eq_false_iff_not]; intro e; exact he (by rw [e])
          generalize (nthT l k).1 = x1 at *
          generalize (nthT l k).2 = x2 at *
          generalize (nthT l' k).1 = y1 at *
          generalize (nthT l' k).2 = y2 at *
          have he'h := Lib.hid he
          have hf'h := Lib.hid hf
          clear he hf
          clear hx
          go_wp2_with fail
          go_quiet (fail)
          go_wp2
          go_ret
          exact ⟨ret_bool hf'h.out.symm, d + nq, by first | rfl | exact World.drewN_drewN ..⟩
      · have hn : ¬ (k : Int) < (n : Int) := by omega
        have ht : decide (l = l') = true := by
          rw [decide_eq_true_eq]
          refine List.ext_getElem (by have := hlen'h.out; have := hlen''h.out; omega) fun j h1 h2 => ?_
          rw [nthT_eq h1, nthT_eq h2]
          exact hall'h.out j (by have := hlen'h.out; omega)
        have ht'h := Lib.hid ht
        clear ht
        go_wp2
        go_ret
        exact ⟨ret_bool ht'h.out.symm, d, rfl⟩
  · have hne : ((n : Int) != (n' : Int)) = true := by simp; omega
    have hf : decide (l = l') = false := by
      rw [decide_eq_false_iff_not]; intro e; subst e; omega
    have hlen'h := Lib.hid hlen
    have hlen''h := Lib.hid hlen'
    have h'h := Lib.hid h
    have h''h := Lib.hid h'
    have hnn'h := Lib.hid hnn
    have hf'h := Lib.hid hf
    clear hlen hlen' h h' hnn hf
    go_enter Try.func17, Try.ntmps17
    go_wp2
    go_ret
    exact ⟨ret_bool hf'h.out.symm, 0, rfl⟩
set_option maxHeartbeats 1000000 in
theorem equalC_any (sp sp' : Option Addr) (n n' cap cap' : Nat) (l l' : List Ch) (w : World) (h : SlK w 4 sp n (chs l)) (h' : SlK w 4 sp' n' (chs l')) :
    Calls Try.prog 19 #[.slice sp n cap, .slice sp' n' cap'] w fun e w' => e = .returned (.bool (decide (l = l'))) ∧ ∃ d, w' = w.drewN d := by
  have hlen := chs_len h
  have hlen' := chs_len h'
  have hmax := h.2.1
  unfold maxLen at hmax
  by_cases hnn : n = n'
  · subst hnn
    have hne : ((n : Int) != (n : Int)) = false := by simp
    have hlen'h := Lib.hid hlen
    have hlen''h := Lib.hid hlen'
    have h'h := Lib.hid h
    have h''h := Lib.hid h'
    clear hlen hlen' h h'
    go_enter Try.func19, Try.ntmps19
    go_wp2
    go_loopg [13] n (fun q i wr => ∃ k : Nat, k + q = n ∧ i = .int .i64 k ∧ (∀ j, j < k → nthC l j = nthC l' j) ∧ ∃ d, wr = w.drewN d)
    case atStart => exact ⟨0, by omega, rfl, fun j hj => by omega, 0, rfl⟩
    case round =>
      obtain ⟨k, hk, rfl, hall, d, rfl⟩ := hrel
      have hkn : k ≤ n := by omega
      have hk'h := Lib.hid hk
      have hall'h := Lib.hid hall
      clear hk hall
      by_cases hlt : k < n
      · obtain ⟨b, off, rfl⟩ := slk_some h'h.out (by omega)
        obtain ⟨b', off', rfl⟩ := slk_some h''h.out (by omega)
        have hkl : k < l.length := by have := hlen'h.out; omega
        have hkl' : k < l'.length := by have := hlen''h.out; omega
        obtain ⟨c1, c2, c3, c4⟩ := chs_cells h'h.out hkl
        obtain ⟨d1, d2, d3, d4⟩ := chs_cells h''h.out hkl'
        have c1' : ∀ q, (w.drewN q).cell? ⟨b, off + k * 4, none⟩ = some (.int .i64 (nthC l k).stp) := fun q => c1
        have c2' : ∀ q, (w.drewN q).cell? ⟨b, off + k * 4 + 1, none⟩ = some (.int .u64 ((nthC l k).key : Int)) := fun q => c2
        have c3' : ∀ q, (w.drewN q).cell? ⟨b, off + k * 4 + 2, none⟩ = some (.bool (nthC l k).has) := fun q => c3
        have c4' : ∀ q, (w.drewN q).cell? ⟨b, off + k * 4 + 3, none⟩ = some (.int .u64 ((nthC l k).val : Int)) := fun q => c4
        have d1' : ∀ q, (w.drewN q).cell? ⟨b', off' + k * 4, none⟩ = some (.int .i64 (nthC l' k).stp) := fun q => d1
        have d2' : ∀ q, (w.drewN q).cell? ⟨b', off' + k * 4 + 1, none⟩ = some (.int .u64 ((nthC l' k).key : Int)) := fun q => d2
        have d3' : ∀ q, (w.drewN q).cell? ⟨b', off' + k * 4 + 2, none⟩ = some (.bool (nthC l' k).has) := fun q => d3
        have d4' : ∀ q, (w.drewN q).cell? ⟨b', off' + k * 4 + 3, none⟩ = some (.int .u64 ((nthC l' k).val : Int)) := fun q => d4
        have i1 : (k : Int) < (n : Int) := by omega
        have i2 : (0 : Int) ≤ (k : Int) := by omega
        have hq := fun w => neq_ch (nthC l k) (nthC l' k) w
        clear c1 c2 c3 c4 d1 d2 d3 d4
        by_cases he : nthC l k = nthC l' k
        · have hx : (!decide (nthC l k = nthC l' k)) = false := by rw [he]; simp
          rw [hx] at hq
          have he'h := Lib.hid he
          clear he
          clear hx
          go_wp2_with fail
          go_quiet (fail)
          go_wp2
          go_roundg (gk - 1)
          case measure => have := hk'h.out; omega
          case rel =>
            refine ⟨k + 1, by have := hk'h.out; omega, by go_num, fun j hj => ?_, d + nq, rfl⟩
            by_cases e : j = k
            · rw [e]; exact he'h.out
            · exact hall'h.out j (by omega)
        · have hx : (!decide (nthC l k = nthC l' k)) = true := by simp [he]
          rw [hx] at hq
          have hf : decide (l = l') = false := by
            rw [decide_eq_false_iff_not]; intro e; exact he (by rw [e])
          have he'h := Lib.hid he
          have hf'h := Lib.hid hf
          clear he hf
          clear hx
          go_wp2_with fail
          go_quiet (fail)
          go_wp2
          go_ret
          exact ⟨ret_bool hf'h.out.symm, d + nq, by first | rfl | exact World.drewN_drewN ..⟩
      · have hn : ¬ (k : Int) < (n : Int) := by omega
        have ht : decide (l = l') = true := by
          rw [decide_eq_true_eq]
          refine List.ext_getElem (by have := hlen'h.out; have := hlen''h.out; omega) fun j h1 h2 => ?_
          rw [nthC_eq h1, nthC_eq h2]
          exact hall'h.out j (by have := hlen'h.out; omega)
        have ht'h := Lib.hid ht
        clear ht
        go_wp2
        go_ret
        exact ⟨ret_bool ht'h.out.symm, d, rfl⟩
  · have hne : ((n : Int) != (n' : Int)) = true := by simp; omega
    have hf : decide (l = l') = false := by
      rw [decide_eq_false_iff_not]; intro e; subst e; omega
    have hlen'h := Lib.hid hlen
    have hlen''h := Lib.hid hlen'
    have h'h := Lib.hid h
    have h''h := Lib.hid h'
    have hnn'h := Lib.hid hnn
    have hf'h := Lib.hid hf
    clear hlen hlen' h h' hnn hf
    go_enter Try.func19, Try.ntmps19
    go_wp2
    go_ret
    exact ⟨ret_bool hf'h.out.symm, 0, rfl⟩
/-! ### slices.Clone at []api.Change: 4 cells an element -/
theorem info_cloneC : (Try.prog.info? 46).map (fun i => (i.zero, i.size, i.bytes)) = some (some (.agg #[.int .i64 0, .int .u64 0, .bool false, .int .u64 0]), 4, 32) := by kernel_rfl
theorem cloneC_nil (w : World) : Calls Try.prog 40 #[.slice none 0 0] w fun e w' => e = .returned (.slice none 0 0) ∧ w' = w := by
  have hnil := Lib.run_eql_slice_nil (P := Try.prog)
  go_enter Try.func40, Try.ntmps40
  go_wp2
  go_ret
  exact ⟨rfl, rfl⟩
theorem cloneC_some (ad : Addr) (n cap : Nat) (vs : List Value) (w : World) (hn : n ≤ 4096) (hone : ∀ v ∈ vs, v.oneCell' = true) (h : SlK w 4 (some ad) n vs) :
    Calls Try.prog 40 #[.slice (some ad) n cap] w fun e w' => ∃ sp' cap', e = .returned (.slice sp' n cap') ∧ Below w.heap.size w w' ∧ w'.ownsRow w.heap.size 46 4 (.slice sp' n cap') n vs := by
  have hnil := Lib.run_eql_slice_nil (P := Try.prog)
  obtain ⟨i0, hi, hz0, hz1, hz2⟩ := info_parts info_cloneC
  have hown0 : (w.alloc (.cells #[] 46)).ownsRow w.heap.size 46 4 (.slice (some ⟨w.heap.size, 0, none⟩) 0 0) 0 [] :=
    ⟨by simp, .inr ⟨w.heap.size, 0, #[], rfl, Nat.le_refl _, World.alloc_heap_new _ _, Nat.le_refl _, Nat.zero_le _, by simp, by simp⟩⟩
  have hS2 : SlK (w.alloc (.cells #[] 46)) 4 (some ad) n vs := h.below ((Below.refl _ w).alloc (Nat.le_refl _) _)
  have hS2'h := Lib.hid hS2
  have hone'h := Lib.hid hone
  clear hS2 hone
  clear h
  go_enter Try.func40, Try.ntmps40
  go_wp2_with (at_builtin; refine wpList_append_slk _ rfl (.tmp 5) (.tmp 6) 22 rfl w.heap.size 46 i0 (.agg #[.int .i64 0, .int .u64 0, .bool false, .int .u64 0]) 4 32 Try.underlying22 hi hz0 hz1 hz2 rfl (by decide) _ 0 [] rfl hown0 (some ad) n cap vs rfl hS2'h.out hone'h.out (by unfold maxLen; omega) (by omega) (by simp) ?_; intro v' w1 hown' hgrow hwh)
  rw [Nat.zero_add, List.nil_append] at hown'
  obtain ⟨sp', cap', rfl⟩ := row_slice' hown'
  have hown''h := Lib.hid hown'
  have hwh'h := Lib.hid hwh
  clear hown' hwh
  go_wp2
  go_ret
  exact ⟨sp', cap', rfl, ((Below.refl _ w).alloc (Nat.le_refl _) _).grown hgrow (by simp) (fun j hj => by cases hj; exact Nat.le_refl _), hown''h.out⟩
theorem cloneC_any (sp : Option Addr) (n cap : Nat) (vs : List Value) (w : World) (hn : n ≤ 4096) (hone : ∀ v ∈ vs, v.oneCell' = true) (hc : sp = none → cap = 0) (h : SlK w 4 sp n vs) :
    Calls Try.prog 40 #[.slice sp n cap] w fun e w' => ∃ sp' cap', e = .returned (.slice sp' n cap') ∧ Below w.heap.size w w' ∧ w'.ownsRow w.heap.size 46 4 (.slice sp' n cap') n vs := by
  cases sp with
  | some ad => exact cloneC_some ad n cap vs w hn hone h
  | none =>
    obtain rfl : cap = 0 := hc rfl
    have h0 : n = 0 := by
      rcases h.2.2 with h0 | ⟨b, off, he, _⟩
      · exact h0
      · cases he
    subst h0
    have hl : vs = [] := List.eq_nil_of_length_eq_zero (by have := h.1; simpa using this)
    refine (cloneC_nil w).mono ?_
    rintro e w' ⟨rfl, rfl⟩
    exact ⟨none, 0, rfl, Below.refl _ _, by rw [hl]; exact World.ownsRow_nil _ _ _ _⟩
end Go.Proofs.Ythfeiiibedmkiaa

/-
  The document's maps: With, Without.
-/
set_option linter.unusedSimpArgs false
set_option linter.unusedVariables false
set_option maxRecDepth 100000
namespace Go.Proofs.Ythfeiiibedmkiaa
open Go.RowKit

theorem filter_all {ps : Ps} {q : Nat × Nat → Bool} (h : ∀ p ∈ ps, q p = true) : ps.filter q = ps := List.filter_eq_self.2 h
theorem filter_none {ps : Ps} {q : Nat × Nat → Bool} (h : ∀ p ∈ ps, q p = false) : ps.filter q = [] := List.filter_eq_nil_iff.2 fun p hp => by rw [h p hp]; decide
theorem del_filter {ps : Ps} (h : upB ps = true) (k : Nat) : delP ps k = ps.filter fun p => !(p.1 == k) := by
  induction ps with
  | nil => rfl
  | cons p l ih =>
    have hl := up_tail h
    have hg := up_head h
    rw [delP]
    by_cases h1 : p.1 < k
    · rw [if_pos h1, ih hl, List.filter_cons_of_pos (by simp; omega)]
    · rw [if_neg h1]
      have hall : l.filter (fun p => !(p.1 == k)) = l := filter_all fun q hq => by have := hg q hq; simp; omega
      by_cases h2 : p.1 = k
      · rw [if_pos h2, List.filter_cons_of_neg (by simp [h2]), hall]
      · rw [if_neg h2, List.filter_cons_of_pos (by simp [h2]), hall]
theorem ins_filter {ps : Ps} (h : upB ps = true) (k v : Nat) : insP ps k v = (ps.filter (fun p => decide (p.1 < k)) ++ [(k, v)]) ++ ps.filter fun p => decide (k < p.1) := by
  induction ps with
  | nil => rfl
  | cons p l ih =>
    have hl := up_tail h
    have hg := up_head h
    rw [insP]
    by_cases h1 : p.1 < k
    · rw [if_pos h1, ih hl, List.filter_cons_of_pos (by simp; omega), List.filter_cons_of_neg (by simp; omega)]
      rfl
    · rw [if_neg h1]
      have hlo : l.filter (fun p => decide (p.1 < k)) = [] := filter_none fun q hq => by have := hg q hq; simp; omega
      have hhi : l.filter (fun p => decide (k < p.1)) = l := filter_all fun q hq => by have := hg q hq; simp; omega
      by_cases h2 : p.1 = k
      · rw [if_pos h2, List.filter_cons_of_neg (by simp; omega), List.filter_cons_of_neg (by simp; omega), hlo, hhi]
        rfl
      · rw [if_neg h2, List.filter_cons_of_neg (by simp; omega), List.filter_cons_of_pos (by simp; omega), hlo, hhi]
        rfl
theorem row_slice3 {w : World} {base : Nat} {e : TypeId} {size : Nat} {v : Value} {n : Nat} {xs : List Value} (h : w.ownsRow base e size v n xs) : ∃ sp n' cap, v = .slice sp n' cap := by
  obtain ⟨sp, cap, rfl, _⟩ := row_form h
  exact ⟨_, _, _, rfl⟩
theorem apart4 {b p j : Nat} {c1 c2 c3 c4 : Array Value} {t1 t2 t3 t4 : TypeId} (h1 : b + 3 ≤ j) (h2 : j < p) : ∀ x ∈ ([(p, c1, t1), (b + 2, c2, t2), (b + 1, c3, t3), (b, c4, t4)] : List Blk3), x.1 ≠ j := by
  intro x hx
  rcases List.mem_cons.1 hx with rfl | hx
  · simp only; omega
  rcases List.mem_cons.1 hx with rfl | hx
  · simp only; omega
  rcases List.mem_cons.1 hx with rfl | hx
  · simp only; omega
  rcases List.mem_cons.1 hx with rfl | hx
  · simp only; omega
  · cases hx
theorem apart3 {b p j : Nat} {c2 c3 c4 : Array Value} {t2 t3 t4 : TypeId} (h1 : b + 3 ≤ j) : ∀ x ∈ ([(b + 2, c2, t2), (b + 1, c3, t3), (b, c4, t4)] : List Blk3), x.1 ≠ j := fun x hx => apart4 (p := j + 1) (c1 := #[]) (t1 := t2) h1 (by omega) x (List.mem_cons_of_mem _ hx)
set_option maxHeartbeats 2000000 in
theorem rWithout_any (sp : Option Addr) (n cap : Nat) (ps : Ps) (key : Nat) (w : World) (h : SlK w 2 sp n (prs ps)) (hup : upB ps = true) (hn : n ≤ 4096) :
    Calls Try.prog 63 #[.agg #[.slice sp n cap], .int .u64 key] w fun e w' => ∃ sp' n' cap', e = .returned (.agg #[.slice sp' n' cap']) ∧ Below w.heap.size w w' ∧ w'.ownsRow w.heap.size 38 2 (.slice sp' n' cap') (delP ps key).length (prs (delP ps key)) := by
  obtain ⟨i0, hi, hz0, hz1, hz2⟩ := info_parts info_pair
  have hlen := prs_len h
  have H0 := (((Hs.nil w).new #[.slice sp n cap] 31).new #[.slice none 0 0] 31).new #[.slice none 0 0] 31
  obtain ⟨W0, hW0⟩ : ∃ W0, W0 = ((w.alloc (.cells #[.slice sp n cap] 31)).alloc (.cells #[.slice none 0 0] 31)).alloc (.cells #[.slice none 0 0] 31) := ⟨_, rfl⟩
  rw [← hW0] at H0
  simp only [World.size_alloc, Nat.add_assoc, Nat.reduceAdd] at H0
  have q0 : W0.cell? ⟨w.heap.size, 0, none⟩ = some (.slice sp n cap) := blk_cell H0.rows.2.2.1 rfl
  rw [del_filter hup]
  obtain ⟨pre, hpre0⟩ : ∃ pre : Ps, pre = [] := ⟨_, rfl⟩
  have hpre : pre.length ≤ 5000 := by rw [hpre0]; simp
  have hR0 : W0.ownsRow (w.heap.size + 3) 38 2 (.slice none 0 0) pre.length (prs pre) := by rw [hpre0]; exact World.ownsRow_nil _ _ _ _
  have H0'h := Lib.hid H0
  have h'h := Lib.hid h
  have hlen'h := Lib.hid hlen
  have hup'h := Lib.hid hup
  have hpre0'h := Lib.hid hpre0
  have hpre'h := Lib.hid hpre
  have hR0'h := Lib.hid hR0
  clear H0 h hlen hup hpre0 hpre hR0
  go_enter Try.func63, Try.ntmps63
  go_upto_region 2 with fail
  simp only [Nat.add_assoc, Nat.reduceAdd]
  rw [← hW0]
  clear hW0
  go_wp2
  clear q0
  go_loopg [11] n (fun q i wr => ∃ (k : Nat) (v : Value), k + q = n ∧ i = .int .i64 k ∧ Hs w [(w.heap.size + 2, #[v], 31), (w.heap.size + 1, #[.slice none 0 0], 31), (w.heap.size, #[.slice sp n cap], 31)] wr ∧ wr.ownsRow (w.heap.size + 3) 38 2 v (pre ++ (ps.take k).filter (fun p : Nat × Nat => !(p.1 == key))).length (prs (pre ++ (ps.take k).filter (fun p : Nat × Nat => !(p.1 == key)))))
  case atStart => exact ⟨0, _, by omega, rfl, H0'h.out, by rw [List.take_zero, List.filter_nil, List.append_nil]; exact hR0'h.out⟩
  case round =>
    obtain ⟨k, v, hq, rfl, hH, hrow⟩ := hrel
    have hfl : (pre ++ (ps.take k).filter (fun p : Nat × Nat => !(p.1 == key))).length ≤ 5000 + k := by have h1 := hpre'h.out; have h2 : ((ps.take k).filter (fun p : Nat × Nat => !(p.1 == key))).length ≤ k := Nat.le_trans (List.length_filter_le _ _) (by rw [List.length_take]; omega); rw [List.length_append]; omega
    by_cases hlt : k < n
    · have hkl : k < ps.length := by have := hlen'h.out; omega
      obtain ⟨b, off, rfl⟩ := prs_some h'h.out (by omega)
      obtain ⟨d1, d2⟩ := prs_cells (h'h.out.below hH.old) hkl
      have htf := take_filter (p := (fun p : Nat × Nat => !(p.1 == key))) hkl
      rw [nthP_eq hkl] at htf
      have H4 := hH.new #[.int .u64 ((nthP ps k).1 : Int), .int .u64 ((nthP ps k).2 : Int)] 38
      have hw4 : w.heap.size + 3 ≤ wr.heap.size := by have := hH.lt _ (List.mem_cons_self ..); simp only at this; omega
      have hrow4 := ownsRow_next hrow ((Below.refl wr.heap.size wr).alloc (Nat.le_refl _) (.cells #[.int .u64 ((nthP ps k).1 : Int), .int .u64 ((nthP ps k).2 : Int)] 38))
      have hone : ∀ u ∈ ([.int .u64 ((nthP ps k).1 : Int), .int .u64 ((nthP ps k).2 : Int)] : List Value), u.oneCell' = true := by
        intro u hu
        simp at hu
        rcases hu with rfl | rfl <;> rfl
      have hi1 : (k : Int) < (n : Int) := by omega
      have h0k : (0 : Int) ≤ (k : Int) := by omega
      obtain ⟨W4, hW4⟩ : ∃ W4, W4 = wr.alloc (.cells #[.int .u64 ((nthP ps k).1 : Int), .int .u64 ((nthP ps k).2 : Int)] 38) := ⟨_, rfl⟩
      rw [← hW4] at H4 hrow4
      have q0 : W4.cell? ⟨wr.heap.size, 0, none⟩ = some (.int .u64 ((nthP ps k).1 : Int)) := blk_cell H4.rows.1 rfl
      have q1 : W4.cell? ⟨wr.heap.size, 1, none⟩ = some (.int .u64 ((nthP ps k).2 : Int)) := blk_cell H4.rows.1 rfl
      have q2 : W4.cell? ⟨w.heap.size + 2, 0, none⟩ = some v := blk_cell H4.rows.2.1 rfl
      have q2f := blk_free 0 H4.rows.2.1
      by_cases hc : (nthP ps k).1 ≠ key
      · have hF : (!((nthP ps k).1 == key)) = true := by simp [hc]
        have hfact := (show (((nthP ps k).1 : Int) != (key : Int)) = true by simp; omega)
        rw [hF, if_pos rfl] at htf
        have hsn := prs_snocV (pre ++ (ps.take k).filter (fun p : Nat × Nat => !(p.1 == key))) (nthP ps k)
        have htf2 : pre ++ (ps.take (k + 1)).filter (fun p : Nat × Nat => !(p.1 == key)) = (pre ++ (ps.take k).filter (fun p : Nat × Nat => !(p.1 == key))) ++ [nthP ps k] := by rw [htf, List.append_assoc]
        rw [← htf2] at hsn
        have hlen2 : (pre ++ (ps.take (k + 1)).filter (fun p : Nat × Nat => !(p.1 == key))).length = (pre ++ (ps.take k).filter (fun p : Nat × Nat => !(p.1 == key))).length + 1 := by rw [htf2]; simp only [List.length_append, List.length_cons, List.length_nil]
        obtain ⟨F2, hF2⟩ : ∃ F2, F2 = pre ++ (ps.take (k + 1)).filter (fun p : Nat × Nat => !(p.1 == key)) := ⟨_, rfl⟩
        simp only [← hF2] at hsn hlen2
        clear htf htf2 hF
        have hF2'h := Lib.hid hF2
        clear hF2
        generalize pre ++ (ps.take k).filter (fun p : Nat × Nat => !(p.1 == key)) = F1 at *
        generalize (nthP ps k).1 = y0 at *
        generalize (nthP ps k).2 = y1 at *
        clear hc
        have hq'h := Lib.hid hq
        have hH'h := Lib.hid hH
        have hrow'h := Lib.hid hrow
        have H4'h := Lib.hid H4
        have hrow4'h := Lib.hid hrow4
        have hone'h := Lib.hid hone
        have hsn'h := Lib.hid hsn
        have hlen2'h := Lib.hid hlen2
        have hkl'h := Lib.hid hkl
        have hW4'h := Lib.hid hW4
        clear hq hH hrow H4 hrow4 hone hsn hlen2 hkl hW4
        go_upto_region 5 with fail
        rw [← hW4'h.out]
        clear d1 d2
        go_wp2_with (at_builtin; refine wpList_append_slk _ rfl (.tmp 20) (.tmp 22) 24 rfl (w.heap.size + 3) 38 i0 _ 2 16 Try.underlying24 hi hz0 hz1 hz2 rfl (by decide) _ F1.length _ rfl (ownsRow_next hrow4'h.out ((Below.refl _ _).alloc (Nat.le_refl _) _)) (some ⟨W4.heap.size, 0, none⟩) 1 1 _ rfl (SlK.of_blk (k := 2) (n := 1) (World.alloc_heap_new W4 (.cells #[.int .u64 (y0 : Int), .int .u64 (y1 : Int)] 38)) rfl (by decide)) hone'h.out (by unfold maxLen; omega) (by omega) (by rw [World.size_alloc]; have := H4'h.out.old.size; have := H4'h.out.lt _ (List.mem_cons_self ..); simp only at this; omega) ?_; intro v' w9 hown' hgrow hat; obtain ⟨sv, nv, cv, rfl⟩ := row_slice3 hown'; have H9 := (H4'h.out.next ((Below.refl _ _).alloc (Nat.le_refl _) _)).grown' hgrow (fun j hj => by have h1 := hrow'h.out.lt j hj; exact ⟨by omega, apart4 h1.1 h1.2⟩); have q9 : w9.cell? ⟨w.heap.size + 2, 0, none⟩ = some v := blk_cell H9.rows.2.1 rfl; have q9f := blk_free 0 H9.rows.2.1; have H10 := (H9.put 1 rfl 0 (.slice sv nv cv)).tail; have hown10 := ownsRow_setCell_below hown' (a := ⟨w.heap.size + 2, 0, none⟩) (show w.heap.size + 2 < w.heap.size + 3 by omega) (.slice sv nv cv); have H10'h := Lib.hid H10; have hown10'h := Lib.hid hown10; clear H9 H10 hown10 hown' hgrow hat q2 q2f)
        go_roundg (gk - 1)
        case measure => have := hq'h.out; omega
        case rel => exact ⟨k + 1, _, by have := hq'h.out; omega, by go_num, H10'h.out, by rw [← hF2'h.out, hlen2'h.out, ← hsn'h.out]; exact hown10'h.out⟩
      · have hF : (!((nthP ps k).1 == key)) = false := by simp at hc; simp [hc]
        have hfact := (show (((nthP ps k).1 : Int) != (key : Int)) = false by simp; omega)
        rw [hF, if_neg (by decide), List.append_nil] at htf
        obtain ⟨F2, hF2⟩ : ∃ F2, F2 = pre ++ (ps.take (k + 1)).filter (fun p : Nat × Nat => !(p.1 == key)) := ⟨_, rfl⟩
        rw [htf] at hF2
        have hrow5 := hrow4
        rw [← hF2] at hrow5
        have hF3 : F2 = pre ++ (ps.take (k + 1)).filter (fun p : Nat × Nat => !(p.1 == key)) := by rw [htf]; exact hF2
        clear htf hF2 hF
        have hF3'h := Lib.hid hF3
        clear hF3
        generalize (nthP ps k).1 = y0 at *
        generalize (nthP ps k).2 = y1 at *
        clear hc
        have hq'h := Lib.hid hq
        have hH'h := Lib.hid hH
        have hrow'h := Lib.hid hrow
        have H4'h := Lib.hid H4
        have hrow4'h := Lib.hid hrow4
        have hrow5'h := Lib.hid hrow5
        have hone'h := Lib.hid hone
        have hkl'h := Lib.hid hkl
        have hW4'h := Lib.hid hW4
        clear hq hH hrow H4 hrow4 hrow5 hone hkl hW4
        go_upto_region 5 with fail
        rw [← hW4'h.out]
        clear d1 d2
        go_wp2
        go_roundg (gk - 1)
        case measure => have := hq'h.out; omega
        case rel => exact ⟨k + 1, v, by have := hq'h.out; omega, by go_num, H4'h.out.tail, by rw [← hF3'h.out]; exact hrow5'h.out⟩
    · have hkn : k = ps.length := by have := hlen'h.out; omega
      rw [hkn, List.take_length] at hrow
      obtain ⟨sv, cv, rfl⟩ := row_slice' hrow
      have hi1 : ¬ (k : Int) < (n : Int) := by omega
      clear hlt hkn
      have hpre0 := hpre0'h.out
      subst hpre0
      rw [List.nil_append] at hH hrow
      obtain ⟨out, hout⟩ : ∃ out, out = ps.filter (fun p => !(p.1 == key)) := ⟨_, rfl⟩
      rw [← hout] at hH hrow
      have q2 : wr.cell? ⟨w.heap.size + 2, 0, none⟩ = some (.slice sv out.length cv) := blk_cell hH.rows.1 rfl
      have q1 : wr.cell? ⟨w.heap.size + 1, 0, none⟩ = some (.slice none 0 0) := blk_cell hH.rows.2.1 rfl
      have q1f := blk_free 0 hH.rows.2.1
      have H9 := hH.put 1 rfl 0 (.slice sv out.length cv)
      have hrow9 := ownsRow_setCell_below hrow (a := ⟨w.heap.size + 1, 0, none⟩) (show w.heap.size + 1 < w.heap.size + 3 by omega) (.slice sv out.length cv)
      have hq'h := Lib.hid hq
      have hH'h := Lib.hid hH
      have hrow'h := Lib.hid hrow
      have H9'h := Lib.hid H9
      have hrow9'h := Lib.hid hrow9
      have hout'h := Lib.hid hout
      clear hq hH hrow H9 hrow9 hout
      go_wp2
      have e1 : (wr.setCell ⟨w.heap.size + 1, 0, none⟩ (.slice sv out.length cv)).cell? ⟨w.heap.size + 1, 0, none⟩ = some (.slice sv out.length cv) := blk_cell (i := 0) H9'h.out.rows.2.1 rfl
      generalize World.setCell _ _ _ = W9 at H9'h hrow9'h e1 ⊢
      refine bodyPost_ret (v := .agg #[.slice sv out.length cv]) ?_ rfl ⟨sv, out.length, cv, rfl, H9'h.out.old, by rw [← hout'h.out]; exact ownsRow_mono hrow9'h.out (show w.heap.size ≤ w.heap.size + 3 by omega)⟩
      simp [results, Try.results63, go_sem, e1]
set_option maxHeartbeats 4000000 in
theorem rWith_any (sp : Option Addr) (n cap : Nat) (ps : Ps) (key val : Nat) (w : World) (h : SlK w 2 sp n (prs ps)) (hup : upB ps = true) (hn : n ≤ 4096) :
    Calls Try.prog 62 #[.agg #[.slice sp n cap], .int .u64 key, .int .u64 val] w fun e w' => ∃ sp' n' cap', e = .returned (.agg #[.slice sp' n' cap']) ∧ Below w.heap.size w w' ∧ w'.ownsRow w.heap.size 38 2 (.slice sp' n' cap') (insP ps key val).length (prs (insP ps key val)) := by
  obtain ⟨i0, hi, hz0, hz1, hz2⟩ := info_parts info_pair
  have hlen := prs_len h
  have H0 := (((Hs.nil w).new #[.slice sp n cap] 31).new #[.slice none 0 0] 31).new #[.slice none 0 0] 31
  obtain ⟨W0, hW0⟩ : ∃ W0, W0 = ((w.alloc (.cells #[.slice sp n cap] 31)).alloc (.cells #[.slice none 0 0] 31)).alloc (.cells #[.slice none 0 0] 31) := ⟨_, rfl⟩
  rw [← hW0] at H0
  simp only [World.size_alloc, Nat.add_assoc, Nat.reduceAdd] at H0
  have q0 : W0.cell? ⟨w.heap.size, 0, none⟩ = some (.slice sp n cap) := blk_cell H0.rows.2.2.1 rfl
  obtain ⟨pre, hpre0⟩ : ∃ pre : Ps, pre = [] := ⟨_, rfl⟩
  have hpre : pre.length ≤ 5000 := by rw [hpre0]; simp
  have hR0 : W0.ownsRow (w.heap.size + 3) 38 2 (.slice none 0 0) pre.length (prs pre) := by rw [hpre0]; exact World.ownsRow_nil _ _ _ _
  have H0'h := Lib.hid H0
  have h'h := Lib.hid h
  have hlen'h := Lib.hid hlen
  have hup'h := Lib.hid hup
  have hpre0'h := Lib.hid hpre0
  have hpre'h := Lib.hid hpre
  have hR0'h := Lib.hid hR0
  clear H0 h hlen hup hpre0 hpre hR0
  go_enter Try.func62, Try.ntmps62
  go_upto_region 2 with fail
  simp only [Nat.add_assoc, Nat.reduceAdd]
  rw [← hW0]
  clear hW0
  go_wp2
  clear q0
  go_loopg [15] n (fun q i wr => ∃ (k : Nat) (v : Value), k + q = n ∧ i = .int .i64 k ∧ Hs w [(w.heap.size + 2, #[v], 31), (w.heap.size + 1, #[.slice none 0 0], 31), (w.heap.size, #[.slice sp n cap], 31)] wr ∧ wr.ownsRow (w.heap.size + 3) 38 2 v (pre ++ (ps.take k).filter (fun p : Nat × Nat => decide (p.1 < key))).length (prs (pre ++ (ps.take k).filter (fun p : Nat × Nat => decide (p.1 < key)))))
  case atStart => exact ⟨0, _, by omega, rfl, H0'h.out, by rw [List.take_zero, List.filter_nil, List.append_nil]; exact hR0'h.out⟩
  case round =>
    obtain ⟨k, v, hq, rfl, hH, hrow⟩ := hrel
    have hfl : (pre ++ (ps.take k).filter (fun p : Nat × Nat => decide (p.1 < key))).length ≤ 5000 + k := by have h1 := hpre'h.out; have h2 : ((ps.take k).filter (fun p : Nat × Nat => decide (p.1 < key))).length ≤ k := Nat.le_trans (List.length_filter_le _ _) (by rw [List.length_take]; omega); rw [List.length_append]; omega
    by_cases hlt : k < n
    · have hkl : k < ps.length := by have := hlen'h.out; omega
      obtain ⟨b, off, rfl⟩ := prs_some h'h.out (by omega)
      obtain ⟨d1, d2⟩ := prs_cells (h'h.out.below hH.old) hkl
      have htf := take_filter (p := (fun p : Nat × Nat => decide (p.1 < key))) hkl
      rw [nthP_eq hkl] at htf
      have H4 := hH.new #[.int .u64 ((nthP ps k).1 : Int), .int .u64 ((nthP ps k).2 : Int)] 38
      have hw4 : w.heap.size + 3 ≤ wr.heap.size := by have := hH.lt _ (List.mem_cons_self ..); simp only at this; omega
      have hrow4 := ownsRow_next hrow ((Below.refl wr.heap.size wr).alloc (Nat.le_refl _) (.cells #[.int .u64 ((nthP ps k).1 : Int), .int .u64 ((nthP ps k).2 : Int)] 38))
      have hone : ∀ u ∈ ([.int .u64 ((nthP ps k).1 : Int), .int .u64 ((nthP ps k).2 : Int)] : List Value), u.oneCell' = true := by
        intro u hu
        simp at hu
        rcases hu with rfl | rfl <;> rfl
      have hi1 : (k : Int) < (n : Int) := by omega
      have h0k : (0 : Int) ≤ (k : Int) := by omega
      obtain ⟨W4, hW4⟩ : ∃ W4, W4 = wr.alloc (.cells #[.int .u64 ((nthP ps k).1 : Int), .int .u64 ((nthP ps k).2 : Int)] 38) := ⟨_, rfl⟩
      rw [← hW4] at H4 hrow4
      have q0 : W4.cell? ⟨wr.heap.size, 0, none⟩ = some (.int .u64 ((nthP ps k).1 : Int)) := blk_cell H4.rows.1 rfl
      have q1 : W4.cell? ⟨wr.heap.size, 1, none⟩ = some (.int .u64 ((nthP ps k).2 : Int)) := blk_cell H4.rows.1 rfl
      have q2 : W4.cell? ⟨w.heap.size + 2, 0, none⟩ = some v := blk_cell H4.rows.2.1 rfl
      have q2f := blk_free 0 H4.rows.2.1
      by_cases hc : (nthP ps k).1 < key
      · have hF : (decide ((nthP ps k).1 < key)) = true := by simp [hc]
        have hfact := (show ((nthP ps k).1 : Int) < (key : Int) by omega)
        rw [hF, if_pos rfl] at htf
        have hsn := prs_snocV (pre ++ (ps.take k).filter (fun p : Nat × Nat => decide (p.1 < key))) (nthP ps k)
        have htf2 : pre ++ (ps.take (k + 1)).filter (fun p : Nat × Nat => decide (p.1 < key)) = (pre ++ (ps.take k).filter (fun p : Nat × Nat => decide (p.1 < key))) ++ [nthP ps k] := by rw [htf, List.append_assoc]
        rw [← htf2] at hsn
        have hlen2 : (pre ++ (ps.take (k + 1)).filter (fun p : Nat × Nat => decide (p.1 < key))).length = (pre ++ (ps.take k).filter (fun p : Nat × Nat => decide (p.1 < key))).length + 1 := by rw [htf2]; simp only [List.length_append, List.length_cons, List.length_nil]
        obtain ⟨F2, hF2⟩ : ∃ F2, F2 = pre ++ (ps.take (k + 1)).filter (fun p : Nat × Nat => decide (p.1 < key)) := ⟨_, rfl⟩
        simp only [← hF2] at hsn hlen2
        clear htf htf2 hF
        have hF2'h := Lib.hid hF2
        clear hF2
        generalize pre ++ (ps.take k).filter (fun p : Nat × Nat => decide (p.1 < key)) = F1 at *
        generalize (nthP ps k).1 = y0 at *
        generalize (nthP ps k).2 = y1 at *
        clear hc
        have hq'h := Lib.hid hq
        have hH'h := Lib.hid hH
        have hrow'h := Lib.hid hrow
        have H4'h := Lib.hid H4
        have hrow4'h := Lib.hid hrow4
        have hone'h := Lib.hid hone
        have hsn'h := Lib.hid hsn
        have hlen2'h := Lib.hid hlen2
        have hkl'h := Lib.hid hkl
        have hW4'h := Lib.hid hW4
        clear hq hH hrow H4 hrow4 hone hsn hlen2 hkl hW4
        go_upto_region 5 with fail
        rw [← hW4'h.out]
        clear d1 d2
        go_wp2_with (at_builtin; refine wpList_append_slk _ rfl (.tmp 24) (.tmp 26) 24 rfl (w.heap.size + 3) 38 i0 _ 2 16 Try.underlying24 hi hz0 hz1 hz2 rfl (by decide) _ F1.length _ rfl (ownsRow_next hrow4'h.out ((Below.refl _ _).alloc (Nat.le_refl _) _)) (some ⟨W4.heap.size, 0, none⟩) 1 1 _ rfl (SlK.of_blk (k := 2) (n := 1) (World.alloc_heap_new W4 (.cells #[.int .u64 (y0 : Int), .int .u64 (y1 : Int)] 38)) rfl (by decide)) hone'h.out (by unfold maxLen; omega) (by omega) (by rw [World.size_alloc]; have := H4'h.out.old.size; have := H4'h.out.lt _ (List.mem_cons_self ..); simp only at this; omega) ?_; intro v' w9 hown' hgrow hat; obtain ⟨sv, nv, cv, rfl⟩ := row_slice3 hown'; have H9 := (H4'h.out.next ((Below.refl _ _).alloc (Nat.le_refl _) _)).grown' hgrow (fun j hj => by have h1 := hrow'h.out.lt j hj; exact ⟨by omega, apart4 h1.1 h1.2⟩); have q9 : w9.cell? ⟨w.heap.size + 2, 0, none⟩ = some v := blk_cell H9.rows.2.1 rfl; have q9f := blk_free 0 H9.rows.2.1; have H10 := (H9.put 1 rfl 0 (.slice sv nv cv)).tail; have hown10 := ownsRow_setCell_below hown' (a := ⟨w.heap.size + 2, 0, none⟩) (show w.heap.size + 2 < w.heap.size + 3 by omega) (.slice sv nv cv); have H10'h := Lib.hid H10; have hown10'h := Lib.hid hown10; clear H9 H10 hown10 hown' hgrow hat q2 q2f)
        go_roundg (gk - 1)
        case measure => have := hq'h.out; omega
        case rel => exact ⟨k + 1, _, by have := hq'h.out; omega, by go_num, H10'h.out, by rw [← hF2'h.out, hlen2'h.out, ← hsn'h.out]; exact hown10'h.out⟩
      · have hF : (decide ((nthP ps k).1 < key)) = false := by simp [hc]
        have hfact := (show ¬ ((nthP ps k).1 : Int) < (key : Int) by omega)
        rw [hF, if_neg (by decide), List.append_nil] at htf
        obtain ⟨F2, hF2⟩ : ∃ F2, F2 = pre ++ (ps.take (k + 1)).filter (fun p : Nat × Nat => decide (p.1 < key)) := ⟨_, rfl⟩
        rw [htf] at hF2
        have hrow5 := hrow4
        rw [← hF2] at hrow5
        have hF3 : F2 = pre ++ (ps.take (k + 1)).filter (fun p : Nat × Nat => decide (p.1 < key)) := by rw [htf]; exact hF2
        clear htf hF2 hF
        have hF3'h := Lib.hid hF3
        clear hF3
        generalize (nthP ps k).1 = y0 at *
        generalize (nthP ps k).2 = y1 at *
        clear hc
        have hq'h := Lib.hid hq
        have hH'h := Lib.hid hH
        have hrow'h := Lib.hid hrow
        have H4'h := Lib.hid H4
        have hrow4'h := Lib.hid hrow4
        have hrow5'h := Lib.hid hrow5
        have hone'h := Lib.hid hone
        have hkl'h := Lib.hid hkl
        have hW4'h := Lib.hid hW4
        clear hq hH hrow H4 hrow4 hrow5 hone hkl hW4
        go_upto_region 5 with fail
        rw [← hW4'h.out]
        clear d1 d2
        go_wp2
        go_roundg (gk - 1)
        case measure => have := hq'h.out; omega
        case rel => exact ⟨k + 1, v, by have := hq'h.out; omega, by go_num, H4'h.out.tail, by rw [← hF3'h.out]; exact hrow5'h.out⟩
    · have hkn : k = ps.length := by have := hlen'h.out; omega
      rw [hkn, List.take_length] at hrow
      obtain ⟨sv, cv, rfl⟩ := row_slice' hrow
      have hi1 : ¬ (k : Int) < (n : Int) := by omega
      clear hlt hkn
      have hpre0 := hpre0'h.out
      subst hpre0
      rw [List.nil_append] at hH hrow
      have hole : (ps.filter (fun p => decide (p.1 < key))).length ≤ 4100 := Nat.le_trans (List.length_filter_le _ _) (show ps.length ≤ 4100 by have := hlen'h.out; omega)
      obtain ⟨out, hout⟩ : ∃ out, out = ps.filter (fun p => decide (p.1 < key)) := ⟨_, rfl⟩
      rw [← hout] at hH hrow hole
      have q2 : wr.cell? ⟨w.heap.size + 2, 0, none⟩ = some (.slice sv out.length cv) := blk_cell hH.rows.1 rfl
      have hone : ∀ u ∈ ([.int .u64 (key : Int), .int .u64 (val : Int)] : List Value), u.oneCell' = true := by
        intro u hu
        simp at hu
        rcases hu with rfl | rfl <;> rfl
      have hq'h := Lib.hid hq
      have hH'h := Lib.hid hH
      have hrow'h := Lib.hid hrow
      have hone'h := Lib.hid hone
      have hout'h := Lib.hid hout
      clear hq hH hrow hone hout
      clear hpre'h hpre0'h hR0'h hfl
      have q2f := blk_free 0 hH'h.out.rows.1
      have hwr3 : w.heap.size + 3 ≤ wr.heap.size := by have := hH'h.out.lt _ (List.mem_cons_self ..); simp only at this; omega
      go_upto_region 9 with (at_builtin; refine wpList_append_slk _ rfl (.tmp 31) (.tmp 35) 24 rfl (w.heap.size + 3) 38 i0 _ 2 16 Try.underlying24 hi hz0 hz1 hz2 rfl (by decide) _ out.length _ rfl (ownsRow_next hrow'h.out ((Below.refl _ _).alloc (Nat.le_refl _) _)) (some ⟨wr.heap.size, 0, none⟩) 1 1 _ rfl (SlK.of_blk (k := 2) (n := 1) (World.alloc_heap_new wr (.cells #[.int .u64 (key : Int), .int .u64 (val : Int)] 38)) rfl (by decide)) hone'h.out (by unfold maxLen; omega) (by omega) (by rw [World.size_alloc]; omega) ?_; intro v' w9 hown' hgrow hat; obtain ⟨sv, nv, cv, rfl⟩ := row_slice3 hown'; have H9 := (hH'h.out.next ((Below.refl _ _).alloc (Nat.le_refl _) _)).grown' hgrow (fun j hj => by have h1 := hrow'h.out.lt j hj; exact ⟨by omega, apart3 (p := 0) h1.1⟩); have q9 : w9.cell? ⟨w.heap.size + 2, 0, none⟩ = some _ := blk_cell H9.rows.1 rfl; have q9f := blk_free 0 H9.rows.1; have H10 := H9.put 0 rfl 0 (.slice sv nv cv); have hown10 := ownsRow_setCell_below hown' (a := ⟨w.heap.size + 2, 0, none⟩) (show w.heap.size + 2 < w.heap.size + 3 by omega) (.slice sv nv cv); have H10'h := Lib.hid H10; have hown10'h := Lib.hid hown10; clear H9 H10 hown10 hown' hgrow hat q2 q2f)
      generalize World.setCell _ _ _ = W10 at H10'h hown10'h ⊢
      clear q9 q9f
      rw [prs_snocV out (key, val)] at hown10'h
      have hpl : out.length + 1 = (out ++ [(key, val)]).length := by simp only [List.length_append, List.length_cons, List.length_nil]
      rw [hpl] at hown10'h
      have hpre : (out ++ [(key, val)]).length ≤ 5000 := by rw [← hpl]; omega
      obtain ⟨pre, hpr⟩ : ∃ pre, pre = out ++ [(key, val)] := ⟨_, rfl⟩
      rw [← hpr] at hown10'h hpre
      have hpre'h := Lib.hid hpre
      have hpr'h := Lib.hid hpr
      clear hpre hpr
      have p0 : W10.cell? ⟨w.heap.size, 0, none⟩ = some (.slice sp n cap) := blk_cell H10'h.out.rows.2.2.1 rfl
      go_wp2
      clear p0 hole hi1 hwr3 hq'h hH'h hrow'h hone'h
      have H10 := H10'h.out
      change Hs w [(w.heap.size + 2, #[.slice sv nv cv], 31), (w.heap.size + 1, #[.slice none 0 0], 31), (w.heap.size, #[.slice sp n cap], 31)] W10 at H10
      clear H10'h
      have H10'h := Lib.hid H10
      clear H10
      go_loopg [41] n (fun q i wr => ∃ (k : Nat) (v : Value), k + q = n ∧ i = .int .i64 k ∧ Hs w [(w.heap.size + 2, #[v], 31), (w.heap.size + 1, #[.slice none 0 0], 31), (w.heap.size, #[.slice sp n cap], 31)] wr ∧ wr.ownsRow (w.heap.size + 3) 38 2 v (pre ++ (ps.take k).filter (fun p : Nat × Nat => decide (key < p.1))).length (prs (pre ++ (ps.take k).filter (fun p : Nat × Nat => decide (key < p.1)))))
      case atStart => exact ⟨0, _, by omega, rfl, H10'h.out, by rw [List.take_zero, List.filter_nil, List.append_nil]; exact hown10'h.out⟩
      case round =>
        obtain ⟨k, v, hq, rfl, hH, hrow⟩ := hrel
        have hfl : (pre ++ (ps.take k).filter (fun p : Nat × Nat => decide (key < p.1))).length ≤ 5000 + k := by have h1 := hpre'h.out; have h2 : ((ps.take k).filter (fun p : Nat × Nat => decide (key < p.1))).length ≤ k := Nat.le_trans (List.length_filter_le _ _) (by rw [List.length_take]; omega); rw [List.length_append]; omega
        by_cases hlt : k < n
        · have hkl : k < ps.length := by have := hlen'h.out; omega
          obtain ⟨b, off, rfl⟩ := prs_some h'h.out (by omega)
          obtain ⟨d1, d2⟩ := prs_cells (h'h.out.below hH.old) hkl
          have htf := take_filter (p := (fun p : Nat × Nat => decide (key < p.1))) hkl
          rw [nthP_eq hkl] at htf
          have H4 := hH.new #[.int .u64 ((nthP ps k).1 : Int), .int .u64 ((nthP ps k).2 : Int)] 38
          have hw4 : w.heap.size + 3 ≤ wr.heap.size := by have := hH.lt _ (List.mem_cons_self ..); simp only at this; omega
          have hrow4 := ownsRow_next hrow ((Below.refl wr.heap.size wr).alloc (Nat.le_refl _) (.cells #[.int .u64 ((nthP ps k).1 : Int), .int .u64 ((nthP ps k).2 : Int)] 38))
          have hone : ∀ u ∈ ([.int .u64 ((nthP ps k).1 : Int), .int .u64 ((nthP ps k).2 : Int)] : List Value), u.oneCell' = true := by
            intro u hu
            simp at hu
            rcases hu with rfl | rfl <;> rfl
          have hi1 : (k : Int) < (n : Int) := by omega
          have h0k : (0 : Int) ≤ (k : Int) := by omega
          obtain ⟨W4, hW4⟩ : ∃ W4, W4 = wr.alloc (.cells #[.int .u64 ((nthP ps k).1 : Int), .int .u64 ((nthP ps k).2 : Int)] 38) := ⟨_, rfl⟩
          rw [← hW4] at H4 hrow4
          have q0 : W4.cell? ⟨wr.heap.size, 0, none⟩ = some (.int .u64 ((nthP ps k).1 : Int)) := blk_cell H4.rows.1 rfl
          have q1 : W4.cell? ⟨wr.heap.size, 1, none⟩ = some (.int .u64 ((nthP ps k).2 : Int)) := blk_cell H4.rows.1 rfl
          have q2 : W4.cell? ⟨w.heap.size + 2, 0, none⟩ = some v := blk_cell H4.rows.2.1 rfl
          have q2f := blk_free 0 H4.rows.2.1
          by_cases hc : key < (nthP ps k).1
          · have hF : (decide (key < (nthP ps k).1)) = true := by simp [hc]
            have hfact := (show (key : Int) < ((nthP ps k).1 : Int) by omega)
            rw [hF, if_pos rfl] at htf
            have hsn := prs_snocV (pre ++ (ps.take k).filter (fun p : Nat × Nat => decide (key < p.1))) (nthP ps k)
            have htf2 : pre ++ (ps.take (k + 1)).filter (fun p : Nat × Nat => decide (key < p.1)) = (pre ++ (ps.take k).filter (fun p : Nat × Nat => decide (key < p.1))) ++ [nthP ps k] := by rw [htf, List.append_assoc]
            rw [← htf2] at hsn
            have hlen2 : (pre ++ (ps.take (k + 1)).filter (fun p : Nat × Nat => decide (key < p.1))).length = (pre ++ (ps.take k).filter (fun p : Nat × Nat => decide (key < p.1))).length + 1 := by rw [htf2]; simp only [List.length_append, List.length_cons, List.length_nil]
            obtain ⟨F2, hF2⟩ : ∃ F2, F2 = pre ++ (ps.take (k + 1)).filter (fun p : Nat × Nat => decide (key < p.1)) := ⟨_, rfl⟩
            simp only [← hF2] at hsn hlen2
            clear htf htf2 hF
            have hF2'h := Lib.hid hF2
            clear hF2
            generalize pre ++ (ps.take k).filter (fun p : Nat × Nat => decide (key < p.1)) = F1 at *
            generalize (nthP ps k).1 = y0 at *
            generalize (nthP ps k).2 = y1 at *
            clear hc
            have hq'h := Lib.hid hq
            have hH'h := Lib.hid hH
            have hrow'h := Lib.hid hrow
            have H4'h := Lib.hid H4
            have hrow4'h := Lib.hid hrow4
            have hone'h := Lib.hid hone
            have hsn'h := Lib.hid hsn
            have hlen2'h := Lib.hid hlen2
            have hkl'h := Lib.hid hkl
            have hW4'h := Lib.hid hW4
            clear hq hH hrow H4 hrow4 hone hsn hlen2 hkl hW4
            go_upto_region 12 with fail
            rw [← hW4'h.out]
            clear d1 d2
            go_wp2_with (at_builtin; refine wpList_append_slk _ rfl (.tmp 50) (.tmp 52) 24 rfl (w.heap.size + 3) 38 i0 _ 2 16 Try.underlying24 hi hz0 hz1 hz2 rfl (by decide) _ F1.length _ rfl (ownsRow_next hrow4'h.out ((Below.refl _ _).alloc (Nat.le_refl _) _)) (some ⟨W4.heap.size, 0, none⟩) 1 1 _ rfl (SlK.of_blk (k := 2) (n := 1) (World.alloc_heap_new W4 (.cells #[.int .u64 (y0 : Int), .int .u64 (y1 : Int)] 38)) rfl (by decide)) hone'h.out (by unfold maxLen; omega) (by omega) (by rw [World.size_alloc]; have := H4'h.out.old.size; have := H4'h.out.lt _ (List.mem_cons_self ..); simp only at this; omega) ?_; intro v' w9 hown' hgrow hat; obtain ⟨sv, nv, cv, rfl⟩ := row_slice3 hown'; have H9 := (H4'h.out.next ((Below.refl _ _).alloc (Nat.le_refl _) _)).grown' hgrow (fun j hj => by have h1 := hrow'h.out.lt j hj; exact ⟨by omega, apart4 h1.1 h1.2⟩); have q9 : w9.cell? ⟨w.heap.size + 2, 0, none⟩ = some v := blk_cell H9.rows.2.1 rfl; have q9f := blk_free 0 H9.rows.2.1; have H10 := (H9.put 1 rfl 0 (.slice sv nv cv)).tail; have hown10 := ownsRow_setCell_below hown' (a := ⟨w.heap.size + 2, 0, none⟩) (show w.heap.size + 2 < w.heap.size + 3 by omega) (.slice sv nv cv); have H10'h := Lib.hid H10; have hown10'h := Lib.hid hown10; clear H9 H10 hown10 hown' hgrow hat q2 q2f)
            go_roundg (gk - 1)
            case measure => have := hq'h.out; omega
            case rel => exact ⟨k + 1, _, by have := hq'h.out; omega, by go_num, H10'h.out, by rw [← hF2'h.out, hlen2'h.out, ← hsn'h.out]; exact hown10'h.out⟩
          · have hF : (decide (key < (nthP ps k).1)) = false := by simp [hc]
            have hfact := (show ¬ (key : Int) < ((nthP ps k).1 : Int) by omega)
            rw [hF, if_neg (by decide), List.append_nil] at htf
            obtain ⟨F2, hF2⟩ : ∃ F2, F2 = pre ++ (ps.take (k + 1)).filter (fun p : Nat × Nat => decide (key < p.1)) := ⟨_, rfl⟩
            rw [htf] at hF2
            have hrow5 := hrow4
            rw [← hF2] at hrow5
            have hF3 : F2 = pre ++ (ps.take (k + 1)).filter (fun p : Nat × Nat => decide (key < p.1)) := by rw [htf]; exact hF2
            clear htf hF2 hF
            have hF3'h := Lib.hid hF3
            clear hF3
            generalize (nthP ps k).1 = y0 at *
            generalize (nthP ps k).2 = y1 at *
            clear hc
            have hq'h := Lib.hid hq
            have hH'h := Lib.hid hH
            have hrow'h := Lib.hid hrow
            have H4'h := Lib.hid H4
            have hrow4'h := Lib.hid hrow4
            have hrow5'h := Lib.hid hrow5
            have hone'h := Lib.hid hone
            have hkl'h := Lib.hid hkl
            have hW4'h := Lib.hid hW4
            clear hq hH hrow H4 hrow4 hrow5 hone hkl hW4
            go_upto_region 12 with fail
            rw [← hW4'h.out]
            clear d1 d2
            go_wp2
            go_roundg (gk - 1)
            case measure => have := hq'h.out; omega
            case rel => exact ⟨k + 1, v, by have := hq'h.out; omega, by go_num, H4'h.out.tail, by rw [← hF3'h.out]; exact hrow5'h.out⟩
        · have hkn : k = ps.length := by have := hlen'h.out; omega
          rw [hkn, List.take_length] at hrow
          obtain ⟨sv, cv, rfl⟩ := row_slice' hrow
          have hi1 : ¬ (k : Int) < (n : Int) := by omega
          clear hlt hkn
          obtain ⟨res, hres⟩ : ∃ res, res = pre ++ ps.filter (fun p => decide (key < p.1)) := ⟨_, rfl⟩
          rw [← hres] at hH hrow
          have hfin : res = insP ps key val := by rw [ins_filter hup'h.out, hres, hpr'h.out, hout'h.out]
          clear hres
          have q2 : wr.cell? ⟨w.heap.size + 2, 0, none⟩ = some (.slice sv res.length cv) := blk_cell hH.rows.1 rfl
          have q1 : wr.cell? ⟨w.heap.size + 1, 0, none⟩ = some (.slice none 0 0) := blk_cell hH.rows.2.1 rfl
          have q1f := blk_free 0 hH.rows.2.1
          have H9 := hH.put 1 rfl 0 (.slice sv res.length cv)
          have hrow9 := ownsRow_setCell_below hrow (a := ⟨w.heap.size + 1, 0, none⟩) (show w.heap.size + 1 < w.heap.size + 3 by omega) (.slice sv res.length cv)
          have hq'h := Lib.hid hq
          have hH'h := Lib.hid hH
          have hrow'h := Lib.hid hrow
          have H9'h := Lib.hid H9
          have hrow9'h := Lib.hid hrow9
          have hfin'h := Lib.hid hfin
          clear hq hH hrow H9 hrow9 hfin
          go_wp2
          have e1 : (wr.setCell ⟨w.heap.size + 1, 0, none⟩ (.slice sv res.length cv)).cell? ⟨w.heap.size + 1, 0, none⟩ = some (.slice sv res.length cv) := blk_cell (i := 0) H9'h.out.rows.2.1 rfl
          generalize World.setCell _ _ _ = W9 at H9'h hrow9'h e1 ⊢
          refine bodyPost_ret (v := .agg #[.slice sv res.length cv]) ?_ rfl ⟨sv, res.length, cv, rfl, H9'h.out.old, by rw [← hfin'h.out]; exact ownsRow_mono hrow9'h.out (show w.heap.size ≤ w.heap.size + 3 by omega)⟩
          simp [results, Try.results62, go_sem, e1]
end Go.Proofs.Ythfeiiibedmkiaa

/-
  The document's lines: behind.
-/
set_option linter.unusedSimpArgs false
set_option linter.unusedVariables false
set_option maxRecDepth 100000
namespace Go.Proofs.Ythfeiiibedmkiaa
open Go.RowKit

def MapRes (w : World) (ps : Ps) (b : Bool) (e : Ending) (w' : World) : Prop :=
  ∃ sp n cap, e = .returned (.tuple #[.agg #[.slice sp n cap], .bool b]) ∧ Below w.heap.size w w' ∧ w'.ownsRow w.heap.size 38 2 (.slice sp n cap) ps.length (prs ps)
set_option maxHeartbeats 1000000 in
theorem behind_put (sp : Option Addr) (n cap : Nat) (ps : Ps) (c : Ch) (w : World) (h : SlK w 2 sp n (prs ps)) (hup : upB ps = true) (hn : n ≤ 4096) (hc : c.has = true) :
    Calls Try.prog 41 #[.agg #[.slice sp n cap], .agg (chA c)] w (MapRes w (behP ps c) (okC ps c)) := by
  have hb : behP ps c = insP ps c.key c.val := by unfold behP; rw [if_pos hc]
  have ho : okC ps c = (!(hasP ps c.key) || !decide ((getS ps c.key).getD 0 = c.val)) := by
    unfold okC hasP; rw [if_pos hc]
    cases getS ps c.key <;> simp
  rw [hb, ho]
  clear hb ho
  unfold chA
  rw [hc]
  have H0 := (((Hs.nil w).new #[.slice sp n cap] 31).new #[.int .i64 c.stp, .int .u64 (c.key : Int), .bool true, .int .u64 (c.val : Int)] 46).new #[.slice none 0 0] 31
  simp only [World.size_alloc, Nat.add_assoc, Nat.reduceAdd] at H0
  obtain ⟨W0, hW0⟩ : ∃ W0, W0 = ((w.alloc (.cells #[.slice sp n cap] 31)).alloc (.cells #[.int .i64 c.stp, .int .u64 (c.key : Int), .bool true, .int .u64 (c.val : Int)] 46)).alloc (.cells #[.slice none 0 0] 31) := ⟨_, rfl⟩
  rw [← hW0] at H0
  have G := fun W hW => rget_any sp n cap ps c.key W hW
  rw [findP_up hup] at G
  have hh : (getS ps c.key).isSome = hasP ps c.key := rfl
  rw [hh] at G
  have q0 : W0.cell? ⟨w.heap.size, 0, none⟩ = some (.slice sp n cap) := blk_cell H0.rows.2.2.1 rfl
  have q1 : W0.cell? ⟨w.heap.size + 1, 1, none⟩ = some (.int .u64 (c.key : Int)) := blk_cell H0.rows.2.1 rfl
  have q2 : W0.cell? ⟨w.heap.size + 1, 2, none⟩ = some (.bool true) := blk_cell H0.rows.2.1 rfl
  have WI := fun W hW => rWith_any sp n cap ps c.key c.val W hW hup hn
  generalize insP ps c.key c.val = res at *
  generalize (getS ps c.key).getD 0 = gv at *
  clear hh hc
  obtain ⟨r, hr⟩ : ∃ r, r = (!(hasP ps c.key) || !decide (gv = c.val)) := ⟨_, rfl⟩
  rw [← hr]
  generalize hasP ps c.key = has at *
  have H0'h := Lib.hid H0
  have G'h := Lib.hid G
  have WI'h := Lib.hid WI
  have h'h := Lib.hid h
  have hup'h := Lib.hid hup
  have hr'h := Lib.hid hr
  clear H0 G WI h hup hr
  go_enter Try.func41, Try.ntmps41
  go_upto_region 1 with fail
  simp only [Nat.add_assoc, Nat.reduceAdd]
  rw [← hW0]
  clear hW0
  go_upto_region 2 with (first | (go_at_call 61; refine (G'h.out _ (h'h.out.below H0'h.out.old)).mono ?_; rintro e w2 ⟨rfl, hb2⟩))
  have H2 := H0'h.out.next hb2
  clear q0 q1 q2
  have q2 : w2.cell? ⟨w.heap.size + 1, 2, none⟩ = some (.bool true) := blk_cell H2.rows.2.1 rfl
  have H2'h := Lib.hid H2
  have hb2'h := Lib.hid hb2
  clear H2 hb2
  go_upto_region 3 with fail
  have H3 := H2'h.out.drew
  refine wp_region_heldQ (fun w' => w'.cell? ⟨w.heap.size, 0, none⟩ = some (.slice sp n cap) ∧ w'.cell? ⟨w.heap.size + 1, 1, none⟩ = some (.int .u64 (c.key : Int)) ∧ w'.cell? ⟨w.heap.size + 1, 3, none⟩ = some (.int .u64 (c.val : Int))) 99 (by kernel_rfl) ?_
  have hq : ∀ W (v : Value), Hs w [(w.heap.size + 2, #[v], 31), (w.heap.size + 1, #[.int .i64 c.stp, .int .u64 (c.key : Int), .bool true, .int .u64 (c.val : Int)], 46), (w.heap.size, #[.slice sp n cap], 31)] W → W.cell? ⟨w.heap.size, 0, none⟩ = some (.slice sp n cap) ∧ W.cell? ⟨w.heap.size + 1, 1, none⟩ = some (.int .u64 (c.key : Int)) ∧ W.cell? ⟨w.heap.size + 1, 3, none⟩ = some (.int .u64 (c.val : Int)) := fun W v H => ⟨blk_cell H.rows.2.2.1 rfl, blk_cell H.rows.2.1 rfl, blk_cell H.rows.2.1 rfl⟩
  have k1 := hq _ _ H3
  have hS3 := h'h.out.below H3.old
  clear q2
  generalize w2.drew = W3 at H3 k1 hS3 ⊢
  refine wpAnyF_take (i := 0) (v := .agg #[.slice sp n cap]) rfl (by kernel_rfl) (by kernel_rfl) (by kernel_rfl) (by kernel_rfl) (fun _ _ _ h => h) (Or.inl ⟨by kernel_rfl, fun w hSw => by (try dsimp only at hSw); go_simp⟩) k1 ?_; try simp only [Act.put, List.getElem_toArray, List.getElem_cons_succ, List.getElem_cons_zero, List.setIfInBounds_toArray, List.set_cons_zero, List.set_cons_succ]
  refine wpAnyF_take (i := 1) (v := .pointer (some ⟨w.heap.size + 1, 1, none⟩)) rfl (by kernel_rfl) (by kernel_rfl) (by kernel_rfl) (by kernel_rfl) (fun _ _ _ h => h) (Or.inl ⟨by kernel_rfl, fun w hSw => by (try dsimp only at hSw); go_simp⟩) k1 ?_; try simp only [Act.put, List.getElem_toArray, List.getElem_cons_succ, List.getElem_cons_zero, List.setIfInBounds_toArray, List.set_cons_zero, List.set_cons_succ]
  refine wpAnyF_take (i := 2) (v := .int .u64 (c.key : Int)) rfl (by kernel_rfl) (by kernel_rfl) (by kernel_rfl) (by kernel_rfl) (fun _ _ _ h => h) (Or.inl ⟨by kernel_rfl, fun w hSw => by have hcc := hSw.2.1; (try dsimp only at hSw); go_simp⟩) k1 ?_; try simp only [Act.put, List.getElem_toArray, List.getElem_cons_succ, List.getElem_cons_zero, List.setIfInBounds_toArray, List.set_cons_zero, List.set_cons_succ]
  refine wpAnyF_take (i := 3) (v := .pointer (some ⟨w.heap.size + 1, 3, none⟩)) rfl (by kernel_rfl) (by kernel_rfl) (by kernel_rfl) (by kernel_rfl) (fun _ _ _ h => h) (Or.inl ⟨by kernel_rfl, fun w hSw => by (try dsimp only at hSw); go_simp⟩) k1 ?_; try simp only [Act.put, List.getElem_toArray, List.getElem_cons_succ, List.getElem_cons_zero, List.setIfInBounds_toArray, List.set_cons_zero, List.set_cons_succ]
  refine wpAnyF_take (i := 4) (v := .int .u64 (c.val : Int)) rfl (by kernel_rfl) (by kernel_rfl) (by kernel_rfl) (by kernel_rfl) (fun _ _ _ h => h) (Or.inl ⟨by kernel_rfl, fun w hSw => by have hcc := hSw.2.2; (try dsimp only at hSw); go_simp⟩) k1 ?_; try simp only [Act.put, List.getElem_toArray, List.getElem_cons_succ, List.getElem_cons_zero, List.setIfInBounds_toArray, List.set_cons_zero, List.set_cons_succ]
  refine wpAnyF_take (i := 6) (v := .bool has) rfl (by kernel_rfl) (by kernel_rfl) (by kernel_rfl) (by kernel_rfl) (fun _ _ _ h => h) (Or.inl ⟨by kernel_rfl, fun w hSw => by (try dsimp only at hSw); go_simp⟩) k1 ?_; try simp only [Act.put, List.getElem_toArray, List.getElem_cons_succ, List.getElem_cons_zero, List.setIfInBounds_toArray, List.set_cons_zero, List.set_cons_succ]
  refine wpAnyF_take (i := 7) (v := .bool (!has)) rfl (by kernel_rfl) (by kernel_rfl) (by kernel_rfl) (by kernel_rfl) (fun _ _ _ h => h) (Or.inl ⟨by kernel_rfl, fun w hSw => by (try dsimp only at hSw); go_simp⟩) k1 ?_; try simp only [Act.put, List.getElem_toArray, List.getElem_cons_succ, List.getElem_cons_zero, List.setIfInBounds_toArray, List.set_cons_zero, List.set_cons_succ]
  refine wpAnyF_one (i := 5) (by kernel_rfl) rfl (fun K hK => ?_); go_simp
  refine (WI'h.out _ hS3).mono ?_
  rintro e W4 ⟨s5, n5, c5, rfl, hb4, hrow5⟩
  dsimp only
  have H4 := H3.next hb4
  have k2 := hq _ _ H4
  refine hK.out _ _ (fun _ => k2) ?_; clear hK K; try simp only [Act.put, List.getElem_toArray, List.getElem_cons_succ, List.getElem_cons_zero, List.setIfInBounds_toArray, List.set_cons_zero, List.set_cons_succ]
  have hput := ownsRow_setCell_below hrow5 (a := ⟨w.heap.size + 2, 0, none⟩) (H3.lt _ (List.mem_cons_self ..)) (.slice s5 n5 c5)
  replace hput := ownsRow_mono hput H3.old.size
  clear k1 hS3 hb4 hrow5 H3
  have H5 := H4.put 0 rfl 0 (.slice s5 n5 c5)
  have k3 := hq _ _ H5
  have q4 : W4.cell? ⟨w.heap.size + 2, 0, none⟩ = some (.slice none 0 0) := blk_cell H4.rows.1 rfl
  have q4f := blk_free 0 H4.rows.1
  have hw2 := H4.lt _ (List.mem_cons_self ..)
  have hws : w.heap.size ≤ w.heap.size + 2 := by omega
  have hrow7 : (W4.setCell ⟨w.heap.size + 2, 0, none⟩ (.slice s5 n5 c5)).ownsRow w.heap.size 38 2 (.slice s5 n5 c5) res.length (prs res) := hput
  cases has with
  | true =>
    have hne : ((gv : Int) != (c.val : Int)) = r := by rw [hr'h.out]; by_cases e : gv = c.val <;> simp [e] <;> omega
    refine wpAnyF_take (i := 8) (v := .bool false) rfl (by kernel_rfl) (by kernel_rfl) (by kernel_rfl) (by kernel_rfl) (fun _ _ _ h => h) (Or.inl ⟨by kernel_rfl, fun w hSw => by (try dsimp only at hSw); go_simp⟩) k2 ?_; try simp only [Act.put, List.getElem_toArray, List.getElem_cons_succ, List.getElem_cons_zero, List.setIfInBounds_toArray, List.set_cons_zero, List.set_cons_succ]
    refine wpAnyF_take (i := 9) (v := .int .u64 (gv : Int)) rfl (by kernel_rfl) (by kernel_rfl) (by kernel_rfl) (by kernel_rfl) (fun _ _ _ h => h) (Or.inl ⟨by kernel_rfl, fun w hSw => by (try dsimp only at hSw); go_simp⟩) k2 ?_; try simp only [Act.put, List.getElem_toArray, List.getElem_cons_succ, List.getElem_cons_zero, List.setIfInBounds_toArray, List.set_cons_zero, List.set_cons_succ]
    refine wpAnyF_take (i := 10) (v := .pointer (some ⟨w.heap.size + 1, 3, none⟩)) rfl (by kernel_rfl) (by kernel_rfl) (by kernel_rfl) (by kernel_rfl) (fun _ _ _ h => h) (Or.inl ⟨by kernel_rfl, fun w hSw => by (try dsimp only at hSw); go_simp⟩) k2 ?_; try simp only [Act.put, List.getElem_toArray, List.getElem_cons_succ, List.getElem_cons_zero, List.setIfInBounds_toArray, List.set_cons_zero, List.set_cons_succ]
    refine wpAnyF_take (i := 11) (v := .int .u64 (c.val : Int)) rfl (by kernel_rfl) (by kernel_rfl) (by kernel_rfl) (by kernel_rfl) (fun _ _ _ h => h) (Or.inl ⟨by kernel_rfl, fun w hSw => by have hcc := hSw.2.2; (try dsimp only at hSw); go_simp⟩) k2 ?_; try simp only [Act.put, List.getElem_toArray, List.getElem_cons_succ, List.getElem_cons_zero, List.setIfInBounds_toArray, List.set_cons_zero, List.set_cons_succ]
    refine wpAnyF_take (i := 12) (v := .bool r) rfl (by kernel_rfl) (by kernel_rfl) (by kernel_rfl) (by kernel_rfl) (fun _ _ _ h => h) (Or.inl ⟨by kernel_rfl, fun w hSw => by (try dsimp only at hSw); go_simp⟩) k2 ?_; try simp only [Act.put, List.getElem_toArray, List.getElem_cons_succ, List.getElem_cons_zero, List.setIfInBounds_toArray, List.set_cons_zero, List.set_cons_succ]
    clear hne
    refine wpAnyF_take (i := 13) (v := .bool r) rfl (by kernel_rfl) (by kernel_rfl) (by kernel_rfl) (by kernel_rfl) (fun _ _ _ h => h) (Or.inl ⟨by kernel_rfl, fun w hSw => by (try dsimp only at hSw); go_simp⟩) k2 ?_; try simp only [Act.put, List.getElem_toArray, List.getElem_cons_succ, List.getElem_cons_zero, List.setIfInBounds_toArray, List.set_cons_zero, List.set_cons_succ]
    refine wpAnyF_one (i := 14) (by kernel_rfl) rfl (fun K hK => ?_); go_simp
    refine hK.out _ _ (fun _ => k3) ?_; clear hK K; try simp only [Act.put, List.getElem_toArray, List.getElem_cons_succ, List.getElem_cons_zero, List.setIfInBounds_toArray, List.set_cons_zero, List.set_cons_succ]
    refine wpAnyF_take (i := 15) (v := .bool r) rfl (by kernel_rfl) (by kernel_rfl) (by kernel_rfl) (by kernel_rfl) (fun _ _ _ h => h) (Or.inl ⟨by kernel_rfl, fun w hSw => by (try dsimp only at hSw); go_simp⟩) k3 ?_; try simp only [Act.put, List.getElem_toArray, List.getElem_cons_succ, List.getElem_cons_zero, List.setIfInBounds_toArray, List.set_cons_zero, List.set_cons_succ]
    refine wpAnyF_done (by kernel_rfl) ?_ _
    refine noPanic_normal ?_
    have e1 : (W4.setCell ⟨w.heap.size + 2, 0, none⟩ (.slice s5 n5 c5)).cell? ⟨w.heap.size + 2, 0, none⟩ = some (.slice s5 n5 c5) := blk_cell (i := 0) H5.rows.1 rfl
    clear k2 k3 q4 q4f H4
    have H5'h := Lib.hid H5
    have hrow7'h := Lib.hid hrow7
    clear H5 hrow7
    generalize World.setCell _ _ _ = W6 at H5'h hrow7'h e1 ⊢
    go_wp2
    refine bodyPost_ret (v := .tuple #[.agg #[.slice s5 n5 c5], .bool r]) ?_ rfl ⟨s5, n5, c5, rfl, H5'h.out.old, hrow7'h.out⟩
    simp [results, Try.results41, go_sem, e1]
  | false =>
    have hr1 : r = true := by rw [hr'h.out]; rfl
    refine wpAnyF_take (i := 8) (v := .bool true) rfl (by kernel_rfl) (by kernel_rfl) (by kernel_rfl) (by kernel_rfl) (fun _ _ _ h => h) (Or.inl ⟨by kernel_rfl, fun w hSw => by (try dsimp only at hSw); go_simp⟩) k2 ?_; try simp only [Act.put, List.getElem_toArray, List.getElem_cons_succ, List.getElem_cons_zero, List.setIfInBounds_toArray, List.set_cons_zero, List.set_cons_succ]
    refine wpAnyF_take (i := 9) (v := undef) rfl (by kernel_rfl) (by kernel_rfl) (by kernel_rfl) (by kernel_rfl) (fun _ _ _ h => h) (Or.inr ⟨by kernel_rfl, rfl⟩) k2 ?_; try simp only [Act.put, List.getElem_toArray, List.getElem_cons_succ, List.getElem_cons_zero, List.setIfInBounds_toArray, List.set_cons_zero, List.set_cons_succ]
    refine wpAnyF_take (i := 10) (v := undef) rfl (by kernel_rfl) (by kernel_rfl) (by kernel_rfl) (by kernel_rfl) (fun _ _ _ h => h) (Or.inr ⟨by kernel_rfl, rfl⟩) k2 ?_; try simp only [Act.put, List.getElem_toArray, List.getElem_cons_succ, List.getElem_cons_zero, List.setIfInBounds_toArray, List.set_cons_zero, List.set_cons_succ]
    refine wpAnyF_take (i := 11) (v := undef) rfl (by kernel_rfl) (by kernel_rfl) (by kernel_rfl) (by kernel_rfl) (fun _ _ _ h => h) (Or.inr ⟨by kernel_rfl, rfl⟩) k2 ?_; try simp only [Act.put, List.getElem_toArray, List.getElem_cons_succ, List.getElem_cons_zero, List.setIfInBounds_toArray, List.set_cons_zero, List.set_cons_succ]
    refine wpAnyF_take (i := 12) (v := undef) rfl (by kernel_rfl) (by kernel_rfl) (by kernel_rfl) (by kernel_rfl) (fun _ _ _ h => h) (Or.inr ⟨by kernel_rfl, rfl⟩) k2 ?_; try simp only [Act.put, List.getElem_toArray, List.getElem_cons_succ, List.getElem_cons_zero, List.setIfInBounds_toArray, List.set_cons_zero, List.set_cons_succ]
    subst hr1
    refine wpAnyF_take (i := 13) (v := .bool true) rfl (by kernel_rfl) (by kernel_rfl) (by kernel_rfl) (by kernel_rfl) (fun _ _ _ h => h) (Or.inl ⟨by kernel_rfl, fun w hSw => by (try dsimp only at hSw); go_simp⟩) k2 ?_; try simp only [Act.put, List.getElem_toArray, List.getElem_cons_succ, List.getElem_cons_zero, List.setIfInBounds_toArray, List.set_cons_zero, List.set_cons_succ]
    refine wpAnyF_one (i := 14) (by kernel_rfl) rfl (fun K hK => ?_); go_simp
    refine hK.out _ _ (fun _ => k3) ?_; clear hK K; try simp only [Act.put, List.getElem_toArray, List.getElem_cons_succ, List.getElem_cons_zero, List.setIfInBounds_toArray, List.set_cons_zero, List.set_cons_succ]
    refine wpAnyF_take (i := 15) (v := .bool true) rfl (by kernel_rfl) (by kernel_rfl) (by kernel_rfl) (by kernel_rfl) (fun _ _ _ h => h) (Or.inl ⟨by kernel_rfl, fun w hSw => by (try dsimp only at hSw); go_simp⟩) k3 ?_; try simp only [Act.put, List.getElem_toArray, List.getElem_cons_succ, List.getElem_cons_zero, List.setIfInBounds_toArray, List.set_cons_zero, List.set_cons_succ]
    refine wpAnyF_done (by kernel_rfl) ?_ _
    refine noPanic_normal ?_
    have e1 : (W4.setCell ⟨w.heap.size + 2, 0, none⟩ (.slice s5 n5 c5)).cell? ⟨w.heap.size + 2, 0, none⟩ = some (.slice s5 n5 c5) := blk_cell (i := 0) H5.rows.1 rfl
    clear k2 k3 q4 q4f H4
    have H5'h := Lib.hid H5
    have hrow7'h := Lib.hid hrow7
    clear H5 hrow7
    generalize World.setCell _ _ _ = W6 at H5'h hrow7'h e1 ⊢
    go_wp2
    refine bodyPost_ret (v := .tuple #[.agg #[.slice s5 n5 c5], .bool true]) ?_ rfl ⟨s5, n5, c5, rfl, H5'h.out.old, hrow7'h.out⟩
    simp [results, Try.results41, go_sem, e1]
set_option maxHeartbeats 1000000 in
theorem behind_del (sp : Option Addr) (n cap : Nat) (ps : Ps) (c : Ch) (w : World) (h : SlK w 2 sp n (prs ps)) (hup : upB ps = true) (hn : n ≤ 4096) (hc : c.has = false) :
    Calls Try.prog 41 #[.agg #[.slice sp n cap], .agg (chA c)] w (MapRes w (behP ps c) (okC ps c)) := by
  have hb : behP ps c = delP ps c.key := by unfold behP; rw [if_neg (by rw [hc]; decide)]
  have ho : okC ps c = (hasP ps c.key && decide (c.val = 0)) := by unfold okC; rw [if_neg (by rw [hc]; decide)]
  rw [hb, ho]
  clear hb ho
  unfold chA
  rw [hc]
  have H0 := (((Hs.nil w).new #[.slice sp n cap] 31).new #[.int .i64 c.stp, .int .u64 (c.key : Int), .bool false, .int .u64 (c.val : Int)] 46).new #[.slice none 0 0] 31
  simp only [World.size_alloc, Nat.add_assoc, Nat.reduceAdd] at H0
  obtain ⟨W0, hW0⟩ : ∃ W0, W0 = ((w.alloc (.cells #[.slice sp n cap] 31)).alloc (.cells #[.int .i64 c.stp, .int .u64 (c.key : Int), .bool false, .int .u64 (c.val : Int)] 46)).alloc (.cells #[.slice none 0 0] 31) := ⟨_, rfl⟩
  rw [← hW0] at H0
  have G := fun W hW => rget_any sp n cap ps c.key W hW
  rw [findP_up hup] at G
  have hh : (getS ps c.key).isSome = hasP ps c.key := rfl
  rw [hh] at G
  have q0 : W0.cell? ⟨w.heap.size, 0, none⟩ = some (.slice sp n cap) := blk_cell H0.rows.2.2.1 rfl
  have q1 : W0.cell? ⟨w.heap.size + 1, 1, none⟩ = some (.int .u64 (c.key : Int)) := blk_cell H0.rows.2.1 rfl
  have q2 : W0.cell? ⟨w.heap.size + 1, 2, none⟩ = some (.bool false) := blk_cell H0.rows.2.1 rfl
  have WI := fun W hW => rWithout_any sp n cap ps c.key W hW hup hn
  generalize delP ps c.key = res at *
  generalize (getS ps c.key).getD 0 = gv at *
  clear hh hc
  obtain ⟨r, hr⟩ : ∃ r, r = (hasP ps c.key && decide (c.val = 0)) := ⟨_, rfl⟩
  rw [← hr]
  generalize hasP ps c.key = has at *
  have H0'h := Lib.hid H0
  have G'h := Lib.hid G
  have WI'h := Lib.hid WI
  have h'h := Lib.hid h
  have hup'h := Lib.hid hup
  have hr'h := Lib.hid hr
  clear H0 G WI h hup hr
  go_enter Try.func41, Try.ntmps41
  go_upto_region 1 with fail
  simp only [Nat.add_assoc, Nat.reduceAdd]
  rw [← hW0]
  clear hW0
  go_upto_region 2 with (first | (go_at_call 61; refine (G'h.out _ (h'h.out.below H0'h.out.old)).mono ?_; rintro e w2 ⟨rfl, hb2⟩))
  have H2 := H0'h.out.next hb2
  clear q0 q1 q2
  have q2 : w2.cell? ⟨w.heap.size + 1, 2, none⟩ = some (.bool false) := blk_cell H2.rows.2.1 rfl
  have H2'h := Lib.hid H2
  have hb2'h := Lib.hid hb2
  clear H2 hb2
  go_upto_region 4 with fail
  have H3 := H2'h.out.drew
  refine wp_region_heldQ (fun w' => w'.cell? ⟨w.heap.size, 0, none⟩ = some (.slice sp n cap) ∧ w'.cell? ⟨w.heap.size + 1, 1, none⟩ = some (.int .u64 (c.key : Int)) ∧ w'.cell? ⟨w.heap.size + 1, 3, none⟩ = some (.int .u64 (c.val : Int))) 99 (by kernel_rfl) ?_
  have hq : ∀ W (v : Value), Hs w [(w.heap.size + 2, #[v], 31), (w.heap.size + 1, #[.int .i64 c.stp, .int .u64 (c.key : Int), .bool false, .int .u64 (c.val : Int)], 46), (w.heap.size, #[.slice sp n cap], 31)] W → W.cell? ⟨w.heap.size, 0, none⟩ = some (.slice sp n cap) ∧ W.cell? ⟨w.heap.size + 1, 1, none⟩ = some (.int .u64 (c.key : Int)) ∧ W.cell? ⟨w.heap.size + 1, 3, none⟩ = some (.int .u64 (c.val : Int)) := fun W v H => ⟨blk_cell H.rows.2.2.1 rfl, blk_cell H.rows.2.1 rfl, blk_cell H.rows.2.1 rfl⟩
  have k1 := hq _ _ H3
  have hS3 := h'h.out.below H3.old
  clear q2
  generalize w2.drew = W3 at H3 k1 hS3 ⊢
  refine wpAnyF_take (i := 0) (v := .agg #[.slice sp n cap]) rfl (by kernel_rfl) (by kernel_rfl) (by kernel_rfl) (by kernel_rfl) (fun _ _ _ h => h) (Or.inl ⟨by kernel_rfl, fun w hSw => by (try dsimp only at hSw); go_simp⟩) k1 ?_; try simp only [Act.put, List.getElem_toArray, List.getElem_cons_succ, List.getElem_cons_zero, List.setIfInBounds_toArray, List.set_cons_zero, List.set_cons_succ]
  refine wpAnyF_take (i := 1) (v := .pointer (some ⟨w.heap.size + 1, 1, none⟩)) rfl (by kernel_rfl) (by kernel_rfl) (by kernel_rfl) (by kernel_rfl) (fun _ _ _ h => h) (Or.inl ⟨by kernel_rfl, fun w hSw => by (try dsimp only at hSw); go_simp⟩) k1 ?_; try simp only [Act.put, List.getElem_toArray, List.getElem_cons_succ, List.getElem_cons_zero, List.setIfInBounds_toArray, List.set_cons_zero, List.set_cons_succ]
  refine wpAnyF_take (i := 2) (v := .int .u64 (c.key : Int)) rfl (by kernel_rfl) (by kernel_rfl) (by kernel_rfl) (by kernel_rfl) (fun _ _ _ h => h) (Or.inl ⟨by kernel_rfl, fun w hSw => by have hcc := hSw.2.1; (try dsimp only at hSw); go_simp⟩) k1 ?_; try simp only [Act.put, List.getElem_toArray, List.getElem_cons_succ, List.getElem_cons_zero, List.setIfInBounds_toArray, List.set_cons_zero, List.set_cons_succ]
  refine wpAnyF_take (i := 4) (v := .bool has) rfl (by kernel_rfl) (by kernel_rfl) (by kernel_rfl) (by kernel_rfl) (fun _ _ _ h => h) (Or.inl ⟨by kernel_rfl, fun w hSw => by (try dsimp only at hSw); go_simp⟩) k1 ?_; try simp only [Act.put, List.getElem_toArray, List.getElem_cons_succ, List.getElem_cons_zero, List.setIfInBounds_toArray, List.set_cons_zero, List.set_cons_succ]
  refine wpAnyF_one (i := 3) (by kernel_rfl) rfl (fun K hK => ?_); go_simp
  refine (WI'h.out _ hS3).mono ?_
  rintro e W4 ⟨s5, n5, c5, rfl, hb4, hrow5⟩
  dsimp only
  have H4 := H3.next hb4
  have k2 := hq _ _ H4
  refine hK.out _ _ (fun _ => k2) ?_; clear hK K; try simp only [Act.put, List.getElem_toArray, List.getElem_cons_succ, List.getElem_cons_zero, List.setIfInBounds_toArray, List.set_cons_zero, List.set_cons_succ]
  have hput := ownsRow_setCell_below hrow5 (a := ⟨w.heap.size + 2, 0, none⟩) (H3.lt _ (List.mem_cons_self ..)) (.slice s5 n5 c5)
  replace hput := ownsRow_mono hput H3.old.size
  clear k1 hS3 hb4 hrow5 H3
  have H5 := H4.put 0 rfl 0 (.slice s5 n5 c5)
  have k3 := hq _ _ H5
  have q4 : W4.cell? ⟨w.heap.size + 2, 0, none⟩ = some (.slice none 0 0) := blk_cell H4.rows.1 rfl
  have q4f := blk_free 0 H4.rows.1
  have hw2 := H4.lt _ (List.mem_cons_self ..)
  have hws : w.heap.size ≤ w.heap.size + 2 := by omega
  have hrow7 : (W4.setCell ⟨w.heap.size + 2, 0, none⟩ (.slice s5 n5 c5)).ownsRow w.heap.size 38 2 (.slice s5 n5 c5) res.length (prs res) := hput
  cases has with
  | true =>
    have hne : ((c.val : Int) == 0) = r := by rw [hr'h.out]; by_cases e : c.val = 0 <;> simp [e]
    refine wpAnyF_take (i := 5) (v := .bool true) rfl (by kernel_rfl) (by kernel_rfl) (by kernel_rfl) (by kernel_rfl) (fun _ _ _ h => h) (Or.inl ⟨by kernel_rfl, fun w hSw => by (try dsimp only at hSw); go_simp⟩) k2 ?_; try simp only [Act.put, List.getElem_toArray, List.getElem_cons_succ, List.getElem_cons_zero, List.setIfInBounds_toArray, List.set_cons_zero, List.set_cons_succ]
    refine wpAnyF_take (i := 6) (v := .pointer (some ⟨w.heap.size + 1, 3, none⟩)) rfl (by kernel_rfl) (by kernel_rfl) (by kernel_rfl) (by kernel_rfl) (fun _ _ _ h => h) (Or.inl ⟨by kernel_rfl, fun w hSw => by (try dsimp only at hSw); go_simp⟩) k2 ?_; try simp only [Act.put, List.getElem_toArray, List.getElem_cons_succ, List.getElem_cons_zero, List.setIfInBounds_toArray, List.set_cons_zero, List.set_cons_succ]
    refine wpAnyF_take (i := 7) (v := .int .u64 (c.val : Int)) rfl (by kernel_rfl) (by kernel_rfl) (by kernel_rfl) (by kernel_rfl) (fun _ _ _ h => h) (Or.inl ⟨by kernel_rfl, fun w hSw => by have hcc := hSw.2.2; (try dsimp only at hSw); go_simp⟩) k2 ?_; try simp only [Act.put, List.getElem_toArray, List.getElem_cons_succ, List.getElem_cons_zero, List.setIfInBounds_toArray, List.set_cons_zero, List.set_cons_succ]
    refine wpAnyF_take (i := 8) (v := .bool r) rfl (by kernel_rfl) (by kernel_rfl) (by kernel_rfl) (by kernel_rfl) (fun _ _ _ h => h) (Or.inl ⟨by kernel_rfl, fun w hSw => by (try dsimp only at hSw); go_simp⟩) k2 ?_; try simp only [Act.put, List.getElem_toArray, List.getElem_cons_succ, List.getElem_cons_zero, List.setIfInBounds_toArray, List.set_cons_zero, List.set_cons_succ]
    clear hne
    refine wpAnyF_take (i := 9) (v := .bool r) rfl (by kernel_rfl) (by kernel_rfl) (by kernel_rfl) (by kernel_rfl) (fun _ _ _ h => h) (Or.inl ⟨by kernel_rfl, fun w hSw => by (try dsimp only at hSw); go_simp⟩) k2 ?_; try simp only [Act.put, List.getElem_toArray, List.getElem_cons_succ, List.getElem_cons_zero, List.setIfInBounds_toArray, List.set_cons_zero, List.set_cons_succ]
    refine wpAnyF_one (i := 10) (by kernel_rfl) rfl (fun K hK => ?_); go_simp
    refine hK.out _ _ (fun _ => k3) ?_; clear hK K; try simp only [Act.put, List.getElem_toArray, List.getElem_cons_succ, List.getElem_cons_zero, List.setIfInBounds_toArray, List.set_cons_zero, List.set_cons_succ]
    refine wpAnyF_take (i := 11) (v := .bool r) rfl (by kernel_rfl) (by kernel_rfl) (by kernel_rfl) (by kernel_rfl) (fun _ _ _ h => h) (Or.inl ⟨by kernel_rfl, fun w hSw => by (try dsimp only at hSw); go_simp⟩) k3 ?_; try simp only [Act.put, List.getElem_toArray, List.getElem_cons_succ, List.getElem_cons_zero, List.setIfInBounds_toArray, List.set_cons_zero, List.set_cons_succ]
    refine wpAnyF_done (by kernel_rfl) ?_ _
    refine noPanic_normal ?_
    have e1 : (W4.setCell ⟨w.heap.size + 2, 0, none⟩ (.slice s5 n5 c5)).cell? ⟨w.heap.size + 2, 0, none⟩ = some (.slice s5 n5 c5) := blk_cell (i := 0) H5.rows.1 rfl
    clear k2 k3 q4 q4f H4
    have H5'h := Lib.hid H5
    have hrow7'h := Lib.hid hrow7
    clear H5 hrow7
    generalize World.setCell _ _ _ = W6 at H5'h hrow7'h e1 ⊢
    go_wp2
    refine bodyPost_ret (v := .tuple #[.agg #[.slice s5 n5 c5], .bool r]) ?_ rfl ⟨s5, n5, c5, rfl, H5'h.out.old, hrow7'h.out⟩
    simp [results, Try.results41, go_sem, e1]
  | false =>
    have hr1 : r = false := by rw [hr'h.out]; rfl
    refine wpAnyF_take (i := 5) (v := .bool false) rfl (by kernel_rfl) (by kernel_rfl) (by kernel_rfl) (by kernel_rfl) (fun _ _ _ h => h) (Or.inl ⟨by kernel_rfl, fun w hSw => by (try dsimp only at hSw); go_simp⟩) k2 ?_; try simp only [Act.put, List.getElem_toArray, List.getElem_cons_succ, List.getElem_cons_zero, List.setIfInBounds_toArray, List.set_cons_zero, List.set_cons_succ]
    refine wpAnyF_take (i := 6) (v := undef) rfl (by kernel_rfl) (by kernel_rfl) (by kernel_rfl) (by kernel_rfl) (fun _ _ _ h => h) (Or.inr ⟨by kernel_rfl, rfl⟩) k2 ?_; try simp only [Act.put, List.getElem_toArray, List.getElem_cons_succ, List.getElem_cons_zero, List.setIfInBounds_toArray, List.set_cons_zero, List.set_cons_succ]
    refine wpAnyF_take (i := 7) (v := undef) rfl (by kernel_rfl) (by kernel_rfl) (by kernel_rfl) (by kernel_rfl) (fun _ _ _ h => h) (Or.inr ⟨by kernel_rfl, rfl⟩) k2 ?_; try simp only [Act.put, List.getElem_toArray, List.getElem_cons_succ, List.getElem_cons_zero, List.setIfInBounds_toArray, List.set_cons_zero, List.set_cons_succ]
    refine wpAnyF_take (i := 8) (v := undef) rfl (by kernel_rfl) (by kernel_rfl) (by kernel_rfl) (by kernel_rfl) (fun _ _ _ h => h) (Or.inr ⟨by kernel_rfl, rfl⟩) k2 ?_; try simp only [Act.put, List.getElem_toArray, List.getElem_cons_succ, List.getElem_cons_zero, List.setIfInBounds_toArray, List.set_cons_zero, List.set_cons_succ]
    subst hr1
    refine wpAnyF_take (i := 9) (v := .bool false) rfl (by kernel_rfl) (by kernel_rfl) (by kernel_rfl) (by kernel_rfl) (fun _ _ _ h => h) (Or.inl ⟨by kernel_rfl, fun w hSw => by (try dsimp only at hSw); go_simp⟩) k2 ?_; try simp only [Act.put, List.getElem_toArray, List.getElem_cons_succ, List.getElem_cons_zero, List.setIfInBounds_toArray, List.set_cons_zero, List.set_cons_succ]
    refine wpAnyF_one (i := 10) (by kernel_rfl) rfl (fun K hK => ?_); go_simp
    refine hK.out _ _ (fun _ => k3) ?_; clear hK K; try simp only [Act.put, List.getElem_toArray, List.getElem_cons_succ, List.getElem_cons_zero, List.setIfInBounds_toArray, List.set_cons_zero, List.set_cons_succ]
    refine wpAnyF_take (i := 11) (v := .bool false) rfl (by kernel_rfl) (by kernel_rfl) (by kernel_rfl) (by kernel_rfl) (fun _ _ _ h => h) (Or.inl ⟨by kernel_rfl, fun w hSw => by (try dsimp only at hSw); go_simp⟩) k3 ?_; try simp only [Act.put, List.getElem_toArray, List.getElem_cons_succ, List.getElem_cons_zero, List.setIfInBounds_toArray, List.set_cons_zero, List.set_cons_succ]
    refine wpAnyF_done (by kernel_rfl) ?_ _
    refine noPanic_normal ?_
    have e1 : (W4.setCell ⟨w.heap.size + 2, 0, none⟩ (.slice s5 n5 c5)).cell? ⟨w.heap.size + 2, 0, none⟩ = some (.slice s5 n5 c5) := blk_cell (i := 0) H5.rows.1 rfl
    clear k2 k3 q4 q4f H4
    have H5'h := Lib.hid H5
    have hrow7'h := Lib.hid hrow7
    clear H5 hrow7
    generalize World.setCell _ _ _ = W6 at H5'h hrow7'h e1 ⊢
    go_wp2
    refine bodyPost_ret (v := .tuple #[.agg #[.slice s5 n5 c5], .bool false]) ?_ rfl ⟨s5, n5, c5, rfl, H5'h.out.old, hrow7'h.out⟩
    simp [results, Try.results41, go_sem, e1]
theorem behind_any (sp : Option Addr) (n cap : Nat) (ps : Ps) (c : Ch) (w : World) (h : SlK w 2 sp n (prs ps)) (hup : upB ps = true) (hn : n ≤ 4096) :
    Calls Try.prog 41 #[.agg #[.slice sp n cap], .agg (chA c)] w (MapRes w (behP ps c) (okC ps c)) := by
  cases hc : c.has with
  | true => exact behind_put sp n cap ps c w h hup hn hc
  | false => exact behind_del sp n cap ps c w h hup hn hc
end Go.Proofs.Ythfeiiibedmkiaa

/-
  The document's lines: Right, Map.
-/
set_option linter.unusedSimpArgs false
set_option linter.unusedVariables false
set_option maxRecDepth 100000
namespace Go.Proofs.Ythfeiiibedmkiaa
open Go.RowKit

theorem below_row_old {w W : World} {b : Nat} {cs : Array Value} {t : TypeId} (h : Hs w [(b, cs, t)] W) : Below w.heap.size w W := h.old
set_option maxHeartbeats 1000000 in
theorem rdRight_any (sp : Option Addr) (n cap : Nat) (l : List Ch) (w : World) (h : SlK w 4 sp n (chs l)) (hn : n ≤ 4000) :
    Calls Try.prog 11 #[.slice sp n cap] w fun e w' => e = .returned (.bool (rightL l)) ∧ Below w.heap.size w w' := by
  have hlen := chs_len h
  have H0 := (Hs.nil w).new #[.slice none 0 0] 31
  obtain ⟨W0, hW0⟩ : ∃ W0, W0 = w.alloc (.cells #[.slice none 0 0] 31) := ⟨_, rfl⟩
  rw [← hW0] at H0
  have H0'h := Lib.hid H0
  have h'h := Lib.hid h
  have hlen'h := Lib.hid hlen
  clear H0 h hlen
  go_enter Try.func11, Try.ntmps11
  go_upto_region 2 with fail
  rw [← hW0]
  clear hW0
  go_wp2
  go_loopg [4, 11] n (fun q a i wr => ∃ (k : Nat) (s2 : Option Addr) (n2 c2 : Nat), k + q = n ∧ i = .int .i64 k ∧ a = .int .i64 (stpL l k) ∧ (∀ j, j < k → stepOk l j = true) ∧ Hs w [(w.heap.size, #[.slice s2 n2 c2], 31)] wr ∧ wr.ownsRow (w.heap.size + 1) 38 2 (.slice s2 n2 c2) (mapL l k).length (prs (mapL l k)))
  case atStart => exact ⟨0, none, 0, 0, by omega, rfl, rfl, fun j hj => by omega, H0'h.out, World.ownsRow_nil _ _ _ _⟩
  case round =>
    obtain ⟨k, s2, n2, c2, hq, rfl, rfl, hall, hH, hrow⟩ := hrel
    by_cases hlt : k < n
    · have hkl : k < l.length := by have := hlen'h.out; omega
      obtain ⟨b, off, rfl, -⟩ := h'h.out.some' (by omega)
      obtain ⟨d0, d1, d2, d3⟩ := chs_cells (h'h.out.below hH.old) hkl
      have hi1 : (k : Int) < (n : Int) := by omega
      have h0k : (0 : Int) ≤ (k : Int) := by omega
      have hml := len_mapL l k
      have hms := mapL_succ hkl
      have hss := stpL_succ l k
      have hst : stepOk l k = (okC (mapL l k) (nthC l k) && decide (stpL l k < (nthC l k).stp)) := rfl
      obtain rfl := row_len9 hrow
      have BH := fun W (hb : Below wr.heap.size wr W) => behind_any s2 _ c2 (mapL l k) (nthC l k) W (SlK.of_row (ownsRow_next hrow hb) (by unfold maxLen; omega)) (up_mapL l k) (by omega)
      have H5 := hH.new (chA (nthC l k)) 46
      have hrno := fun h => right_no (l := l) hkl h
      obtain ⟨W5, hW5⟩ : ∃ W5, W5 = wr.alloc (.cells (chA (nthC l k)) 46) := ⟨_, rfl⟩
      rw [← hW5] at H5
      have hb5 : Below wr.heap.size wr W5 := by rw [hW5]; exact (Below.refl _ _).alloc (Nat.le_refl _) _
      have BH5 := BH W5 hb5
      clear BH
      rw [← hms] at BH5
      obtain ⟨ob, hob⟩ : ∃ x, x = okC (mapL l k) (nthC l k) := ⟨_, rfl⟩
      obtain ⟨m2, hm2⟩ : ∃ x, x = mapL l (k + 1) := ⟨_, rfl⟩
      obtain ⟨a0, ha0⟩ : ∃ x, x = stpL l k := ⟨_, rfl⟩
      obtain ⟨cc, hcc⟩ : ∃ x, x = nthC l k := ⟨_, rfl⟩
      rw [← hob, ← ha0, ← hcc] at hst
      rw [← hob, ← hm2, ← hcc] at BH5
      rw [← hcc] at d0 d1 d2 d3 H5 hW5 hss
      rw [← ha0]
      clear hms
      have hm2l : m2.length ≤ 4001 := by rw [hm2]; have := len_mapL l (k + 1); omega
      have q5 : W5.cell? ⟨w.heap.size, 0, none⟩ = some (.slice s2 (mapL l k).length c2) := blk_cell H5.rows.2.1 rfl
      have hall2 : stepOk l k = true → ∀ j, j < k + 1 → stepOk l j = true := fun h j hj => by
        by_cases e : j = k
        · rw [e]; exact h
        · exact hall j (by omega)
      have hrow5 := ownsRow_next hrow hb5
      have hq'h := Lib.hid hq
      have hall'h := Lib.hid hall
      have hH'h := Lib.hid hH
      have hrow'h := Lib.hid hrow
      have hml'h := Lib.hid hml
      have hss'h := Lib.hid hss
      have hst'h := Lib.hid hst
      have H5'h := Lib.hid H5
      have hrno'h := Lib.hid hrno
      have hW5'h := Lib.hid hW5
      have BH5'h := Lib.hid BH5
      have hob'h := Lib.hid hob
      have hm2'h := Lib.hid hm2
      have ha0'h := Lib.hid ha0
      have hcc'h := Lib.hid hcc
      have hm2l'h := Lib.hid hm2l
      have hall2'h := Lib.hid hall2
      have hkl'h := Lib.hid hkl
      have hb5'h := Lib.hid hb5
      have hrow5'h := Lib.hid hrow5
      clear hq hall hH hrow hml hss hst H5 hrno hW5 BH5 hob hm2 ha0 hcc hm2l hall2 hkl hb5 hrow5
      go_upto_region 6 with fail
      change Code.wp _ _ _ _ (wr.alloc (.cells (chA cc) 46))
      rw [← hW5'h.out]
      clear d0 d1 d2 d3
      go_upto_region 7 with (first | guard_target = wpList _ _ _ (Oper.mk _ (.load _ (.tmp 6)) _ _ _ _ :: _) _ _; refine wpList_load_row rfl 46 (.tmp 6) rfl (wr.heap.size) rfl 46 (chA cc) (0, 0) _ H5'h.out.rows.1 Try.underlying46 rfl info_ch ?_ | (go_at_call 41; refine BH5'h.out.mono ?_; rintro e w6 ⟨s6, n6, c6, rfl, hb6, hrow6⟩; have H7 := (H5'h.out.next hb6).new #[.slice s6 n6 c6] 31; have hrow7 := ownsRow_next hrow6 ((Below.refl w6.heap.size w6).alloc (Nat.le_refl _) (.cells #[.slice s6 n6 c6] 31)); have hW56 := hb6.size; have H7'h := Lib.hid H7; have hrow7'h := Lib.hid hrow7; clear H7 hrow7 hb6 hrow6))
      generalize hW7 : World.alloc _ _ = W7 at H7'h hrow7'h ⊢
      clear hW7 q5
      have p0 : W7.cell? ⟨wr.heap.size, 0, none⟩ = some (.int .i64 cc.stp) := blk_cell H7'h.out.rows.2.1 rfl
      by_cases hle : cc.stp ≤ a0
      · have hrf := hrno'h.out (by rw [hst'h.out, decide_eq_false (by omega), Bool.and_false])
        have hrf'h := Lib.hid hrf
        clear hrf
        go_wp2
        go_ret
        exact ⟨by rw [hrf'h.out]; rfl, H7'h.out.old⟩
      have hlt7 : ¬ cc.stp ≤ a0 := hle
      cases ob with
      | false =>
        have hrf := hrno'h.out (by rw [hst'h.out, Bool.false_and])
        have hrf'h := Lib.hid hrf
        clear hrf
        go_wp2
        go_ret
        exact ⟨by rw [hrf'h.out]; rfl, H7'h.out.old⟩
      | true =>
        have hyes := hall2'h.out (by rw [hst'h.out, decide_eq_true (by omega)]; rfl)
        have hyes'h := Lib.hid hyes
        clear hyes
        go_upto_region 9 with fail
        have H9 := H7'h.out.drew
        refine wp_region_heldQ (fun w' => w'.cell? ⟨w6.heap.size, 0, none⟩ = some (.slice s6 n6 c6) ∧ w'.cell? ⟨wr.heap.size, 0, none⟩ = some (.int .i64 cc.stp)) 99 (by kernel_rfl) ?_
        have hrow9 : W7.drew.ownsRow W5.heap.size 38 2 (.slice s6 n6 c6) m2.length (prs m2) := hrow7'h.out
        generalize W7.drew = W9 at H9 hrow9 ⊢
        clear p0
        have k1 : W9.cell? ⟨w6.heap.size, 0, none⟩ = some (.slice s6 n6 c6) ∧ W9.cell? ⟨wr.heap.size, 0, none⟩ = some (.int .i64 cc.stp) := ⟨blk_cell H9.rows.1 rfl, blk_cell H9.rows.2.1 rfl⟩
        have p3 : W9.cell? ⟨w.heap.size, 0, none⟩ = some _ := blk_cell H9.rows.2.2.1 rfl
        have p3f := blk_free 0 H9.rows.2.2.1
        have H10 := H9.put 2 rfl 0 (.slice s6 n6 c6)
        have k2 : (W9.setCell ⟨w.heap.size, 0, none⟩ (.slice s6 n6 c6)).cell? ⟨w6.heap.size, 0, none⟩ = some (.slice s6 n6 c6) ∧ (W9.setCell ⟨w.heap.size, 0, none⟩ (.slice s6 n6 c6)).cell? ⟨wr.heap.size, 0, none⟩ = some (.int .i64 cc.stp) := ⟨blk_cell H10.rows.1 rfl, blk_cell H10.rows.2.1 rfl⟩
        refine wpAnyF_take (i := 0) (v := .agg #[.slice s6 n6 c6]) rfl (by kernel_rfl) (by kernel_rfl) (by kernel_rfl) (by kernel_rfl) (fun _ _ _ h => h) (Or.inl ⟨by kernel_rfl, fun w hSw => by have hcc := hSw.1; (try dsimp only at hSw); go_simp⟩) k1 ?_; try simp only [Act.put, List.getElem_toArray, List.getElem_cons_succ, List.getElem_cons_zero, List.setIfInBounds_toArray, List.set_cons_zero, List.set_cons_succ]
        refine wpAnyF_take (i := 1) (v := .pointer (some ⟨wr.heap.size, 0, none⟩)) rfl (by kernel_rfl) (by kernel_rfl) (by kernel_rfl) (by kernel_rfl) (fun _ _ _ h => h) (Or.inl ⟨by kernel_rfl, fun w hSw => by (try dsimp only at hSw); go_simp⟩) k1 ?_; try simp only [Act.put, List.getElem_toArray, List.getElem_cons_succ, List.getElem_cons_zero, List.setIfInBounds_toArray, List.set_cons_zero, List.set_cons_succ]
        refine wpAnyF_take (i := 2) (v := .int .i64 cc.stp) rfl (by kernel_rfl) (by kernel_rfl) (by kernel_rfl) (by kernel_rfl) (fun _ _ _ h => h) (Or.inl ⟨by kernel_rfl, fun w hSw => by have hcc := hSw.2; (try dsimp only at hSw); go_simp⟩) k1 ?_; try simp only [Act.put, List.getElem_toArray, List.getElem_cons_succ, List.getElem_cons_zero, List.setIfInBounds_toArray, List.set_cons_zero, List.set_cons_succ]
        refine wpAnyF_one (i := 3) (by kernel_rfl) rfl (fun K hK => ?_); go_simp
        refine hK.out _ _ (fun _ => k2) ?_; clear hK K; try simp only [Act.put, List.getElem_toArray, List.getElem_cons_succ, List.getElem_cons_zero, List.setIfInBounds_toArray, List.set_cons_zero, List.set_cons_succ]
        refine wpAnyF_take (i := 4) (v := .int .i64 cc.stp) rfl (by kernel_rfl) (by kernel_rfl) (by kernel_rfl) (by kernel_rfl) (fun _ _ _ h => h) (Or.inl ⟨by kernel_rfl, fun w hSw => by (try dsimp only at hSw); go_simp⟩) k2 ?_; try simp only [Act.put, List.getElem_toArray, List.getElem_cons_succ, List.getElem_cons_zero, List.setIfInBounds_toArray, List.set_cons_zero, List.set_cons_succ]
        refine wpAnyF_done (by kernel_rfl) ?_ _
        refine noPanic_normal ?_
        have hws5 : w.heap.size < W5.heap.size := by have h1 := H5'h.out.lt _ (List.mem_cons_of_mem _ (List.mem_cons_self ..)); exact h1
        have hrow10 := ownsRow_mono (ownsRow_setCell_below hrow9 (a := ⟨w.heap.size, 0, none⟩) hws5 (.slice s6 n6 c6)) (show w.heap.size + 1 ≤ W5.heap.size from hws5)
        clear k1 k2 p3 p3f H9 hrow9
        have H10'h := Lib.hid H10
        have hrow10'h := Lib.hid hrow10
        clear H10 hrow10
        generalize World.setCell _ _ _ = W10 at H10'h hrow10'h ⊢
        go_wp2
        go_roundg (gk - 1)
        case measure => have := hq'h.out; omega
        case rel => exact ⟨k + 1, s6, n6, c6, by have := hq'h.out; omega, by go_num, by rw [hss'h.out], hyes'h.out, H10'h.out.tail.tail, by rw [← hm2'h.out]; exact hrow10'h.out⟩
    · have hkn : k = l.length := by have := hlen'h.out; omega
      have hyes : rightL l = true := right_yes fun j hj => hall j (by omega)
      have hd : ¬ ((k : Int) < (n : Int)) := by omega
      clear hkn
      have hq'h := Lib.hid hq
      have hall'h := Lib.hid hall
      have hH'h := Lib.hid hH
      have hrow'h := Lib.hid hrow
      have hyes'h := Lib.hid hyes
      clear hq hall hH hrow hyes
      go_wp2
      go_ret
      exact ⟨by rw [hyes'h.out]; rfl, hH'h.out.old⟩
theorem mapL_min {l : List Ch} {K k : Nat} (hk : k < K) (hl : k < l.length) : mapL l (min (k + 1) K) = behP (mapL l (min k K)) (nthC l k) := by
  rw [Nat.min_eq_left (by omega), Nat.min_eq_left (by omega), mapL_succ hl]
set_option maxHeartbeats 1000000 in
theorem rdMap_any (sp : Option Addr) (n cap : Nat) (l : List Ch) (s : Int) (w : World) (h : SlK w 4 sp n (chs l)) (hn : n ≤ 4000) (hr : rightL l = true) :
    Calls Try.prog 14 #[.slice sp n cap, .int .i64 s] w fun e w' => ∃ s' n' c', e = .returned (.agg #[.slice s' n' c']) ∧ Below w.heap.size w w' ∧ w'.ownsRow w.heap.size 38 2 (.slice s' n' c') (mapL l (cntL l s)).length (prs (mapL l (cntL l s))) := by
  have hlen := chs_len h
  have H0 := ((Hs.nil w).new #[.slice none 0 0] 31).new #[.slice none 0 0] 31
  obtain ⟨W0, hW0⟩ : ∃ W0, W0 = (w.alloc (.cells #[.slice none 0 0] 31)).alloc (.cells #[.slice none 0 0] 31) := ⟨_, rfl⟩
  rw [← hW0] at H0
  simp only [World.size_alloc] at H0
  obtain ⟨K, hK⟩ : ∃ K, K = cntL l s := ⟨_, rfl⟩
  have hKl : K ≤ l.length := by rw [hK]; exact cntL_le _ _
  rw [← hK]
  have H0'h := Lib.hid H0
  have h'h := Lib.hid h
  have hlen'h := Lib.hid hlen
  have hr'h := Lib.hid hr
  have hK'h := Lib.hid hK
  have hKl'h := Lib.hid hKl
  clear H0 h hlen hr hK hKl
  go_enter Try.func14, Try.ntmps14
  go_upto_region 2 with fail
  rw [← hW0]
  clear hW0
  go_wp2
  go_loopg [10] n (fun q i wr => ∃ (k : Nat) (s2 : Option Addr) (n2 c2 : Nat), k + q = n ∧ i = .int .i64 k ∧ Hs w [(w.heap.size + 1, #[.slice s2 n2 c2], 31), (w.heap.size, #[.slice none 0 0], 31)] wr ∧ wr.ownsRow (w.heap.size + 2) 38 2 (.slice s2 n2 c2) (mapL l (min k K)).length (prs (mapL l (min k K))))
  case atStart => exact ⟨0, none, 0, 0, by omega, rfl, H0'h.out, by rw [Nat.zero_min]; exact World.ownsRow_nil _ _ _ _⟩
  case round =>
    obtain ⟨k, s2, n2, c2, hq, rfl, hH, hrow⟩ := hrel
    by_cases hlt : k < n
    · have hkl : k < l.length := by have := hlen'h.out; omega
      obtain ⟨b, off, rfl, -⟩ := h'h.out.some' (by omega)
      obtain ⟨d0, d1, d2, d3⟩ := chs_cells (h'h.out.below hH.old) hkl
      have hi1 : (k : Int) < (n : Int) := by omega
      have h0k : (0 : Int) ≤ (k : Int) := by omega
      have hci : k < K ↔ (nthC l k).stp ≤ s := by rw [hK'h.out]; exact cntL_iff hr'h.out hkl
      have hml := len_mapL l (min k K)
      have hms := mapL_min (l := l) (K := K) (k := k)
      have hmst : ¬ k < K → mapL l (min (k + 1) K) = mapL l (min k K) := fun h => by rw [Nat.min_eq_right (by omega), Nat.min_eq_right (by omega)]
      obtain rfl := row_len9 hrow
      have BH := fun W (hb : Below wr.heap.size wr W) => behind_any s2 _ c2 (mapL l (min k K)) (nthC l k) W (SlK.of_row (ownsRow_next hrow hb) (by unfold maxLen; omega)) (up_mapL l _) (by omega)
      have H5 := hH.new (chA (nthC l k)) 46
      obtain ⟨W5, hW5⟩ : ∃ W5, W5 = wr.alloc (.cells (chA (nthC l k)) 46) := ⟨_, rfl⟩
      rw [← hW5] at H5
      have hb5 : Below wr.heap.size wr W5 := by rw [hW5]; exact (Below.refl _ _).alloc (Nat.le_refl _) _
      have BH5 := BH W5 hb5
      have hrow5 := ownsRow_next hrow hb5
      clear BH
      obtain ⟨m1, hm1⟩ : ∃ x, x = mapL l (min k K) := ⟨_, rfl⟩
      rw [← hm1] at BH5 hrow5 hrow hH H5 hml hms hmst
      obtain ⟨cc, hcc⟩ : ∃ x, x = nthC l k := ⟨_, rfl⟩
      rw [← hcc] at d0 d1 d2 d3 H5 hW5 hci BH5 hms
      obtain ⟨m2, hm2⟩ : ∃ x, x = mapL l (min (k + 1) K) := ⟨_, rfl⟩
      rw [← hm2] at hms hmst
      have p5 : W5.cell? ⟨w.heap.size + 1, 0, none⟩ = some (.slice s2 m1.length c2) := blk_cell H5.rows.2.1 rfl
      have p0 : W5.cell? ⟨wr.heap.size, 0, none⟩ = some (.int .i64 cc.stp) := blk_cell H5.rows.1 rfl
      by_cases hle : cc.stp ≤ s
      · have hkK := hci.2 hle
        have hm2e := hms hkK hkl
        rw [← hm2e] at BH5
        have hq'h := Lib.hid hq
        have hH'h := Lib.hid hH
        have hrow'h := Lib.hid hrow
        have hml'h := Lib.hid hml
        have H5'h := Lib.hid H5
        have hW5'h := Lib.hid hW5
        have BH5'h := Lib.hid BH5
        have hm1'h := Lib.hid hm1
        have hm2'h := Lib.hid hm2
        have hcc'h := Lib.hid hcc
        have hkl'h := Lib.hid hkl
        have hb5'h := Lib.hid hb5
        have hrow5'h := Lib.hid hrow5
        have hm2e'h := Lib.hid hm2e
        have hms'h := Lib.hid hms
        have hmst'h := Lib.hid hmst
        have hci'h := Lib.hid hci
        have hkK'h := Lib.hid hkK
        clear hq hH hrow hml H5 hW5 BH5 hm1 hm2 hcc hkl hb5 hrow5 hm2e hms hmst hci hkK
        go_upto_region 6 with fail
        change Code.wp _ _ _ _ (wr.alloc (.cells (chA cc) 46))
        rw [← hW5'h.out]
        clear d0 d1 d2 d3
        go_upto_region 7 with (first | guard_target = wpList _ _ _ (Oper.mk _ (.load _ (.tmp 7)) _ _ _ _ :: _) _ _; refine wpList_load_row rfl 46 (.tmp 7) rfl (wr.heap.size) rfl 46 (chA cc) (0, 0) _ H5'h.out.rows.1 Try.underlying46 rfl info_ch ?_ | (go_at_call 41; refine BH5'h.out.mono ?_; rintro e w6 ⟨s6, n6, c6, rfl, hb6, hrow6⟩; have H7 := H5'h.out.next hb6; have p7 : w6.cell? ⟨w.heap.size + 1, 0, none⟩ = some _ := blk_cell H7.rows.2.1 rfl; have p7f := blk_free 0 H7.rows.2.1; have H8 := (H7.put 1 rfl 0 (.slice s6 n6 c6)).tail; have hws5 : w.heap.size + 1 < W5.heap.size := H5'h.out.lt _ (List.mem_cons_of_mem _ (List.mem_cons_self ..)); have hrow8 := ownsRow_mono (ownsRow_setCell_below hrow6 (a := ⟨w.heap.size + 1, 0, none⟩) hws5 (.slice s6 n6 c6)) (show w.heap.size + 2 ≤ W5.heap.size from hws5); have H8'h := Lib.hid H8; have hrow8'h := Lib.hid hrow8; clear H8 hrow8 H7 hb6 hrow6 p5 p0))
        clear p7 p7f
        generalize World.setCell _ _ _ = W8 at H8'h hrow8'h ⊢
        go_wp2
        go_roundg (gk - 1)
        case measure => have := hq'h.out; omega
        case rel => exact ⟨k + 1, s6, n6, c6, by have := hq'h.out; omega, by go_num, H8'h.out, by rw [← hm2'h.out]; exact hrow8'h.out⟩
      · have hm2e := hmst fun h => hle (hci.1 h)
        have hd : ¬ cc.stp ≤ s := hle
        rw [← hm2e] at hrow5
        have hl12 : m1.length = m2.length := by rw [hm2e]
        have hq'h := Lib.hid hq
        have hH'h := Lib.hid hH
        have hrow'h := Lib.hid hrow
        have hml'h := Lib.hid hml
        have H5'h := Lib.hid H5
        have hW5'h := Lib.hid hW5
        have BH5'h := Lib.hid BH5
        have hm1'h := Lib.hid hm1
        have hm2'h := Lib.hid hm2
        have hcc'h := Lib.hid hcc
        have hkl'h := Lib.hid hkl
        have hb5'h := Lib.hid hb5
        have hrow5'h := Lib.hid hrow5
        have hm2e'h := Lib.hid hm2e
        have hms'h := Lib.hid hms
        have hmst'h := Lib.hid hmst
        have hci'h := Lib.hid hci
        clear hq hH hrow hml H5 hW5 BH5 hm1 hm2 hcc hkl hb5 hrow5 hm2e hms hmst hci
        go_upto_region 5 with fail
        change Code.wp _ _ _ _ (wr.alloc (.cells (chA cc) 46))
        rw [← hW5'h.out]
        clear d0 d1 d2 d3
        go_wp2
        go_roundg (gk - 1)
        case measure => have := hq'h.out; omega
        case rel => exact ⟨k + 1, s2, _, c2, by have := hq'h.out; omega, by go_num, H5'h.out.tail, by rw [← hm2'h.out, hl12]; exact hrow5'h.out⟩
    · have hkn : k = l.length := by have := hlen'h.out; omega
      rw [hkn, Nat.min_eq_right hKl'h.out] at hrow
      have hd : ¬ ((k : Int) < (n : Int)) := by omega
      clear hkn
      have p1 : wr.cell? ⟨w.heap.size + 1, 0, none⟩ = some (.slice s2 n2 c2) := blk_cell hH.rows.1 rfl
      have p0 : wr.cell? ⟨w.heap.size, 0, none⟩ = some (.slice none 0 0) := blk_cell hH.rows.2.1 rfl
      have p0f := blk_free 0 hH.rows.2.1
      have H9 := hH.put 1 rfl 0 (.slice s2 n2 c2)
      have hrow9 := ownsRow_mono (ownsRow_setCell_below hrow (a := ⟨w.heap.size, 0, none⟩) (show w.heap.size < w.heap.size + 2 by omega) (.slice s2 n2 c2)) (show w.heap.size ≤ w.heap.size + 2 by omega)
      have hq'h := Lib.hid hq
      have hH'h := Lib.hid hH
      have hrow'h := Lib.hid hrow
      have H9'h := Lib.hid H9
      have hrow9'h := Lib.hid hrow9
      clear hq hH hrow H9 hrow9
      go_wp2
      have e1 : (wr.setCell ⟨w.heap.size, 0, none⟩ (.slice s2 n2 c2)).cell? ⟨w.heap.size, 0, none⟩ = some (.slice s2 n2 c2) := blk_cell (i := 0) H9'h.out.rows.2.1 rfl
      generalize World.setCell _ _ _ = W9 at H9'h hrow9'h e1 ⊢
      refine bodyPost_ret (v := .agg #[.slice s2 n2 c2]) ?_ rfl ⟨s2, n2, c2, rfl, H9'h.out.old, hrow9'h.out⟩
      simp [results, Try.results14, go_sem, e1]
end Go.Proofs.Ythfeiiibedmkiaa

/-
  The document's maps in a time.
-/
set_option linter.unusedSimpArgs false
set_option linter.unusedVariables false
set_option maxRecDepth 100000
namespace Go.Proofs.Ythfeiiibedmkiaa
open Go.RowKit

theorem info_mapF : (Try.prog.info? 31).map (fun i => (i.zero, i.size, i.bytes)) = some (some (.agg #[.slice none 0 0]), 1, 24) := by kernel_rfl
/-- A row of maps in memory of one's own. -/
structure MpsAt (B : Nat) (v : Value) (vals : List Value) (f : Nat → Ps) (W : World) : Prop where
  own : W.ownsRow B 31 1 v vals.length vals
  each : ∀ j, j < vals.length → ∃ s n c, vals[j]? = some (.slice s n c) ∧ SlK W 2 s n (prs (f j)) ∧ ∀ a, s = some a → a.block < W.heap.size ∧ v.ownBlock ≠ some a.block
theorem MpsAt.below {B : Nat} {v : Value} {vals : List Value} {f : Nat → Ps} {W W' : World} (h : MpsAt B v vals f W) (hb : Below W.heap.size W W') : MpsAt B v vals f W' :=
  ⟨ownsRow_next h.own hb, fun j hj => by
    obtain ⟨s, n, c, h1, h2, h3⟩ := h.each j hj
    exact ⟨s, n, c, h1, h2.below hb, fun a ha => ⟨Nat.lt_of_lt_of_le (h3 a ha).1 hb.size, (h3 a ha).2⟩⟩⟩
theorem MpsAt.one {B : Nat} {f : Nat → Ps} {W : World} {s : Option Addr} {n c : Nat} (hS : SlK W 2 s n (prs (f 0))) (hs : ∀ a, s = some a → a.block < W.heap.size) (hB : B ≤ W.heap.size) :
    MpsAt B (.slice (some ⟨W.heap.size, 0, none⟩) 1 1) [.slice s n c] f (W.alloc (.cells #[.slice s n c] 31)) :=
  ⟨World.ownsRow_lit W #[.slice s n c] 1 hB (by decide) rfl, fun j hj => by
    have hj0 : j = 0 := by simp at hj; exact hj
    subst hj0
    exact ⟨s, n, c, rfl, hS.below ((Below.refl _ _).alloc (Nat.le_refl _) _), fun a ha => ⟨by rw [World.size_alloc]; have := hs a ha; omega, fun e => by have := hs a ha; simp only [Value.ownBlock] at e; injection e with e; omega⟩⟩⟩
theorem MpsAt.grow {B : Nat} {v v' : Value} {vals : List Value} {f : Nat → Ps} {W W' : World} {s : Option Addr} {n c : Nat} (h : MpsAt B v vals f W)
    (hS : SlK W 2 s n (prs (f vals.length))) (hs : ∀ a, s = some a → a.block < W.heap.size ∧ v.ownBlock ≠ some a.block)
    (hown : W'.ownsRow B 31 1 v' (vals.length + 1) (vals ++ [.slice s n c])) (hg : W.grownBy W' v.ownBlock) (hw : v'.ownBlock = v.ownBlock ∨ v'.ownBlock = some W.heap.size) :
    MpsAt B v' (vals ++ [.slice s n c]) f W' := by
  have hkeep : ∀ {s : Option Addr} {n : Nat} {xs : List Value}, SlK W 2 s n xs → (∀ a, s = some a → a.block < W.heap.size ∧ v.ownBlock ≠ some a.block) → SlK W' 2 s n xs ∧ ∀ a, s = some a → a.block < W'.heap.size ∧ v'.ownBlock ≠ some a.block := by
    intro s n xs h1 h2
    refine ⟨h1.keep fun b o hb hsb ho => ?_, fun a ha => ?_⟩
    · obtain ⟨a, ha, rfl⟩ := Option.map_eq_some_iff.1 hsb
      exact (hg.block _ hb (fun e => (h2 a ha).2 e.symm)).trans ho
    · have h3 := h2 a ha
      have h4 := hg.size
      refine ⟨by omega, ?_⟩
      rcases hw with e | e <;> rw [e]
      · exact h3.2
      · intro e; injection e with e; omega
  have hl : (vals ++ [Value.slice s n c]).length = vals.length + 1 := by simp
  refine ⟨by rw [hl]; exact hown, fun j hj => ?_⟩
  by_cases e : j < vals.length
  · obtain ⟨s1, n1, c1, h1, h2, h3⟩ := h.each j e
    obtain ⟨g1, g2⟩ := hkeep h2 h3
    exact ⟨s1, n1, c1, by rw [List.getElem?_append_left e]; exact h1, g1, g2⟩
  · have hj : j = vals.length := by omega
    subst hj
    obtain ⟨g1, g2⟩ := hkeep hS hs
    exact ⟨s, n, c, by rw [List.getElem?_append_right (Nat.le_refl _), Nat.sub_self]; rfl, g1, g2⟩
theorem cntL_at {l : List Ch} (hr : rightL l = true) {k : Nat} (hk : k < l.length) : cntL l (nthC l k).stp = k + 1 :=
  cntL_eq (by omega) (fun j hj => by
    by_cases e : j = k
    · rw [e]; exact Int.le_refl _
    · exact Int.le_of_lt (right_rise hr (show j < k by omega) hk)) fun h => right_rise hr (Nat.lt_succ_self k) h
theorem MpsAt.mono {B B' : Nat} {v : Value} {vals : List Value} {f : Nat → Ps} {W : World} (h : MpsAt B v vals f W) (hb : B' ≤ B) : MpsAt B' v vals f W := ⟨ownsRow_mono h.own hb, h.each⟩
/-- How many maps there are ahead of a change. -/
def cutN (K0 K1 k : Nat) : Nat := 1 + (min k K1 - K0)
theorem cutN_in {K0 K1 k : Nat} (h0 : K0 ≤ k) (h1 : k < K1) : cutN K0 K1 (k + 1) = cutN K0 K1 k + 1 ∧ K0 + cutN K0 K1 k = k + 1 := by unfold cutN; omega
theorem cutN_out {K0 K1 k : Nat} (h : ¬ (K0 ≤ k ∧ k < K1)) : cutN K0 K1 (k + 1) = cutN K0 K1 k := by unfold cutN; omega
theorem cutN_le {K0 K1 k : Nat} : cutN K0 K1 k ≤ k + 1 := by unfold cutN; omega
theorem row_block9 {w : World} {base : Nat} {e : TypeId} {size : Nat} {s : Option Addr} {n c m : Nat} {xs : List Value} (h : w.ownsRow base e size (.slice s n c) m xs) : ∀ a, s = some a → base ≤ a.block ∧ a.block < w.heap.size := fun a ha => h.lt _ (by rw [ha]; rfl)
/-- What Maps tells. -/
def MapsRes (l : List Ch) (K0 N : Nat) (w : World) (e : Ending) (w' : World) : Prop :=
  ∃ s n c vals, e = .returned (.slice s n c) ∧ Below w.heap.size w w' ∧ vals.length = N ∧ MpsAt w.heap.size (.slice s n c) vals (fun j => mapL l (K0 + j)) w'
set_option maxHeartbeats 1000000 in
theorem rdMaps_any (sp : Option Addr) (n cap : Nat) (l : List Ch) (f t : Int) (w : World) (h : SlK w 4 sp n (chs l)) (hn : n ≤ 4000) (hr : rightL l = true) (hft : f ≤ t) :
    Calls Try.prog 60 #[.slice sp n cap, .agg (tmA f t)] w (MapsRes l (cntL l f) (numT l f t) w) := by
  obtain ⟨i0, hi, hz0, hz1, hz2⟩ := info_parts info_mapF
  have hlen := chs_len h
  have H0 := (Hs.nil w).new (tmA f t) 43
  obtain ⟨W0, hW0⟩ : ∃ W0, W0 = w.alloc (.cells (tmA f t) 43) := ⟨_, rfl⟩
  rw [← hW0] at H0
  have hmono := cntL_mono l hft
  have M0 := rdMap_any sp n cap l f W0 (h.below H0.old) hn hr
  have hci0 := fun k (hk : k < l.length) => cntL_iff hr (t := f) hk
  have hci1 := fun k (hk : k < l.length) => cntL_iff hr (t := t) hk
  have hK1 := cntL_le l t
  have hN : numT l f t = cntL l t - cntL l f + 1 := rfl
  rw [hN]
  generalize cntL l f = K0 at *
  generalize cntL l t = K1 at *
  have q0 : W0.cell? ⟨w.heap.size, 0, none⟩ = some (.int .i64 f) := blk_cell H0.rows.1 rfl
  have H0'h := Lib.hid H0
  have h'h := Lib.hid h
  have hlen'h := Lib.hid hlen
  have hr'h := Lib.hid hr
  have hmono'h := Lib.hid hmono
  have M0'h := Lib.hid M0
  have hci0'h := Lib.hid hci0
  have hci1'h := Lib.hid hci1
  have hK1'h := Lib.hid hK1
  have hN'h := Lib.hid hN
  have hft'h := Lib.hid hft
  clear H0 h hlen hr hmono M0 hci0 hci1 hK1 hN hft
  go_enter Try.func60, Try.ntmps60
  go_upto_region 1 with fail
  rw [show World.alloc w _ = W0 from hW0.symm]
  clear hW0
  go_upto_region 2 with (first | (go_at_call 14; refine M0'h.out.mono ?_; rintro e w1 ⟨s1, n1, c1, rfl, hb1, hrow1⟩))
  have H1 := H0'h.out.next hb1
  clear q0
  obtain rfl := row_len9 hrow1
  have hml := len_mapL l K0
  have hB1 := row_block9 hrow1
  have hM := MpsAt.one (B := w.heap.size + 1) (f := fun j => mapL l (K0 + j)) (c := c1) (SlK.of_row hrow1 (by have := hmono'h.out; have := hK1'h.out; have := hlen'h.out; unfold maxLen; omega)) (fun a ha => (hB1 a ha).2) (H1.lt _ (List.mem_cons_self ..))
  have H2 := H1.next ((Below.refl _ _).alloc (Nat.le_refl _) (.cells #[.slice s1 (mapL l K0).length c1] 31))
  generalize hW2 : World.alloc _ _ = W2 at hM H2 ⊢
  clear hW2 hrow1 hb1 H1 hml hB1
  have hM'h := Lib.hid hM
  have H2'h := Lib.hid H2
  clear hM H2
  go_wp2
  go_loopg [5, 15] n (fun q x i wr => ∃ (k : Nat) (vals : List Value) (v : Value), v = x ∧ k + q = n ∧ i = .int .i64 k ∧ Hs w [(w.heap.size, tmA f t, 43)] wr ∧ vals.length = cutN K0 K1 k ∧ MpsAt (w.heap.size + 1) v vals (fun j => mapL l (K0 + j)) wr)
  case atStart => exact ⟨0, _, _, rfl, by omega, rfl, H2'h.out, by unfold cutN; simp, hM'h.out⟩
  case round =>
    obtain ⟨k, vals, v, rfl, hq, rfl, hH, hvl, hM⟩ := hrel
    by_cases hlt : k < n
    · have hkl : k < l.length := by have := hlen'h.out; omega
      obtain ⟨b, off, rfl, -⟩ := h'h.out.some' (by omega)
      obtain ⟨d0, d1, d2, d3⟩ := chs_cells (h'h.out.below hH.old) hkl
      have hi1 : (k : Int) < (n : Int) := by omega
      have h0k : (0 : Int) ≤ (k : Int) := by omega
      have hc0 := hci0'h.out k hkl
      have hc1 := hci1'h.out k hkl
      have hat := cntL_at hr'h.out hkl
      have H4 := hH.new (chA (nthC l k)) 46
      obtain ⟨W4, hW4⟩ : ∃ W4, W4 = wr.alloc (.cells (chA (nthC l k)) 46) := ⟨_, rfl⟩
      rw [← hW4] at H4
      have hb4 : Below wr.heap.size wr W4 := by rw [hW4]; exact (Below.refl _ _).alloc (Nat.le_refl _) _
      have hM4 := hM.below hb4
      have MK := rdMap_any (some ⟨b, off, none⟩) n cap l (nthC l k).stp W4 (h'h.out.below H4.old) hn hr'h.out
      rw [hat] at MK
      clear hat
      obtain ⟨cc, hcc⟩ : ∃ x, x = nthC l k := ⟨_, rfl⟩
      rw [← hcc] at d0 d1 d2 d3 H4 hW4 hc0 hc1 MK
      have p0 : W4.cell? ⟨wr.heap.size, 0, none⟩ = some (.int .i64 cc.stp) := blk_cell H4.rows.1 rfl
      have p1 : W4.cell? ⟨w.heap.size, 0, none⟩ = some (.int .i64 f) := blk_cell H4.rows.2.1 rfl
      have p2 : W4.cell? ⟨w.heap.size, 1, none⟩ = some (.int .i64 t) := blk_cell H4.rows.2.1 rfl
      by_cases ha : cc.stp ≤ f
      · have hd : ¬ f < cc.stp := by omega
        have hcut := cutN_out (K0 := K0) (K1 := K1) (k := k) (fun h => by have := hc0.2 ha; omega)
        have hq'h := Lib.hid hq
        have hH'h := Lib.hid hH
        have hM'h := Lib.hid hM
        have H4'h := Lib.hid H4
        have hW4'h := Lib.hid hW4
        have hM4'h := Lib.hid hM4
        have MK'h := Lib.hid MK
        have hcc'h := Lib.hid hcc
        have hkl'h := Lib.hid hkl
        have hb4'h := Lib.hid hb4
        have hvl'h := Lib.hid hvl
        have hcut'h := Lib.hid hcut
        have hc0'h := Lib.hid hc0
        have hc1'h := Lib.hid hc1
        clear hq hH hM H4 hW4 hM4 MK hcc hkl hb4 hvl hcut hc0 hc1
        clear ha
        go_upto_region 5 with fail
        change Code.wp _ _ _ _ (wr.alloc (.cells (chA cc) 46))
        rw [← hW4'h.out]
        clear d0 d1 d2 d3
        go_wp2
        go_roundg (gk - 1)
        case measure => have := hq'h.out; omega
        case rel => exact ⟨k + 1, vals, _, rfl, by have := hq'h.out; omega, by go_num, H4'h.out.tail, by rw [hcut'h.out]; exact hvl'h.out, hM4'h.out⟩
      have ha2 : f < cc.stp := by omega
      by_cases hb : cc.stp ≤ t
      · have hin := cutN_in (K0 := K0) (K1 := K1) (k := k) (by have := mt hc0.1 (show ¬ cc.stp ≤ f from ha); omega) (hc1.2 hb)
        have hsz4 : w.heap.size ≤ W4.heap.size := H4.old.size
        have hvk := cutN_le (K0 := K0) (K1 := K1) (k := k)
        have hq'h := Lib.hid hq
        have hH'h := Lib.hid hH
        have hM'h := Lib.hid hM
        have H4'h := Lib.hid H4
        have hW4'h := Lib.hid hW4
        have hM4'h := Lib.hid hM4
        have MK'h := Lib.hid MK
        have hcc'h := Lib.hid hcc
        have hkl'h := Lib.hid hkl
        have hb4'h := Lib.hid hb4
        have hvl'h := Lib.hid hvl
        have hin'h := Lib.hid hin
        have hc0'h := Lib.hid hc0
        have hc1'h := Lib.hid hc1
        have hvk'h := Lib.hid hvk
        clear hq hH hM H4 hW4 hM4 MK hcc hkl hb4 hvl hin hc0 hc1 hvk
        clear ha
        go_upto_region 5 with fail
        change Code.wp _ _ _ _ (wr.alloc (.cells (chA cc) 46))
        rw [← hW4'h.out]
        clear d0 d1 d2 d3
        have hown4 := hM4'h.out.own
        have hvs : ∀ a, v.ownBlock = some a → a < W4.heap.size := fun a ha => (hown4.lt a ha).2
        have hml2 := len_mapL l (k + 1)
        have hown4'h := Lib.hid hown4
        have hvs'h := Lib.hid hvs
        have hml2'h := Lib.hid hml2
        clear hown4 hvs hml2
        go_wp2_with (first | (go_at_call 14; refine MK'h.out.mono ?_; rintro e w5 ⟨s5, n5, c5, rfl, hb5, hrow5⟩; obtain rfl := row_len9 hrow5; have hb6 : Below w5.heap.size w5 (w5.alloc (.cells #[.slice s5 (mapL l (k + 1)).length c5] 31)) := (Below.refl _ _).alloc (Nat.le_refl _) _; have hone : ∀ u ∈ [Value.slice s5 (mapL l (k + 1)).length c5], u.oneCell' = true := (by intro u hu; rw [List.mem_singleton.1 hu]; rfl); have hM6 := (hM4'h.out.below hb5).below hb6; have hbb := row_block9 hrow5; have hS6 := (SlK.of_row (k := 2) (n := (mapL l (k + 1)).length) hrow5 (by have := hml2'h.out; unfold maxLen; omega)).below hb6; have hH6 := (H4'h.out.next hb5).next hb6; have hb5z := hb5.size; have hone'h := Lib.hid hone; have hM6'h := Lib.hid hM6; have hbb'h := Lib.hid hbb; have hS6'h := Lib.hid hS6; have hH6'h := Lib.hid hH6; have hrow5'h := Lib.hid hrow5; clear hone hM6 hbb hS6 hH6 hrow5 hb6 hb5 p0 p1 p2) | (at_builtin; refine wpList_append_slk _ rfl (.tmp 31) (.tmp 36) 103 rfl (w.heap.size + 1) 31 i0 _ 1 24 Try.underlying103 hi hz0 hz1 hz2 rfl (by decide) v vals.length vals rfl hM6'h.out.own (some ⟨w5.heap.size, 0, none⟩) 1 1 [.slice s5 (mapL l (k + 1)).length c5] rfl (SlK.of_blk (k := 1) (n := 1) (World.alloc_heap_new w5 (.cells #[.slice s5 (mapL l (k + 1)).length c5] 31)) rfl (by decide)) hone'h.out (by have := hvl'h.out; have := hvk'h.out; unfold maxLen; omega) (by have := hvl'h.out; have := hvk'h.out; omega) (by rw [World.size_alloc]; omega) ?_; intro v' w9 hown' hgrow hwh))
        go_roundg (gk - 1)
        case measure => have := hq'h.out; omega
        case rel =>
          have h2 := hin'h.out
          have hvl := hvl'h.out
          have hfk : mapL l (K0 + vals.length) = mapL l (k + 1) := by rw [hvl, h2.2]
          refine ⟨k + 1, vals ++ [.slice s5 (mapL l (k + 1)).length c5], _, rfl, by have := hq'h.out; omega, by go_num, (hH6'h.out.grown' hgrow (fun j hj => ?_)).tail, by rw [h2.1, ← hvl]; simp, hM6'h.out.grow (n := (mapL l (k + 1)).length) (by rw [hfk]; exact hS6'h.out) (fun a ha => ⟨by have := hbb'h.out a ha; rw [World.size_alloc]; omega, fun e => by have h5 := hvs'h.out _ e; have := hbb'h.out a ha; omega⟩) hown' hgrow hwh⟩
          have h5 := hM'h.out.own.lt j hj
          exact ⟨by omega, fun x hx => by
            rcases List.mem_cons.1 hx with rfl | hx
            · simp only; omega
            rcases List.mem_cons.1 hx with rfl | hx
            · simp only; omega
            · cases hx⟩
      · have hb2 : ¬ cc.stp ≤ t := hb
        have hcut := cutN_out (K0 := K0) (K1 := K1) (k := k) (fun h => by exact hb (hc1.1 h.2))
        have hq'h := Lib.hid hq
        have hH'h := Lib.hid hH
        have hM'h := Lib.hid hM
        have H4'h := Lib.hid H4
        have hW4'h := Lib.hid hW4
        have hM4'h := Lib.hid hM4
        have MK'h := Lib.hid MK
        have hcc'h := Lib.hid hcc
        have hkl'h := Lib.hid hkl
        have hb4'h := Lib.hid hb4
        have hvl'h := Lib.hid hvl
        have hcut'h := Lib.hid hcut
        have hc0'h := Lib.hid hc0
        have hc1'h := Lib.hid hc1
        clear hq hH hM H4 hW4 hM4 MK hcc hkl hb4 hvl hcut hc0 hc1
        clear ha
        go_upto_region 5 with fail
        change Code.wp _ _ _ _ (wr.alloc (.cells (chA cc) 46))
        rw [← hW4'h.out]
        clear d0 d1 d2 d3
        go_wp2
        go_roundg (gk - 1)
        case measure => have := hq'h.out; omega
        case rel => exact ⟨k + 1, vals, _, rfl, by have := hq'h.out; omega, by go_num, H4'h.out.tail, by rw [hcut'h.out]; exact hvl'h.out, hM4'h.out⟩
    · have hkn : k = l.length := by have := hlen'h.out; omega
      have hfin : vals.length = K1 - K0 + 1 := by rw [hvl, hkn]; have := hK1'h.out; unfold cutN; omega
      have hd : ¬ ((k : Int) < (n : Int)) := by omega
      obtain ⟨sv, nv, cv, rfl⟩ := row_slice3 hM.own
      clear hkn hvl
      have hq'h := Lib.hid hq
      have hH'h := Lib.hid hH
      have hM'h := Lib.hid hM
      have hfin'h := Lib.hid hfin
      clear hq hH hM hfin
      go_wp2
      go_ret
      exact ⟨sv, nv, cv, vals, rfl, hH'h.out.old, hfin'h.out, hM'h.out.mono (show w.heap.size ≤ w.heap.size + 1 by omega)⟩
end Go.Proofs.Ythfeiiibedmkiaa

/-
  The document's Span, Held, Sizes.
-/
set_option linter.unusedSimpArgs false
set_option linter.unusedVariables false
set_option maxRecDepth 100000
namespace Go.Proofs.Ythfeiiibedmkiaa
open Go.RowKit

theorem rdSpan_any (f t : Int) (w : World) : Calls Try.prog 21 #[.agg (tmA f t)] w fun e w' => e = .returned (.bool (spanB f t)) ∧ Below w.heap.size w w' := by
  have H1 := (Hs.nil w).new (tmA f t) 43
  obtain ⟨W, hW⟩ : ∃ W, W = w.alloc (.cells (tmA f t) 43) := ⟨_, rfl⟩
  rw [← hW] at H1
  have q0 : W.cell? ⟨w.heap.size, 0, none⟩ = some (.int .i64 f) := blk_cell H1.rows.1 rfl
  have q1 : W.cell? ⟨w.heap.size, 1, none⟩ = some (.int .i64 t) := blk_cell H1.rows.1 rfl
  have hr : spanB f t = (decide (0 ≤ f) && decide (f ≤ t)) := rfl
  generalize spanB f t = r at *
  by_cases h1 : 0 ≤ f
  · have hr2 : decide (f ≤ t) = r := by rw [hr, decide_eq_true h1, Bool.true_and]
    have H1'h := Lib.hid H1
    have hr'h := Lib.hid hr
    clear H1 hr
    go_enter Try.func21, Try.ntmps21
    go_upto_region 1 with fail
    rw [show World.alloc w _ = W from hW.symm]
    clear hW
    go_wp2
    go_ret
    exact ⟨by first | rfl | exact ret_bool hr2 | exact ret_bool rfl, H1'h.out.old⟩
  · have hr2 : r = false := by rw [hr, decide_eq_false h1, Bool.false_and]
    subst hr2
    have H1'h := Lib.hid H1
    have hr'h := Lib.hid hr
    clear H1 hr
    go_enter Try.func21, Try.ntmps21
    go_upto_region 1 with fail
    rw [show World.alloc w _ = W from hW.symm]
    clear hW
    go_wp2
    go_ret
    exact ⟨rfl, H1'h.out.old⟩
theorem MpsAt.at {B : Nat} {sv : Option Addr} {nv cv : Nat} {vals : List Value} {f : Nat → Ps} {W : World} (h : MpsAt B (.slice sv nv cv) vals f W) (hl : vals.length ≤ maxLen) {j : Nat} (hj : j < vals.length) :
    ∃ b off s n c, sv = some ⟨b, off, none⟩ ∧ W.cell? ⟨b, off + j, none⟩ = some (.slice s n c) ∧ SlK W 2 s n (prs (f j)) := by
  have hnv := row_len9 h.own
  obtain ⟨b, off, hs, hc⟩ := (SlK.of_row h.own (by omega)).some' (by omega)
  obtain ⟨s, n, c, h1, h2, _⟩ := h.each j hj
  exact ⟨b, off, s, n, c, hs, hc j _ h1, h2⟩
theorem Hs.next_tail {w0 W W' : World} {L : List Blk3} (h : Hs w0 L W) (hb : Below W.heap.size W W') : Hs w0 L W' := h.next hb
set_option maxHeartbeats 1000000 in
theorem rdHeld_any (sp : Option Addr) (n cap : Nat) (l : List Ch) (key : Nat) (f t : Int) (w : World) (h : SlK w 4 sp n (chs l)) (hn : n ≤ 4000) (hr : rightL l = true) (hft : f ≤ t) :
    Calls Try.prog 35 #[.slice sp n cap, .int .u64 key, .agg (tmA f t)] w fun e w' => e = .returned (.tuple #[.bool (allK l (cntL l f) key (numT l f t)), .bool (anyK l (cntL l f) key (numT l f t))]) ∧ Below w.heap.size w w' := by
  have hlen := chs_len h
  have H0 := (Hs.nil w).new (tmA f t) 43
  obtain ⟨W0, hW0⟩ : ∃ W0, W0 = w.alloc (.cells (tmA f t) 43) := ⟨_, rfl⟩
  rw [← hW0] at H0
  have MS := rdMaps_any sp n cap l f t W0 (h.below H0.old) hn hr hft
  have hN4 : numT l f t ≤ 4001 := by unfold numT; have := cntL_le l t; omega
  generalize cntL l f = K0 at *
  generalize numT l f t = N at *
  have H0'h := Lib.hid H0
  have h'h := Lib.hid h
  have hlen'h := Lib.hid hlen
  have hr'h := Lib.hid hr
  have MS'h := Lib.hid MS
  clear H0 h hlen hr MS
  go_enter Try.func35, Try.ntmps35
  go_upto_region 2 with fail
  rw [show World.alloc w _ = W0 from hW0.symm]
  clear hW0
  go_wp2_with (first | guard_target = wpList _ _ _ (Oper.mk _ (.load _ (.tmp 5)) _ _ _ _ :: _) _ _; refine wpList_load_row rfl 43 (.tmp 5) rfl (w.heap.size) rfl 43 (tmA f t) (0, 0) _ H0'h.out.rows.1 Try.underlying43 rfl info_tm ?_ | (go_at_call 60; refine MS'h.out.mono ?_; rintro e w2 ⟨sm, nm, cm, vals, rfl, hb2, rfl, hM2⟩; obtain rfl := row_len9 hM2.own))
  have H2 := H0'h.out.next hb2
  have hM2'h := Lib.hid hM2
  have H2'h := Lib.hid H2
  have hb2'h := Lib.hid hb2
  clear hM2 H2 hb2
  go_loopg [8, 9, 18] vals.length (fun q a s i wr => ∃ k : Nat, k + q = vals.length ∧ i = .int .i64 k ∧ a = .bool (allK l K0 key k) ∧ s = .bool (anyK l K0 key k) ∧ Hs w [(w.heap.size, tmA f t, 43)] wr ∧ Below w2.heap.size w2 wr)
  case atStart => exact ⟨0, by omega, rfl, rfl, rfl, H2'h.out, Below.refl _ _⟩
  case round =>
    obtain ⟨k, hq, rfl, rfl, rfl, hH, hB⟩ := hrel
    by_cases hlt : k < vals.length
    · obtain ⟨b, off, s, n3, c3, rfl, d0, hS⟩ := (hM2'h.out.below hB).at (by unfold maxLen; omega) hlt
      have hi1 : (k : Int) < (vals.length : Int) := by omega
      have h0k : (0 : Int) ≤ (k : Int) := by omega
      have H4 := hH.new #[.slice s n3 c3] 31
      have hb4 : Below wr.heap.size wr (wr.alloc (.cells #[.slice s n3 c3] 31)) := (Below.refl _ _).alloc (Nat.le_refl _) _
      have G := rget_any s n3 c3 (mapL l (K0 + k)) key _ (hS.below hb4)
      rw [findP_up (up_mapL l _), show (getS (mapL l (K0 + k)) key).isSome = hasP (mapL l (K0 + k)) key from rfl] at G
      have has := allK_succ l K0 key k
      have hss := anyK_succ l K0 key k
      generalize hasP (mapL l (K0 + k)) key = hp at *
      generalize allK l K0 key k = a at *
      generalize anyK l K0 key k = x at *
      generalize (getS (mapL l (K0 + k)) key).getD 0 = gv at *
      obtain ⟨W4, hW4⟩ : ∃ W4, W4 = wr.alloc (.cells #[.slice s n3 c3] 31) := ⟨_, rfl⟩
      rw [← hW4] at G H4 hb4
      have p0 : W4.cell? ⟨wr.heap.size, 0, none⟩ = some (.slice s n3 c3) := blk_cell H4.rows.1 rfl
      have hq'h := Lib.hid hq
      have hH'h := Lib.hid hH
      have hB'h := Lib.hid hB
      have hS'h := Lib.hid hS
      have H4'h := Lib.hid H4
      have hb4'h := Lib.hid hb4
      have G'h := Lib.hid G
      have has'h := Lib.hid has
      have hss'h := Lib.hid hss
      have hW4'h := Lib.hid hW4
      clear hq hH hB hS H4 hb4 G has hss hW4
      go_upto_region 5 with fail
      rw [← hW4'h.out]
      clear d0
      cases a with
      | true =>
        cases x with
        | true =>
          go_wp2_with (first | (go_at_call 61; refine G'h.out.mono ?_; rintro e w5 ⟨rfl, hb5⟩))
          go_roundg (gk - 1)
          case measure => have := hq'h.out; omega
          case rel => exact ⟨k + 1, by have := hq'h.out; omega, by go_num, by rw [has'h.out]; rfl, by rw [hss'h.out]; rfl, H4'h.out.tail.next_tail hb5, below_next (below_next hB'h.out hb4'h.out) hb5⟩
        | false =>
          go_wp2_with (first | (go_at_call 61; refine G'h.out.mono ?_; rintro e w5 ⟨rfl, hb5⟩))
          go_roundg (gk - 1)
          case measure => have := hq'h.out; omega
          case rel => exact ⟨k + 1, by have := hq'h.out; omega, by go_num, by rw [has'h.out]; rfl, by rw [hss'h.out]; rfl, H4'h.out.tail.next_tail hb5, below_next (below_next hB'h.out hb4'h.out) hb5⟩
      | false =>
        cases x with
        | true =>
          go_wp2_with (first | (go_at_call 61; refine G'h.out.mono ?_; rintro e w5 ⟨rfl, hb5⟩))
          go_roundg (gk - 1)
          case measure => have := hq'h.out; omega
          case rel => exact ⟨k + 1, by have := hq'h.out; omega, by go_num, by rw [has'h.out]; rfl, by rw [hss'h.out]; rfl, H4'h.out.tail.next_tail hb5, below_next (below_next hB'h.out hb4'h.out) hb5⟩
        | false =>
          go_wp2_with (first | (go_at_call 61; refine G'h.out.mono ?_; rintro e w5 ⟨rfl, hb5⟩))
          go_roundg (gk - 1)
          case measure => have := hq'h.out; omega
          case rel => exact ⟨k + 1, by have := hq'h.out; omega, by go_num, by rw [has'h.out]; rfl, by rw [hss'h.out]; rfl, H4'h.out.tail.next_tail hb5, below_next (below_next hB'h.out hb4'h.out) hb5⟩
    · have hkn : k = vals.length := by omega
      have hd : ¬ ((k : Int) < (vals.length : Int)) := by omega
      subst hkn
      have hq'h := Lib.hid hq
      have hH'h := Lib.hid hH
      have hB'h := Lib.hid hB
      clear hq hH hB
      go_wp2
      exact bodyPost_ret (results_tmp2 rfl _ _ _) rfl ⟨rfl, hH'h.out.old⟩
def lsD (l : List Ch) (k0 k : Nat) : Nat := min (mapL l k0).length (leastM l k0 k)
def mxD (l : List Ch) (k0 k : Nat) : Nat := max (mapL l k0).length (mostM l k0 k)
theorem lsD_succ (l : List Ch) (k0 k : Nat) : lsD l k0 (k + 1) = min (lsD l k0 k) (mapL l (k0 + k)).length := by unfold lsD; rw [leastM, Nat.min_assoc]
theorem mxD_succ (l : List Ch) (k0 k : Nat) : mxD l k0 (k + 1) = max (mxD l k0 k) (mapL l (k0 + k)).length := by unfold mxD; rw [mostM, Nat.max_assoc]
theorem leastM_one {l : List Ch} {k0 : Nat} : ∀ {k : Nat}, 0 < k → leastM l k0 k ≤ (mapL l k0).length
  | 1, _ => by rw [leastM, Nat.add_zero]; exact Nat.min_le_right _ _
  | k + 2, _ => by rw [leastM]; exact Nat.le_trans (Nat.min_le_left _ _) (leastM_one (by omega))
theorem mostM_one {l : List Ch} {k0 : Nat} : ∀ {k : Nat}, 0 < k → (mapL l k0).length ≤ mostM l k0 k
  | 1, _ => by rw [mostM, Nat.add_zero]; exact Nat.le_max_right _ _
  | k + 2, _ => by rw [mostM]; exact Nat.le_trans (mostM_one (by omega)) (Nat.le_max_left _ _)
theorem lsD_end {l : List Ch} {k0 k : Nat} (h : 0 < k) : lsD l k0 k = leastM l k0 k := Nat.min_eq_right (leastM_one h)
theorem mxD_end {l : List Ch} {k0 k : Nat} (h : 0 < k) : mxD l k0 k = mostM l k0 k := Nat.max_eq_right (mostM_one h)
theorem lsD_zero {l : List Ch} {k0 : Nat} (h : k0 ≤ l.length) : lsD l k0 0 = (mapL l k0).length := by have := len_mapL l k0; unfold lsD; rw [leastM]; omega
theorem mxD_zero {l : List Ch} {k0 : Nat} : mxD l k0 0 = (mapL l k0).length := by unfold mxD; rw [mostM]; omega
set_option maxHeartbeats 1000000 in
theorem rdSizes_any (sp : Option Addr) (n cap : Nat) (l : List Ch) (f t : Int) (w : World) (h : SlK w 4 sp n (chs l)) (hn : n ≤ 4000) (hr : rightL l = true) (hft : f ≤ t) :
    Calls Try.prog 32 #[.slice sp n cap, .agg (tmA f t)] w fun e w' => e = .returned (.tuple #[.int .i64 (leastM l (cntL l f) (numT l f t) : Nat), .int .i64 (mostM l (cntL l f) (numT l f t) : Nat)]) ∧ Below w.heap.size w w' := by
  have hlen := chs_len h
  have H0 := (Hs.nil w).new (tmA f t) 43
  obtain ⟨W0, hW0⟩ : ∃ W0, W0 = w.alloc (.cells (tmA f t) 43) := ⟨_, rfl⟩
  rw [← hW0] at H0
  have MS := rdMaps_any sp n cap l f t W0 (h.below H0.old) hn hr hft
  have hN4 : numT l f t ≤ 4001 := by unfold numT; have := cntL_le l t; omega
  have hN0 : 0 < numT l f t := by unfold numT; omega
  have hK0 := cntL_le l f
  generalize cntL l f = K0 at *
  rw [← lsD_end hN0, ← mxD_end hN0]
  generalize numT l f t = N at *
  have hz1 := lsD_zero hK0
  have hz2 := mxD_zero (l := l) (k0 := K0)
  have H0'h := Lib.hid H0
  have h'h := Lib.hid h
  have hlen'h := Lib.hid hlen
  have hr'h := Lib.hid hr
  have MS'h := Lib.hid MS
  have hz1'h := Lib.hid hz1
  have hz2'h := Lib.hid hz2
  clear H0 h hlen hr MS hz1 hz2
  go_enter Try.func32, Try.ntmps32
  go_upto_region 1 with fail
  rw [show World.alloc w _ = W0 from hW0.symm]
  clear hW0
  go_upto_region 2 with (first | guard_target = wpList _ _ _ (Oper.mk _ (.load _ (.tmp 3)) _ _ _ _ :: _) _ _; refine wpList_load_row rfl 43 (.tmp 3) rfl (w.heap.size) rfl 43 (tmA f t) (0, 0) _ H0'h.out.rows.1 Try.underlying43 rfl info_tm ?_ | (go_at_call 60; refine MS'h.out.mono ?_; rintro e w2 ⟨sm, nm, cm, vals, rfl, hb2, rfl, hM2⟩; obtain rfl := row_len9 hM2.own))
  have H2 := H0'h.out.next hb2
  obtain ⟨b0, off0, s0, n0, c0, rfl, e0, hS0⟩ := hM2.at (by unfold maxLen; omega) hN0
  have hn0 := prs_len hS0
  rw [Nat.add_zero] at e0 hn0
  have hM2'h := Lib.hid hM2
  have H2'h := Lib.hid H2
  have hb2'h := Lib.hid hb2
  have hS0'h := Lib.hid hS0
  clear hM2 H2 hb2 hS0
  go_quiet (fail)
  have hM3 := hM2'h.out.below (below_drewN' w2 nq)
  have H3 := H2'h.out.drewN nq
  generalize w2.drewN nq = W3 at hM3 H3 ⊢
  rw [← hz1'h.out]
  have hM3'h := Lib.hid hM3
  have H3'h := Lib.hid H3
  clear hM3 H3
  clear e0
  go_wp2
  go_loopg [7, 8, 28] vals.length (fun q a s i wr => ∃ k : Nat, k + q = vals.length ∧ i = .int .i64 k ∧ a = .int .i64 (lsD l K0 k : Nat) ∧ s = .int .i64 (mxD l K0 k : Nat) ∧ Hs w [(w.heap.size, tmA f t, 43)] wr ∧ Below W3.heap.size W3 wr)
  case atStart => exact ⟨0, by omega, rfl, rfl, by rw [hz2'h.out, hz1'h.out], H3'h.out, Below.refl _ _⟩
  case round =>
    obtain ⟨k, hq, rfl, rfl, rfl, hH, hB⟩ := hrel
    by_cases hlt : k < vals.length
    · obtain ⟨b, off, s, n3, c3, hsb, d0, hS⟩ := (hM3'h.out.below hB).at (by unfold maxLen; omega) hlt
      have hn3 := prs_len hS
      injection hsb with hsb
      injection hsb with hb1 hb2 hb3
      subst hb1
      subst hb2
      have hi1 : (k : Int) < (vals.length : Int) := by omega
      have h0k : (0 : Int) ≤ (k : Int) := by omega
      have H4 := hH.new #[.slice s n3 c3] 31
      have hb4 : Below wr.heap.size wr (wr.alloc (.cells #[.slice s n3 c3] 31)) := (Below.refl _ _).alloc (Nat.le_refl _) _
      have hls := lsD_succ l K0 k
      have hms := mxD_succ l K0 k
      rw [← hn3] at hls hms
      generalize lsD l K0 k = x at *
      generalize mxD l K0 k = y at *
      have hq'h := Lib.hid hq
      have hH'h := Lib.hid hH
      have hB'h := Lib.hid hB
      have hS'h := Lib.hid hS
      have hn3'h := Lib.hid hn3
      have H4'h := Lib.hid H4
      have hb4'h := Lib.hid hb4
      have hls'h := Lib.hid hls
      have hms'h := Lib.hid hms
      clear hq hH hB hS hn3 H4 hb4 hls hms
      by_cases h1 : n3 < x
      · have h1' : (n3 : Int) < (x : Int) := by omega
        by_cases h2 : y < n3
        · have h2' : (y : Int) < (n3 : Int) := by omega
          go_wp2
          go_roundg (gk - 1)
          case measure => have := hq'h.out; omega
          case rel => exact ⟨k + 1, by have := hq'h.out; omega, by go_num, by rw [hls'h.out]; congr 2; omega, by rw [hms'h.out]; congr 2; omega, H4'h.out.tail, below_next hB'h.out hb4'h.out⟩
        · have h2' : ¬ (y : Int) < (n3 : Int) := by omega
          go_wp2
          go_roundg (gk - 1)
          case measure => have := hq'h.out; omega
          case rel => exact ⟨k + 1, by have := hq'h.out; omega, by go_num, by rw [hls'h.out]; congr 2; omega, by rw [hms'h.out]; congr 2; omega, H4'h.out.tail, below_next hB'h.out hb4'h.out⟩
      · have h1' : ¬ (n3 : Int) < (x : Int) := by omega
        by_cases h2 : y < n3
        · have h2' : (y : Int) < (n3 : Int) := by omega
          go_wp2
          go_roundg (gk - 1)
          case measure => have := hq'h.out; omega
          case rel => exact ⟨k + 1, by have := hq'h.out; omega, by go_num, by rw [hls'h.out]; congr 2; omega, by rw [hms'h.out]; congr 2; omega, H4'h.out.tail, below_next hB'h.out hb4'h.out⟩
        · have h2' : ¬ (y : Int) < (n3 : Int) := by omega
          go_wp2
          go_roundg (gk - 1)
          case measure => have := hq'h.out; omega
          case rel => exact ⟨k + 1, by have := hq'h.out; omega, by go_num, by rw [hls'h.out]; congr 2; omega, by rw [hms'h.out]; congr 2; omega, H4'h.out.tail, below_next hB'h.out hb4'h.out⟩
    · have hkn : k = vals.length := by omega
      have hd : ¬ ((k : Int) < (vals.length : Int)) := by omega
      subst hkn
      have hq'h := Lib.hid hq
      have hH'h := Lib.hid hH
      have hB'h := Lib.hid hB
      clear hq hH hB
      go_wp2
      exact bodyPost_ret (results_tmp2 rfl _ _ _) rfl ⟨rfl, hH'h.out.old⟩
end Go.Proofs.Ythfeiiibedmkiaa

/-
  The document's had, Values, Must.
-/
set_option linter.unusedSimpArgs false
set_option linter.unusedVariables false
set_option maxRecDepth 100000
namespace Go.Proofs.Ythfeiiibedmkiaa
open Go.RowKit

theorem rhad_any (sp : Option Addr) (n cap : Nat) (l : List Nat) (x : Nat) (w : World) (h : Sl w sp n (u64s l)) :
    Calls Try.prog 50 #[.slice sp n cap, .int .u64 x] w fun e w' => e = .returned (.bool (l.contains x)) ∧ w' = w := by
  have hlen : n = l.length := by have := h.1; rw [u64s_length] at this; omega
  have hmax := h.2.1
  unfold maxLen at hmax
  have hyes : ∀ k, k < l.length → nthN l k = x → l.contains x = true := fun k hk e => by rw [← e]; simpa using nthN_mem hk
  have hno : (∀ k, k < l.length → nthN l k ≠ x) → l.contains x = false := fun h => by
    rw [← Bool.not_eq_true]
    intro hc
    have hm : x ∈ l := by simpa using hc
    obtain ⟨j, hj, e⟩ := List.mem_iff_getElem.1 hm
    exact h j hj (by rw [← nthN_eq hj]; exact e)
  generalize l.contains x = r at *
  have hlen'h := Lib.hid hlen
  have h'h := Lib.hid h
  have hyes'h := Lib.hid hyes
  have hno'h := Lib.hid hno
  clear hlen h hyes hno
  go_enter Try.func50, Try.ntmps50
  go_wp2
  go_loopg [9] n (fun q i wr => ∃ k : Nat, k + q = n ∧ i = .int .i64 k ∧ (∀ j, j < k → nthN l j ≠ x) ∧ wr = w)
  case atStart => exact ⟨0, by omega, rfl, fun j hj => by omega, rfl⟩
  case round =>
    obtain ⟨k, hk, rfl, hall, rfl⟩ := hrel
    by_cases hlt : k < n
    · have hkl : k < l.length := by have := hlen'h.out; omega
      obtain ⟨b, off, rfl, hcs⟩ := h'h.out.some' (by omega)
      have c1 : wr.cell? ⟨b, off + k, none⟩ = some (.int .u64 (nthN l k)) := hcs k _ (u64s_at hkl)
      have hi1 : (k : Int) < (n : Int) := by omega
      have h0k : (0 : Int) ≤ (k : Int) := by omega
      clear hcs
      by_cases hv : nthN l k = x
      · have hr := hyes'h.out k hkl hv
        have he : ((nthN l k : Int) == (x : Int)) = true := by rw [hv]; simp
        have hk'h := Lib.hid hk
        have hall'h := Lib.hid hall
        have hr'h := Lib.hid hr
        have hv'h := Lib.hid hv
        have hkl'h := Lib.hid hkl
        clear hk hall hr hv hkl
        go_wp2
        go_ret
        exact ⟨ret_bool hr'h.out.symm, rfl⟩
      · have hall' : ∀ j, j < k + 1 → nthN l j ≠ x := fun j hj => by
          by_cases e : j = k
          · rw [e]; exact hv
          · exact hall j (by omega)
        have he : ((nthN l k : Int) == (x : Int)) = false := by simp; omega
        have hk'h := Lib.hid hk
        have hall'h := Lib.hid hall
        have hv'h := Lib.hid hv
        have hkl'h := Lib.hid hkl
        have hall''h := Lib.hid hall'
        clear hk hall hv hkl hall'
        go_wp2
        go_roundg (gk - 1)
        case measure => have := hk'h.out; omega
        case rel => exact ⟨k + 1, by have := hk'h.out; omega, by go_num, hall''h.out, rfl⟩
    · have hr := hno'h.out (fun j hj => hall j (by have := hlen'h.out; omega))
      have hd : ¬ ((k : Int) < (n : Int)) := by omega
      have hk'h := Lib.hid hk
      have hall'h := Lib.hid hall
      have hr'h := Lib.hid hr
      clear hk hall hr
      go_wp2
      go_ret
      exact ⟨ret_bool hr'h.out.symm, rfl⟩
/-! ### Values -/
def condV (key : Nat) (f t : Int) (c : Ch) : Bool := decide (f < c.stp) && (decide (c.stp ≤ t) && ((c.key == key) && c.has))
def headV (o : Option Nat) : List Nat := if o.isSome = true then [o.getD 0] else []
def valsD (l : List Ch) (key : Nat) (f t : Int) : List Nat := headV (getS (mapL l (cntL l f)) key) ++ (l.filter (condV key f t)).map (·.val)
theorem filter_mapC {q : Ch → Bool} {l : List Ch} {k : Nat} (hk : k < l.length) (pre : List Nat) : pre ++ ((l.take (k + 1)).filter q).map (·.val) = (pre ++ ((l.take k).filter q).map (·.val)) ++ if q (nthC l k) = true then [(nthC l k).val] else [] := by
  rw [List.take_succ_eq_append_getElem hk, List.filter_append, List.map_append, nthC_eq hk, List.append_assoc]
  congr 2
  cases hq : q (nthC l k) <;> simp [hq]
set_option maxHeartbeats 2000000 in
theorem rdValues_any (sp : Option Addr) (n cap : Nat) (l : List Ch) (key : Nat) (f t : Int) (w : World) (h : SlK w 4 sp n (chs l)) (hn : n ≤ 4000) (hr : rightL l = true) :
    Calls Try.prog 36 #[.slice sp n cap, .int .u64 key, .agg (tmA f t)] w fun e w' => ∃ s' n' c', e = .returned (.slice s' n' c') ∧ Below w.heap.size w w' ∧ w'.ownsRow w.heap.size 36 1 (.slice s' n' c') (valsD l key f t).length (u64s (valsD l key f t)) := by
  obtain ⟨i0, hi, hz0, hz1, hz2⟩ := info_parts info_u64V
  have hlen := chs_len h
  have H0 := (Hs.nil w).new (tmA f t) 43
  obtain ⟨W0, hW0⟩ : ∃ W0, W0 = w.alloc (.cells (tmA f t) 43) := ⟨_, rfl⟩
  rw [← hW0] at H0
  have M0 := rdMap_any sp n cap l f W0 (h.below H0.old) hn hr
  have hml := len_mapL l (cntL l f)
  have hcl := cntL_le l f
  have hG := fun s n' c' W h => rget_any s n' c' (mapL l (cntL l f)) key W h
  rw [findP_up (up_mapL l _)] at hG
  have hD : valsD l key f t = headV (getS (mapL l (cntL l f)) key) ++ (l.filter (condV key f t)).map (·.val) := rfl
  generalize valsD l key f t = res at *
  have q0 : W0.cell? ⟨w.heap.size, 0, none⟩ = some (.int .i64 f) := blk_cell H0.rows.1 rfl
  generalize mapL l (cntL l f) = m0 at *
  have H0'h := Lib.hid H0
  have h'h := Lib.hid h
  have hlen'h := Lib.hid hlen
  have hr'h := Lib.hid hr
  have M0'h := Lib.hid M0
  have hml'h := Lib.hid hml
  have hcl'h := Lib.hid hcl
  have hG'h := Lib.hid hG
  have hD'h := Lib.hid hD
  clear H0 h hlen hr M0 hml hcl hG hD
  go_enter Try.func36, Try.ntmps36
  go_upto_region 1 with fail
  rw [show World.alloc w _ = W0 from hW0.symm]
  clear hW0
  go_upto_region 3 with (first | (go_at_call 14; refine M0'h.out.mono ?_; rintro e w1 ⟨s1, n1, c1, rfl, hb1, hrow1⟩; have hS1 := SlK.of_row hrow1 (by obtain rfl := row_len9 hrow1; have := hml'h.out; have := hcl'h.out; have := hlen'h.out; unfold maxLen; omega); have hS1'h := Lib.hid hS1; have hb1'h := Lib.hid hb1; clear hS1 hrow1 hb1) | (go_at_call 61; refine (hG'h.out _ _ _ _ hS1'h.out).mono ?_; rintro e w2 ⟨rfl, hb2⟩))
  have H2 := (H0'h.out.next hb1'h.out).next hb2
  clear q0
  generalize getS m0 key = g0 at *
  have hw2 : w.heap.size + 1 ≤ w2.heap.size := H2.lt _ (List.mem_cons_self ..)
  have H2'h := Lib.hid H2
  have hb2'h := Lib.hid hb2
  clear H2 hb2
  cases hg : g0.isSome with
  | false =>
    obtain ⟨pre, hpe⟩ : ∃ pre : List Nat, pre = [] := ⟨_, rfl⟩
    have hDD : res = pre ++ (l.filter (condV key f t)).map (·.val) := by rw [hD'h.out, hpe]; unfold headV; rw [hg]; rfl
    have H3 := H2'h.out
    have hrow3 : w2.ownsRow (w.heap.size + 1) 36 1 (.slice none 0 0) pre.length (u64s pre) := by rw [hpe]; exact World.ownsRow_nil _ _ _ _
    have hpre : pre.length ≤ 1 := by rw [hpe]; simp
    clear hpe
    have hDD'h := Lib.hid hDD
    have H3'h := Lib.hid H3
    have hrow3'h := Lib.hid hrow3
    have hpre'h := Lib.hid hpre
    have hg'h := Lib.hid hg
    clear hDD H3 hrow3 hpre hg
    go_wp2
    go_loopg [7, 28] n (fun q x i wr => ∃ (k : Nat) (v : Value), v = x ∧ k + q = n ∧ i = .int .i64 k ∧ Hs w [(w.heap.size, tmA f t, 43)] wr ∧ wr.ownsRow (w.heap.size + 1) 36 1 v (pre ++ ((l.take k).filter (condV key f t)).map (·.val)).length (u64s (pre ++ ((l.take k).filter (condV key f t)).map (·.val))))
    case atStart => exact ⟨0, _, rfl, by omega, rfl, H3'h.out, by rw [List.take_zero, List.filter_nil, List.map_nil, List.append_nil]; exact hrow3'h.out⟩
    case round =>
      obtain ⟨k, v, rfl, hq, rfl, hH, hM⟩ := hrel
      by_cases hlt : k < n
      · have hkl : k < l.length := by have := hlen'h.out; omega
        obtain ⟨b, off, rfl, -⟩ := h'h.out.some' (by omega)
        obtain ⟨d0, d1, d2, d3⟩ := chs_cells (h'h.out.below hH.old) hkl
        have hi1 : (k : Int) < (n : Int) := by omega
        have h0k : (0 : Int) ≤ (k : Int) := by omega
        have H4 := hH.new (chA (nthC l k)) 46
        obtain ⟨W4, hW4⟩ : ∃ W4, W4 = wr.alloc (.cells (chA (nthC l k)) 46) := ⟨_, rfl⟩
        rw [← hW4] at H4
        have hb4 : Below wr.heap.size wr W4 := by rw [hW4]; exact (Below.refl _ _).alloc (Nat.le_refl _) _
        have hM4 := ownsRow_next hM hb4
        have htf := filter_mapC (q := condV key f t) hkl pre
        have hfl : (pre ++ ((l.take k).filter (condV key f t)).map (·.val)).length ≤ 1 + k := by rw [List.length_append, List.length_map]; have h1 := hpre'h.out; have h2 : ((l.take k).filter (condV key f t)).length ≤ k := Nat.le_trans (List.length_filter_le _ _) (by rw [List.length_take]; omega); omega
        obtain ⟨F1, hF1⟩ : ∃ F1, F1 = pre ++ ((l.take k).filter (condV key f t)).map (·.val) := ⟨_, rfl⟩
        rw [← hF1] at htf hM4 hfl hM
        clear hF1
        have hcd : condV key f t (nthC l k) = (decide (f < (nthC l k).stp) && (decide ((nthC l k).stp ≤ t) && (((nthC l k).key == key) && (nthC l k).has))) := rfl
        obtain ⟨cc, hcc⟩ : ∃ x, x = nthC l k := ⟨_, rfl⟩
        rw [← hcc] at d0 d1 d2 d3 H4 hW4 hcd htf
        have p0 : W4.cell? ⟨wr.heap.size, 0, none⟩ = some (.int .i64 cc.stp) := blk_cell H4.rows.1 rfl
        have p1 : W4.cell? ⟨wr.heap.size, 1, none⟩ = some (.int .u64 (cc.key : Int)) := blk_cell H4.rows.1 rfl
        have p2 : W4.cell? ⟨wr.heap.size, 2, none⟩ = some (.bool cc.has) := blk_cell H4.rows.1 rfl
        have p3 : W4.cell? ⟨wr.heap.size, 3, none⟩ = some (.int .u64 (cc.val : Int)) := blk_cell H4.rows.1 rfl
        have p4 : W4.cell? ⟨w.heap.size, 0, none⟩ = some (.int .i64 f) := blk_cell H4.rows.2.1 rfl
        have p5 : W4.cell? ⟨w.heap.size, 1, none⟩ = some (.int .i64 t) := blk_cell H4.rows.2.1 rfl
        by_cases a1 : cc.stp ≤ f
        · have a1' : ¬ f < cc.stp := by omega
          have hcond : condV key f t cc = false := by rw [hcd, decide_eq_false a1', Bool.false_and]
          clear hcd a1
          have hq'h := Lib.hid hq
          have hH'h := Lib.hid hH
          have hM'h := Lib.hid hM
          have H4'h := Lib.hid H4
          have hW4'h := Lib.hid hW4
          have hM4'h := Lib.hid hM4
          have hcc'h := Lib.hid hcc
          have hkl'h := Lib.hid hkl
          have hb4'h := Lib.hid hb4
          have htf'h := Lib.hid htf
          have hcond'h := Lib.hid hcond
          clear hq hH hM H4 hW4 hM4 hcc hkl hb4 htf hcond
          go_upto_region 8 with fail
          change Code.wp _ _ _ _ (wr.alloc (.cells (chA cc) 46))
          rw [← hW4'h.out]
          clear d0 d1 d2 d3
          go_wp2
          go_roundg (gk - 1)
          case measure => have := hq'h.out; omega
          case rel => exact ⟨k + 1, v, rfl, by have := hq'h.out; omega, by go_num, H4'h.out.tail, by rw [htf'h.out, if_neg (by rw [hcond'h.out]; decide), List.append_nil]; exact hM4'h.out⟩
        have a1' : f < cc.stp := by omega
        by_cases a2 : t < cc.stp
        · have a2' : ¬ cc.stp ≤ t := by omega
          have hcond : condV key f t cc = false := by rw [hcd, decide_eq_false a2', Bool.false_and, Bool.and_false]
          clear hcd a1 a2
          have hq'h := Lib.hid hq
          have hH'h := Lib.hid hH
          have hM'h := Lib.hid hM
          have H4'h := Lib.hid H4
          have hW4'h := Lib.hid hW4
          have hM4'h := Lib.hid hM4
          have hcc'h := Lib.hid hcc
          have hkl'h := Lib.hid hkl
          have hb4'h := Lib.hid hb4
          have htf'h := Lib.hid htf
          have hcond'h := Lib.hid hcond
          clear hq hH hM H4 hW4 hM4 hcc hkl hb4 htf hcond
          go_upto_region 8 with fail
          change Code.wp _ _ _ _ (wr.alloc (.cells (chA cc) 46))
          rw [← hW4'h.out]
          clear d0 d1 d2 d3
          go_wp2
          go_roundg (gk - 1)
          case measure => have := hq'h.out; omega
          case rel => exact ⟨k + 1, v, rfl, by have := hq'h.out; omega, by go_num, H4'h.out.tail, by rw [htf'h.out, if_neg (by rw [hcond'h.out]; decide), List.append_nil]; exact hM4'h.out⟩
        have a2' : cc.stp ≤ t := by omega
        by_cases a3 : cc.key = key
        · have a3' : ((cc.key : Int) == (key : Int)) = true := by rw [a3]; simp
          cases a4 : cc.has with
          | false =>
            have hcond : condV key f t cc = false := by rw [hcd, a4]; simp
            rw [a4] at p2
            clear hcd a1 a2 a3
            have a4'h := Lib.hid a4
            clear a4
            have hq'h := Lib.hid hq
            have hH'h := Lib.hid hH
            have hM'h := Lib.hid hM
            have H4'h := Lib.hid H4
            have hW4'h := Lib.hid hW4
            have hM4'h := Lib.hid hM4
            have hcc'h := Lib.hid hcc
            have hkl'h := Lib.hid hkl
            have hb4'h := Lib.hid hb4
            have htf'h := Lib.hid htf
            have hcond'h := Lib.hid hcond
            clear hq hH hM H4 hW4 hM4 hcc hkl hb4 htf hcond
            go_upto_region 8 with fail
            change Code.wp _ _ _ _ (wr.alloc (.cells (chA cc) 46))
            rw [← hW4'h.out]
            clear d0 d1 d2 d3
            go_wp2
            go_roundg (gk - 1)
            case measure => have := hq'h.out; omega
            case rel => exact ⟨k + 1, v, rfl, by have := hq'h.out; omega, by go_num, H4'h.out.tail, by rw [htf'h.out, if_neg (by rw [hcond'h.out]; decide), List.append_nil]; exact hM4'h.out⟩
          | true =>
            have hcond : condV key f t cc = true := by rw [hcd, a4, a3]; simp [a1', a2']
            rw [a4] at p2
            have hw4 : w.heap.size + 1 ≤ wr.heap.size := hH.lt _ (List.mem_cons_self ..)
            have hone : ∀ u ∈ ([.int .u64 (cc.val : Int)] : List Value), u.oneCell' = true := by intro u hu; rw [List.mem_singleton.1 hu]; rfl
            clear hcd a1 a2 a3
            have a4'h := Lib.hid a4
            have hq'h := Lib.hid hq
            have hH'h := Lib.hid hH
            have hM'h := Lib.hid hM
            have H4'h := Lib.hid H4
            have hW4'h := Lib.hid hW4
            have hM4'h := Lib.hid hM4
            have hcc'h := Lib.hid hcc
            have hkl'h := Lib.hid hkl
            have hb4'h := Lib.hid hb4
            have htf'h := Lib.hid htf
            have hcond'h := Lib.hid hcond
            have hone'h := Lib.hid hone
            clear a4 hq hH hM H4 hW4 hM4 hcc hkl hb4 htf hcond hone
            go_upto_region 8 with fail
            change Code.wp _ _ _ _ (wr.alloc (.cells (chA cc) 46))
            rw [← hW4'h.out]
            clear d0 d1 d2 d3
            go_upto_region 10 with (at_builtin; refine wpList_append_slk _ rfl (.tmp 54) (.tmp 57) 57 rfl (w.heap.size + 1) 36 i0 (.int .u64 0) 1 8 Try.underlying57 hi hz0 hz1 hz2 rfl (by decide) v F1.length _ rfl (ownsRow_next hM4'h.out ((Below.refl _ _).alloc (Nat.le_refl _) _)) (some ⟨W4.heap.size, 0, none⟩) 1 1 _ rfl (SlK.of_blk (k := 1) (n := 1) (World.alloc_heap_new W4 (.cells #[.int .u64 (cc.val : Int)] 36)) rfl (by decide)) hone'h.out (by unfold maxLen; omega) (by omega) (by rw [World.size_alloc]; have := hb4'h.out.size; omega) ?_; intro v' w9 hown' hgrow hwh)
            go_wp2
            go_roundg (gk - 1)
            case measure => have := hq'h.out; omega
            case rel =>
              have h5 := fun j hj => hM'h.out.lt j hj
              refine ⟨k + 1, v', rfl, by have := hq'h.out; omega, by go_num, ((H4'h.out.next ((Below.refl _ _).alloc (Nat.le_refl _) _)).grown' hgrow (fun j hj => ⟨by have := h5 j hj; omega, fun x hx => ?_⟩)).tail, ?_⟩
              · have := h5 j hj
                rcases List.mem_cons.1 hx with rfl | hx
                · simp only; omega
                rcases List.mem_cons.1 hx with rfl | hx
                · simp only; omega
                · cases hx
              · rw [htf'h.out, if_pos hcond'h.out, List.length_append, List.length_cons, List.length_nil, Nat.zero_add, u64s_snoc]; exact hown'
        · have a3' : ((cc.key : Int) == (key : Int)) = false := by simp; omega
          have hcond : condV key f t cc = false := by rw [hcd, show (cc.key == key) = false by simpa using a3]; simp
          clear hcd a1 a2 a3
          have hq'h := Lib.hid hq
          have hH'h := Lib.hid hH
          have hM'h := Lib.hid hM
          have H4'h := Lib.hid H4
          have hW4'h := Lib.hid hW4
          have hM4'h := Lib.hid hM4
          have hcc'h := Lib.hid hcc
          have hkl'h := Lib.hid hkl
          have hb4'h := Lib.hid hb4
          have htf'h := Lib.hid htf
          have hcond'h := Lib.hid hcond
          clear hq hH hM H4 hW4 hM4 hcc hkl hb4 htf hcond
          go_upto_region 8 with fail
          change Code.wp _ _ _ _ (wr.alloc (.cells (chA cc) 46))
          rw [← hW4'h.out]
          clear d0 d1 d2 d3
          go_wp2
          go_roundg (gk - 1)
          case measure => have := hq'h.out; omega
          case rel => exact ⟨k + 1, v, rfl, by have := hq'h.out; omega, by go_num, H4'h.out.tail, by rw [htf'h.out, if_neg (by rw [hcond'h.out]; decide), List.append_nil]; exact hM4'h.out⟩
      · have hkn : k = l.length := by have := hlen'h.out; omega
        rw [hkn, List.take_length, ← hDD'h.out] at hM
        have hd : ¬ ((k : Int) < (n : Int)) := by omega
        clear hkn
        obtain ⟨sv, nv, cv, rfl⟩ := row_slice3 hM
        have hq'h := Lib.hid hq
        have hH'h := Lib.hid hH
        have hM'h := Lib.hid hM
        clear hq hH hM
        go_wp2
        go_ret
        exact ⟨sv, nv, cv, rfl, hH'h.out.old, ownsRow_mono hM'h.out (show w.heap.size ≤ w.heap.size + 1 by omega)⟩
  | true =>
    obtain ⟨pre, hpe⟩ : ∃ pre : List Nat, pre = [g0.getD 0] := ⟨_, rfl⟩
    have hDD : res = pre ++ (l.filter (condV key f t)).map (·.val) := by rw [hD'h.out, hpe]; unfold headV; rw [hg]; rfl
    have hpre : pre.length ≤ 1 := by rw [hpe]; simp
    generalize g0.getD 0 = gv at *
    have hone : ∀ u ∈ ([.int .u64 (gv : Int)] : List Value), u.oneCell' = true := by intro u hu; rw [List.mem_singleton.1 hu]; rfl
    have hDD'h := Lib.hid hDD
    have hpre'h := Lib.hid hpre
    have hg'h := Lib.hid hg
    have hone'h := Lib.hid hone
    have hpe'h := Lib.hid hpe
    clear hDD hpre hg hone hpe
    go_upto_region 5 with (at_builtin; refine wpList_append_slk _ rfl (.tmp 22) (.tmp 24) 57 rfl (w.heap.size + 1) 36 i0 (.int .u64 0) 1 8 Try.underlying57 hi hz0 hz1 hz2 rfl (by decide) (.slice none 0 0) 0 [] rfl (World.ownsRow_nil _ _ _ _) (some ⟨w2.heap.size, 0, none⟩) 1 1 _ rfl (SlK.of_blk (k := 1) (n := 1) (World.alloc_heap_new w2 (.cells #[.int .u64 (gv : Int)] 36)) rfl (by decide)) hone'h.out (by decide) (by decide) (by rw [World.size_alloc]; omega) ?_; intro v3 w3 hown3 hgrow hwh)
    have H3 := (H2'h.out.next ((Below.refl _ _).alloc (Nat.le_refl _) _)).grown' hgrow (fun j hj => by cases hj)
    have hrow3 : w3.ownsRow (w.heap.size + 1) 36 1 v3 pre.length (u64s pre) := by rw [hpe'h.out]; exact hown3
    clear hown3 hgrow hwh
    have H3'h := Lib.hid H3
    have hrow3'h := Lib.hid hrow3
    clear H3 hrow3
    go_wp2
    go_loopg [7, 28] n (fun q x i wr => ∃ (k : Nat) (v : Value), v = x ∧ k + q = n ∧ i = .int .i64 k ∧ Hs w [(w.heap.size, tmA f t, 43)] wr ∧ wr.ownsRow (w.heap.size + 1) 36 1 v (pre ++ ((l.take k).filter (condV key f t)).map (·.val)).length (u64s (pre ++ ((l.take k).filter (condV key f t)).map (·.val))))
    case atStart => exact ⟨0, _, rfl, by omega, rfl, H3'h.out, by rw [List.take_zero, List.filter_nil, List.map_nil, List.append_nil]; exact hrow3'h.out⟩
    case round =>
      obtain ⟨k, v, rfl, hq, rfl, hH, hM⟩ := hrel
      by_cases hlt : k < n
      · have hkl : k < l.length := by have := hlen'h.out; omega
        obtain ⟨b, off, rfl, -⟩ := h'h.out.some' (by omega)
        obtain ⟨d0, d1, d2, d3⟩ := chs_cells (h'h.out.below hH.old) hkl
        have hi1 : (k : Int) < (n : Int) := by omega
        have h0k : (0 : Int) ≤ (k : Int) := by omega
        have H4 := hH.new (chA (nthC l k)) 46
        obtain ⟨W4, hW4⟩ : ∃ W4, W4 = wr.alloc (.cells (chA (nthC l k)) 46) := ⟨_, rfl⟩
        rw [← hW4] at H4
        have hb4 : Below wr.heap.size wr W4 := by rw [hW4]; exact (Below.refl _ _).alloc (Nat.le_refl _) _
        have hM4 := ownsRow_next hM hb4
        have htf := filter_mapC (q := condV key f t) hkl pre
        have hfl : (pre ++ ((l.take k).filter (condV key f t)).map (·.val)).length ≤ 1 + k := by rw [List.length_append, List.length_map]; have h1 := hpre'h.out; have h2 : ((l.take k).filter (condV key f t)).length ≤ k := Nat.le_trans (List.length_filter_le _ _) (by rw [List.length_take]; omega); omega
        obtain ⟨F1, hF1⟩ : ∃ F1, F1 = pre ++ ((l.take k).filter (condV key f t)).map (·.val) := ⟨_, rfl⟩
        rw [← hF1] at htf hM4 hfl hM
        clear hF1
        have hcd : condV key f t (nthC l k) = (decide (f < (nthC l k).stp) && (decide ((nthC l k).stp ≤ t) && (((nthC l k).key == key) && (nthC l k).has))) := rfl
        obtain ⟨cc, hcc⟩ : ∃ x, x = nthC l k := ⟨_, rfl⟩
        rw [← hcc] at d0 d1 d2 d3 H4 hW4 hcd htf
        have p0 : W4.cell? ⟨wr.heap.size, 0, none⟩ = some (.int .i64 cc.stp) := blk_cell H4.rows.1 rfl
        have p1 : W4.cell? ⟨wr.heap.size, 1, none⟩ = some (.int .u64 (cc.key : Int)) := blk_cell H4.rows.1 rfl
        have p2 : W4.cell? ⟨wr.heap.size, 2, none⟩ = some (.bool cc.has) := blk_cell H4.rows.1 rfl
        have p3 : W4.cell? ⟨wr.heap.size, 3, none⟩ = some (.int .u64 (cc.val : Int)) := blk_cell H4.rows.1 rfl
        have p4 : W4.cell? ⟨w.heap.size, 0, none⟩ = some (.int .i64 f) := blk_cell H4.rows.2.1 rfl
        have p5 : W4.cell? ⟨w.heap.size, 1, none⟩ = some (.int .i64 t) := blk_cell H4.rows.2.1 rfl
        by_cases a1 : cc.stp ≤ f
        · have a1' : ¬ f < cc.stp := by omega
          have hcond : condV key f t cc = false := by rw [hcd, decide_eq_false a1', Bool.false_and]
          clear hcd a1
          have hq'h := Lib.hid hq
          have hH'h := Lib.hid hH
          have hM'h := Lib.hid hM
          have H4'h := Lib.hid H4
          have hW4'h := Lib.hid hW4
          have hM4'h := Lib.hid hM4
          have hcc'h := Lib.hid hcc
          have hkl'h := Lib.hid hkl
          have hb4'h := Lib.hid hb4
          have htf'h := Lib.hid htf
          have hcond'h := Lib.hid hcond
          clear hq hH hM H4 hW4 hM4 hcc hkl hb4 htf hcond
          go_upto_region 8 with fail
          change Code.wp _ _ _ _ (wr.alloc (.cells (chA cc) 46))
          rw [← hW4'h.out]
          clear d0 d1 d2 d3
          go_wp2
          go_roundg (gk - 1)
          case measure => have := hq'h.out; omega
          case rel => exact ⟨k + 1, v, rfl, by have := hq'h.out; omega, by go_num, H4'h.out.tail, by rw [htf'h.out, if_neg (by rw [hcond'h.out]; decide), List.append_nil]; exact hM4'h.out⟩
        have a1' : f < cc.stp := by omega
        by_cases a2 : t < cc.stp
        · have a2' : ¬ cc.stp ≤ t := by omega
          have hcond : condV key f t cc = false := by rw [hcd, decide_eq_false a2', Bool.false_and, Bool.and_false]
          clear hcd a1 a2
          have hq'h := Lib.hid hq
          have hH'h := Lib.hid hH
          have hM'h := Lib.hid hM
          have H4'h := Lib.hid H4
          have hW4'h := Lib.hid hW4
          have hM4'h := Lib.hid hM4
          have hcc'h := Lib.hid hcc
          have hkl'h := Lib.hid hkl
          have hb4'h := Lib.hid hb4
          have htf'h := Lib.hid htf
          have hcond'h := Lib.hid hcond
          clear hq hH hM H4 hW4 hM4 hcc hkl hb4 htf hcond
          go_upto_region 8 with fail
          change Code.wp _ _ _ _ (wr.alloc (.cells (chA cc) 46))
          rw [← hW4'h.out]
          clear d0 d1 d2 d3
          go_wp2
          go_roundg (gk - 1)
          case measure => have := hq'h.out; omega
          case rel => exact ⟨k + 1, v, rfl, by have := hq'h.out; omega, by go_num, H4'h.out.tail, by rw [htf'h.out, if_neg (by rw [hcond'h.out]; decide), List.append_nil]; exact hM4'h.out⟩
        have a2' : cc.stp ≤ t := by omega
        by_cases a3 : cc.key = key
        · have a3' : ((cc.key : Int) == (key : Int)) = true := by rw [a3]; simp
          cases a4 : cc.has with
          | false =>
            have hcond : condV key f t cc = false := by rw [hcd, a4]; simp
            rw [a4] at p2
            clear hcd a1 a2 a3
            have a4'h := Lib.hid a4
            clear a4
            have hq'h := Lib.hid hq
            have hH'h := Lib.hid hH
            have hM'h := Lib.hid hM
            have H4'h := Lib.hid H4
            have hW4'h := Lib.hid hW4
            have hM4'h := Lib.hid hM4
            have hcc'h := Lib.hid hcc
            have hkl'h := Lib.hid hkl
            have hb4'h := Lib.hid hb4
            have htf'h := Lib.hid htf
            have hcond'h := Lib.hid hcond
            clear hq hH hM H4 hW4 hM4 hcc hkl hb4 htf hcond
            go_upto_region 8 with fail
            change Code.wp _ _ _ _ (wr.alloc (.cells (chA cc) 46))
            rw [← hW4'h.out]
            clear d0 d1 d2 d3
            go_wp2
            go_roundg (gk - 1)
            case measure => have := hq'h.out; omega
            case rel => exact ⟨k + 1, v, rfl, by have := hq'h.out; omega, by go_num, H4'h.out.tail, by rw [htf'h.out, if_neg (by rw [hcond'h.out]; decide), List.append_nil]; exact hM4'h.out⟩
          | true =>
            have hcond : condV key f t cc = true := by rw [hcd, a4, a3]; simp [a1', a2']
            rw [a4] at p2
            have hw4 : w.heap.size + 1 ≤ wr.heap.size := hH.lt _ (List.mem_cons_self ..)
            have hone : ∀ u ∈ ([.int .u64 (cc.val : Int)] : List Value), u.oneCell' = true := by intro u hu; rw [List.mem_singleton.1 hu]; rfl
            clear hcd a1 a2 a3
            have a4'h := Lib.hid a4
            have hq'h := Lib.hid hq
            have hH'h := Lib.hid hH
            have hM'h := Lib.hid hM
            have H4'h := Lib.hid H4
            have hW4'h := Lib.hid hW4
            have hM4'h := Lib.hid hM4
            have hcc'h := Lib.hid hcc
            have hkl'h := Lib.hid hkl
            have hb4'h := Lib.hid hb4
            have htf'h := Lib.hid htf
            have hcond'h := Lib.hid hcond
            have hone'h := Lib.hid hone
            clear a4 hq hH hM H4 hW4 hM4 hcc hkl hb4 htf hcond hone
            go_upto_region 8 with fail
            change Code.wp _ _ _ _ (wr.alloc (.cells (chA cc) 46))
            rw [← hW4'h.out]
            clear d0 d1 d2 d3
            go_upto_region 10 with (at_builtin; refine wpList_append_slk _ rfl (.tmp 54) (.tmp 57) 57 rfl (w.heap.size + 1) 36 i0 (.int .u64 0) 1 8 Try.underlying57 hi hz0 hz1 hz2 rfl (by decide) v F1.length _ rfl (ownsRow_next hM4'h.out ((Below.refl _ _).alloc (Nat.le_refl _) _)) (some ⟨W4.heap.size, 0, none⟩) 1 1 _ rfl (SlK.of_blk (k := 1) (n := 1) (World.alloc_heap_new W4 (.cells #[.int .u64 (cc.val : Int)] 36)) rfl (by decide)) hone'h.out (by unfold maxLen; omega) (by omega) (by rw [World.size_alloc]; have := hb4'h.out.size; omega) ?_; intro v' w9 hown' hgrow hwh)
            go_wp2
            go_roundg (gk - 1)
            case measure => have := hq'h.out; omega
            case rel =>
              have h5 := fun j hj => hM'h.out.lt j hj
              refine ⟨k + 1, v', rfl, by have := hq'h.out; omega, by go_num, ((H4'h.out.next ((Below.refl _ _).alloc (Nat.le_refl _) _)).grown' hgrow (fun j hj => ⟨by have := h5 j hj; omega, fun x hx => ?_⟩)).tail, ?_⟩
              · have := h5 j hj
                rcases List.mem_cons.1 hx with rfl | hx
                · simp only; omega
                rcases List.mem_cons.1 hx with rfl | hx
                · simp only; omega
                · cases hx
              · rw [htf'h.out, if_pos hcond'h.out, List.length_append, List.length_cons, List.length_nil, Nat.zero_add, u64s_snoc]; exact hown'
        · have a3' : ((cc.key : Int) == (key : Int)) = false := by simp; omega
          have hcond : condV key f t cc = false := by rw [hcd, show (cc.key == key) = false by simpa using a3]; simp
          clear hcd a1 a2 a3
          have hq'h := Lib.hid hq
          have hH'h := Lib.hid hH
          have hM'h := Lib.hid hM
          have H4'h := Lib.hid H4
          have hW4'h := Lib.hid hW4
          have hM4'h := Lib.hid hM4
          have hcc'h := Lib.hid hcc
          have hkl'h := Lib.hid hkl
          have hb4'h := Lib.hid hb4
          have htf'h := Lib.hid htf
          have hcond'h := Lib.hid hcond
          clear hq hH hM H4 hW4 hM4 hcc hkl hb4 htf hcond
          go_upto_region 8 with fail
          change Code.wp _ _ _ _ (wr.alloc (.cells (chA cc) 46))
          rw [← hW4'h.out]
          clear d0 d1 d2 d3
          go_wp2
          go_roundg (gk - 1)
          case measure => have := hq'h.out; omega
          case rel => exact ⟨k + 1, v, rfl, by have := hq'h.out; omega, by go_num, H4'h.out.tail, by rw [htf'h.out, if_neg (by rw [hcond'h.out]; decide), List.append_nil]; exact hM4'h.out⟩
      · have hkn : k = l.length := by have := hlen'h.out; omega
        rw [hkn, List.take_length, ← hDD'h.out] at hM
        have hd : ¬ ((k : Int) < (n : Int)) := by omega
        clear hkn
        obtain ⟨sv, nv, cv, rfl⟩ := row_slice3 hM
        have hq'h := Lib.hid hq
        have hH'h := Lib.hid hH
        have hM'h := Lib.hid hM
        clear hq hH hM
        go_wp2
        go_ret
        exact ⟨sv, nv, cv, rfl, hH'h.out.old, ownsRow_mono hM'h.out (show w.heap.size ≤ w.heap.size + 1 by omega)⟩
/-! ### Must -/
def mustD (l : List Ch) (f t : Int) : List Nat := ((mapL l (cntL l f)).filter fun p => allK l (cntL l f) p.1 (numT l f t)).map (·.1)
theorem filter_mapP {q : Nat × Nat → Bool} {l : Ps} {k : Nat} (hk : k < l.length) : ((l.take (k + 1)).filter q).map (·.1) = ((l.take k).filter q).map (·.1) ++ if q (nthP l k) = true then [(nthP l k).1] else [] := by
  rw [List.take_succ_eq_append_getElem hk, List.filter_append, List.map_append, nthP_eq hk]
  congr 1
  cases hq : q (nthP l k) <;> simp [hq]
set_option maxHeartbeats 2000000 in
theorem rdMust_any (sp : Option Addr) (n cap : Nat) (l : List Ch) (f t : Int) (w : World) (h : SlK w 4 sp n (chs l)) (hn : n ≤ 4000) (hr : rightL l = true) (hft : f ≤ t) :
    Calls Try.prog 31 #[.slice sp n cap, .agg (tmA f t)] w fun e w' => ∃ s' n' c', e = .returned (.slice s' n' c') ∧ Below w.heap.size w w' ∧ w'.ownsRow w.heap.size 36 1 (.slice s' n' c') (mustD l f t).length (u64s (mustD l f t)) := by
  obtain ⟨i0, hi, hz0, hz1, hz2⟩ := info_parts info_u64V
  have hlen := chs_len h
  have H0 := (Hs.nil w).new (tmA f t) 43
  obtain ⟨W0, hW0⟩ : ∃ W0, W0 = w.alloc (.cells (tmA f t) 43) := ⟨_, rfl⟩
  rw [← hW0] at H0
  have M0 := rdMap_any sp n cap l f W0 (h.below H0.old) hn hr
  have hml := len_mapL l (cntL l f)
  have hcl := cntL_le l f
  have HL := fun key W (hb : Below w.heap.size w W) => rdHeld_any sp n cap l key f t W (h.below hb) hn hr hft
  obtain ⟨Q, hQ⟩ : ∃ Q : Nat × Nat → Bool, Q = fun p => allK l (cntL l f) p.1 (numT l f t) := ⟨_, rfl⟩
  have hD : mustD l f t = ((mapL l (cntL l f)).filter Q).map (·.1) := by rw [hQ]; rfl
  have hQk : ∀ k, allK l (cntL l f) (nthP (mapL l (cntL l f)) k).1 (numT l f t) = Q (nthP (mapL l (cntL l f)) k) := fun k => by rw [hQ]
  generalize mustD l f t = res at *
  have q0 : W0.cell? ⟨w.heap.size, 0, none⟩ = some (.int .i64 f) := blk_cell H0.rows.1 rfl
  generalize mapL l (cntL l f) = m0 at *
  generalize numT l f t = N at *
  generalize cntL l f = K0 at *
  have hfd : ∀ (v : Value) (w : World), (Instr.field 31 (.agg #[v]) 0).run Try.prog w = .ok v w := fun _ _ => by kernel_rfl
  clear hQ
  have H0'h := Lib.hid H0
  have h'h := Lib.hid h
  have hlen'h := Lib.hid hlen
  have hr'h := Lib.hid hr
  have M0'h := Lib.hid M0
  have hml'h := Lib.hid hml
  have hcl'h := Lib.hid hcl
  have HL'h := Lib.hid HL
  have hD'h := Lib.hid hD
  have hQk'h := Lib.hid hQk
  have hft'h := Lib.hid hft
  clear H0 h hlen hr M0 hml hcl HL hD hQk hft
  go_enter Try.func31, Try.ntmps31
  go_upto_region 1 with fail
  rw [show World.alloc w _ = W0 from hW0.symm]
  clear hW0
  go_wp2_with (first | (go_at_call 14; refine M0'h.out.mono ?_; rintro e w1 ⟨s1, n1, c1, rfl, hb1, hrow1⟩; obtain rfl := row_len9 hrow1))
  have hS1 := SlK.of_row hrow1 (by have := hml'h.out; have := hcl'h.out; have := hlen'h.out; unfold maxLen; omega)
  have H1 := H0'h.out.next hb1
  have hm4 : m0.length ≤ 4000 := by have := hml'h.out; have := hcl'h.out; have := hlen'h.out; omega
  clear q0
  have hS1'h := Lib.hid hS1
  have hb1'h := Lib.hid hb1
  have hrow1'h := Lib.hid hrow1
  have H1'h := Lib.hid H1
  clear hS1 hb1 hrow1 H1
  go_loopg [5, 16] m0.length (fun q x i wr => ∃ (k : Nat) (v : Value), v = x ∧ k + q = m0.length ∧ i = .int .i64 k ∧ Hs w [(w.heap.size, tmA f t, 43)] wr ∧ Below w1.heap.size w1 wr ∧ wr.ownsRow w1.heap.size 36 1 v (((m0.take k).filter Q).map (·.1)).length (u64s (((m0.take k).filter Q).map (·.1))))
  case atStart => exact ⟨0, _, rfl, by omega, rfl, H1'h.out, Below.refl _ _, World.ownsRow_nil _ _ _ _⟩
  case round =>
    obtain ⟨k, v, rfl, hq, rfl, hH, hB, hM⟩ := hrel
    by_cases hlt : k < m0.length
    · obtain ⟨b, off, rfl⟩ := prs_some hS1'h.out (by omega)
      obtain ⟨d0, d1⟩ := prs_cells (hS1'h.out.below hB) hlt
      have hi1 : (k : Int) < (m0.length : Int) := by omega
      have h0k : (0 : Int) ≤ (k : Int) := by omega
      have H4 := hH.new #[.int .u64 ((nthP m0 k).1 : Int), .int .u64 ((nthP m0 k).2 : Int)] 38
      obtain ⟨W4, hW4⟩ : ∃ W4, W4 = wr.alloc (.cells #[.int .u64 ((nthP m0 k).1 : Int), .int .u64 ((nthP m0 k).2 : Int)] 38) := ⟨_, rfl⟩
      rw [← hW4] at H4
      have hb4 : Below wr.heap.size wr W4 := by rw [hW4]; exact (Below.refl _ _).alloc (Nat.le_refl _) _
      have hB4 := below_next hB hb4
      have hM4 := ownsRow_next hM hb4
      have htf := filter_mapP (q := Q) hlt
      have hfl : (((m0.take k).filter Q).map (·.1)).length ≤ k := by rw [List.length_map]; exact Nat.le_trans (List.length_filter_le _ _) (by rw [List.length_take]; omega)
      obtain ⟨F1, hF1⟩ : ∃ F1, F1 = ((m0.take k).filter Q).map (·.1) := ⟨_, rfl⟩
      rw [← hF1] at htf hM4 hfl hM
      clear hF1
      have HL4 := HL'h.out (nthP m0 k).1 W4 H4.old
      rw [hQk'h.out] at HL4
      have p0 : W4.cell? ⟨wr.heap.size, 0, none⟩ = some (.int .u64 ((nthP m0 k).1 : Int)) := blk_cell H4.rows.1 rfl
      have hw1r : w1.heap.size ≤ wr.heap.size := hB.size
      generalize anyK l K0 _ N = ay at HL4
      cases hv : Q (nthP m0 k) with
      | true =>
        rw [hv] at HL4 htf
        rw [if_pos rfl] at htf
        generalize (nthP m0 k).1 = y0 at *
        generalize (nthP m0 k).2 = y1 at *
        have hone : ∀ u ∈ ([.int .u64 (y0 : Int)] : List Value), u.oneCell' = true := by intro u hu; rw [List.mem_singleton.1 hu]; rfl
        have hv'h := Lib.hid hv
        have hq'h := Lib.hid hq
        have hH'h := Lib.hid hH
        have hB'h := Lib.hid hB
        have hM'h := Lib.hid hM
        have H4'h := Lib.hid H4
        have hW4'h := Lib.hid hW4
        have hb4'h := Lib.hid hb4
        have hB4'h := Lib.hid hB4
        have hM4'h := Lib.hid hM4
        have htf'h := Lib.hid htf
        have HL4'h := Lib.hid HL4
        have hone'h := Lib.hid hone
        clear hv hq hH hB hM H4 hW4 hb4 hB4 hM4 htf HL4 hone
        go_upto_region 5 with fail
        rw [← hW4'h.out]
        clear d0 d1
        go_upto_region 6 with (first | guard_target = wpList _ _ _ (Oper.mk _ (.load _ (.tmp 3)) _ _ _ _ :: _) _ _; refine wpList_load_row rfl 43 (.tmp 3) rfl (w.heap.size) rfl 43 (tmA f t) (0, 0) _ H4'h.out.rows.2.1 Try.underlying43 rfl info_tm ?_ | (go_at_call 35; refine HL4'h.out.mono ?_; rintro e w5 ⟨rfl, hb5⟩))
        have H5 := H4'h.out.next hb5
        have hM5 := ownsRow_next hM4'h.out hb5
        have hB5 := below_next hB4'h.out hb5
        clear p0
        have p0 : w5.cell? ⟨wr.heap.size, 0, none⟩ = some (.int .u64 (y0 : Int)) := blk_cell H5.rows.1 rfl
        have hb5z := hb5.size
        have H5'h := Lib.hid H5
        have hM5'h := Lib.hid hM5
        have hB5'h := Lib.hid hB5
        have hb5'h := Lib.hid hb5
        clear H5 hM5 hB5 hb5
        go_upto_region 8 with (at_builtin; refine wpList_append_slk _ rfl (.tmp 29) (.tmp 32) 57 rfl w1.heap.size 36 i0 (.int .u64 0) 1 8 Try.underlying57 hi hz0 hz1 hz2 rfl (by decide) v F1.length _ rfl (ownsRow_next hM5'h.out ((Below.refl _ _).alloc (Nat.le_refl _) _)) (some ⟨w5.heap.size, 0, none⟩) 1 1 _ rfl (SlK.of_blk (k := 1) (n := 1) (World.alloc_heap_new w5 (.cells #[.int .u64 (y0 : Int)] 36)) rfl (by decide)) hone'h.out (by unfold maxLen; omega) (by omega) (by rw [World.size_alloc]; have := hB5'h.out.size; omega) ?_; intro v' w9 hown' hgrow hwh)
        go_wp2
        go_roundg (gk - 1)
        case measure => have := hq'h.out; omega
        case rel =>
          have h5 := fun j hj => hM'h.out.lt j hj
          have h6 := H1'h.out.lt _ (List.mem_cons_self ..)
          simp only at h6
          have hB6 := below_next hB5'h.out ((Below.refl w5.heap.size w5).alloc (Nat.le_refl _) (.cells #[.int .u64 (y0 : Int)] 36))
          refine ⟨k + 1, v', rfl, by have := hq'h.out; omega, by go_num, ((H5'h.out.next ((Below.refl _ _).alloc (Nat.le_refl _) _)).grown' hgrow (fun j hj => ⟨by have := h5 j hj; omega, fun x hx => ?_⟩)).tail, hB6.grown hgrow hB6.size (fun j hj => (h5 j hj).1), ?_⟩
          · have := h5 j hj
            rcases List.mem_cons.1 hx with rfl | hx
            · simp only; omega
            rcases List.mem_cons.1 hx with rfl | hx
            · simp only; omega
            · cases hx
          · rw [htf'h.out, List.length_append, List.length_cons, List.length_nil, Nat.zero_add, u64s_snoc]; exact hown'
      | false =>
        rw [hv] at HL4 htf
        rw [if_neg (by decide), List.append_nil] at htf
        generalize (nthP m0 k).1 = y0 at *
        generalize (nthP m0 k).2 = y1 at *
        have hv'h := Lib.hid hv
        have hq'h := Lib.hid hq
        have hH'h := Lib.hid hH
        have hB'h := Lib.hid hB
        have hM'h := Lib.hid hM
        have H4'h := Lib.hid H4
        have hW4'h := Lib.hid hW4
        have hb4'h := Lib.hid hb4
        have hB4'h := Lib.hid hB4
        have hM4'h := Lib.hid hM4
        have htf'h := Lib.hid htf
        have HL4'h := Lib.hid HL4
        clear hv hq hH hB hM H4 hW4 hb4 hB4 hM4 htf HL4
        go_upto_region 5 with fail
        rw [← hW4'h.out]
        clear d0 d1
        go_wp2_with (first | guard_target = wpList _ _ _ (Oper.mk _ (.load _ (.tmp 3)) _ _ _ _ :: _) _ _; refine wpList_load_row rfl 43 (.tmp 3) rfl (w.heap.size) rfl 43 (tmA f t) (0, 0) _ H4'h.out.rows.2.1 Try.underlying43 rfl info_tm ?_ | (go_at_call 35; refine HL4'h.out.mono ?_; rintro e w5 ⟨rfl, hb5⟩))
        go_roundg (gk - 1)
        case measure => have := hq'h.out; omega
        case rel => exact ⟨k + 1, v, rfl, by have := hq'h.out; omega, by go_num, (H4'h.out.next hb5).tail, below_next hB4'h.out hb5, by rw [htf'h.out]; exact ownsRow_next hM4'h.out hb5⟩
    · have hkn : k = m0.length := by omega
      rw [hkn, List.take_length, ← hD'h.out] at hM
      have hd : ¬ ((k : Int) < (m0.length : Int)) := by omega
      clear hkn
      obtain ⟨sv, nv, cv, rfl⟩ := row_slice3 hM
      have hw1 : w.heap.size ≤ w1.heap.size := H1'h.out.old.size
      have hq'h := Lib.hid hq
      have hH'h := Lib.hid hH
      have hM'h := Lib.hid hM
      clear hq hH hM
      go_wp2
      go_ret
      exact ⟨sv, nv, cv, rfl, hH'h.out.old, ownsRow_mono hM'h.out hw1⟩
end Go.Proofs.Ythfeiiibedmkiaa

/-
  The document's Steps.
-/
set_option linter.unusedSimpArgs false
set_option linter.unusedVariables false
set_option maxRecDepth 100000
namespace Go.Proofs.Ythfeiiibedmkiaa
open Go.RowKit

/-! ### Steps -/
def condT (key val : Nat) (c : Ch) : Bool := (c.key == key) && (c.has && (c.val == val))
/-- The step ahead of the first of the next changes that is of the key. -/
def stepE (key : Nat) (e : Int) (d : Ch) : Int := if (d.key == key && decide (e < 0)) = true then d.stp - 1 else e
def endK (l : List Ch) (key k m : Nat) : Int := ((l.drop (k + 1)).take m).foldl (stepE key) (-1)
theorem endK_zero (l : List Ch) (key k : Nat) : endK l key k 0 = -1 := rfl
theorem endK_succ {l : List Ch} {key k m : Nat} (h : k + 1 + m < l.length) : endK l key k (m + 1) = stepE key (endK l key k m) (nthC l (k + 1 + m)) := by
  unfold endK
  have h2 : m < (l.drop (k + 1)).length := by rw [List.length_drop]; omega
  rw [List.take_succ_eq_append_getElem h2, List.foldl_append, List.getElem_drop, nthC_eq h]; rfl
theorem endK_lo {l : List Ch} (hr : rightL l = true) (key k : Nat) : ∀ m, k + 1 + m ≤ l.length → -1 ≤ endK l key k m ∧ endK l key k m ≤ 9223372036854775807 → True := fun _ _ _ => trivial
def stepsD (l : List Ch) (key val : Nat) : Nat → List (Int × Int)
  | 0 => []
  | k + 1 => stepsD l key val k ++ if condT key val (nthC l k) = true then [((nthC l k).stp, endK l key k (l.length - (k + 1)))] else []
theorem stepsD_le (l : List Ch) (key val : Nat) : ∀ k, (stepsD l key val k).length ≤ k
  | 0 => Nat.le_refl _
  | k + 1 => by have := stepsD_le l key val k; rw [stepsD, List.length_append]; split <;> simp <;> omega
set_option maxHeartbeats 2000000 in
theorem rdSteps_any (sp : Option Addr) (n cap : Nat) (l : List Ch) (key val : Nat) (w : World) (h : SlK w 4 sp n (chs l)) (hn : n ≤ 4000) (hle : n ≤ cap) (hr : rightL l = true) (hok : ∀ c ∈ l, ChOk c) :
    Calls Try.prog 16 #[.slice sp n cap, .int .u64 key, .int .u64 val] w fun e w' => ∃ s' n' c', e = .returned (.slice s' n' c') ∧ Below w.heap.size w w' ∧ w'.ownsRow w.heap.size 43 2 (.slice s' n' c') (stepsD l key val l.length).length (tms (stepsD l key val l.length)) := by
  obtain ⟨i0, hi, hz0, hz1, hz2⟩ := info_parts info_tmF
  have hlen := chs_len h
  have h'h := Lib.hid h
  have hlen'h := Lib.hid hlen
  have hr'h := Lib.hid hr
  have hok'h := Lib.hid hok
  clear h hlen hr hok
  go_enter Try.func16, Try.ntmps16
  go_wp2
  go_loopg [7, 15] n (fun q x i wr => ∃ (k : Nat) (v : Value), v = x ∧ k + q = n ∧ i = .int .i64 k ∧ Hs w [] wr ∧ wr.ownsRow w.heap.size 43 2 v (stepsD l key val k).length (tms (stepsD l key val k)))
  case atStart => exact ⟨0, _, rfl, by omega, rfl, Hs.nil w, World.ownsRow_nil _ _ _ _⟩
  case round =>
    obtain ⟨k, v, rfl, hq, rfl, hH, hM⟩ := hrel
    by_cases hlt : k < n
    · have hkl : k < l.length := by have := hlen'h.out; omega
      obtain ⟨b, off, rfl, -⟩ := h'h.out.some' (by omega)
      obtain ⟨d0, d1, d2, d3⟩ := chs_cells (h'h.out.below hH.old) hkl
      have hi1 : (k : Int) < (n : Int) := by omega
      have h0k : (0 : Int) ≤ (k : Int) := by omega
      have H4 := hH.new (chA (nthC l k)) 46
      obtain ⟨W4, hW4⟩ : ∃ W4, W4 = wr.alloc (.cells (chA (nthC l k)) 46) := ⟨_, rfl⟩
      rw [← hW4] at H4
      have hb4 : Below wr.heap.size wr W4 := by rw [hW4]; exact (Below.refl _ _).alloc (Nat.le_refl _) _
      have hM4 := ownsRow_next hM hb4
      have htf : stepsD l key val (k + 1) = stepsD l key val k ++ if condT key val (nthC l k) = true then [((nthC l k).stp, endK l key k (l.length - (k + 1)))] else [] := rfl
      have hfl := stepsD_le l key val k
      obtain ⟨F1, hF1⟩ : ∃ F1, F1 = stepsD l key val k := ⟨_, rfl⟩
      rw [← hF1] at htf hM4 hfl hM
      clear hF1
      have hcd : condT key val (nthC l k) = (((nthC l k).key == key) && ((nthC l k).has && ((nthC l k).val == val))) := rfl
      obtain ⟨cc, hcc⟩ : ∃ x, x = nthC l k := ⟨_, rfl⟩
      rw [← hcc] at d0 d1 d2 d3 H4 hW4 hcd htf
      have p0 : W4.cell? ⟨wr.heap.size, 0, none⟩ = some (.int .i64 cc.stp) := blk_cell H4.rows.1 rfl
      have p1 : W4.cell? ⟨wr.heap.size, 1, none⟩ = some (.int .u64 (cc.key : Int)) := blk_cell H4.rows.1 rfl
      have p2 : W4.cell? ⟨wr.heap.size, 2, none⟩ = some (.bool cc.has) := blk_cell H4.rows.1 rfl
      have p3 : W4.cell? ⟨wr.heap.size, 3, none⟩ = some (.int .u64 (cc.val : Int)) := blk_cell H4.rows.1 rfl
      by_cases a3 : cc.key = key
      · have a3' : ((cc.key : Int) != (key : Int)) = false := by rw [a3]; simp
        cases a4 : cc.has with
        | false =>
          have hcond : condT key val cc = false := by rw [hcd, a4]; simp
          rw [a4] at p2
          clear hcd a3
          have a4'h := Lib.hid a4
          clear a4
          have hq'h := Lib.hid hq
          have hH'h := Lib.hid hH
          have hM'h := Lib.hid hM
          have H4'h := Lib.hid H4
          have hW4'h := Lib.hid hW4
          have hM4'h := Lib.hid hM4
          have hcc'h := Lib.hid hcc
          have hkl'h := Lib.hid hkl
          have hb4'h := Lib.hid hb4
          have htf'h := Lib.hid htf
          have hcond'h := Lib.hid hcond
          clear hq hH hM H4 hW4 hM4 hcc hkl hb4 htf hcond
          go_upto_region 5 with fail
          change Code.wp _ _ _ _ (wr.alloc (.cells (chA cc) 46))
          rw [← hW4'h.out]
          clear d0 d1 d2 d3
          go_wp2
          go_roundg (gk - 1)
          case measure => have := hq'h.out; omega
          case rel => exact ⟨k + 1, v, rfl, by have := hq'h.out; omega, by go_num, H4'h.out.tail, by rw [htf'h.out, if_neg (by rw [hcond'h.out]; decide), List.append_nil]; exact hM4'h.out⟩
        | true =>
          rw [a4] at p2
          by_cases a5 : cc.val = val
          · have a5' : ((cc.val : Int) != (val : Int)) = false := by rw [a5]; simp
            have hcond : condT key val cc = true := by rw [hcd, a4, a3, a5]; simp
            clear hcd a3 a5
            rw [hcond, if_pos rfl] at htf
            have a4'h := Lib.hid a4
            have hq'h := Lib.hid hq
            have hH'h := Lib.hid hH
            have hM'h := Lib.hid hM
            have H4'h := Lib.hid H4
            have hW4'h := Lib.hid hW4
            have hM4'h := Lib.hid hM4
            have hcc'h := Lib.hid hcc
            have hkl'h := Lib.hid hkl
            have hb4'h := Lib.hid hb4
            have htf'h := Lib.hid htf
            have hcond'h := Lib.hid hcond
            clear a4 hq hH hM H4 hW4 hM4 hcc hkl hb4 htf hcond
            go_upto_region 5 with fail
            change Code.wp _ _ _ _ (wr.alloc (.cells (chA cc) 46))
            rw [← hW4'h.out]
            clear d0 d1 d2 d3
            have hk1n : ((k + 1 : Nat) : Int) ≤ (n : Int) := by omega
            have hk1c : k + 1 ≤ cap := by omega
            obtain ⟨wo, rfl⟩ : ∃ wo : World, wo = wr := ⟨_, rfl⟩
            obtain ⟨go, rfl⟩ : ∃ go : Nat, go = gk := ⟨_, rfl⟩
            obtain ⟨r, hrr⟩ : ∃ r, r = n - (k + 1) := ⟨_, rfl⟩
            by_cases hck : cap = k + 1
            · have hcells : ∀ W, Below W4.heap.size W4 W → ∀ m, m < r → W.cell? ⟨b, off + m * 4, none⟩ = some (.int .i64 (nthC l (k + 1 + m)).stp) ∧ W.cell? ⟨b, off + m * 4 + 1, none⟩ = some (.int .u64 ((nthC l (k + 1 + m)).key : Int)) ∧ W.cell? ⟨b, off + m * 4 + 2, none⟩ = some (.bool (nthC l (k + 1 + m)).has) ∧ W.cell? ⟨b, off + m * 4 + 3, none⟩ = some (.int .u64 ((nthC l (k + 1 + m)).val : Int)) := fun W _ m hm => by omega
              have hr4 : r ≤ 4000 := by omega
              have hcells'h := Lib.hid hcells
              have hrr'h := Lib.hid hrr
              clear hcells hrr
              go_wp2
              have hck'h := Lib.hid hck
              clear hck
              rw [← hrr'h.out]
              clear p0 p1 p2 p3
              go_loopg [10, 40] r (fun q e j wr => ∃ m : Nat, m + q = r ∧ j = .int .i64 m ∧ e = .int .i64 (endK l key k m) ∧ Hs w [(wo.heap.size, chA cc, 46)] wr ∧ Below W4.heap.size W4 wr)
              case atStart => exact ⟨0, by omega, rfl, rfl, H4'h.out, Below.refl _ _⟩
              case round =>
                obtain ⟨m, hq2, rfl, rfl, hH5, hB5⟩ := hrel
                by_cases hlt2 : m < r
                · have hkm : k + 1 + m < l.length := by have := hlen'h.out; have := hrr'h.out; omega
                  obtain ⟨e0, e1, e2, e3⟩ := hcells'h.out wr hB5 m hlt2
                  have hi3 : (m : Int) < (r : Int) := by omega
                  have h0m : (0 : Int) ≤ (m : Int) := by omega
                  have H6 := hH5.new (chA (nthC l (k + 1 + m))) 46
                  obtain ⟨W6, hW6⟩ : ∃ W6, W6 = wr.alloc (.cells (chA (nthC l (k + 1 + m))) 46) := ⟨_, rfl⟩
                  rw [← hW6] at H6
                  have hb6 : Below wr.heap.size wr W6 := by rw [hW6]; exact (Below.refl _ _).alloc (Nat.le_refl _) _
                  have hB6 := below_next hB5 hb6
                  have hes := endK_succ (l := l) (key := key) (k := k) (m := m) hkm
                  have hpos := right_pos hr'h.out hkm
                  have hhi := (hok'h.out _ (nthC_mem hkm)).hi
                  generalize nthC l (k + 1 + m) = dd at *
                  generalize endK l key k m = e at *
                  unfold stepE at hes
                  have g0 : W6.cell? ⟨wr.heap.size, 0, none⟩ = some (.int .i64 dd.stp) := blk_cell H6.rows.1 rfl
                  have g1 : W6.cell? ⟨wr.heap.size, 1, none⟩ = some (.int .u64 (dd.key : Int)) := blk_cell H6.rows.1 rfl
                  by_cases b1 : dd.key = key
                  · have b1' : ((dd.key : Int) == (key : Int)) = true := by rw [b1]; simp
                    by_cases b2 : e < 0
                    · have hes2 : endK l key k (m + 1) = dd.stp - 1 := by rw [hes, if_pos (by simp [b1, b2])]
                      clear b1 hes
                      have hq2'h := Lib.hid hq2
                      have hH5'h := Lib.hid hH5
                      have hB5'h := Lib.hid hB5
                      have H6'h := Lib.hid H6
                      have hW6'h := Lib.hid hW6
                      have hb6'h := Lib.hid hb6
                      have hB6'h := Lib.hid hB6
                      have hes2'h := Lib.hid hes2
                      clear hq2 hH5 hB5 H6 hW6 hb6 hB6 hes2
                      go_upto_region 10 with fail
                      change Code.wp _ _ _ _ (wr.alloc (.cells (chA dd) 46))
                      rw [← hW6'h.out]
                      clear e0 e1 e2 e3
                      go_wp2
                      go_roundg (gk - 1)
                      case measure => have := hq2'h.out; omega
                      case rel => exact ⟨m + 1, by have := hq2'h.out; omega, by go_num, by rw [hes2'h.out]; try go_num, H6'h.out.tail, hB6'h.out⟩
                    · have hes2 : endK l key k (m + 1) = e := by rw [hes, if_neg (by simp; omega)]
                      have b2' : ¬ e < 0 := b2
                      clear b1 hes
                      have hq2'h := Lib.hid hq2
                      have hH5'h := Lib.hid hH5
                      have hB5'h := Lib.hid hB5
                      have H6'h := Lib.hid H6
                      have hW6'h := Lib.hid hW6
                      have hb6'h := Lib.hid hb6
                      have hB6'h := Lib.hid hB6
                      have hes2'h := Lib.hid hes2
                      clear hq2 hH5 hB5 H6 hW6 hb6 hB6 hes2
                      go_upto_region 10 with fail
                      change Code.wp _ _ _ _ (wr.alloc (.cells (chA dd) 46))
                      rw [← hW6'h.out]
                      clear e0 e1 e2 e3
                      go_wp2
                      go_roundg (gk - 1)
                      case measure => have := hq2'h.out; omega
                      case rel => exact ⟨m + 1, by have := hq2'h.out; omega, by go_num, by rw [hes2'h.out], H6'h.out.tail, hB6'h.out⟩
                  · have b1' : ((dd.key : Int) == (key : Int)) = false := by simp; omega
                    have hes2 : endK l key k (m + 1) = e := by rw [hes, if_neg (by simp; intro h; exact absurd h b1)]
                    clear b1 hes
                    have hq2'h := Lib.hid hq2
                    have hH5'h := Lib.hid hH5
                    have hB5'h := Lib.hid hB5
                    have H6'h := Lib.hid H6
                    have hW6'h := Lib.hid hW6
                    have hb6'h := Lib.hid hb6
                    have hB6'h := Lib.hid hB6
                    have hes2'h := Lib.hid hes2
                    clear hq2 hH5 hB5 H6 hW6 hb6 hB6 hes2
                    go_upto_region 10 with fail
                    change Code.wp _ _ _ _ (wr.alloc (.cells (chA dd) 46))
                    rw [← hW6'h.out]
                    clear e0 e1 e2 e3
                    go_wp2
                    go_roundg (gk - 1)
                    case measure => have := hq2'h.out; omega
                    case rel => exact ⟨m + 1, by have := hq2'h.out; omega, by go_num, by rw [hes2'h.out], H6'h.out.tail, hB6'h.out⟩
                · have hmr : m = r := by omega
                  subst hmr
                  have hi3 : ¬ (m : Int) < (m : Int) := by omega
                  have hfin : m = l.length - (k + 1) := by rw [hrr'h.out, hlen'h.out]
                  rw [← hfin] at htf'h
                  generalize endK l key k m = e at *
                  have H5r := hH5
                  have hM5 := ownsRow_next hM4'h.out hB5
                  have g0 : wr.cell? ⟨wo.heap.size, 0, none⟩ = some (.int .i64 cc.stp) := blk_cell hH5.rows.1 rfl
                  have hone : ∀ u ∈ ([.int .i64 cc.stp, .int .i64 e] : List Value), u.oneCell' = true := by
                    intro u hu
                    simp at hu
                    rcases hu with rfl | rfl <;> rfl
                  have hsn : tms F1 ++ [.int .i64 cc.stp, .int .i64 e] = tms (F1 ++ [(cc.stp, e)]) := tms_snoc F1 (cc.stp, e)
                  have hq2'h := Lib.hid hq2
                  have hB5'h := Lib.hid hB5
                  have H5r'h := Lib.hid H5r
                  have hM5'h := Lib.hid hM5
                  have hone'h := Lib.hid hone
                  have hsn'h := Lib.hid hsn
                  have hfin'h := Lib.hid hfin
                  clear hq2 hB5 H5r hM5 hone hsn hfin
                  go_wp2_with (at_builtin; refine wpList_append_slk _ rfl (.tmp 56) (.tmp 61) 39 rfl w.heap.size 43 i0 _ 2 16 Try.underlying39 hi hz0 hz1 hz2 rfl (by decide) v F1.length _ rfl (ownsRow_next hM5'h.out ((Below.refl _ _).alloc (Nat.le_refl _) _)) (some ⟨wr.heap.size, 0, none⟩) 1 1 _ rfl (SlK.of_blk (k := 2) (n := 1) (World.alloc_heap_new wr (.cells #[.int .i64 cc.stp, .int .i64 e] 43)) rfl (by decide)) hone'h.out (by unfold maxLen; omega) (by omega) (by rw [World.size_alloc]; have := H5r'h.out.old.size; omega) ?_; intro v' w9 hown' hgrow hat)
                  go_roundg (go - 1)
                  case measure => have := hq'h.out; omega
                  case rel =>
                    have h5 := fun j hj => hM'h.out.lt j hj
                    refine ⟨k + 1, v', rfl, by have := hq'h.out; omega, by go_num, ((H5r'h.out.tail.next ((Below.refl _ _).alloc (Nat.le_refl _) _)).grown' hgrow (fun j hj => ⟨(h5 j hj).1, fun x hx => by cases hx⟩)), ?_⟩
                    rw [htf'h.out, List.length_append, List.length_cons, List.length_nil, Nat.zero_add, ← hsn'h.out]; exact hown'
            · have hcells : ∀ W, Below W4.heap.size W4 W → ∀ m, m < r → W.cell? ⟨b, off + (k + 1) * 4 + m * 4, none⟩ = some (.int .i64 (nthC l (k + 1 + m)).stp) ∧ W.cell? ⟨b, off + (k + 1) * 4 + m * 4 + 1, none⟩ = some (.int .u64 ((nthC l (k + 1 + m)).key : Int)) ∧ W.cell? ⟨b, off + (k + 1) * 4 + m * 4 + 2, none⟩ = some (.bool (nthC l (k + 1 + m)).has) ∧ W.cell? ⟨b, off + (k + 1) * 4 + m * 4 + 3, none⟩ = some (.int .u64 ((nthC l (k + 1 + m)).val : Int)) := fun W hb m hm => by
                have hc := chs_cells (h'h.out.below (H4'h.out.next hb).old) (k := k + 1 + m) (by have := hlen'h.out; omega)
                have e2 : off + (k + 1 + m) * 4 = off + (k + 1) * 4 + m * 4 := by omega
                rw [e2] at hc
                exact hc
              have hr4 : r ≤ 4000 := by omega
              have hcells'h := Lib.hid hcells
              have hrr'h := Lib.hid hrr
              clear hcells hrr
              go_wp2
              rw [← hrr'h.out]
              clear p0 p1 p2 p3
              go_loopg [10, 40] r (fun q e j wr => ∃ m : Nat, m + q = r ∧ j = .int .i64 m ∧ e = .int .i64 (endK l key k m) ∧ Hs w [(wo.heap.size, chA cc, 46)] wr ∧ Below W4.heap.size W4 wr)
              case atStart => exact ⟨0, by omega, rfl, rfl, H4'h.out, Below.refl _ _⟩
              case round =>
                obtain ⟨m, hq2, rfl, rfl, hH5, hB5⟩ := hrel
                by_cases hlt2 : m < r
                · have hkm : k + 1 + m < l.length := by have := hlen'h.out; have := hrr'h.out; omega
                  obtain ⟨e0, e1, e2, e3⟩ := hcells'h.out wr hB5 m hlt2
                  have hi3 : (m : Int) < (r : Int) := by omega
                  have h0m : (0 : Int) ≤ (m : Int) := by omega
                  have H6 := hH5.new (chA (nthC l (k + 1 + m))) 46
                  obtain ⟨W6, hW6⟩ : ∃ W6, W6 = wr.alloc (.cells (chA (nthC l (k + 1 + m))) 46) := ⟨_, rfl⟩
                  rw [← hW6] at H6
                  have hb6 : Below wr.heap.size wr W6 := by rw [hW6]; exact (Below.refl _ _).alloc (Nat.le_refl _) _
                  have hB6 := below_next hB5 hb6
                  have hes := endK_succ (l := l) (key := key) (k := k) (m := m) hkm
                  have hpos := right_pos hr'h.out hkm
                  have hhi := (hok'h.out _ (nthC_mem hkm)).hi
                  generalize nthC l (k + 1 + m) = dd at *
                  generalize endK l key k m = e at *
                  unfold stepE at hes
                  have g0 : W6.cell? ⟨wr.heap.size, 0, none⟩ = some (.int .i64 dd.stp) := blk_cell H6.rows.1 rfl
                  have g1 : W6.cell? ⟨wr.heap.size, 1, none⟩ = some (.int .u64 (dd.key : Int)) := blk_cell H6.rows.1 rfl
                  by_cases b1 : dd.key = key
                  · have b1' : ((dd.key : Int) == (key : Int)) = true := by rw [b1]; simp
                    by_cases b2 : e < 0
                    · have hes2 : endK l key k (m + 1) = dd.stp - 1 := by rw [hes, if_pos (by simp [b1, b2])]
                      clear b1 hes
                      have hq2'h := Lib.hid hq2
                      have hH5'h := Lib.hid hH5
                      have hB5'h := Lib.hid hB5
                      have H6'h := Lib.hid H6
                      have hW6'h := Lib.hid hW6
                      have hb6'h := Lib.hid hb6
                      have hB6'h := Lib.hid hB6
                      have hes2'h := Lib.hid hes2
                      clear hq2 hH5 hB5 H6 hW6 hb6 hB6 hes2
                      go_upto_region 10 with fail
                      change Code.wp _ _ _ _ (wr.alloc (.cells (chA dd) 46))
                      rw [← hW6'h.out]
                      clear e0 e1 e2 e3
                      go_wp2
                      go_roundg (gk - 1)
                      case measure => have := hq2'h.out; omega
                      case rel => exact ⟨m + 1, by have := hq2'h.out; omega, by go_num, by rw [hes2'h.out]; try go_num, H6'h.out.tail, hB6'h.out⟩
                    · have hes2 : endK l key k (m + 1) = e := by rw [hes, if_neg (by simp; omega)]
                      have b2' : ¬ e < 0 := b2
                      clear b1 hes
                      have hq2'h := Lib.hid hq2
                      have hH5'h := Lib.hid hH5
                      have hB5'h := Lib.hid hB5
                      have H6'h := Lib.hid H6
                      have hW6'h := Lib.hid hW6
                      have hb6'h := Lib.hid hb6
                      have hB6'h := Lib.hid hB6
                      have hes2'h := Lib.hid hes2
                      clear hq2 hH5 hB5 H6 hW6 hb6 hB6 hes2
                      go_upto_region 10 with fail
                      change Code.wp _ _ _ _ (wr.alloc (.cells (chA dd) 46))
                      rw [← hW6'h.out]
                      clear e0 e1 e2 e3
                      go_wp2
                      go_roundg (gk - 1)
                      case measure => have := hq2'h.out; omega
                      case rel => exact ⟨m + 1, by have := hq2'h.out; omega, by go_num, by rw [hes2'h.out], H6'h.out.tail, hB6'h.out⟩
                  · have b1' : ((dd.key : Int) == (key : Int)) = false := by simp; omega
                    have hes2 : endK l key k (m + 1) = e := by rw [hes, if_neg (by simp; intro h; exact absurd h b1)]
                    clear b1 hes
                    have hq2'h := Lib.hid hq2
                    have hH5'h := Lib.hid hH5
                    have hB5'h := Lib.hid hB5
                    have H6'h := Lib.hid H6
                    have hW6'h := Lib.hid hW6
                    have hb6'h := Lib.hid hb6
                    have hB6'h := Lib.hid hB6
                    have hes2'h := Lib.hid hes2
                    clear hq2 hH5 hB5 H6 hW6 hb6 hB6 hes2
                    go_upto_region 10 with fail
                    change Code.wp _ _ _ _ (wr.alloc (.cells (chA dd) 46))
                    rw [← hW6'h.out]
                    clear e0 e1 e2 e3
                    go_wp2
                    go_roundg (gk - 1)
                    case measure => have := hq2'h.out; omega
                    case rel => exact ⟨m + 1, by have := hq2'h.out; omega, by go_num, by rw [hes2'h.out], H6'h.out.tail, hB6'h.out⟩
                · have hmr : m = r := by omega
                  subst hmr
                  have hi3 : ¬ (m : Int) < (m : Int) := by omega
                  have hfin : m = l.length - (k + 1) := by rw [hrr'h.out, hlen'h.out]
                  rw [← hfin] at htf'h
                  generalize endK l key k m = e at *
                  have H5r := hH5
                  have hM5 := ownsRow_next hM4'h.out hB5
                  have g0 : wr.cell? ⟨wo.heap.size, 0, none⟩ = some (.int .i64 cc.stp) := blk_cell hH5.rows.1 rfl
                  have hone : ∀ u ∈ ([.int .i64 cc.stp, .int .i64 e] : List Value), u.oneCell' = true := by
                    intro u hu
                    simp at hu
                    rcases hu with rfl | rfl <;> rfl
                  have hsn : tms F1 ++ [.int .i64 cc.stp, .int .i64 e] = tms (F1 ++ [(cc.stp, e)]) := tms_snoc F1 (cc.stp, e)
                  have hq2'h := Lib.hid hq2
                  have hB5'h := Lib.hid hB5
                  have H5r'h := Lib.hid H5r
                  have hM5'h := Lib.hid hM5
                  have hone'h := Lib.hid hone
                  have hsn'h := Lib.hid hsn
                  have hfin'h := Lib.hid hfin
                  clear hq2 hB5 H5r hM5 hone hsn hfin
                  go_wp2_with (at_builtin; refine wpList_append_slk _ rfl (.tmp 56) (.tmp 61) 39 rfl w.heap.size 43 i0 _ 2 16 Try.underlying39 hi hz0 hz1 hz2 rfl (by decide) v F1.length _ rfl (ownsRow_next hM5'h.out ((Below.refl _ _).alloc (Nat.le_refl _) _)) (some ⟨wr.heap.size, 0, none⟩) 1 1 _ rfl (SlK.of_blk (k := 2) (n := 1) (World.alloc_heap_new wr (.cells #[.int .i64 cc.stp, .int .i64 e] 43)) rfl (by decide)) hone'h.out (by unfold maxLen; omega) (by omega) (by rw [World.size_alloc]; have := H5r'h.out.old.size; omega) ?_; intro v' w9 hown' hgrow hat)
                  go_roundg (go - 1)
                  case measure => have := hq'h.out; omega
                  case rel =>
                    have h5 := fun j hj => hM'h.out.lt j hj
                    refine ⟨k + 1, v', rfl, by have := hq'h.out; omega, by go_num, ((H5r'h.out.tail.next ((Below.refl _ _).alloc (Nat.le_refl _) _)).grown' hgrow (fun j hj => ⟨(h5 j hj).1, fun x hx => by cases hx⟩)), ?_⟩
                    rw [htf'h.out, List.length_append, List.length_cons, List.length_nil, Nat.zero_add, ← hsn'h.out]; exact hown'
          · have a5' : ((cc.val : Int) != (val : Int)) = true := by simp; omega
            have hcond : condT key val cc = false := by rw [hcd, show (cc.val == val) = false by simpa using a5]; simp
            clear hcd a3 a5
            have a4'h := Lib.hid a4
            clear a4
            have hq'h := Lib.hid hq
            have hH'h := Lib.hid hH
            have hM'h := Lib.hid hM
            have H4'h := Lib.hid H4
            have hW4'h := Lib.hid hW4
            have hM4'h := Lib.hid hM4
            have hcc'h := Lib.hid hcc
            have hkl'h := Lib.hid hkl
            have hb4'h := Lib.hid hb4
            have htf'h := Lib.hid htf
            have hcond'h := Lib.hid hcond
            clear hq hH hM H4 hW4 hM4 hcc hkl hb4 htf hcond
            go_upto_region 5 with fail
            change Code.wp _ _ _ _ (wr.alloc (.cells (chA cc) 46))
            rw [← hW4'h.out]
            clear d0 d1 d2 d3
            go_wp2
            go_roundg (gk - 1)
            case measure => have := hq'h.out; omega
            case rel => exact ⟨k + 1, v, rfl, by have := hq'h.out; omega, by go_num, H4'h.out.tail, by rw [htf'h.out, if_neg (by rw [hcond'h.out]; decide), List.append_nil]; exact hM4'h.out⟩
      · have a3' : ((cc.key : Int) != (key : Int)) = true := by simp; omega
        have hcond : condT key val cc = false := by rw [hcd, show (cc.key == key) = false by simpa using a3]; simp
        clear hcd a3
        have hq'h := Lib.hid hq
        have hH'h := Lib.hid hH
        have hM'h := Lib.hid hM
        have H4'h := Lib.hid H4
        have hW4'h := Lib.hid hW4
        have hM4'h := Lib.hid hM4
        have hcc'h := Lib.hid hcc
        have hkl'h := Lib.hid hkl
        have hb4'h := Lib.hid hb4
        have htf'h := Lib.hid htf
        have hcond'h := Lib.hid hcond
        clear hq hH hM H4 hW4 hM4 hcc hkl hb4 htf hcond
        go_upto_region 5 with fail
        change Code.wp _ _ _ _ (wr.alloc (.cells (chA cc) 46))
        rw [← hW4'h.out]
        clear d0 d1 d2 d3
        go_wp2
        go_roundg (gk - 1)
        case measure => have := hq'h.out; omega
        case rel => exact ⟨k + 1, v, rfl, by have := hq'h.out; omega, by go_num, H4'h.out.tail, by rw [htf'h.out, if_neg (by rw [hcond'h.out]; decide), List.append_nil]; exact hM4'h.out⟩
    · have hkn : k = l.length := by have := hlen'h.out; omega
      rw [hkn] at hM
      have hd : ¬ ((k : Int) < (n : Int)) := by omega
      clear hkn
      obtain ⟨sv, nv, cv, rfl⟩ := row_slice3 hM
      have hq'h := Lib.hid hq
      have hH'h := Lib.hid hH
      have hM'h := Lib.hid hM
      clear hq hH hM
      go_wp2
      go_ret
      exact ⟨sv, nv, cv, rfl, hH'h.out.old, hM'h.out⟩
end Go.Proofs.Ythfeiiibedmkiaa

/-
  The document's Range.
-/
set_option linter.unusedSimpArgs false
set_option linter.unusedVariables false
set_option maxRecDepth 100000
namespace Go.Proofs.Ythfeiiibedmkiaa
open Go.RowKit

theorem dupP_keys (l : Ps) (k : Nat) : dupP l k = ((l.take k).map (·.1)).contains (nthP l k).1 := by
  unfold dupP
  rw [Bool.eq_iff_iff]
  simp only [List.any_eq_true, List.contains_iff_mem, List.mem_map, beq_iff_eq]
def neverD (l : List Ch) (f t : Int) (p : Nat × Nat) : Bool := !(valsD l p.1 f t).contains p.2
def missD (must keys : List Nat) : Bool := must.any fun k => !keys.contains k
def rangeD (l : List Ch) (f t : Int) (told : Ps) : Nat := if twiceB told = true then 381 else if told.any (neverD l f t) = true then 382 else if missD (mustD l f t) (told.map (·.1)) = true then 383 else 0
theorem any_no {α : Type} {l : List α} {q : α → Bool} {g : Nat → α} (hg : ∀ k (h : k < l.length), g k = l[k]) (h : ∀ k, k < l.length → q (g k) = false) : l.any q = false := by
  rw [← Bool.not_eq_true]
  intro e
  obtain ⟨x, hx, hq⟩ := List.any_eq_true.1 e
  obtain ⟨j, hj, rfl⟩ := List.mem_iff_getElem.1 hx
  rw [← hg j hj, h j hj] at hq; cases hq
theorem any_yes {α : Type} {l : List α} {q : α → Bool} {g : Nat → α} (hg : ∀ k (h : k < l.length), g k = l[k]) {k : Nat} (hk : k < l.length) (h : q (g k) = true) : l.any q = true := List.any_eq_true.2 ⟨_, List.getElem_mem hk, by rw [← hg k hk]; exact h⟩
theorem valsD_le (l : List Ch) (key : Nat) (f t : Int) : (valsD l key f t).length ≤ l.length + 1 := by
  unfold valsD headV
  rw [List.length_append, List.length_map]
  have h1 : (l.filter (condV key f t)).length ≤ l.length := List.length_filter_le _ _
  split <;> simp <;> omega
theorem mustD_le (l : List Ch) (f t : Int) : (mustD l f t).length ≤ l.length := by
  unfold mustD
  rw [List.length_map]
  exact Nat.le_trans (List.length_filter_le _ _) (Nat.le_trans (len_mapL l _) (cntL_le l f))
set_option maxHeartbeats 2000000 in
theorem rdRange_any (sp : Option Addr) (n cap : Nat) (l : List Ch) (f t : Int) (st : Option Addr) (nt ct : Nat) (told : Ps) (w : World) (h : SlK w 4 sp n (chs l)) (hn : n ≤ 4000) (hr : rightL l = true) (hft : f ≤ t) (hT : SlK w 2 st nt (prs told)) (hnt : nt ≤ 4096) :
    Calls Try.prog 22 #[.slice sp n cap, .agg (tmA f t), .slice st nt ct] w fun e w' => e = .returned (.int .i64 (rangeD l f t told)) ∧ Below w.heap.size w w' := by
  obtain ⟨i0, hi, hz0, hz1, hz2⟩ := info_parts info_u64V
  have hlen := chs_len h
  have hlt := prs_len hT
  have hE : rangeD l f t told = if twiceB told = true then 381 else if told.any (neverD l f t) = true then 382 else if missD (mustD l f t) (told.map (·.1)) = true then 383 else 0 := rfl
  generalize rangeD l f t told = res at *
  have H0 := (Hs.nil w).new (tmA f t) 43
  obtain ⟨W0, hW0⟩ : ∃ W0, W0 = w.alloc (.cells (tmA f t) 43) := ⟨_, rfl⟩
  rw [← hW0] at H0
  have H0'h := Lib.hid H0
  have h'h := Lib.hid h
  have hlen'h := Lib.hid hlen
  have hr'h := Lib.hid hr
  have hft'h := Lib.hid hft
  have hT'h := Lib.hid hT
  have hlt'h := Lib.hid hlt
  have hE'h := Lib.hid hE
  clear H0 h hlen hr hft hT hlt hE
  go_enter Try.func22, Try.ntmps22
  go_upto_region 2 with fail
  rw [show World.alloc w _ = W0 from hW0.symm]
  clear hW0
  go_wp2
  go_loopg [7, 16] nt (fun q x i wr => ∃ (k : Nat) (s : Option Addr) (c : Nat), x = .slice s k c ∧ k + q = nt ∧ i = .int .i64 k ∧ Hs w [(w.heap.size, tmA f t, 43)] wr ∧ wr.ownsRow (w.heap.size + 1) 36 1 (.slice s k c) k (u64s ((told.take k).map (·.1))) ∧ ∀ j, j < k → dupP told j = false)
  case atStart => exact ⟨0, none, 0, rfl, by omega, rfl, H0'h.out, World.ownsRow_nil _ _ _ _, fun j hj => by omega⟩
  case round =>
    obtain ⟨k, s, c, rfl, hq, rfl, hH, hM, hall⟩ := hrel
    by_cases hlt' : k < nt
    · have hkl : k < told.length := by have := hlt'h.out; omega
      obtain ⟨b, off, rfl⟩ := prs_some hT'h.out (by omega)
      obtain ⟨d0, d1⟩ := prs_cells (hT'h.out.below hH.old) hkl
      have hi1 : (k : Int) < (nt : Int) := by omega
      have h0k : (0 : Int) ≤ (k : Int) := by omega
      have H4 := hH.new #[.int .u64 ((nthP told k).1 : Int), .int .u64 ((nthP told k).2 : Int)] 38
      obtain ⟨W4, hW4⟩ : ∃ W4, W4 = wr.alloc (.cells #[.int .u64 ((nthP told k).1 : Int), .int .u64 ((nthP told k).2 : Int)] 38) := ⟨_, rfl⟩
      rw [← hW4] at H4
      have hb4 : Below wr.heap.size wr W4 := by rw [hW4]; exact (Below.refl _ _).alloc (Nat.le_refl _) _
      have hM4 := ownsRow_next hM hb4
      have CU := rhad_any s k c ((told.take k).map (·.1)) (nthP told k).1 W4 (Sl.of_row hM4 (by unfold maxLen; omega))
      rw [← dupP_keys] at CU
      have hsn : u64s ((told.take k).map (·.1)) ++ [.int .u64 ((nthP told k).1 : Int)] = u64s ((told.take (k + 1)).map (·.1)) := by rw [← u64s_snoc, List.take_succ_eq_append_getElem hkl, List.map_append, nthP_eq hkl]; rfl
      have p0 : W4.cell? ⟨wr.heap.size, 0, none⟩ = some (.int .u64 ((nthP told k).1 : Int)) := blk_cell H4.rows.1 rfl
      have hone : ∀ u ∈ ([.int .u64 ((nthP told k).1 : Int)] : List Value), u.oneCell' = true := by intro u hu; rw [List.mem_singleton.1 hu]; rfl
      have hwr : w.heap.size + 1 ≤ wr.heap.size := hH.lt _ (List.mem_cons_self ..)
      cases hd : dupP told k with
      | true =>
        have htw := twice_yes hkl hd
        rw [hd] at CU
        have hd'h := Lib.hid hd
        have htw'h := Lib.hid htw
        have hq'h := Lib.hid hq
        have hH'h := Lib.hid hH
        have hM'h := Lib.hid hM
        have H4'h := Lib.hid H4
        have hW4'h := Lib.hid hW4
        have hb4'h := Lib.hid hb4
        have hM4'h := Lib.hid hM4
        have CU'h := Lib.hid CU
        have hsn'h := Lib.hid hsn
        have hone'h := Lib.hid hone
        have hall'h := Lib.hid hall
        have hkl'h := Lib.hid hkl
        clear hd htw hq hH hM H4 hW4 hb4 hM4 CU hsn hone hall hkl
        go_upto_region 5 with fail
        rw [← hW4'h.out]
        clear d0 d1
        go_wp2_with (first | (go_at_call 50; refine CU'h.out.mono ?_; rintro e w5 ⟨rfl, hw5⟩; obtain rfl := hw5.symm))
        go_ret
        exact ⟨ret_i64 (by rw [hE'h.out, if_pos htw'h.out]; rfl), H4'h.out.old⟩
      | false =>
        have hall' : ∀ j, j < k + 1 → dupP told j = false := fun j hj => by
          by_cases e : j = k
          · rw [e]; exact hd
          · exact hall j (by omega)
        rw [hd] at CU
        have hd'h := Lib.hid hd
        have hq'h := Lib.hid hq
        have hH'h := Lib.hid hH
        have hM'h := Lib.hid hM
        have H4'h := Lib.hid H4
        have hW4'h := Lib.hid hW4
        have hb4'h := Lib.hid hb4
        have hM4'h := Lib.hid hM4
        have CU'h := Lib.hid CU
        have hsn'h := Lib.hid hsn
        have hone'h := Lib.hid hone
        have hall'h := Lib.hid hall
        have hall''h := Lib.hid hall'
        have hkl'h := Lib.hid hkl
        clear hd hq hH hM H4 hW4 hb4 hM4 CU hsn hone hall hall' hkl
        go_upto_region 5 with fail
        rw [← hW4'h.out]
        clear d0 d1
        go_wp2_with (first | (go_at_call 50; refine CU'h.out.mono ?_; rintro e w5 ⟨rfl, hw5⟩; obtain rfl := hw5.symm) | (at_builtin; refine wpList_append_slk _ rfl (.tmp 24) (.tmp 27) 57 rfl (w.heap.size + 1) 36 i0 (.int .u64 0) 1 8 Try.underlying57 hi hz0 hz1 hz2 rfl (by decide) (.slice s k c) k _ rfl (ownsRow_next hM4'h.out ((Below.refl _ _).alloc (Nat.le_refl _) _)) (some ⟨W4.heap.size, 0, none⟩) 1 1 _ rfl (SlK.of_blk (k := 1) (n := 1) (World.alloc_heap_new W4 (.cells #[.int .u64 ((nthP told k).1 : Int)] 36)) rfl (by decide)) hone'h.out (by unfold maxLen; omega) (by omega) (by rw [World.size_alloc]; have := hb4'h.out.size; omega) ?_; intro v' w9 hown' hgrow hwh))
        go_roundg (gk - 1)
        case measure => have := hq'h.out; omega
        case rel =>
          have h5 := fun j hj => hM'h.out.lt j hj
          obtain ⟨s9, n9, c9, rfl⟩ := row_slice3 hown'
          obtain rfl := row_len9 hown'
          refine ⟨k + 1, s9, c9, rfl, by have := hq'h.out; omega, by go_num, ((H4'h.out.next ((Below.refl _ _).alloc (Nat.le_refl _) _)).grown' hgrow (fun j hj => ⟨by have := h5 j hj; omega, fun x hx => ?_⟩)).tail, by rw [← hsn'h.out]; exact hown', hall''h.out⟩
          have := h5 j hj
          rcases List.mem_cons.1 hx with rfl | hx
          · simp only; omega
          rcases List.mem_cons.1 hx with rfl | hx
          · simp only; omega
          · cases hx
    · have hkn : k = told.length := by have := hlt'h.out; omega
      have htw := twice_no (l := told) (fun j hj => hall j (by omega))
      rw [show told.take k = told by rw [hkn]; exact List.take_of_length_le (Nat.le_refl _)] at hM
      have hd : ¬ ((k : Int) < (nt : Int)) := by omega
      have hSk := Sl.of_row hM (by unfold maxLen; omega)
      obtain ⟨wk, rfl⟩ : ∃ wk : World, wk = wr := ⟨_, rfl⟩
      clear hall hlt'
      have hk4 : k ≤ 4096 := by omega
      have hq'h := Lib.hid hq
      have hH'h := Lib.hid hH
      have hM'h := Lib.hid hM
      have htw'h := Lib.hid htw
      have hSk'h := Lib.hid hSk
      have hkn'h := Lib.hid hkn
      clear hq hH hM htw hSk hkn
      go_wp2
      clear hd
      go_loopg [32] nt (fun q i wr => ∃ k2 : Nat, k2 + q = nt ∧ i = .int .i64 k2 ∧ Hs w [(w.heap.size, tmA f t, 43)] wr ∧ Below wk.heap.size wk wr ∧ ∀ j, j < k2 → neverD l f t (nthP told j) = false)
      case atStart => exact ⟨0, by omega, rfl, hH'h.out, Below.refl _ _, fun j hj => by omega⟩
      case round =>
        obtain ⟨k2, hq2, rfl, hH, hB, hall⟩ := hrel
        by_cases hlt' : k2 < nt
        · have hkl : k2 < told.length := by have := hlt'h.out; omega
          obtain ⟨b, off, rfl⟩ := prs_some hT'h.out (by omega)
          obtain ⟨d0, d1⟩ := prs_cells (hT'h.out.below hH.old) hkl
          have hi1 : (k2 : Int) < (nt : Int) := by omega
          have h0k : (0 : Int) ≤ (k2 : Int) := by omega
          have hnv : neverD l f t (nthP told k2) = !(valsD l (nthP told k2).1 f t).contains (nthP told k2).2 := rfl
          have hyes := fun h => any_yes (l := told) (q := neverD l f t) (g := nthP told) (fun k h => (nthP_eq h).symm) hkl h
          have hvl := valsD_le l (nthP told k2).1 f t
          have VA := fun W (hb : Below w.heap.size w W) => rdValues_any sp n cap l (nthP told k2).1 f t W (h'h.out.below hb) hn hr'h.out
          have CU := fun s5 c5 W h => rhad_any s5 (valsD l (nthP told k2).1 f t).length c5 (valsD l (nthP told k2).1 f t) (nthP told k2).2 W h
          have hnext : neverD l f t (nthP told k2) = false → ∀ j, j < k2 + 1 → neverD l f t (nthP told j) = false := fun h j hj => by
            by_cases e : j = k2
            · rw [e]; exact h
            · exact hall j (by omega)
          obtain ⟨bb, hbb⟩ : ∃ bb, bb = neverD l f t (nthP told k2) := ⟨_, rfl⟩
          rw [← hbb] at hnv hyes hnext
          clear hbb
          generalize valsD l (nthP told k2).1 f t = vl at *
          generalize (nthP told k2).1 = y0 at *
          generalize (nthP told k2).2 = y1 at *
          have H4 := hH.new #[.int .u64 (y0 : Int), .int .u64 (y1 : Int)] 38
          obtain ⟨W4, hW4⟩ : ∃ W4, W4 = wr.alloc (.cells #[.int .u64 (y0 : Int), .int .u64 (y1 : Int)] 38) := ⟨_, rfl⟩
          rw [← hW4] at H4
          have hb4 : Below wr.heap.size wr W4 := by rw [hW4]; exact (Below.refl _ _).alloc (Nat.le_refl _) _
          have hB4 := below_next hB hb4
          cases hcu : vl.contains y1 with
          | true =>
            rw [hcu] at CU hnv
            have hall' := hnext hnv
            have hq2'h := Lib.hid hq2
            have hH'h := Lib.hid hH
            have hB'h := Lib.hid hB
            have H4'h := Lib.hid H4
            have hW4'h := Lib.hid hW4
            have hb4'h := Lib.hid hb4
            have hB4'h := Lib.hid hB4
            have hall'h := Lib.hid hall
            have hall''h := Lib.hid hall'
            have hkl'h := Lib.hid hkl
            have hvl'h := Lib.hid hvl
            have VA'h := Lib.hid VA
            have CU'h := Lib.hid CU
            have hnv'h := Lib.hid hnv
            have hyes'h := Lib.hid hyes
            have hnext'h := Lib.hid hnext
            have hcu'h := Lib.hid hcu
            clear hq2 hH hB H4 hW4 hb4 hB4 hall hall' hkl hvl VA CU hnv hyes hnext hcu
            go_upto_region 12 with fail
            rw [← hW4'h.out]
            clear d0 d1
            have H5 := H4'h.out.drew
            refine wp_region_heldQ (fun w' => w'.heap[w.heap.size]? = some (.cells (tmA f t) 43 (0, 0)) ∧ w'.cell? ⟨wr.heap.size, 0, none⟩ = some (.int .u64 (y0 : Int)) ∧ w'.cell? ⟨wr.heap.size, 1, none⟩ = some (.int .u64 (y1 : Int))) 99 (by kernel_rfl) ?_
            have hq5 : ∀ W, Hs w [(wr.heap.size, #[.int .u64 (y0 : Int), .int .u64 (y1 : Int)], 38), (w.heap.size, tmA f t, 43)] W → W.heap[w.heap.size]? = some (.cells (tmA f t) 43 (0, 0)) ∧ W.cell? ⟨wr.heap.size, 0, none⟩ = some (.int .u64 (y0 : Int)) ∧ W.cell? ⟨wr.heap.size, 1, none⟩ = some (.int .u64 (y1 : Int)) := fun W H => ⟨H.rows.2.1, blk_cell H.rows.1 rfl, blk_cell H.rows.1 rfl⟩
            have k1 := hq5 _ H5
            have V5 := VA'h.out _ H5.old
            have hB5 := Below.drew hB4'h.out
            generalize W4.drew = W5 at H5 k1 V5 hB5 ⊢
            refine wpAnyF_take (i := 0) (v := .slice sp n cap) rfl (by kernel_rfl) (by kernel_rfl) (by kernel_rfl) (by kernel_rfl) (fun _ _ _ h => h) (Or.inl ⟨by kernel_rfl, fun w hSw => by (try dsimp only at hSw); go_simp⟩) k1 ?_; try simp only [Act.put, List.getElem_toArray, List.getElem_cons_succ, List.getElem_cons_zero, List.setIfInBounds_toArray, List.set_cons_zero, List.set_cons_succ]
            refine wpAnyF_take (i := 1) (v := .pointer (some ⟨wr.heap.size, 0, none⟩)) rfl (by kernel_rfl) (by kernel_rfl) (by kernel_rfl) (by kernel_rfl) (fun _ _ _ h => h) (Or.inl ⟨by kernel_rfl, fun w hSw => by (try dsimp only at hSw); go_simp⟩) k1 ?_; try simp only [Act.put, List.getElem_toArray, List.getElem_cons_succ, List.getElem_cons_zero, List.setIfInBounds_toArray, List.set_cons_zero, List.set_cons_succ]
            refine wpAnyF_take (i := 2) (v := .int .u64 (y0 : Int)) rfl (by kernel_rfl) (by kernel_rfl) (by kernel_rfl) (by kernel_rfl) (fun _ _ _ h => h) (Or.inl ⟨by kernel_rfl, fun w hSw => by have hcc := hSw.2.1; (try dsimp only at hSw); go_simp⟩) k1 ?_; try simp only [Act.put, List.getElem_toArray, List.getElem_cons_succ, List.getElem_cons_zero, List.setIfInBounds_toArray, List.set_cons_zero, List.set_cons_succ]
            refine wpAnyF_take (i := 3) (v := .agg (tmA f t)) rfl (by kernel_rfl) (by kernel_rfl) (by kernel_rfl) (by kernel_rfl) (fun _ _ _ h => h) (Or.inl ⟨by kernel_rfl, fun w hSw => run_load_agg (by rfl) (by rfl) hSw.1 Try.underlying43 rfl info_tm⟩) k1 ?_; try simp only [Act.put, List.getElem_toArray, List.getElem_cons_succ, List.getElem_cons_zero, List.setIfInBounds_toArray, List.set_cons_zero, List.set_cons_succ]
            refine wpAnyF_take (i := 5) (v := .pointer (some ⟨wr.heap.size, 1, none⟩)) rfl (by kernel_rfl) (by kernel_rfl) (by kernel_rfl) (by kernel_rfl) (fun _ _ _ h => h) (Or.inl ⟨by kernel_rfl, fun w hSw => by (try dsimp only at hSw); go_simp⟩) k1 ?_; try simp only [Act.put, List.getElem_toArray, List.getElem_cons_succ, List.getElem_cons_zero, List.setIfInBounds_toArray, List.set_cons_zero, List.set_cons_succ]
            refine wpAnyF_take (i := 6) (v := .int .u64 (y1 : Int)) rfl (by kernel_rfl) (by kernel_rfl) (by kernel_rfl) (by kernel_rfl) (fun _ _ _ h => h) (Or.inl ⟨by kernel_rfl, fun w hSw => by have hcc := hSw.2.2; (try dsimp only at hSw); go_simp⟩) k1 ?_; try simp only [Act.put, List.getElem_toArray, List.getElem_cons_succ, List.getElem_cons_zero, List.setIfInBounds_toArray, List.set_cons_zero, List.set_cons_succ]
            refine wpAnyF_one (i := 4) (by kernel_rfl) rfl (fun K hK => ?_); go_simp
            refine V5.mono ?_
            rintro e W6 ⟨s6, n6, c6, rfl, hb6, hrow6⟩
            obtain rfl := row_len9 hrow6
            dsimp only
            have H6 := H5.next hb6
            have hB6 := below_next hB5 hb6
            have k2 := hq5 _ H6
            refine hK.out _ _ (fun _ => k2) ?_; clear hK K; try simp only [Act.put, List.getElem_toArray, List.getElem_cons_succ, List.getElem_cons_zero, List.setIfInBounds_toArray, List.set_cons_zero, List.set_cons_succ]
            refine wpAnyF_one (i := 7) (by kernel_rfl) rfl (fun K hK => ?_); go_simp
            refine (CU'h.out s6 c6 W6 (Sl.of_row hrow6 (by have := hvl'h.out; have := hlen'h.out; unfold maxLen; omega))).mono ?_
            rintro e W7 ⟨rfl, hW7⟩
            obtain rfl := hW7.symm
            dsimp only
            refine hK.out _ _ (fun _ => k2) ?_; clear hK K; try simp only [Act.put, List.getElem_toArray, List.getElem_cons_succ, List.getElem_cons_zero, List.setIfInBounds_toArray, List.set_cons_zero, List.set_cons_succ]
            refine wpAnyF_take (i := 8) (v := .bool false) rfl (by kernel_rfl) (by kernel_rfl) (by kernel_rfl) (by kernel_rfl) (fun _ _ _ h => h) (Or.inl ⟨by kernel_rfl, fun w hSw => by (try dsimp only at hSw); go_simp⟩) k2 ?_; try simp only [Act.put, List.getElem_toArray, List.getElem_cons_succ, List.getElem_cons_zero, List.setIfInBounds_toArray, List.set_cons_zero, List.set_cons_succ]
            refine wpAnyF_done (by kernel_rfl) ?_ _
            refine noPanic_normal ?_
            clear k1 k2 hq5 V5 hB5 hb6 hrow6 H5
            have H6'h := Lib.hid H6
            have hB6'h := Lib.hid hB6
            clear H6 hB6
            go_wp2
            go_roundg (gk - 1)
            case measure => have := hq2'h.out; omega
            case rel => exact ⟨k2 + 1, by have := hq2'h.out; omega, by go_num, H6'h.out.tail, hB6'h.out, hall''h.out⟩
          | false =>
            rw [hcu] at CU hnv
            have htn := hyes hnv
            have hq2'h := Lib.hid hq2
            have hH'h := Lib.hid hH
            have hB'h := Lib.hid hB
            have H4'h := Lib.hid H4
            have hW4'h := Lib.hid hW4
            have hb4'h := Lib.hid hb4
            have hB4'h := Lib.hid hB4
            have hall'h := Lib.hid hall
            have hkl'h := Lib.hid hkl
            have hvl'h := Lib.hid hvl
            have VA'h := Lib.hid VA
            have CU'h := Lib.hid CU
            have hnv'h := Lib.hid hnv
            have hyes'h := Lib.hid hyes
            have hnext'h := Lib.hid hnext
            have hcu'h := Lib.hid hcu
            have htn'h := Lib.hid htn
            clear hq2 hH hB H4 hW4 hb4 hB4 hall hkl hvl VA CU hnv hyes hnext hcu htn
            go_upto_region 12 with fail
            rw [← hW4'h.out]
            clear d0 d1
            have H5 := H4'h.out.drew
            refine wp_region_heldQ (fun w' => w'.heap[w.heap.size]? = some (.cells (tmA f t) 43 (0, 0)) ∧ w'.cell? ⟨wr.heap.size, 0, none⟩ = some (.int .u64 (y0 : Int)) ∧ w'.cell? ⟨wr.heap.size, 1, none⟩ = some (.int .u64 (y1 : Int))) 99 (by kernel_rfl) ?_
            have hq5 : ∀ W, Hs w [(wr.heap.size, #[.int .u64 (y0 : Int), .int .u64 (y1 : Int)], 38), (w.heap.size, tmA f t, 43)] W → W.heap[w.heap.size]? = some (.cells (tmA f t) 43 (0, 0)) ∧ W.cell? ⟨wr.heap.size, 0, none⟩ = some (.int .u64 (y0 : Int)) ∧ W.cell? ⟨wr.heap.size, 1, none⟩ = some (.int .u64 (y1 : Int)) := fun W H => ⟨H.rows.2.1, blk_cell H.rows.1 rfl, blk_cell H.rows.1 rfl⟩
            have k1 := hq5 _ H5
            have V5 := VA'h.out _ H5.old
            have hB5 := Below.drew hB4'h.out
            generalize W4.drew = W5 at H5 k1 V5 hB5 ⊢
            refine wpAnyF_take (i := 0) (v := .slice sp n cap) rfl (by kernel_rfl) (by kernel_rfl) (by kernel_rfl) (by kernel_rfl) (fun _ _ _ h => h) (Or.inl ⟨by kernel_rfl, fun w hSw => by (try dsimp only at hSw); go_simp⟩) k1 ?_; try simp only [Act.put, List.getElem_toArray, List.getElem_cons_succ, List.getElem_cons_zero, List.setIfInBounds_toArray, List.set_cons_zero, List.set_cons_succ]
            refine wpAnyF_take (i := 1) (v := .pointer (some ⟨wr.heap.size, 0, none⟩)) rfl (by kernel_rfl) (by kernel_rfl) (by kernel_rfl) (by kernel_rfl) (fun _ _ _ h => h) (Or.inl ⟨by kernel_rfl, fun w hSw => by (try dsimp only at hSw); go_simp⟩) k1 ?_; try simp only [Act.put, List.getElem_toArray, List.getElem_cons_succ, List.getElem_cons_zero, List.setIfInBounds_toArray, List.set_cons_zero, List.set_cons_succ]
            refine wpAnyF_take (i := 2) (v := .int .u64 (y0 : Int)) rfl (by kernel_rfl) (by kernel_rfl) (by kernel_rfl) (by kernel_rfl) (fun _ _ _ h => h) (Or.inl ⟨by kernel_rfl, fun w hSw => by have hcc := hSw.2.1; (try dsimp only at hSw); go_simp⟩) k1 ?_; try simp only [Act.put, List.getElem_toArray, List.getElem_cons_succ, List.getElem_cons_zero, List.setIfInBounds_toArray, List.set_cons_zero, List.set_cons_succ]
            refine wpAnyF_take (i := 3) (v := .agg (tmA f t)) rfl (by kernel_rfl) (by kernel_rfl) (by kernel_rfl) (by kernel_rfl) (fun _ _ _ h => h) (Or.inl ⟨by kernel_rfl, fun w hSw => run_load_agg (by rfl) (by rfl) hSw.1 Try.underlying43 rfl info_tm⟩) k1 ?_; try simp only [Act.put, List.getElem_toArray, List.getElem_cons_succ, List.getElem_cons_zero, List.setIfInBounds_toArray, List.set_cons_zero, List.set_cons_succ]
            refine wpAnyF_take (i := 5) (v := .pointer (some ⟨wr.heap.size, 1, none⟩)) rfl (by kernel_rfl) (by kernel_rfl) (by kernel_rfl) (by kernel_rfl) (fun _ _ _ h => h) (Or.inl ⟨by kernel_rfl, fun w hSw => by (try dsimp only at hSw); go_simp⟩) k1 ?_; try simp only [Act.put, List.getElem_toArray, List.getElem_cons_succ, List.getElem_cons_zero, List.setIfInBounds_toArray, List.set_cons_zero, List.set_cons_succ]
            refine wpAnyF_take (i := 6) (v := .int .u64 (y1 : Int)) rfl (by kernel_rfl) (by kernel_rfl) (by kernel_rfl) (by kernel_rfl) (fun _ _ _ h => h) (Or.inl ⟨by kernel_rfl, fun w hSw => by have hcc := hSw.2.2; (try dsimp only at hSw); go_simp⟩) k1 ?_; try simp only [Act.put, List.getElem_toArray, List.getElem_cons_succ, List.getElem_cons_zero, List.setIfInBounds_toArray, List.set_cons_zero, List.set_cons_succ]
            refine wpAnyF_one (i := 4) (by kernel_rfl) rfl (fun K hK => ?_); go_simp
            refine V5.mono ?_
            rintro e W6 ⟨s6, n6, c6, rfl, hb6, hrow6⟩
            obtain rfl := row_len9 hrow6
            dsimp only
            have H6 := H5.next hb6
            have hB6 := below_next hB5 hb6
            have k2 := hq5 _ H6
            refine hK.out _ _ (fun _ => k2) ?_; clear hK K; try simp only [Act.put, List.getElem_toArray, List.getElem_cons_succ, List.getElem_cons_zero, List.setIfInBounds_toArray, List.set_cons_zero, List.set_cons_succ]
            refine wpAnyF_one (i := 7) (by kernel_rfl) rfl (fun K hK => ?_); go_simp
            refine (CU'h.out s6 c6 W6 (Sl.of_row hrow6 (by have := hvl'h.out; have := hlen'h.out; unfold maxLen; omega))).mono ?_
            rintro e W7 ⟨rfl, hW7⟩
            obtain rfl := hW7.symm
            dsimp only
            refine hK.out _ _ (fun _ => k2) ?_; clear hK K; try simp only [Act.put, List.getElem_toArray, List.getElem_cons_succ, List.getElem_cons_zero, List.setIfInBounds_toArray, List.set_cons_zero, List.set_cons_succ]
            refine wpAnyF_take (i := 8) (v := .bool true) rfl (by kernel_rfl) (by kernel_rfl) (by kernel_rfl) (by kernel_rfl) (fun _ _ _ h => h) (Or.inl ⟨by kernel_rfl, fun w hSw => by (try dsimp only at hSw); go_simp⟩) k2 ?_; try simp only [Act.put, List.getElem_toArray, List.getElem_cons_succ, List.getElem_cons_zero, List.setIfInBounds_toArray, List.set_cons_zero, List.set_cons_succ]
            refine wpAnyF_done (by kernel_rfl) ?_ _
            refine noPanic_normal ?_
            clear k1 k2 hq5 V5 hB5 hb6 hrow6 H5
            have H6'h := Lib.hid H6
            have hB6'h := Lib.hid hB6
            clear H6 hB6
            go_wp2
            go_ret
            exact ⟨ret_i64 (by rw [hE'h.out, if_neg (by rw [htw'h.out]; decide), if_pos htn'h.out]; rfl), H6'h.out.old⟩
        · have htn : told.any (neverD l f t) = false := any_no (g := nthP told) (fun k h => (nthP_eq h).symm) (fun j hj => hall j (by have := hlt'h.out; omega))
          have hd : ¬ ((k2 : Int) < (nt : Int)) := by omega
          clear hall hlt'
          have MU := rdMust_any sp n cap l f t wr (h'h.out.below hH.old) hn hr'h.out hft'h.out
          have hml := mustD_le l f t
          generalize mustD l f t = ml at *
          have hq2'h := Lib.hid hq2
          have hH'h := Lib.hid hH
          have hB'h := Lib.hid hB
          have htn'h := Lib.hid htn
          have MU'h := Lib.hid MU
          have hml'h := Lib.hid hml
          clear hq2 hH hB htn MU hml
          go_upto_region 16 with (first | guard_target = wpList _ _ _ (Oper.mk _ (.load _ (.tmp 4)) _ _ _ _ :: _) _ _; refine wpList_load_row rfl 43 (.tmp 4) rfl (w.heap.size) rfl 43 (tmA f t) (0, 0) _ hH'h.out.rows.1 Try.underlying43 rfl info_tm ?_ | (go_at_call 31; refine MU'h.out.mono ?_; rintro e w8 ⟨s8, n8, c8, rfl, hb8, hrow8⟩; obtain rfl := row_len9 hrow8))
          have H8 := hH'h.out.next hb8
          have hB8 := below_next hB'h.out hb8
          have hSm := Sl.of_row hrow8 (by have := hml'h.out; have := hlen'h.out; unfold maxLen; omega)
          have hSk8 := hSk'h.out.below hB8
          have hm4 : ml.length ≤ 4000 := by have := hml'h.out; have := hlen'h.out; omega
          have hres := hE'h.out
          clear hd hb8 hrow8
          have H8'h := Lib.hid H8
          have hB8'h := Lib.hid hB8
          have hSm'h := Lib.hid hSm
          have hSk8'h := Lib.hid hSk8
          have hres'h := Lib.hid hres
          clear H8 hB8 hSm hSk8 hres
          go_loopg [50] ml.length (fun q i wr => ∃ k3 : Nat, k3 + q = ml.length ∧ i = .int .i64 k3 ∧ wr = w8 ∧ ∀ j, j < k3 → (told.map (·.1)).contains (nthN ml j) = true)
          case atStart => exact ⟨0, by omega, rfl, rfl, fun j hj => by omega⟩
          case round =>
            obtain ⟨k3, hq3, rfl, rfl, hall⟩ := hrel
            by_cases hlt' : k3 < ml.length
            · obtain ⟨b, off, rfl, hcs⟩ := hSm'h.out.some' (by omega)
              have c1 : wr.cell? ⟨b, off + k3, none⟩ = some (.int .u64 (nthN ml k3)) := hcs k3 _ (u64s_at hlt')
              have hi1 : (k3 : Int) < (ml.length : Int) := by omega
              have h0k : (0 : Int) ≤ (k3 : Int) := by omega
              have CU := rhad_any s k c (told.map (·.1)) (nthN ml k3) wr hSk8'h.out
              clear hcs
              cases hcu : (told.map (·.1)).contains (nthN ml k3) with
              | true =>
                have hall' : ∀ j, j < k3 + 1 → (told.map (·.1)).contains (nthN ml j) = true := fun j hj => by
                  by_cases e : j = k3
                  · rw [e]; exact hcu
                  · exact hall j (by omega)
                rw [hcu] at CU
                have hq3'h := Lib.hid hq3
                have hall'h := Lib.hid hall
                have hall''h := Lib.hid hall'
                have CU'h := Lib.hid CU
                have hcu'h := Lib.hid hcu
                clear hq3 hall hall' CU hcu
                go_wp2_with (first | (go_at_call 50; refine CU'h.out.mono ?_; rintro e w5 ⟨rfl, hw5⟩; obtain rfl := hw5.symm))
                go_roundg (gk - 1)
                case measure => have := hq3'h.out; omega
                case rel => exact ⟨k3 + 1, by have := hq3'h.out; omega, by go_num, rfl, hall''h.out⟩
              | false =>
                have hmi : missD ml (told.map (·.1)) = true := any_yes (g := nthN ml) (fun k h => (nthN_eq h).symm) hlt' (by rw [hcu]; rfl)
                rw [hcu] at CU
                have hq3'h := Lib.hid hq3
                have hall'h := Lib.hid hall
                have CU'h := Lib.hid CU
                have hcu'h := Lib.hid hcu
                have hmi'h := Lib.hid hmi
                clear hq3 hall CU hcu hmi
                go_wp2_with (first | (go_at_call 50; refine CU'h.out.mono ?_; rintro e w5 ⟨rfl, hw5⟩; obtain rfl := hw5.symm))
                go_ret
                exact ⟨ret_i64 (by rw [hres'h.out, if_neg (by rw [htw'h.out]; decide), if_neg (by rw [htn'h.out]; decide), if_pos hmi'h.out]; rfl), H8'h.out.old⟩
            · have hmi : missD ml (told.map (·.1)) = false := any_no (g := nthN ml) (fun k h => (nthN_eq h).symm) (fun j hj => by rw [hall j (by omega)]; rfl)
              have hd : ¬ ((k3 : Int) < (ml.length : Int)) := by omega
              clear hall hlt'
              have hq3'h := Lib.hid hq3
              have hmi'h := Lib.hid hmi
              clear hq3 hmi
              go_wp2
              go_ret
              exact ⟨ret_i64 (by rw [hres'h.out, if_neg (by rw [htw'h.out]; decide), if_neg (by rw [htn'h.out]; decide), if_neg (by rw [hmi'h.out]; decide)]; rfl), H8'h.out.old⟩
end Go.Proofs.Ythfeiiibedmkiaa

/-
  The chapter's few, and four.
-/
set_option linter.unusedSimpArgs false
set_option linter.unusedVariables false
set_option maxRecDepth 100000
namespace Go.Proofs.Ythfeiiibedmkiaa
open Go.RowKit

theorem chs_take (l : List Ch) (m : Nat) : (chs l).take (m * 4) = chs (l.take m) := by
  induction l generalizing m with
  | nil => simp [chs]
  | cons c l ih =>
    cases m with
    | zero => simp [chs]
    | succ m =>
      have h1 : chs (c :: l) = chL c ++ chs l := rfl
      have h2 : chs (c :: l.take m) = chL c ++ chs (l.take m) := rfl
      rw [List.take_succ_cons, h1, h2, List.take_append, List.take_of_length_le (by rw [chL_len]; omega), chL_len, show (m + 1) * 4 - 4 = m * 4 by omega, ih]
theorem chs_one (l : List Ch) : ∀ v ∈ chs l, v.oneCell' = true := by
  intro v hv
  obtain ⟨c, _, hc⟩ := List.mem_flatMap.1 hv
  exact chL_one c v hc
/-- A copy of the first changes. -/
def FewRes (l : List Ch) (w : World) (e : Ending) (w' : World) : Prop :=
  ∃ s c, e = .returned (.slice s (l.take 24).length c) ∧ Below w.heap.size w w' ∧ w'.ownsRow w.heap.size 46 4 (.slice s (l.take 24).length c) (l.take 24).length (chs (l.take 24))
theorem few_any (sp : Option Addr) (n cap : Nat) (l : List Ch) (w : World) (h : SlK w 4 sp n (chs l)) (hc : sp = none → cap = 0) (hn : n ≤ cap) :
    Calls Try.prog 10 #[.slice sp n cap] w (FewRes l w) := by
  have hmax := h.2.1
  unfold maxLen at hmax
  obtain ⟨m, hm⟩ : ∃ m, m = min n 24 := ⟨_, rfl⟩
  have hmv : (if (24 : Int) < (n : Int) then (24 : Int) else (n : Int)) = (m : Int) := by split <;> omega
  have hlen := chs_len h
  have hml : (l.take 24).length = m := by rw [List.length_take]; omega
  have hsl : SlK w 4 sp m (chs (l.take 24)) := by
    have h1 := h.take m (by omega)
    rw [chs_take] at h1
    have : l.take m = l.take 24 := by
      by_cases hx : n ≤ 24
      · rw [List.take_of_length_le (by omega), List.take_of_length_le (by omega)]
      · rw [show m = 24 by omega]
    rwa [this] at h1
  unfold FewRes
  rw [hml]
  have hmn : (m : Int) ≤ (cap : Int) := by omega
  have hm0 : (0 : Int) ≤ (m : Int) := by omega
  have C := cloneC_any sp m cap (chs (l.take 24)) w (by omega) (chs_one _) hc hsl
  generalize l.take 24 = l2 at *
  have h'h := Lib.hid h
  have hm'h := Lib.hid hm
  have hsl'h := Lib.hid hsl
  have C'h := Lib.hid C
  have hc'h := Lib.hid hc
  have hlen'h := Lib.hid hlen
  have hml'h := Lib.hid hml
  clear h hm hsl C hc hlen hml
  go_enter Try.func10, Try.ntmps10
  go_wp2_with (go_at_call 40; refine C'h.out.mono ?_; rintro e w2 ⟨sp', cap', rfl, hb2, hrow⟩)
  go_ret
  exact ⟨sp', cap', rfl, hb2, hrow⟩
def fourL : List Ch := [⟨2, 5, true, 50⟩, ⟨4, 6, true, 60⟩, ⟨6, 5, true, 51⟩, ⟨8, 6, false, 0⟩]
theorem four_any (w : World) : Calls Try.prog 39 #[] w fun e w' => e = .returned (.slice (some ⟨w.heap.size, 0, none⟩) 4 4) ∧ Below w.heap.size w w' ∧ SlK w' 4 (some ⟨w.heap.size, 0, none⟩) 4 (chs fourL) ∧ w.heap.size < w'.heap.size := by
  go_enter Try.func39, Try.ntmps39
  go_wp2
  go_ret
  exact ⟨rfl, (Below.refl _ _).alloc (Nat.le_refl _) _, SlK.of_blk (World.alloc_heap_new _ _) rfl (by decide), by simp⟩
theorem four_facts : failE fourL 5 5 = 0 ∧ failE fourL 7 9 = 0 ∧ failE fourL 1 9 = 0 ∧ failE fourL 3 7 = 0 ∧ failE fourL 4 7 = 0 ∧ rightL fourL = true := by decide
theorem four_map : mapL fourL (cntL fourL 5) = [(5, 50), (6, 60)] := by decide
theorem four_held : allK fourL (cntL fourL 7) 6 (numT fourL 7 9) = false ∧ anyK fourL (cntL fourL 7) 6 (numT fourL 7 9) = true := by decide
theorem four_sizes : leastM fourL (cntL fourL 1) (numT fourL 1 9) = 0 ∧ mostM fourL (cntL fourL 1) (numT fourL 1 9) = 2 := by decide
theorem four_vals : valsL fourL 5 3 7 = [50, 51] := by decide
theorem four_must : mustL fourL 4 7 = [5, 6] := by decide
theorem four_steps : stepsL fourL 6 60 = [(4, 7)] := by decide
theorem four_range : rangeE fourL 3 7 [(5, 51)] = 0 ∧ rangeE fourL 3 7 [(5, 49)] = 382 ∧ rangeE fourL 3 7 [(5, 50), (5, 51)] = 381 ∧ rangeE fourL 4 7 [(5, 51)] = 383 := by decide
theorem four_ok : ∀ c ∈ fourL, ChOk c := by
  intro c hc
  simp [fourL] at hc
  rcases hc with rfl | rfl | rfl | rfl <;> exact ⟨by decide, by decide, by decide, by decide⟩
end Go.Proofs.Ythfeiiibedmkiaa

