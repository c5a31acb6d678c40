/-
  The document's answer for lanes, the masks and the words that are put together.
-/
import Derived.Test.YtfoohdjgnphdgaaLanesR
set_option linter.unusedSimpArgs false
set_option linter.unusedVariables false
set_option maxRecDepth 100000
namespace Go.Proofs.Ytfoohdjgnphdgaa
open Go.RowKit

theorem row_cell {w : World} {base : Nat} {e : TypeId} {g n cap : Nat} {xs : List Value} (h : w.ownsRow base e 1 (.slice (some ⟨g, 0, none⟩) n cap) n xs) {j : Nat} {u : Value} (hj : j < n) (hu : xs[j]? = some u) : w.cell? ⟨g, j, none⟩ = some u := by
  rw [h.cellAt j (by omega)]; exact hu
theorem row_size {w : World} {base : Nat} {e : TypeId} {v : Value} {n : Nat} {xs : List Value} (h : w.ownsRow base e 1 v n xs) : xs.length = n := by rw [h.1]; omega


def eqF (x b i : Nat) : Bool := byteAt x i == b
def belF (x b i : Nat) : Bool := decide (byteAt x i < b)
def alF (v x i : Nat) : Bool := byteAt v i == byteAt x i
theorem eqF_mask (x b : Nat) : maskOf ((List.range 8).map (eqF x b)) = equalM x b := rfl
theorem belF_mask (x b : Nat) : maskOf ((List.range 8).map (belF x b)) = belowM x b := rfl
theorem alF_mask (v x : Nat) : maskOf ((List.range 8).map (alF v x)) = alikeM v x := rfl

theorem refPut_any (x b n : Nat) (w : World) (hx : x < 2 ^ 64) (hb : b < 256) (hn : n < 8) : Calls Try.prog 43 #[.int .u64 x, .int .u8 b, .int .i64 n] w fun e w' => e = .returned (.int .u64 (setLane x n b)) ∧ Below w.heap.size w w' := by
  have HX := Lib.hid hx
  clear hx
  go_enter Try.func43, Try.ntmps43
  go_wp2_with fail
  refine (refBytes_any x _ HX.out).mono ?_
  rintro e w1 ⟨g, cap, rfl, hb1, hrow⟩
  have c1 : w1.cell? ⟨g, n, none⟩ = some (.int .u8 (byteAt x n)) := row_cell hrow hn (by rw [u8s_get (by rw [length_bytes8]; exact hn), nthN_bytes8 x n hn])
  have f1 := hrow.frozenAt n
  have hg := (hrow.lt g rfl).1
  have hst := (hrow.stored n (.int .u8 b)).1
  have HS := Lib.hid hst
  clear hst hrow
  have hni : (n : Int) < 8 := by omega
  go_wp2_with fail
  have hset : (u8s (bytes8 x)).set n (.int .u8 b) = u8s ((bytes8 x).set n b) := by unfold u8s; rw [List.map_set]
  have hset2 : ofW ((bytes8 x).set n b) = setLane x n b := by
    unfold ofW setLane; rw [List.take_of_length_le (by simp [length_bytes8])]
  have hbyt : Bytey ((bytes8 x).set n b) := by
    intro c hc
    rcases List.mem_or_eq_of_mem_set hc with h | h
    · exact bytes8_bytey _ _ h
    · omega
  have hS := HS.out
  rw [hset] at hS
  refine (refOf_any (some ⟨g, 0, none⟩) 8 cap ((bytes8 x).set n b) _ hbyt (Sl.of_row hS (by unfold maxLen; omega))).mono ?_
  rw [hset2]
  clear hset hset2 hS hbyt
  rintro e w2 ⟨rfl, rfl⟩
  go_wp2
  go_ret
  exact ⟨rfl, hb1.setCell (p := ⟨g, n, none⟩) hg _⟩

/-! ### Blend -/
def blendK (v u m k : Nat) : List Nat := (List.range 8).map fun i => if (decide (i < k) && hasM m i) = true then byteAt u i else byteAt v i
theorem blendK_zero (v u m : Nat) : blendK v u m 0 = bytes8 v := by unfold blendK bytes8; exact List.map_congr_left fun i _ => by simp
theorem blendK_full (v u m : Nat) : ofW (blendK v u m 8) = blendW v u m := by
  unfold ofW blendW blendK
  rw [List.take_of_length_le (by simp)]
  exact congrArg word (List.map_congr_left fun i hi => by simp [List.mem_range.1 hi])
theorem blendK_bytey (v u m k : Nat) : Bytey (blendK v u m k) := bytey_range _ fun i => by split <;> exact byteAt_lt _ _
theorem blendK_no (v u m k : Nat) (h : hasM m k = false) : blendK v u m (k + 1) = blendK v u m k := by
  unfold blendK
  exact List.map_congr_left fun i _ => by
    by_cases h1 : i = k
    · subst h1; simp [h]
    · by_cases h2 : i < k
      · simp [h2, show i < k + 1 by omega]
      · simp [h2, show ¬ i < k + 1 by omega]
theorem blendK_yes (v u m k : Nat) (hk : k < 8) (h : hasM m k = true) : blendK v u m (k + 1) = (blendK v u m k).set k (byteAt u k) := by
  unfold blendK
  apply List.ext_getElem (by simp)
  intro i h1 h2
  simp only [List.getElem_map, List.getElem_range, List.getElem_set]
  by_cases h3 : k = i
  · subst h3; simp [h]
  · rw [if_neg h3]
    by_cases h4 : i < k
    · simp [h4, show i < k + 1 by omega]
    · simp [h4, show ¬ i < k + 1 by omega]
theorem blendK_length (v u m k : Nat) : (blendK v u m k).length = 8 := by simp [blendK]

end Go.Proofs.Ytfoohdjgnphdgaa
