/-
  The document's answer for lanes, the masks and the words that are put together.
-/
import Derived.Test.YtoklgjlmjkhmbaaLanesR
set_option linter.unusedSimpArgs false
set_option linter.unusedVariables false
set_option maxRecDepth 100000
namespace Go.Proofs.Ytoklgjlmjkhmbaa
open Go.RowKit

theorem row_cell {w : World} {base : Nat} {e : TypeId} {g n cap : Nat} {xs : List Value} (h : w.ownsRow base e 1 (.slice (some ⟨g, 0, none⟩) n cap) n xs) {j : Nat} {u : Value} (hj : j < n) (hu : xs[j]? = some u) : w.cell? ⟨g, j, none⟩ = some u := by
  rw [h.cellAt j (by omega)]; exact hu
theorem row_size {w : World} {base : Nat} {e : TypeId} {v : Value} {n : Nat} {xs : List Value} (h : w.ownsRow base e 1 v n xs) : xs.length = n := by rw [h.1]; omega


def eqF (x b i : Nat) : Bool := byteAt x i == b
def belF (x b i : Nat) : Bool := decide (byteAt x i < b)
def alF (v x i : Nat) : Bool := byteAt v i == byteAt x i
theorem eqF_mask (x b : Nat) : maskOf ((List.range 8).map (eqF x b)) = equalM x b := rfl
theorem belF_mask (x b : Nat) : maskOf ((List.range 8).map (belF x b)) = belowM x b := rfl
theorem alF_mask (v x : Nat) : maskOf ((List.range 8).map (alF v x)) = alikeM v x := rfl

theorem refEqual_any (x b : Nat) (w : World) (hx : x < 2 ^ 64) (hb : b < 256) : Calls Try.prog 44 #[.int .u64 x, .int .u8 b] w fun e w' => e = .returned (.int .u8 (equalM x b)) ∧ Below w.heap.size w w' := by
  have HX := Lib.hid hx
  clear hx
  go_enter Try.func44, Try.ntmps44
  go_wp2_with fail
  refine (refBytes_any x _ HX.out).mono ?_
  rintro e w1 ⟨g, cap, rfl, hb1, hrow⟩
  have HR := Lib.hid hrow
  clear hrow
  go_wp2
  go_loopg [5, 11] 8 (fun q y i wr => ∃ k : Nat, k + q = 8 ∧ i = .int .i64 k ∧ y = .int .u8 (maskK (eqF x b) k) ∧ wr = w1)
  case atStart => exact ⟨0, rfl, rfl, by rw [maskK_zero]; rfl, rfl⟩
  case round =>
    obtain ⟨k, hk, rfl, rfl, rfl⟩ := hrel
    have HK := Lib.hid hk
    have hkn : k ≤ 8 := by omega
    clear hk
    by_cases h8 : k < 8
    · have hdk : decide ((k : Int) < 8) = true := by simp; omega
      have c1 : wr.cell? ⟨g, k, none⟩ = some (.int .u8 (byteAt x k)) := row_cell HR.out h8 (by rw [u8s_get (by rw [length_bytes8]; exact h8), nthN_bytes8 x k h8])
      by_cases hf : (eqF x b) k = true
      · have hm := maskK_yes (eqF x b) k h8 hf
        have hlt := maskK_lt (eqF x b) (k + 1)
        rw [hm] at hlt
        have hw := refWith_any (maskK (eqF x b) k) k wr h8 hlt
        rw [← hm] at hw
        have HW := Lib.hid hw
        have ht : ((byteAt x k : Int) == (b : Int)) = true := by simp [eqF] at hf ⊢; omega
        clear hm hlt hw hf
        go_wp2_with (first | (go_at_call 71; refine HW.out.mono ?_; rintro e w' ⟨rfl, rfl⟩))
        go_roundg (gk - 1)
        case measure => have := HK.out; omega
        case rel => exact ⟨k + 1, by have := HK.out; omega, by go_num, rfl, rfl⟩
      · have hm := Lib.hid (maskK_no (eqF x b) k (by simpa using hf))
        have ht : ((byteAt x k : Int) == (b : Int)) = false := by simp [eqF] at hf ⊢; omega
        clear hf
        go_wp2
        go_roundg (gk - 1)
        case measure => have := HK.out; omega
        case rel => exact ⟨k + 1, by have := HK.out; omega, by go_num, by rw [hm.out], rfl⟩
    · obtain rfl : k = 8 := by omega
      rw [maskK_full, eqF_mask]
      go_wp2
      go_ret
      exact ⟨rfl, hb1⟩

/-! ### Blend -/
def blendK (v u m k : Nat) : List Nat := (List.range 8).map fun i => if (decide (i < k) && hasM m i) = true then byteAt u i else byteAt v i
theorem blendK_zero (v u m : Nat) : blendK v u m 0 = bytes8 v := by unfold blendK bytes8; exact List.map_congr_left fun i _ => by simp
theorem blendK_full (v u m : Nat) : ofW (blendK v u m 8) = blendW v u m := by
  unfold ofW blendW blendK
  rw [List.take_of_length_le (by simp)]
  exact congrArg word (List.map_congr_left fun i hi => by simp [List.mem_range.1 hi])
theorem blendK_bytey (v u m k : Nat) : Bytey (blendK v u m k) := bytey_range _ fun i => by split <;> exact byteAt_lt _ _
theorem blendK_no (v u m k : Nat) (h : hasM m k = false) : blendK v u m (k + 1) = blendK v u m k := by
  unfold blendK
  exact List.map_congr_left fun i _ => by
    by_cases h1 : i = k
    · subst h1; simp [h]
    · by_cases h2 : i < k
      · simp [h2, show i < k + 1 by omega]
      · simp [h2, show ¬ i < k + 1 by omega]
theorem blendK_yes (v u m k : Nat) (hk : k < 8) (h : hasM m k = true) : blendK v u m (k + 1) = (blendK v u m k).set k (byteAt u k) := by
  unfold blendK
  apply List.ext_getElem (by simp)
  intro i h1 h2
  simp only [List.getElem_map, List.getElem_range, List.getElem_set]
  by_cases h3 : k = i
  · subst h3; simp [h]
  · rw [if_neg h3]
    by_cases h4 : i < k
    · simp [h4, show i < k + 1 by omega]
    · simp [h4, show ¬ i < k + 1 by omega]
theorem blendK_length (v u m k : Nat) : (blendK v u m k).length = 8 := by simp [blendK]

end Go.Proofs.Ytoklgjlmjkhmbaa
