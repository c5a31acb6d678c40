/-
  The document's answer for lanes that are told and turned; the library's Clone and Equal.
-/
import Derived.Test.YtoklgjlmjkhmbaaLanesS
import Derived.Test.YtoklgjlmjkhmbaaLawTurns
import Derived.WalkSpells
set_option linter.unusedSimpArgs false
set_option linter.unusedVariables false
set_option maxRecDepth 100000
namespace Go.Proofs.Ytoklgjlmjkhmbaa
open Go.RowKit

theorem row_slice {w : World} {base : Nat} {e : TypeId} {size : Nat} {v : Value} {n : Nat} {xs : List Value} (h : w.ownsRow base e size v n xs) : ∃ sp cap, v = .slice sp n cap := by
  rcases h.2 with ⟨h1, h0⟩ | ⟨g, cap, cur, h1, _⟩
  · subst h0; exact ⟨_, _, h1⟩
  · exact ⟨_, _, h1⟩

/-! ### All -/
def lanesK (m k : Nat) : List Nat := (List.range k).filter (hasM m)
theorem lanesK_yes (m k : Nat) (h : hasM m k = true) : lanesK m (k + 1) = lanesK m k ++ [k] := by unfold lanesK; rw [List.range_succ, List.filter_append]; simp [h]
theorem lanesK_no (m k : Nat) (h : hasM m k = false) : lanesK m (k + 1) = lanesK m k := by unfold lanesK; rw [List.range_succ, List.filter_append]; simp [h]
theorem lanesK_full (m : Nat) : lanesK m 8 = lanesOf m := rfl
theorem lanesK_le (m k : Nat) : (lanesK m k).length ≤ k := by unfold lanesK; exact Nat.le_trans (List.length_filter_le _ _) (by simp)

theorem refAll_any (m : Nat) (w : World) (hm : m < 256) : Calls Try.prog 43 #[.int .u8 m] w fun e w' => ∃ sp n cap, e = .returned (.slice sp n cap) ∧ Below w.heap.size w w' ∧ w'.ownsRow w.heap.size 3 1 (.slice sp n cap) (lanesOf m).length (ints (lanesOf m)) := by
  obtain ⟨i0, hi, hz0, hz1, hz2⟩ := info_parts info_int
  go_enter Try.func43, Try.ntmps43
  go_wp2
  go_loopg [3, 5] 8 (fun q v i wr => ∃ k : Nat, k + q = 8 ∧ i = .int .i64 k ∧ Below w.heap.size w wr ∧ wr.ownsRow w.heap.size 3 1 v (lanesK m k).length (ints (lanesK m k)))
  case atStart => exact ⟨0, rfl, rfl, Below.refl _ _, World.ownsRow_nil _ _ _ _⟩
  case round =>
    obtain ⟨k, hk, rfl, hB, hrow⟩ := hrel
    have HK := Lib.hid hk
    have hkn : k ≤ 8 := by omega
    have hsz := hB.size
    have hlk := lanesK_le m k
    clear hk
    by_cases h8 : k < 8
    · have HH := Lib.hid (refHas_any m k wr hm h8)
      have hdk : decide ((k : Int) < 8) = true := by simp; omega
      cases hf : hasM m k with
      | true =>
        have hs := Lib.hid (lanesK_yes m k hf)
        rw [hf] at HH
        clear hf
        go_wp2_with (first | (go_at_call 69; refine HH.out.mono ?_; clear HH; rintro e w' ⟨rfl, rfl⟩) | (at_builtin; refine wpList_append _ rfl (.tmp 11) (.tmp 13) 64 rfl w.heap.size 3 i0 (.int .i64 0) 1 8 Try.underlying64 hi hz0 hz1 hz2 rfl (by decide) _ (lanesK m k).length _ rfl (hrow.alloc _) ⟨_, 0, none⟩ 1 1 [.int .i64 k] rfl rfl (cell_one_new _ _ _) (by simp [Value.oneCell']) (by unfold maxLen; omega) (by omega) (by simp; omega) (by decide) ?_; intro v' w1 hown' hgrow hwh))
        go_roundg (gk - 1)
        case measure => have := HK.out; omega
        case rel =>
          refine ⟨k + 1, by have := HK.out; omega, by go_num, (hB.alloc hsz _).grown hgrow (by simp; omega) (fun j hj => (hrow.lt j hj).1), ?_⟩
          rw [hs.out]
          have h5 := hown'
          rw [show ints (lanesK m k) ++ [.int .i64 (k : Int)] = ints (lanesK m k ++ [k]) by unfold ints; rw [List.map_append]; rfl, show (lanesK m k).length + 1 = (lanesK m k ++ [k]).length by simp] at h5
          exact h5
      | false =>
        have hs := Lib.hid (lanesK_no m k hf)
        rw [hf] at HH
        clear hf
        go_wp2_with (first | (go_at_call 69; refine HH.out.mono ?_; clear HH; rintro e w' ⟨rfl, rfl⟩))
        go_roundg (gk - 1)
        case measure => have := HK.out; omega
        case rel => exact ⟨k + 1, by have := HK.out; omega, by go_num, hB, by rw [hs.out]; exact hrow⟩
    · obtain rfl : k = 8 := by omega
      rw [lanesK_full] at hrow
      obtain ⟨sp, cap, rfl⟩ := row_slice hrow
      have HR := Lib.hid hrow
      clear hrow hlk
      go_wp2
      go_ret
      exact ⟨sp, _, cap, rfl, hB, HR.out⟩

/-! ### Turn -/
def turnedL (x m : Nat) : List Nat := turned (bytes8 x) m
theorem nthN_turned (x m k : Nat) (hk : k < 8) : nthN (turnedL x m) k = byteAt x ((k + m) % 8) := by
  unfold nthN turnedL turned
  rw [List.getD_eq_getElem?_getD, List.getElem?_map, List.getElem?_range hk]
  exact bytes8_getD _ _ (Nat.mod_lt _ (by decide))
theorem turnedL_length (x m : Nat) : (turnedL x m).length = 8 := by simp [turnedL, turned]
theorem turnedL_full (x m : Nat) : ofW (turnedL x m) = turnW x m := by
  unfold ofW turnW turnedL; rw [List.take_of_length_le (by simp [turned])]

/-! ### slices.Clone, slices.Equal -/
/-- Numbers of one kind. -/
def intsOf (k : IntKind) (l : List Int) : List Value := l.map (Value.int k)
theorem intsOf_get {k : IntKind} {l : List Int} {j : Nat} (h : j < l.length) : (intsOf k l)[j]? = some (.int k (nthI l j)) := by
  unfold intsOf; rw [List.getElem?_map, nthI_eq h]; rfl

end Go.Proofs.Ytoklgjlmjkhmbaa
