/-
  The document's answer for lanes that are told and turned; the library's Clone and Equal.
-/
import Derived.Test.YtfoohdjgnphdgaaLanesS
import Derived.Test.YtfoohdjgnphdgaaLawTurns
import Derived.WalkSpells
set_option linter.unusedSimpArgs false
set_option linter.unusedVariables false
set_option maxRecDepth 100000
namespace Go.Proofs.Ytfoohdjgnphdgaa
open Go.RowKit

theorem row_slice {w : World} {base : Nat} {e : TypeId} {size : Nat} {v : Value} {n : Nat} {xs : List Value} (h : w.ownsRow base e size v n xs) : ∃ sp cap, v = .slice sp n cap := by
  rcases h.2 with ⟨h1, h0⟩ | ⟨g, cap, cur, h1, _⟩
  · subst h0; exact ⟨_, _, h1⟩
  · exact ⟨_, _, h1⟩

/-! ### All -/
def lanesK (m k : Nat) : List Nat := (List.range k).filter (hasM m)
theorem lanesK_yes (m k : Nat) (h : hasM m k = true) : lanesK m (k + 1) = lanesK m k ++ [k] := by unfold lanesK; rw [List.range_succ, List.filter_append]; simp [h]
theorem lanesK_no (m k : Nat) (h : hasM m k = false) : lanesK m (k + 1) = lanesK m k := by unfold lanesK; rw [List.range_succ, List.filter_append]; simp [h]
theorem lanesK_full (m : Nat) : lanesK m 8 = lanesOf m := rfl
theorem lanesK_le (m k : Nat) : (lanesK m k).length ≤ k := by unfold lanesK; exact Nat.le_trans (List.length_filter_le _ _) (by simp)

/-! ### Turn -/
def turnedL (x m : Nat) : List Nat := turned (bytes8 x) m
theorem nthN_turned (x m k : Nat) (hk : k < 8) : nthN (turnedL x m) k = byteAt x ((k + m) % 8) := by
  unfold nthN turnedL turned
  rw [List.getD_eq_getElem?_getD, List.getElem?_map, List.getElem?_range hk]
  exact bytes8_getD _ _ (Nat.mod_lt _ (by decide))
theorem turnedL_length (x m : Nat) : (turnedL x m).length = 8 := by simp [turnedL, turned]
theorem turnedL_full (x m : Nat) : ofW (turnedL x m) = turnW x m := by
  unfold ofW turnW turnedL; rw [List.take_of_length_le (by simp [turned])]

/-! ### slices.Clone, slices.Equal -/
/-- Numbers of one kind. -/
def intsOf (k : IntKind) (l : List Int) : List Value := l.map (Value.int k)
theorem intsOf_get {k : IntKind} {l : List Int} {j : Nat} (h : j < l.length) : (intsOf k l)[j]? = some (.int k (nthI l j)) := by
  unfold intsOf; rw [List.getElem?_map, nthI_eq h]; rfl

theorem equalI_same (sp sp' : Option Addr) (n cap cap' : Nat) (l : List Int) (w : World) (h : Sl w sp n (intsOf .i64 l)) (h' : Sl w sp' n (intsOf .i64 l)) :
    Calls Try.prog 24 #[.slice sp n cap, .slice sp' n cap'] w fun e w' => e = .returned (.bool true) ∧ ∃ d, w' = w.drewN d := by
  have hlen : n = l.length := by have := h.1; simpa [intsOf] using this
  have hmax := h.2.1
  unfold maxLen at hmax
  have HN := Lib.hid hlen
  have HA := Lib.hid h
  have HB := Lib.hid h'
  clear hlen h h'
  go_enter Try.func24, Try.ntmps24
  go_wp2
  go_loopg [13] n (fun q i wr => ∃ k : Nat, k + q = n ∧ i = .int .i64 k ∧ ∃ d, wr = w.drewN d)
  case atStart => exact ⟨0, by omega, rfl, 0, rfl⟩
  case round =>
    obtain ⟨k, hk, rfl, d, rfl⟩ := hrel
    have HK := Lib.hid hk
    have hkn : k ≤ n := by omega
    clear hk
    by_cases hlt : k < n
    · obtain ⟨b, off, rfl, hc1⟩ := HA.out.some' (by omega)
      obtain ⟨b', off', rfl, hc2⟩ := HB.out.some' (by omega)
      have hkl : k < l.length := by have := HN.out; omega
      have c1 := hc1 k _ (intsOf_get hkl)
      have c2 := hc2 k _ (intsOf_get hkl)
      have c1' : ∀ q, (w.drewN q).cell? ⟨b, off + k, none⟩ = some (.int .i64 (nthI l k)) := fun q => c1
      have c2' : ∀ q, (w.drewN q).cell? ⟨b', off' + k, none⟩ = some (.int .i64 (nthI l k)) := fun q => c2
      have i1 : (k : Int) < (n : Int) := by omega
      have i2 : (0 : Int) ≤ (k : Int) := by omega
      clear hc1 hc2
      go_wp2_with fail
      go_quiet (fail)
      go_wp2
      go_roundg (gk - 1)
      case measure => have := HK.out; omega
      case rel => exact ⟨k + 1, by have := HK.out; omega, by go_num, d + nq, rfl⟩
    · have hn : ¬ (k : Int) < (n : Int) := by omega
      go_wp2
      go_ret
      exact ⟨rfl, d, rfl⟩

end Go.Proofs.Ytfoohdjgnphdgaa
