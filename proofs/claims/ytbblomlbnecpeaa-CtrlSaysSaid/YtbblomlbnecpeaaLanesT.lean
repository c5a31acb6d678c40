/-
  The document's answer for lanes that are told and turned; the library's Clone and Equal.
-/
import Derived.Test.YtbblomlbnecpeaaLanesS
import Derived.Test.YtbblomlbnecpeaaLawTurns
import Derived.WalkSpells
set_option linter.unusedSimpArgs false
set_option linter.unusedVariables false
set_option maxRecDepth 100000
namespace Go.Proofs.Ytbblomlbnecpeaa
open Go.RowKit

theorem row_slice {w : World} {base : Nat} {e : TypeId} {size : Nat} {v : Value} {n : Nat} {xs : List Value} (h : w.ownsRow base e size v n xs) : ∃ sp cap, v = .slice sp n cap := by
  rcases h.2 with ⟨h1, h0⟩ | ⟨g, cap, cur, h1, _⟩
  · subst h0; exact ⟨_, _, h1⟩
  · exact ⟨_, _, h1⟩

/-! ### All -/
def lanesK (m k : Nat) : List Nat := (List.range k).filter (hasM m)
theorem lanesK_yes (m k : Nat) (h : hasM m k = true) : lanesK m (k + 1) = lanesK m k ++ [k] := by unfold lanesK; rw [List.range_succ, List.filter_append]; simp [h]
theorem lanesK_no (m k : Nat) (h : hasM m k = false) : lanesK m (k + 1) = lanesK m k := by unfold lanesK; rw [List.range_succ, List.filter_append]; simp [h]
theorem lanesK_full (m : Nat) : lanesK m 8 = lanesOf m := rfl
theorem lanesK_le (m k : Nat) : (lanesK m k).length ≤ k := by unfold lanesK; exact Nat.le_trans (List.length_filter_le _ _) (by simp)

/-! ### Turn -/
def turnedL (x m : Nat) : List Nat := turned (bytes8 x) m
theorem nthN_turned (x m k : Nat) (hk : k < 8) : nthN (turnedL x m) k = byteAt x ((k + m) % 8) := by
  unfold nthN turnedL turned
  rw [List.getD_eq_getElem?_getD, List.getElem?_map, List.getElem?_range hk]
  exact bytes8_getD _ _ (Nat.mod_lt _ (by decide))
theorem turnedL_length (x m : Nat) : (turnedL x m).length = 8 := by simp [turnedL, turned]
theorem turnedL_full (x m : Nat) : ofW (turnedL x m) = turnW x m := by
  unfold ofW turnW turnedL; rw [List.take_of_length_le (by simp [turned])]

/-! ### slices.Clone, slices.Equal -/
theorem clone8_nil (w : World) : Calls Try.prog 26 #[.slice none 0 0] w fun e w' => e = .returned (.slice none 0 0) ∧ w' = w := by
  have hnil := Lib.run_eql_slice_nil (P := Try.prog)
  go_enter Try.func26, Try.ntmps26
  go_wp2
  go_ret
  exact ⟨rfl, rfl⟩

theorem clone8_some (ad : Addr) (n cap : Nat) (l : List Nat) (w : World) (hn : n ≤ 4096) (h : Sl w (some ad) n (u8s l)) :
    Calls Try.prog 26 #[.slice (some ad) n cap] w fun e w' => ∃ sp' cap', e = .returned (.slice sp' n cap') ∧ Below w.heap.size w w' ∧ w'.ownsRow w.heap.size 5 1 (.slice sp' n cap') n (u8s l) := by
  have hnil := Lib.run_eql_slice_nil (P := Try.prog)
  obtain ⟨i0, hi, hz0, hz1, hz2⟩ := info_parts info_u8z
  have hown0 : (w.alloc (.cells #[] 5)).ownsRow w.heap.size 5 1 (.slice (some ⟨w.heap.size, 0, none⟩) 0 0) 0 [] :=
    ⟨rfl, .inr ⟨w.heap.size, 0, #[], rfl, Nat.le_refl _, World.alloc_heap_new _ _, Nat.le_refl _, Nat.zero_le _, rfl, rfl⟩⟩
  have hl := h.1
  have hcs : ∀ j u, (u8s l)[j]? = some u → (w.alloc (.cells #[] 5)).cell? (ad.add j) = some u := by
    intro j u hu
    have hj : j < (u8s l).length := (List.getElem?_eq_some_iff.1 hu).1
    obtain ⟨b, off, he, hc⟩ := h.some' (by omega)
    cases he
    have hadd : (⟨b, off, none⟩ : Addr).add j = ⟨b, off + j, none⟩ := by unfold Addr.add; split <;> simp_all
    rw [hadd]
    exact keep_alloc _ _ _ _ (hc j u hu)
  have HC := Lib.hid hcs
  have HL := Lib.hid hl
  clear hcs hl h
  go_enter Try.func26, Try.ntmps26
  go_wp2_with (at_builtin; refine wpList_append_own _ rfl (.tmp 5) (.tmp 6) 23 rfl w.heap.size 5 i0 (.int .u8 0) 1 (8 / 8) Try.underlying23 hi hz0 hz1 hz2 rfl (by decide) _ 0 [] rfl hown0 ad n cap (u8s l) rfl (by rw [← HL.out]; omega) HC.out (u8s_one l) (by unfold maxLen; omega) (by omega) (by simp) ?_; intro v' w1 hown' hgrow hwh)
  rw [Nat.zero_add, List.nil_append] at hown'
  obtain ⟨sp', cap', rfl⟩ := row_slice hown'
  have HO := Lib.hid hown'
  clear hown' hwh
  go_wp2
  go_ret
  exact ⟨sp', cap', rfl, ((Below.refl _ w).alloc (Nat.le_refl _) _).grown hgrow (by simp) (fun j hj => by cases hj; exact Nat.le_refl _), HO.out⟩

theorem clone8_any (sp : Option Addr) (n cap : Nat) (l : List Nat) (w : World) (hn : n ≤ 4096) (hc : sp = none → cap = 0) (h : Sl w sp n (u8s l)) :
    Calls Try.prog 26 #[.slice sp n cap] w fun e w' => ∃ sp' cap', e = .returned (.slice sp' n cap') ∧ Below w.heap.size w w' ∧ w'.ownsRow w.heap.size 5 1 (.slice sp' n cap') n (u8s l) := by
  cases sp with
  | some ad => exact clone8_some ad n cap l w hn h
  | none =>
    obtain rfl : cap = 0 := hc rfl
    have h0 : n = 0 := by
      rcases h.2.2 with h0 | ⟨b, off, he, _⟩
      · exact h0
      · cases he
    subst h0
    have hl : u8s l = [] := List.eq_nil_of_length_eq_zero h.1.symm
    refine (clone8_nil w).mono ?_
    rintro e w' ⟨rfl, rfl⟩
    exact ⟨none, 0, rfl, Below.refl _ _, by rw [hl]; exact World.ownsRow_nil _ _ _ _⟩

/-- Numbers of one kind. -/
def intsOf (k : IntKind) (l : List Int) : List Value := l.map (Value.int k)
theorem intsOf_get {k : IntKind} {l : List Int} {j : Nat} (h : j < l.length) : (intsOf k l)[j]? = some (.int k (nthI l j)) := by
  unfold intsOf; rw [List.getElem?_map, nthI_eq h]; rfl

theorem equal8_same (sp sp' : Option Addr) (n cap cap' : Nat) (l : List Int) (w : World) (h : Sl w sp n (intsOf .u8 l)) (h' : Sl w sp' n (intsOf .u8 l)) :
    Calls Try.prog 30 #[.slice sp n cap, .slice sp' n cap'] w fun e w' => e = .returned (.bool true) ∧ ∃ d, w' = w.drewN d := by
  have hlen : n = l.length := by have := h.1; simpa [intsOf] using this
  have hmax := h.2.1
  unfold maxLen at hmax
  have HN := Lib.hid hlen
  have HA := Lib.hid h
  have HB := Lib.hid h'
  clear hlen h h'
  go_enter Try.func30, Try.ntmps30
  go_wp2
  go_loopg [13] n (fun q i wr => ∃ k : Nat, k + q = n ∧ i = .int .i64 k ∧ ∃ d, wr = w.drewN d)
  case atStart => exact ⟨0, by omega, rfl, 0, rfl⟩
  case round =>
    obtain ⟨k, hk, rfl, d, rfl⟩ := hrel
    have HK := Lib.hid hk
    have hkn : k ≤ n := by omega
    clear hk
    by_cases hlt : k < n
    · obtain ⟨b, off, rfl, hc1⟩ := HA.out.some' (by omega)
      obtain ⟨b', off', rfl, hc2⟩ := HB.out.some' (by omega)
      have hkl : k < l.length := by have := HN.out; omega
      have c1 := hc1 k _ (intsOf_get hkl)
      have c2 := hc2 k _ (intsOf_get hkl)
      have c1' : ∀ q, (w.drewN q).cell? ⟨b, off + k, none⟩ = some (.int .u8 (nthI l k)) := fun q => c1
      have c2' : ∀ q, (w.drewN q).cell? ⟨b', off' + k, none⟩ = some (.int .u8 (nthI l k)) := fun q => c2
      have i1 : (k : Int) < (n : Int) := by omega
      have i2 : (0 : Int) ≤ (k : Int) := by omega
      clear hc1 hc2
      go_wp2_with fail
      go_quiet (fail)
      go_wp2
      go_roundg (gk - 1)
      case measure => have := HK.out; omega
      case rel => exact ⟨k + 1, by have := HK.out; omega, by go_num, d + nq, rfl⟩
    · have hn : ¬ (k : Int) < (n : Int) := by omega
      go_wp2
      go_ret
      exact ⟨rfl, d, rfl⟩

theorem equalI_same (sp sp' : Option Addr) (n cap cap' : Nat) (l : List Int) (w : World) (h : Sl w sp n (intsOf .i64 l)) (h' : Sl w sp' n (intsOf .i64 l)) :
    Calls Try.prog 29 #[.slice sp n cap, .slice sp' n cap'] w fun e w' => e = .returned (.bool true) ∧ ∃ d, w' = w.drewN d := by
  have hlen : n = l.length := by have := h.1; simpa [intsOf] using this
  have hmax := h.2.1
  unfold maxLen at hmax
  have HN := Lib.hid hlen
  have HA := Lib.hid h
  have HB := Lib.hid h'
  clear hlen h h'
  go_enter Try.func29, Try.ntmps29
  go_wp2
  go_loopg [13] n (fun q i wr => ∃ k : Nat, k + q = n ∧ i = .int .i64 k ∧ ∃ d, wr = w.drewN d)
  case atStart => exact ⟨0, by omega, rfl, 0, rfl⟩
  case round =>
    obtain ⟨k, hk, rfl, d, rfl⟩ := hrel
    have HK := Lib.hid hk
    have hkn : k ≤ n := by omega
    clear hk
    by_cases hlt : k < n
    · obtain ⟨b, off, rfl, hc1⟩ := HA.out.some' (by omega)
      obtain ⟨b', off', rfl, hc2⟩ := HB.out.some' (by omega)
      have hkl : k < l.length := by have := HN.out; omega
      have c1 := hc1 k _ (intsOf_get hkl)
      have c2 := hc2 k _ (intsOf_get hkl)
      have c1' : ∀ q, (w.drewN q).cell? ⟨b, off + k, none⟩ = some (.int .i64 (nthI l k)) := fun q => c1
      have c2' : ∀ q, (w.drewN q).cell? ⟨b', off' + k, none⟩ = some (.int .i64 (nthI l k)) := fun q => c2
      have i1 : (k : Int) < (n : Int) := by omega
      have i2 : (0 : Int) ≤ (k : Int) := by omega
      clear hc1 hc2
      go_wp2_with fail
      go_quiet (fail)
      go_wp2
      go_roundg (gk - 1)
      case measure => have := HK.out; omega
      case rel => exact ⟨k + 1, by have := HK.out; omega, by go_num, d + nq, rfl⟩
    · have hn : ¬ (k : Int) < (n : Int) := by omega
      go_wp2
      go_ret
      exact ⟨rfl, d, rfl⟩

end Go.Proofs.Ytbblomlbnecpeaa
