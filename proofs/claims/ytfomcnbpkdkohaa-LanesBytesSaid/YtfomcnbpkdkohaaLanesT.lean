/-
  The document's answer for lanes that are told and turned; the library's Clone and Equal.
-/
import Derived.Test.YtfomcnbpkdkohaaLanesS
import Derived.Test.YtfomcnbpkdkohaaLawTurns
import Derived.WalkSpells
set_option linter.unusedSimpArgs false
set_option linter.unusedVariables false
namespace Go.Proofs.Ytfomcnbpkdkohaa
open Go.RowKit

theorem row_slice {w : World} {base : Nat} {e : TypeId} {size : Nat} {v : Value} {n : Nat} {xs : List Value} (h : w.ownsRow base e size v n xs) : ∃ sp cap, v = .slice sp n cap := by
  rcases h.2 with ⟨h1, h0⟩ | ⟨g, cap, cur, h1, _⟩
  · subst h0; exact ⟨_, _, h1⟩
  · exact ⟨_, _, h1⟩

/-! ### All -/
def lanesK (m k : Nat) : List Nat := (List.range k).filter (hasM m)
theorem lanesK_yes (m k : Nat) (h : hasM m k = true) : lanesK m (k + 1) = lanesK m k ++ [k] := by unfold lanesK; rw [List.range_succ, List.filter_append]; simp [h]
theorem lanesK_no (m k : Nat) (h : hasM m k = false) : lanesK m (k + 1) = lanesK m k := by unfold lanesK; rw [List.range_succ, List.filter_append]; simp [h]
theorem lanesK_full (m : Nat) : lanesK m 8 = lanesOf m := rfl
theorem lanesK_le (m k : Nat) : (lanesK m k).length ≤ k := by unfold lanesK; exact Nat.le_trans (List.length_filter_le _ _) (by simp)

theorem refAll_any (m : Nat) (w : World) (hm : m < 256) : Calls Try.prog 32 #[.int .u8 m] w fun e w' => ∃ sp n cap, e = .returned (.slice sp n cap) ∧ Below w.heap.size w w' ∧ w'.ownsRow w.heap.size 3 1 (.slice sp n cap) (lanesOf m).length (ints (lanesOf m)) := by
  obtain ⟨i0, hi, hz0, hz1, hz2⟩ := info_parts info_int
  go_enter Try.func32, Try.ntmps32
  go_wp2
  go_loopg [3, 5] 8 (fun q v i wr => ∃ k : Nat, k + q = 8 ∧ i = .int .i64 k ∧ Below w.heap.size w wr ∧ wr.ownsRow w.heap.size 3 1 v (lanesK m k).length (ints (lanesK m k)))
  case atStart => exact ⟨0, rfl, rfl, Below.refl _ _, World.ownsRow_nil _ _ _ _⟩
  case round =>
    obtain ⟨k, hk, rfl, hB, hrow⟩ := hrel
    have HK := Lib.hid hk
    have hkn : k ≤ 8 := by omega
    have hsz := hB.size
    have hlk := lanesK_le m k
    clear hk
    by_cases h8 : k < 8
    · have HH := Lib.hid (refHas_any m k wr hm h8)
      have hdk : decide ((k : Int) < 8) = true := by simp; omega
      cases hf : hasM m k with
      | true =>
        have hs := Lib.hid (lanesK_yes m k hf)
        rw [hf] at HH
        clear hf
        go_wp2_with (first | (go_at_call 51; refine HH.out.mono ?_; clear HH; rintro e w' ⟨rfl, rfl⟩) | (at_builtin; refine wpList_append _ rfl (.tmp 11) (.tmp 13) 42 rfl w.heap.size 3 i0 (.int .i64 0) 1 8 Try.underlying42 hi hz0 hz1 hz2 rfl (by decide) _ (lanesK m k).length _ rfl (hrow.alloc _) ⟨_, 0, none⟩ 1 1 [.int .i64 k] rfl rfl (cell_one_new _ _ _) (by simp [Value.oneCell']) (by unfold maxLen; omega) (by omega) (by simp; omega) (by decide) ?_; intro v' w1 hown' hgrow hwh))
        go_roundg (gk - 1)
        case measure => have := HK.out; omega
        case rel =>
          refine ⟨k + 1, by have := HK.out; omega, by go_num, (hB.alloc hsz _).grown hgrow (by simp; omega) (fun j hj => (hrow.lt j hj).1), ?_⟩
          rw [hs.out]
          have h5 := hown'
          rw [show ints (lanesK m k) ++ [.int .i64 (k : Int)] = ints (lanesK m k ++ [k]) by unfold ints; rw [List.map_append]; rfl, show (lanesK m k).length + 1 = (lanesK m k ++ [k]).length by simp] at h5
          exact h5
      | false =>
        have hs := Lib.hid (lanesK_no m k hf)
        rw [hf] at HH
        clear hf
        go_wp2_with (first | (go_at_call 51; refine HH.out.mono ?_; clear HH; rintro e w' ⟨rfl, rfl⟩))
        go_roundg (gk - 1)
        case measure => have := HK.out; omega
        case rel => exact ⟨k + 1, by have := HK.out; omega, by go_num, hB, by rw [hs.out]; exact hrow⟩
    · obtain rfl : k = 8 := by omega
      rw [lanesK_full] at hrow
      obtain ⟨sp, cap, rfl⟩ := row_slice hrow
      have HR := Lib.hid hrow
      clear hrow hlk
      go_wp2
      go_ret
      exact ⟨sp, _, cap, rfl, hB, HR.out⟩

/-! ### Turn -/
def turnedL (x m : Nat) : List Nat := turned (bytes8 x) m
theorem nthN_turned (x m k : Nat) (hk : k < 8) : nthN (turnedL x m) k = byteAt x ((k + m) % 8) := by
  unfold nthN turnedL turned
  rw [List.getD_eq_getElem?_getD, List.getElem?_map, List.getElem?_range hk]
  exact bytes8_getD _ _ (Nat.mod_lt _ (by decide))
theorem turnedL_length (x m : Nat) : (turnedL x m).length = 8 := by simp [turnedL, turned]
theorem turnedL_full (x m : Nat) : ofW (turnedL x m) = turnW x m := by
  unfold ofW turnW turnedL; rw [List.take_of_length_le (by simp [turned])]

theorem refTurn_any (x m : Nat) (n r : Int) (w : World) (hx : x < 2 ^ 64) (hr : n.tmod 8 = r) (hr1 : r < 8) (hr2 : -8 < r) (hm : (m : Int) = r % 8) : Calls Try.prog 36 #[.int .u64 x, .int .i64 n] w fun e w' => e = .returned (.int .u64 (turnW x m)) ∧ Below w.heap.size w w' := by
  obtain ⟨i0, hi, hz0, hz1, hz2⟩ := info_parts info_u8z
  have HX := Lib.hid hx
  have HM := Lib.hid hm
  clear hx hm
  go_enter Try.func36, Try.ntmps36
  go_wp2
  go_loopg [5, 7] 8 (fun q v i wr => ∃ k : Nat, k + q = 8 ∧ i = .int .i64 k ∧ Below w.heap.size w wr ∧ wr.ownsRow w.heap.size 5 1 v k (u8s ((turnedL x m).take k)))
  case atStart => exact ⟨0, rfl, rfl, Below.refl _ _, World.ownsRow_nil _ _ _ _⟩
  case round =>
    obtain ⟨k, hk, rfl, hB, hrow⟩ := hrel
    have HK := Lib.hid hk
    have hkn : k ≤ 8 := by omega
    have hsz := hB.size
    clear hk
    by_cases h8 : k < 8
    · have hdk : decide ((k : Int) < 8) = true := by simp; omega
      have hs := u8s_succ (turnedL x m) k (by rw [turnedL_length]; exact h8)
      rw [nthN_turned x m k h8] at hs
      have hc := refAt_any x ((k + m) % 8) wr HX.out (by omega)
      have s3 : (((k : Int) + r).tmod 8 + 8).tmod 8 = (((k + m) % 8 : Nat) : Int) := by
        have h1 := HM.out
        have h2 := Int.tmod_add_mul_tdiv ((k : Int) + r) 8
        have h3 : ((k : Int) + r).tmod 8 < 8 := Int.tmod_lt_of_pos _ (by decide)
        have h4 : -8 < ((k : Int) + r).tmod 8 := by have := Int.tmod_lt_of_pos (-((k : Int) + r)) (show (0 : Int) < 8 by decide); rw [Int.neg_tmod] at this; omega
        rw [Int.tmod_eq_emod_of_nonneg (by omega)]
        omega
      have s1 : -8 < ((k : Int) + r).tmod 8 := by have := Int.tmod_lt_of_pos (-((k : Int) + r)) (show (0 : Int) < 8 by decide); rw [Int.neg_tmod] at this; omega
      have s2 : ((k : Int) + r).tmod 8 < 8 := Int.tmod_lt_of_pos _ (by decide)
      generalize byteAt x ((k + m) % 8) = y at *
      generalize (k + m) % 8 = j at *
      have HS := Lib.hid hs
      have HC := Lib.hid hc
      clear hs hc
      go_wp2_with (first | (go_at_call 29; refine HC.out.mono ?_; rintro e w' ⟨rfl, rfl⟩) | (at_builtin; refine wpList_append _ rfl (.tmp 10) (.tmp 20) 27 rfl w.heap.size 5 i0 (.int .u8 0) 1 (8 / 8) Try.underlying27 hi hz0 hz1 hz2 rfl (by decide) _ k _ rfl (hrow.alloc _) ⟨_, 0, none⟩ 1 1 [.int .u8 y] rfl rfl (cell_one_new _ _ _) (by simp [Value.oneCell']) (by unfold maxLen; omega) (by omega) (by simp; omega) (by decide) ?_; intro v' w1 hown' hgrow hwh))
      go_roundg (gk - 1)
      case measure => have := HK.out; omega
      case rel => exact ⟨k + 1, by have := HK.out; omega, by go_num, (hB.alloc hsz _).grown hgrow (by simp; omega) (fun j hj => (hrow.lt j hj).1), by rw [HS.out]; exact hown'⟩
    · obtain rfl : k = 8 := by omega
      obtain ⟨g, cap, rfl⟩ := ownsRow_succ hrow
      rw [show (turnedL x m).take 8 = turnedL x m from List.take_of_length_le (by rw [turnedL_length]; exact Nat.le_refl _)] at hrow
      have HR := Lib.hid hrow
      clear hrow
      go_wp2_with fail
      refine (refOf_any (some ⟨g, 0, none⟩) 8 cap (turnedL x m) _ (turned_bytey _ _) (Sl.of_row HR.out (by unfold maxLen; omega))).mono ?_
      rw [turnedL_full]
      rintro e w3 ⟨rfl, rfl⟩
      go_wp2
      go_ret
      exact ⟨rfl, hB⟩

/-! ### slices.Clone, slices.Equal -/
theorem clone8_nil (w : World) : Calls Try.prog 17 #[.slice none 0 0] w fun e w' => e = .returned (.slice none 0 0) ∧ w' = w := by
  have hnil := Lib.run_eql_slice_nil (P := Try.prog)
  go_enter Try.func17, Try.ntmps17
  go_wp2
  go_ret
  exact ⟨rfl, rfl⟩

theorem clone8_some (ad : Addr) (n cap : Nat) (l : List Nat) (w : World) (hn : n ≤ 4096) (h : Sl w (some ad) n (u8s l)) :
    Calls Try.prog 17 #[.slice (some ad) n cap] w fun e w' => ∃ sp' cap', e = .returned (.slice sp' n cap') ∧ Below w.heap.size w w' ∧ w'.ownsRow w.heap.size 5 1 (.slice sp' n cap') n (u8s l) := by
  have hnil := Lib.run_eql_slice_nil (P := Try.prog)
  obtain ⟨i0, hi, hz0, hz1, hz2⟩ := info_parts info_u8z
  have hown0 : (w.alloc (.cells #[] 5)).ownsRow w.heap.size 5 1 (.slice (some ⟨w.heap.size, 0, none⟩) 0 0) 0 [] :=
    ⟨rfl, .inr ⟨w.heap.size, 0, #[], rfl, Nat.le_refl _, World.alloc_heap_new _ _, Nat.le_refl _, Nat.zero_le _, rfl, rfl⟩⟩
  have hl := h.1
  have hcs : ∀ j u, (u8s l)[j]? = some u → (w.alloc (.cells #[] 5)).cell? (ad.add j) = some u := by
    intro j u hu
    have hj : j < (u8s l).length := (List.getElem?_eq_some_iff.1 hu).1
    obtain ⟨b, off, he, hc⟩ := h.some' (by omega)
    cases he
    have hadd : (⟨b, off, none⟩ : Addr).add j = ⟨b, off + j, none⟩ := by unfold Addr.add; split <;> simp_all
    rw [hadd]
    exact keep_alloc _ _ _ _ (hc j u hu)
  have HC := Lib.hid hcs
  have HL := Lib.hid hl
  clear hcs hl h
  go_enter Try.func17, Try.ntmps17
  go_wp2_with (at_builtin; refine wpList_append_own _ rfl (.tmp 5) (.tmp 6) 27 rfl w.heap.size 5 i0 (.int .u8 0) 1 (8 / 8) Try.underlying27 hi hz0 hz1 hz2 rfl (by decide) _ 0 [] rfl hown0 ad n cap (u8s l) rfl (by rw [← HL.out]; omega) HC.out (u8s_one l) (by unfold maxLen; omega) (by omega) (by simp) ?_; intro v' w1 hown' hgrow hwh)
  rw [Nat.zero_add, List.nil_append] at hown'
  obtain ⟨sp', cap', rfl⟩ := row_slice hown'
  have HO := Lib.hid hown'
  clear hown' hwh
  go_wp2
  go_ret
  exact ⟨sp', cap', rfl, ((Below.refl _ w).alloc (Nat.le_refl _) _).grown hgrow (by simp) (fun j hj => by cases hj; exact Nat.le_refl _), HO.out⟩

theorem clone8_any (sp : Option Addr) (n cap : Nat) (l : List Nat) (w : World) (hn : n ≤ 4096) (hc : sp = none → cap = 0) (h : Sl w sp n (u8s l)) :
    Calls Try.prog 17 #[.slice sp n cap] w fun e w' => ∃ sp' cap', e = .returned (.slice sp' n cap') ∧ Below w.heap.size w w' ∧ w'.ownsRow w.heap.size 5 1 (.slice sp' n cap') n (u8s l) := by
  cases sp with
  | some ad => exact clone8_some ad n cap l w hn h
  | none =>
    obtain rfl : cap = 0 := hc rfl
    have h0 : n = 0 := by
      rcases h.2.2 with h0 | ⟨b, off, he, _⟩
      · exact h0
      · cases he
    subst h0
    have hl : u8s l = [] := List.eq_nil_of_length_eq_zero h.1.symm
    refine (clone8_nil w).mono ?_
    rintro e w' ⟨rfl, rfl⟩
    exact ⟨none, 0, rfl, Below.refl _ _, by rw [hl]; exact World.ownsRow_nil _ _ _ _⟩

/-- Numbers of one kind. -/
def intsOf (k : IntKind) (l : List Int) : List Value := l.map (Value.int k)
theorem intsOf_get {k : IntKind} {l : List Int} {j : Nat} (h : j < l.length) : (intsOf k l)[j]? = some (.int k (nthI l j)) := by
  unfold intsOf; rw [List.getElem?_map, nthI_eq h]; rfl

theorem equal8_same (sp sp' : Option Addr) (n cap cap' : Nat) (l : List Int) (w : World) (h : Sl w sp n (intsOf .u8 l)) (h' : Sl w sp' n (intsOf .u8 l)) :
    Calls Try.prog 26 #[.slice sp n cap, .slice sp' n cap'] w fun e w' => e = .returned (.bool true) ∧ ∃ d, w' = w.drewN d := by
  have hlen : n = l.length := by have := h.1; simpa [intsOf] using this
  have hmax := h.2.1
  unfold maxLen at hmax
  have HN := Lib.hid hlen
  have HA := Lib.hid h
  have HB := Lib.hid h'
  clear hlen h h'
  go_enter Try.func26, Try.ntmps26
  go_wp2
  go_loopg [13] n (fun q i wr => ∃ k : Nat, k + q = n ∧ i = .int .i64 k ∧ ∃ d, wr = w.drewN d)
  case atStart => exact ⟨0, by omega, rfl, 0, rfl⟩
  case round =>
    obtain ⟨k, hk, rfl, d, rfl⟩ := hrel
    have HK := Lib.hid hk
    have hkn : k ≤ n := by omega
    clear hk
    by_cases hlt : k < n
    · obtain ⟨b, off, rfl, hc1⟩ := HA.out.some' (by omega)
      obtain ⟨b', off', rfl, hc2⟩ := HB.out.some' (by omega)
      have hkl : k < l.length := by have := HN.out; omega
      have c1 := hc1 k _ (intsOf_get hkl)
      have c2 := hc2 k _ (intsOf_get hkl)
      have c1' : ∀ q, (w.drewN q).cell? ⟨b, off + k, none⟩ = some (.int .u8 (nthI l k)) := fun q => c1
      have c2' : ∀ q, (w.drewN q).cell? ⟨b', off' + k, none⟩ = some (.int .u8 (nthI l k)) := fun q => c2
      have i1 : (k : Int) < (n : Int) := by omega
      have i2 : (0 : Int) ≤ (k : Int) := by omega
      clear hc1 hc2
      go_wp2_with fail
      go_quiet (fail)
      go_wp2
      go_roundg (gk - 1)
      case measure => have := HK.out; omega
      case rel => exact ⟨k + 1, by have := HK.out; omega, by go_num, d + nq, rfl⟩
    · have hn : ¬ (k : Int) < (n : Int) := by omega
      go_wp2
      go_ret
      exact ⟨rfl, d, rfl⟩

theorem equalI_same (sp sp' : Option Addr) (n cap cap' : Nat) (l : List Int) (w : World) (h : Sl w sp n (intsOf .i64 l)) (h' : Sl w sp' n (intsOf .i64 l)) :
    Calls Try.prog 35 #[.slice sp n cap, .slice sp' n cap'] w fun e w' => e = .returned (.bool true) ∧ ∃ d, w' = w.drewN d := by
  have hlen : n = l.length := by have := h.1; simpa [intsOf] using this
  have hmax := h.2.1
  unfold maxLen at hmax
  have HN := Lib.hid hlen
  have HA := Lib.hid h
  have HB := Lib.hid h'
  clear hlen h h'
  go_enter Try.func35, Try.ntmps35
  go_wp2
  go_loopg [13] n (fun q i wr => ∃ k : Nat, k + q = n ∧ i = .int .i64 k ∧ ∃ d, wr = w.drewN d)
  case atStart => exact ⟨0, by omega, rfl, 0, rfl⟩
  case round =>
    obtain ⟨k, hk, rfl, d, rfl⟩ := hrel
    have HK := Lib.hid hk
    have hkn : k ≤ n := by omega
    clear hk
    by_cases hlt : k < n
    · obtain ⟨b, off, rfl, hc1⟩ := HA.out.some' (by omega)
      obtain ⟨b', off', rfl, hc2⟩ := HB.out.some' (by omega)
      have hkl : k < l.length := by have := HN.out; omega
      have c1 := hc1 k _ (intsOf_get hkl)
      have c2 := hc2 k _ (intsOf_get hkl)
      have c1' : ∀ q, (w.drewN q).cell? ⟨b, off + k, none⟩ = some (.int .i64 (nthI l k)) := fun q => c1
      have c2' : ∀ q, (w.drewN q).cell? ⟨b', off' + k, none⟩ = some (.int .i64 (nthI l k)) := fun q => c2
      have i1 : (k : Int) < (n : Int) := by omega
      have i2 : (0 : Int) ≤ (k : Int) := by omega
      clear hc1 hc2
      go_wp2_with fail
      go_quiet (fail)
      go_wp2
      go_roundg (gk - 1)
      case measure => have := HK.out; omega
      case rel => exact ⟨k + 1, by have := HK.out; omega, by go_num, d + nq, rfl⟩
    · have hn : ¬ (k : Int) < (n : Int) := by omega
      go_wp2
      go_ret
      exact ⟨rfl, d, rfl⟩

end Go.Proofs.Ytfomcnbpkdkohaa
