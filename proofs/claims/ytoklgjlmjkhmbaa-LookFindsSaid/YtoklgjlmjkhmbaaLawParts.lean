/-
  The walk of LanesParts: it answers true.
-/
import Derived.Test.YtoklgjlmjkhmbaaLawThere
import Derived.Deep.LoopGhost
set_option linter.unusedSimpArgs false
set_option linter.unusedVariables false
namespace Go.Proofs.Ytoklgjlmjkhmbaa
open Go.RowKit

def cnt (l : List Bool) : Nat := (l.map fun c => if c = true then 1 else 0).sum
theorem ones8 : ∀ c0 c1 c2 c3 c4 c5 c6 c7 : Bool, Lib.onesCount (maskOf [c0, c1, c2, c3, c4, c5, c6, c7]) = cnt [c0, c1, c2, c3, c4, c5, c6, c7] := by decide +kernel
theorem ones_maskOf (l : List Bool) (h : l.length = 8) : Lib.onesCount (maskOf l) = cnt l := by
  obtain ⟨a, b, c, d, e, f, g, i, rfl⟩ := list8 h
  exact ones8 a b c d e f g i
theorem cnt_le : ∀ l : List Bool, cnt l ≤ l.length
  | [] => by simp [cnt]
  | c :: r => by
    have := cnt_le r
    unfold cnt at this ⊢
    simp only [List.map_cons, List.sum_cons, List.length_cons]
    split <;> omega
theorem cnt_add (f g h : Nat → Bool) (hh : ∀ i, (if h i = true then 1 else 0) = (if f i = true then 1 else 0) + (if g i = true then (1 : Nat) else 0)) : ∀ l : List Nat, cnt (l.map h) = cnt (l.map f) + cnt (l.map g)
  | [] => rfl
  | a :: r => by
    have := cnt_add f g h hh r
    have h1 := hh a
    unfold cnt at this ⊢
    simp only [List.map_cons, List.sum_cons] at this ⊢
    omega

def manyK (w k : Nat) : Nat := cnt ((List.range 8).map fun i => decide (byteAt w i < k))
theorem manyK_succ (w k : Nat) : manyK w (k + 1) = manyK w k + Lib.onesCount (equalM w k) := by
  unfold manyK equalM
  rw [ones_maskOf _ (by simp)]
  refine cnt_add _ _ _ (fun i => ?_) _
  by_cases h1 : byteAt w i < k
  · have h2 : byteAt w i < k + 1 := by omega
    have h3 : ¬ byteAt w i = k := by omega
    simp [h1, h2, h3]
  · by_cases h3 : byteAt w i = k
    · simp [h3]
    · have h2 : ¬ byteAt w i < k + 1 := by omega
      simp [h1, h2, h3]
theorem manyK_zero (w : Nat) : manyK w 0 = 0 := by unfold manyK; simp; decide +kernel
theorem manyK_full (w : Nat) : manyK w 256 = 8 := by
  unfold manyK
  have : ((List.range 8).map fun i => decide (byteAt w i < 256)) = (List.range 8).map fun _ => true := List.map_congr_left fun i _ => by simp [byteAt_lt]
  rw [this]; decide +kernel
theorem manyK_le (w k : Nat) : manyK w k ≤ 8 := by unfold manyK; refine Nat.le_trans (cnt_le _) (by simp)

theorem maskOf_lt8 (f : Nat → Bool) : maskOf ((List.range 8).map f) < 256 := maskOf_lt _ (by simp)
theorem equalM_lt (w b : Nat) : equalM w b < 256 := maskOf_lt8 _
theorem belowM_lt (w b : Nat) : belowM w b < 256 := maskOf_lt8 _
theorem alikeM_lt (v w : Nat) : alikeM v w < 256 := maskOf_lt8 _
theorem mask_ext {a b : List Bool} (h : ∀ i, a.getD i false = b.getD i false) : maskOf a = maskOf b := Nat.eq_of_testBit_eq fun i => by rw [testBit_maskOf, testBit_maskOf, h]
theorem tb_range (f : Nat → Bool) (i : Nat) : (maskOf ((List.range 8).map f)).testBit i = (decide (i < 8) && f i) := by
  rw [testBit_maskOf, List.getD_eq_getElem?_getD, List.getElem?_map]
  by_cases h : i < 8
  · rw [List.getElem?_range h]; simp [h]
  · rw [List.getElem?_eq_none (by simpa using h)]; simp [h]
theorem parts_and (w b : Nat) : equalM w b &&& belowM w b = 0 := Nat.eq_of_testBit_eq fun i => by
  unfold equalM belowM belowL
  rw [Nat.testBit_and, tb_range, tb_range, Nat.zero_testBit]
  by_cases h : byteAt w i = b
  · simp [h]
  · simp [h]
theorem parts_or (w b : Nat) : equalM w b ||| belowM w b = belowM w (b + 1) := Nat.eq_of_testBit_eq fun i => by
  unfold equalM belowM belowL
  rw [Nat.testBit_or, tb_range, tb_range, tb_range]
  by_cases h : byteAt w i = b
  · simp [h]
  · have : (byteAt w i < b + 1) ↔ byteAt w i < b := by omega
    simp [h, this]
theorem below_zero (w : Nat) : belowM w 0 = 0 := Nat.eq_of_testBit_eq fun i => by
  unfold belowM belowL; rw [tb_range]; simp
theorem lanes_ones : ∀ m : Fin 256, (lanesOf m.val).length = Lib.onesCount m.val := by decide +kernel
theorem hasM_mask (f : Nat → Bool) (i : Nat) (hi : i < 8) : hasM (maskOf ((List.range 8).map f)) i = f i := by
  have h := tb_range f i
  simp only [hi, decide_true, Bool.true_and] at h
  rw [← h, Nat.testBit_eq_decide_div_mod_eq]
  unfold hasM
  rfl
theorem blend_byte (v u m i : Nat) (hi : i < 8) : byteAt (blendW v u m) i = if hasM m i = true then byteAt u i else byteAt v i := by
  unfold blendW
  rw [byteAt_word (bytey_range _ fun i => by split <;> exact byteAt_lt _ _), List.getD_eq_getElem?_getD, List.getElem?_map, List.getElem?_range hi]
  rfl
theorem blendW_lt (v u m : Nat) : blendW v u m < 2 ^ 64 := word8_lt (bytey_range _ fun i => by split <;> exact byteAt_lt _ _) (by simp)
theorem blend_all (v u : Nat) (hu : u < 2 ^ 64) : blendW v u 255 = u := word_ext (blendW_lt _ _ _) hu fun i hi => by
  rw [blend_byte _ _ _ _ hi, if_pos]
  exact (show ∀ j : Fin 8, hasM 255 j.val = true by decide +kernel) ⟨i, hi⟩
theorem blend_none (v u : Nat) (hv : v < 2 ^ 64) : blendW v u 0 = v := word_ext (blendW_lt _ _ _) hv fun i hi => by
  rw [blend_byte _ _ _ _ hi, if_neg]
  rw [(show ∀ j : Fin 8, hasM 0 j.val = false by decide +kernel) ⟨i, hi⟩]
  simp
theorem blend_alike (v u : Nat) (hv : v < 2 ^ 64) : blendW v u (alikeM v u) = v := word_ext (blendW_lt _ _ _) hv fun i hi => by
  rw [blend_byte _ _ _ _ hi]
  unfold alikeM alikeL
  rw [hasM_mask _ _ hi]
  by_cases h : byteAt v i = byteAt u i
  · simp [h]
  · simp [h]

theorem pop_math (x : Int) (h0 : 0 ≤ x) (h1 : x ≤ 255) : RowKit.wrap64 (Lib.pop8 x) = (Lib.onesCount x.toNat : Int) := by
  obtain ⟨n, rfl⟩ := Int.eq_ofNat_of_zero_le h0
  have l := Lib.onesCount_le8 ⟨n, by omega⟩
  rw [Int.toNat_natCast]
  simp only at l
  have e : Lib.pop8 ((⟨n, by omega⟩ : Fin 256).val : Int) = _ := Lib.pop8_eq ⟨n, by omega⟩
  refine (congrArg RowKit.wrap64 e).trans ?_
  exact IntWalk.wrap64_in _ ⟨by simp only; omega, by simp only; omega⟩
theorem below0_any (x : Nat) (w : World) (hx : x < 2 ^ 64) : Calls Try.prog 106 #[.int .u64 x, .int .u8 0] w fun e w' => e = .returned (.int .u8 0) ∧ w' = w := by
  have := below_any x 0 w hx (by decide)
  rw [below_zero] at this
  exact this
theorem below1_any (x b : Nat) (w : World) (hx : x < 2 ^ 64) (hb : b < 255) : Calls Try.prog 106 #[.int .u64 x, .int .u8 ((b : Int) + 1)] w fun e w' => e = .returned (.int .u8 (belowM x (b + 1))) ∧ w' = w := below_any x (b + 1) w hx (by omega)
end Go.Proofs.Ytoklgjlmjkhmbaa
