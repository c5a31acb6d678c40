/-
  The walk of LanesParts: it answers true.
-/
import Derived.Test.YtfomcnbpkdkohaaLawThere
import Derived.Deep.LoopGhost
set_option linter.unusedSimpArgs false
set_option linter.unusedVariables false
namespace Go.Proofs.Ytfomcnbpkdkohaa
open Go.RowKit

def cnt (l : List Bool) : Nat := (l.map fun c => if c = true then 1 else 0).sum
theorem ones8 : ∀ c0 c1 c2 c3 c4 c5 c6 c7 : Bool, Lib.onesCount (maskOf [c0, c1, c2, c3, c4, c5, c6, c7]) = cnt [c0, c1, c2, c3, c4, c5, c6, c7] := by decide +kernel
theorem ones_maskOf (l : List Bool) (h : l.length = 8) : Lib.onesCount (maskOf l) = cnt l := by
  obtain ⟨a, b, c, d, e, f, g, i, rfl⟩ := list8 h
  exact ones8 a b c d e f g i
theorem cnt_le : ∀ l : List Bool, cnt l ≤ l.length
  | [] => by simp [cnt]
  | c :: r => by
    have := cnt_le r
    unfold cnt at this ⊢
    simp only [List.map_cons, List.sum_cons, List.length_cons]
    split <;> omega
theorem cnt_add (f g h : Nat → Bool) (hh : ∀ i, (if h i = true then 1 else 0) = (if f i = true then 1 else 0) + (if g i = true then (1 : Nat) else 0)) : ∀ l : List Nat, cnt (l.map h) = cnt (l.map f) + cnt (l.map g)
  | [] => rfl
  | a :: r => by
    have := cnt_add f g h hh r
    have h1 := hh a
    unfold cnt at this ⊢
    simp only [List.map_cons, List.sum_cons] at this ⊢
    omega

def manyK (w k : Nat) : Nat := cnt ((List.range 8).map fun i => decide (byteAt w i < k))
theorem manyK_succ (w k : Nat) : manyK w (k + 1) = manyK w k + Lib.onesCount (equalM w k) := by
  unfold manyK equalM
  rw [ones_maskOf _ (by simp)]
  refine cnt_add _ _ _ (fun i => ?_) _
  by_cases h1 : byteAt w i < k
  · have h2 : byteAt w i < k + 1 := by omega
    have h3 : ¬ byteAt w i = k := by omega
    simp [h1, h2, h3]
  · by_cases h3 : byteAt w i = k
    · simp [h3]
    · have h2 : ¬ byteAt w i < k + 1 := by omega
      simp [h1, h2, h3]
theorem manyK_zero (w : Nat) : manyK w 0 = 0 := by unfold manyK; simp; decide +kernel
theorem manyK_full (w : Nat) : manyK w 256 = 8 := by
  unfold manyK
  have : ((List.range 8).map fun i => decide (byteAt w i < 256)) = (List.range 8).map fun _ => true := List.map_congr_left fun i _ => by simp [byteAt_lt]
  rw [this]; decide +kernel
theorem manyK_le (w k : Nat) : manyK w k ≤ 8 := by unfold manyK; refine Nat.le_trans (cnt_le _) (by simp)

theorem maskOf_lt8 (f : Nat → Bool) : maskOf ((List.range 8).map f) < 256 := maskOf_lt _ (by simp)
theorem equalM_lt (w b : Nat) : equalM w b < 256 := maskOf_lt8 _
theorem belowM_lt (w b : Nat) : belowM w b < 256 := maskOf_lt8 _
theorem alikeM_lt (v w : Nat) : alikeM v w < 256 := maskOf_lt8 _
theorem mask_ext {a b : List Bool} (h : ∀ i, a.getD i false = b.getD i false) : maskOf a = maskOf b := Nat.eq_of_testBit_eq fun i => by rw [testBit_maskOf, testBit_maskOf, h]
theorem tb_range (f : Nat → Bool) (i : Nat) : (maskOf ((List.range 8).map f)).testBit i = (decide (i < 8) && f i) := by
  rw [testBit_maskOf, List.getD_eq_getElem?_getD, List.getElem?_map]
  by_cases h : i < 8
  · rw [List.getElem?_range h]; simp [h]
  · rw [List.getElem?_eq_none (by simpa using h)]; simp [h]
theorem parts_and (w b : Nat) : equalM w b &&& belowM w b = 0 := Nat.eq_of_testBit_eq fun i => by
  unfold equalM belowM belowL
  rw [Nat.testBit_and, tb_range, tb_range, Nat.zero_testBit]
  by_cases h : byteAt w i = b
  · simp [h]
  · simp [h]
theorem parts_or (w b : Nat) : equalM w b ||| belowM w b = belowM w (b + 1) := Nat.eq_of_testBit_eq fun i => by
  unfold equalM belowM belowL
  rw [Nat.testBit_or, tb_range, tb_range, tb_range]
  by_cases h : byteAt w i = b
  · simp [h]
  · have : (byteAt w i < b + 1) ↔ byteAt w i < b := by omega
    simp [h, this]
theorem below_zero (w : Nat) : belowM w 0 = 0 := Nat.eq_of_testBit_eq fun i => by
  unfold belowM belowL; rw [tb_range]; simp
theorem lanes_ones : ∀ m : Fin 256, (lanesOf m.val).length = Lib.onesCount m.val := by decide +kernel
theorem hasM_mask (f : Nat → Bool) (i : Nat) (hi : i < 8) : hasM (maskOf ((List.range 8).map f)) i = f i := by
  have h := tb_range f i
  simp only [hi, decide_true, Bool.true_and] at h
  rw [← h, Nat.testBit_eq_decide_div_mod_eq]
  unfold hasM
  rfl
theorem blend_byte (v u m i : Nat) (hi : i < 8) : byteAt (blendW v u m) i = if hasM m i = true then byteAt u i else byteAt v i := by
  unfold blendW
  rw [byteAt_word (bytey_range _ fun i => by split <;> exact byteAt_lt _ _), List.getD_eq_getElem?_getD, List.getElem?_map, List.getElem?_range hi]
  rfl
theorem blendW_lt (v u m : Nat) : blendW v u m < 2 ^ 64 := word8_lt (bytey_range _ fun i => by split <;> exact byteAt_lt _ _) (by simp)
theorem blend_all (v u : Nat) (hu : u < 2 ^ 64) : blendW v u 255 = u := word_ext (blendW_lt _ _ _) hu fun i hi => by
  rw [blend_byte _ _ _ _ hi, if_pos]
  exact (show ∀ j : Fin 8, hasM 255 j.val = true by decide +kernel) ⟨i, hi⟩
theorem blend_none (v u : Nat) (hv : v < 2 ^ 64) : blendW v u 0 = v := word_ext (blendW_lt _ _ _) hv fun i hi => by
  rw [blend_byte _ _ _ _ hi, if_neg]
  rw [(show ∀ j : Fin 8, hasM 0 j.val = false by decide +kernel) ⟨i, hi⟩]
  simp
theorem blend_alike (v u : Nat) (hv : v < 2 ^ 64) : blendW v u (alikeM v u) = v := word_ext (blendW_lt _ _ _) hv fun i hi => by
  rw [blend_byte _ _ _ _ hi]
  unfold alikeM alikeL
  rw [hasM_mask _ _ hi]
  by_cases h : byteAt v i = byteAt u i
  · simp [h]
  · simp [h]

theorem pop_math (x : Int) (h0 : 0 ≤ x) (h1 : x ≤ 255) : RowKit.wrap64 (Lib.pop8 x) = (Lib.onesCount x.toNat : Int) := by
  obtain ⟨n, rfl⟩ := Int.eq_ofNat_of_zero_le h0
  have l := Lib.onesCount_le8 ⟨n, by omega⟩
  rw [Int.toNat_natCast]
  simp only at l
  have e : Lib.pop8 ((⟨n, by omega⟩ : Fin 256).val : Int) = _ := Lib.pop8_eq ⟨n, by omega⟩
  refine (congrArg RowKit.wrap64 e).trans ?_
  exact IntWalk.wrap64_in _ ⟨by simp only; omega, by simp only; omega⟩
set_option maxRecDepth 100000 in
theorem ones_any (x : Int) (w : World) (h0 : 0 ≤ x) (h1 : x ≤ 255) : Calls Try.prog 22 #[.int .u8 x] w fun e w' => e = .returned (.int .i64 (Lib.onesCount x.toNat)) ∧ w' = w := by
  go_enter Try.func22, Try.ntmps22
  go_wp2
  go_ret
  exact ⟨ret_i64 (pop_math x h0 h1), rfl⟩
theorem ones_nat (m : Nat) (w : World) (hm : m < 256) : Calls Try.prog 22 #[.int .u8 m] w fun e w' => e = .returned (.int .i64 (Lib.onesCount m)) ∧ w' = w := by
  have := ones_any (m : Int) w (by omega) (by omega)
  rw [Int.toNat_natCast] at this
  exact this
theorem below0_any (x : Nat) (w : World) (hx : x < 2 ^ 64) : Calls Try.prog 19 #[.int .u64 x, .int .u8 0] w fun e w' => e = .returned (.int .u8 0) ∧ w' = w := by
  have := below_any x 0 w hx (by decide)
  rw [below_zero] at this
  exact this
theorem below1_any (x b : Nat) (w : World) (hx : x < 2 ^ 64) (hb : b < 255) : Calls Try.prog 19 #[.int .u64 x, .int .u8 ((b : Int) + 1)] w fun e w' => e = .returned (.int .u8 (belowM x (b + 1))) ∧ w' = w := below_any x (b + 1) w hx (by omega)
theorem blend255_any (v u : Nat) (w : World) (hv : v < 2 ^ 64) (hu : u < 2 ^ 64) : Calls Try.prog 24 #[.int .u64 v, .int .u64 u, .int .u8 255] w fun e w' => e = .returned (.int .u64 u) ∧ Below w.heap.size w w' := by
  have := blend_any v u 255 w hv hu (by decide)
  rw [blend_all v u hu] at this
  exact this
theorem blend0_any (v u : Nat) (w : World) (hv : v < 2 ^ 64) (hu : u < 2 ^ 64) : Calls Try.prog 24 #[.int .u64 v, .int .u64 u, .int .u8 0] w fun e w' => e = .returned (.int .u64 v) ∧ Below w.heap.size w w' := by
  have := blend_any v u 0 w hv hu (by decide)
  rw [blend_none v u hv] at this
  exact this
theorem blendA_any (v u : Nat) (w : World) (hv : v < 2 ^ 64) (hu : u < 2 ^ 64) : Calls Try.prog 24 #[.int .u64 v, .int .u64 u, .int .u8 (alikeM v u)] w fun e w' => e = .returned (.int .u64 v) ∧ Below w.heap.size w w' := by
  have := blend_any v u (alikeM v u) w hv hu (alikeM_lt _ _)
  rw [blend_alike v u hv] at this
  exact this

set_option maxRecDepth 100000 in
set_option maxHeartbeats 1000000 in
theorem walk_LanesParts (a0 a1 a2 : Int) (w : World) (w0 : (Lit.int .u64 a0).wf = true) (w1 : (Lit.int .u64 a1).wf = true) (w2 : (Lit.int .u8 a2).wf = true) :
    Calls Try.prog 6 #[.int .u64 a0, .int .u64 a1, .int .u8 a2] w fun e w' => e = .returned (.bool true) ∧ Below w.heap.size w w' := by
  obtain ⟨v, rfl, hv⟩ := nat_of_u64 w0
  obtain ⟨x, rfl, hx⟩ := nat_of_u64 w1
  obtain ⟨b, rfl, hb⟩ := nat_of_u8 w2
  have hand : bits .and .u8 (equalM x b : Int) (belowM x b : Int) = 0 := by
    rw [u8_and_nat _ _ (equalM_lt _ _) (belowM_lt _ _), parts_and]; rfl
  have hor : bits .or .u8 (equalM x b : Int) (belowM x b : Int) = ((belowM x (b + 1) : Nat) : Int) := by
    rw [u8_or_nat _ _ (equalM_lt _ _) (belowM_lt _ _), parts_or]
  have HV := Lib.hid hv
  have HX := Lib.hid hx
  clear hv hx w0 w1 w2
  by_cases h255 : b < 255
  all_goals
    go_enter Try.func6, Try.ntmps6
    go_wp2_with fail
    refine (wakes_any _).mono ?_
    rintro e w1 ⟨rfl, hb1⟩
    have H0 := Lib.hid (below0_any x w1 HX.out)
    have H1 := Lib.hid (fun h => below1_any x b w1 HX.out h)
    have H2 := Lib.hid (below_any x b w1 HX.out hb)
    have H3 := Lib.hid (equal_any x b w1 HX.out hb)
    go_wp2_with fail
    refine H3.out.mono ?_
    rintro e w2 ⟨rfl, rfl⟩
    go_wp2_with fail
    refine H2.out.mono ?_
    rintro e w3 ⟨rfl, rfl⟩
    go_wp2_with fail
    refine H0.out.mono ?_
    rintro e w4 ⟨rfl, rfl⟩
    go_wp2_with (go_at_call 19; refine (H1.out h255).mono ?_; rintro e w5 ⟨rfl, rfl⟩)
    clear H0 H1 H2 H3
    go_loopg [9, 42] 256 (fun q y i wr => ∃ k : Nat, k + q = 256 ∧ i = .int .i64 k ∧ y = .int .i64 (manyK x k) ∧ Below w.heap.size w wr)
    case atStart => exact ⟨0, rfl, rfl, by rw [manyK_zero]; rfl, hb1⟩
    case round =>
      clear hb1 hand hor
      obtain ⟨k, hk, rfl, rfl, hB⟩ := hrel
      have HK := Lib.hid hk
      have HB := Lib.hid hB
      have hk8 : k ≤ 256 := by omega
      clear hk hB
      have hm8 := manyK_le x k
      by_cases h8 : k < 256
      · have hc := Lib.hid (equal_any x k wr HX.out h8)
        have ho := Lib.hid (ones_nat (equalM x k) wr (equalM_lt _ _))
        have hms := Lib.hid (manyK_succ x k)
        have hm9 : manyK x k + Lib.onesCount (equalM x k) ≤ 8 := by rw [← manyK_succ]; exact manyK_le _ _
        have hdk : decide ((k : Int) < 256) = true := by simp; omega
        go_wp2_with fail
        refine hc.out.mono ?_
        clear hc
        rintro e w5 ⟨rfl, rfl⟩
        go_wp2_with fail
        refine ho.out.mono ?_
        clear ho
        rintro e w6 ⟨rfl, rfl⟩
        go_wp2_with fail
        go_roundg (gk - 1)
        case measure => have := HK.out; omega
        case rel => exact ⟨k + 1, by have := HK.out; omega, by go_num, by rw [hms.out]; go_num, HB.out⟩
      · obtain rfl : k = 256 := by omega
        rw [manyK_full]
        clear hm8
        go_wp2_with fail
        refine (all_any _ (equalM_lt x b) _).mono ?_
        rintro e w5 ⟨sp, n, cap, rfl, hb5, hrow⟩
        have hn : n = Lib.onesCount (equalM x b) := by
          have h1 := lanes_ones ⟨equalM x b, equalM_lt x b⟩
          simp only at h1
          rcases hrow.2 with ⟨h, h0⟩ | ⟨g, cp, cur, h, _⟩
          · cases h; omega
          · cases h; exact h1
        clear hrow
        have ho := ones_nat (equalM x b) w5 (equalM_lt _ _)
        rw [← hn] at ho
        clear hn
        go_wp2_with fail
        refine ho.mono ?_
        clear ho
        rintro e w6 ⟨rfl, rfl⟩
        go_wp2_with fail
        refine (blend255_any v x _ HV.out HX.out).mono ?_
        rintro e w7 ⟨rfl, hb7⟩
        go_wp2_with fail
        refine (blend0_any v x _ HV.out HX.out).mono ?_
        rintro e w8 ⟨rfl, hb8⟩
        go_wp2_with fail
        refine (alike_any v x _ HV.out HX.out).mono ?_
        rintro e w9 ⟨rfl, rfl⟩
        go_wp2_with fail
        refine (blendA_any v x _ HV.out HX.out).mono ?_
        rintro e w10 ⟨rfl, hb10⟩
        go_wp2
        go_ret
        refine ⟨rfl, ?_⟩
        have z0 := HB.out.size
        have z5 := hb5.size
        have z7 := hb7.size
        have z8 := hb8.size
        exact (((HB.out.trans (hb5.mono (by omega))).trans (hb7.mono (by omega))).trans (hb8.mono (by omega))).trans (hb10.mono (by omega))

end Go.Proofs.Ytfomcnbpkdkohaa
