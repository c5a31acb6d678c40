/-
  Several texts of mine in one: LawThere LawParts LanesR LanesS LawTurns LanesT Scope Marks HashPure HashBits Hash.
-/
import Derived.Test.YtoklgjlmjkhmbaaPa
import Derived.Deep.LoopGhost
import Derived.WalkSpells
import Derived.Test.YtoklgjlmjkhmbaaRows
import Derived.WalkKit
import Derived.Scope
import Derived.ControlIn
import Derived.ScopeJumps
import Derived.Lib.BitFns
/-
  The walk of LanesThere: it answers true.
-/
set_option linter.unusedSimpArgs false
set_option linter.unusedVariables false
namespace Go.Proofs.Ytoklgjlmjkhmbaa
open Go.RowKit

theorem byteAt_setLane (x n b i : Nat) (hn : n < 8) (hb : b < 256) (hi : i < 8) : byteAt (setLane x n b) i = if i = n then b else byteAt x i := by
  unfold setLane
  have hy : Bytey ((bytes8 x).set n b) := by
    intro c hc
    rcases List.mem_or_eq_of_mem_set hc with h | h
    · exact bytes8_bytey _ _ h
    · omega
  rw [byteAt_word hy, List.getD_eq_getElem?_getD, List.getElem?_set, length_bytes8]
  by_cases h : n = i
  · subst h; simp [hn]
  · rw [if_neg h, if_neg (Ne.symm h), ← List.getD_eq_getElem?_getD, bytes8_getD _ _ hi]
theorem setLane_self (x n b : Nat) (hx : x < 2 ^ 64) (hn : n < 8) (hb : b < 256) (h : byteAt x n = b) : setLane x n b = x := by
  refine word_ext (setLane_lt _ _ _ hb) hx fun i hi => ?_
  rw [byteAt_setLane x n b i hn hb hi]
  split
  · subst i; exact h.symm
  · rfl
theorem alike_self (x : Nat) : alikeM x x = 255 := by
  unfold alikeM alikeL
  simp only [beq_self_eq_true]
  decide +kernel
theorem mask_but : ∀ n : Fin 8, maskOf ((List.range 8).map fun i => !(i == n.val)) = 255 - 2 ^ n.val := by decide +kernel
theorem alike_set (x n b : Nat) (hn : n < 8) (hb : b < 256) (h : byteAt x n ≠ b) : alikeM (setLane x n b) x = 255 - 2 ^ n := by
  rw [← mask_but ⟨n, hn⟩]
  unfold alikeM alikeL
  congr 1
  apply List.map_congr_left
  intro i hi
  rw [byteAt_setLane x n b i hn hb (List.mem_range.1 hi)]
  by_cases e : i = n
  · subst e
    rw [if_pos rfl]
    simp [Ne.symm h]
  · rw [if_neg e]; simp [e]
theorem testBit_maskOf : ∀ (l : List Bool) (n : Nat), (maskOf l).testBit n = l.getD n false
  | [], n => by simp [maskOf]
  | c :: r, 0 => by simp only [maskOf]; cases c <;> simp [Nat.testBit_zero] <;> omega
  | c :: r, n + 1 => by
    have := testBit_maskOf r n
    rw [Nat.testBit_succ, maskOf, show ((if c = true then 1 else 0) + 2 * maskOf r) / 2 = maskOf r by split <;> omega, this]
    simp
theorem maskOf_lt : ∀ (l : List Bool), l.length ≤ 8 → maskOf l < 256 := by
  intro l hl
  have key : ∀ l : List Bool, maskOf l < 2 ^ l.length := by
    intro l
    induction l with
    | nil => simp [maskOf]
    | cons c r ih => simp only [maskOf, List.length_cons, Nat.pow_succ]; split <;> omega
  exact Nat.lt_of_lt_of_le (key l) (Nat.le_trans (Nat.pow_le_pow_right (by decide) hl) (by decide))
theorem equal_set (x n b : Nat) (hn : n < 8) (hb : b < 256) : equalM (setLane x n b) b &&& 2 ^ n ≠ 0 := by
  have h : (equalM (setLane x n b) b).testBit n = true := by
    unfold equalM
    rw [testBit_maskOf, List.getD_eq_getElem?_getD, List.getElem?_map, List.getElem?_range hn]
    simp [byteAt_setLane x n b n hn hb hn]
  intro h0
  have := Nat.testBit_and (equalM (setLane x n b) b) (2 ^ n) n
  rw [h0, h, Nat.testBit_two_pow_self] at this
  simp at this
theorem ofW_bytes8 (x : Nat) (hx : x < 2 ^ 64) : ofW (bytes8 x) = x := by
  unfold ofW
  rw [List.take_of_length_le (by rw [length_bytes8]; exact Nat.le_refl _), word_bytes8 hx]
theorem u8s_bytes8 (x : Nat) : (bytesA x).toList = u8s (bytes8 x) := rfl

end Go.Proofs.Ytoklgjlmjkhmbaa

/-
  The walk of LanesParts: it answers true.
-/
set_option linter.unusedSimpArgs false
set_option linter.unusedVariables false
namespace Go.Proofs.Ytoklgjlmjkhmbaa
open Go.RowKit

def cnt (l : List Bool) : Nat := (l.map fun c => if c = true then 1 else 0).sum
theorem ones8 : ∀ c0 c1 c2 c3 c4 c5 c6 c7 : Bool, Lib.onesCount (maskOf [c0, c1, c2, c3, c4, c5, c6, c7]) = cnt [c0, c1, c2, c3, c4, c5, c6, c7] := by decide +kernel
theorem ones_maskOf (l : List Bool) (h : l.length = 8) : Lib.onesCount (maskOf l) = cnt l := by
  obtain ⟨a, b, c, d, e, f, g, i, rfl⟩ := list8 h
  exact ones8 a b c d e f g i
theorem cnt_le : ∀ l : List Bool, cnt l ≤ l.length
  | [] => by simp [cnt]
  | c :: r => by
    have := cnt_le r
    unfold cnt at this ⊢
    simp only [List.map_cons, List.sum_cons, List.length_cons]
    split <;> omega
theorem cnt_add (f g h : Nat → Bool) (hh : ∀ i, (if h i = true then 1 else 0) = (if f i = true then 1 else 0) + (if g i = true then (1 : Nat) else 0)) : ∀ l : List Nat, cnt (l.map h) = cnt (l.map f) + cnt (l.map g)
  | [] => rfl
  | a :: r => by
    have := cnt_add f g h hh r
    have h1 := hh a
    unfold cnt at this ⊢
    simp only [List.map_cons, List.sum_cons] at this ⊢
    omega

def manyK (w k : Nat) : Nat := cnt ((List.range 8).map fun i => decide (byteAt w i < k))
theorem manyK_succ (w k : Nat) : manyK w (k + 1) = manyK w k + Lib.onesCount (equalM w k) := by
  unfold manyK equalM
  rw [ones_maskOf _ (by simp)]
  refine cnt_add _ _ _ (fun i => ?_) _
  by_cases h1 : byteAt w i < k
  · have h2 : byteAt w i < k + 1 := by omega
    have h3 : ¬ byteAt w i = k := by omega
    simp [h1, h2, h3]
  · by_cases h3 : byteAt w i = k
    · simp [h3]
    · have h2 : ¬ byteAt w i < k + 1 := by omega
      simp [h1, h2, h3]
theorem manyK_zero (w : Nat) : manyK w 0 = 0 := by unfold manyK; simp; decide +kernel
theorem manyK_full (w : Nat) : manyK w 256 = 8 := by
  unfold manyK
  have : ((List.range 8).map fun i => decide (byteAt w i < 256)) = (List.range 8).map fun _ => true := List.map_congr_left fun i _ => by simp [byteAt_lt]
  rw [this]; decide +kernel
theorem manyK_le (w k : Nat) : manyK w k ≤ 8 := by unfold manyK; refine Nat.le_trans (cnt_le _) (by simp)

theorem maskOf_lt8 (f : Nat → Bool) : maskOf ((List.range 8).map f) < 256 := maskOf_lt _ (by simp)
theorem equalM_lt (w b : Nat) : equalM w b < 256 := maskOf_lt8 _
theorem belowM_lt (w b : Nat) : belowM w b < 256 := maskOf_lt8 _
theorem alikeM_lt (v w : Nat) : alikeM v w < 256 := maskOf_lt8 _
theorem mask_ext {a b : List Bool} (h : ∀ i, a.getD i false = b.getD i false) : maskOf a = maskOf b := Nat.eq_of_testBit_eq fun i => by rw [testBit_maskOf, testBit_maskOf, h]
theorem tb_range (f : Nat → Bool) (i : Nat) : (maskOf ((List.range 8).map f)).testBit i = (decide (i < 8) && f i) := by
  rw [testBit_maskOf, List.getD_eq_getElem?_getD, List.getElem?_map]
  by_cases h : i < 8
  · rw [List.getElem?_range h]; simp [h]
  · rw [List.getElem?_eq_none (by simpa using h)]; simp [h]
theorem parts_and (w b : Nat) : equalM w b &&& belowM w b = 0 := Nat.eq_of_testBit_eq fun i => by
  unfold equalM belowM belowL
  rw [Nat.testBit_and, tb_range, tb_range, Nat.zero_testBit]
  by_cases h : byteAt w i = b
  · simp [h]
  · simp [h]
theorem parts_or (w b : Nat) : equalM w b ||| belowM w b = belowM w (b + 1) := Nat.eq_of_testBit_eq fun i => by
  unfold equalM belowM belowL
  rw [Nat.testBit_or, tb_range, tb_range, tb_range]
  by_cases h : byteAt w i = b
  · simp [h]
  · have : (byteAt w i < b + 1) ↔ byteAt w i < b := by omega
    simp [h, this]
theorem below_zero (w : Nat) : belowM w 0 = 0 := Nat.eq_of_testBit_eq fun i => by
  unfold belowM belowL; rw [tb_range]; simp
theorem lanes_ones : ∀ m : Fin 256, (lanesOf m.val).length = Lib.onesCount m.val := by decide +kernel
theorem hasM_mask (f : Nat → Bool) (i : Nat) (hi : i < 8) : hasM (maskOf ((List.range 8).map f)) i = f i := by
  have h := tb_range f i
  simp only [hi, decide_true, Bool.true_and] at h
  rw [← h, Nat.testBit_eq_decide_div_mod_eq]
  unfold hasM
  rfl
theorem blend_byte (v u m i : Nat) (hi : i < 8) : byteAt (blendW v u m) i = if hasM m i = true then byteAt u i else byteAt v i := by
  unfold blendW
  rw [byteAt_word (bytey_range _ fun i => by split <;> exact byteAt_lt _ _), List.getD_eq_getElem?_getD, List.getElem?_map, List.getElem?_range hi]
  rfl
theorem blendW_lt (v u m : Nat) : blendW v u m < 2 ^ 64 := word8_lt (bytey_range _ fun i => by split <;> exact byteAt_lt _ _) (by simp)
theorem blend_all (v u : Nat) (hu : u < 2 ^ 64) : blendW v u 255 = u := word_ext (blendW_lt _ _ _) hu fun i hi => by
  rw [blend_byte _ _ _ _ hi, if_pos]
  exact (show ∀ j : Fin 8, hasM 255 j.val = true by decide +kernel) ⟨i, hi⟩
theorem blend_none (v u : Nat) (hv : v < 2 ^ 64) : blendW v u 0 = v := word_ext (blendW_lt _ _ _) hv fun i hi => by
  rw [blend_byte _ _ _ _ hi, if_neg]
  rw [(show ∀ j : Fin 8, hasM 0 j.val = false by decide +kernel) ⟨i, hi⟩]
  simp
theorem blend_alike (v u : Nat) (hv : v < 2 ^ 64) : blendW v u (alikeM v u) = v := word_ext (blendW_lt _ _ _) hv fun i hi => by
  rw [blend_byte _ _ _ _ hi]
  unfold alikeM alikeL
  rw [hasM_mask _ _ hi]
  by_cases h : byteAt v i = byteAt u i
  · simp [h]
  · simp [h]

theorem pop_math (x : Int) (h0 : 0 ≤ x) (h1 : x ≤ 255) : RowKit.wrap64 (Lib.pop8 x) = (Lib.onesCount x.toNat : Int) := by
  obtain ⟨n, rfl⟩ := Int.eq_ofNat_of_zero_le h0
  have l := Lib.onesCount_le8 ⟨n, by omega⟩
  rw [Int.toNat_natCast]
  simp only at l
  have e : Lib.pop8 ((⟨n, by omega⟩ : Fin 256).val : Int) = _ := Lib.pop8_eq ⟨n, by omega⟩
  refine (congrArg RowKit.wrap64 e).trans ?_
  exact IntWalk.wrap64_in _ ⟨by simp only; omega, by simp only; omega⟩
theorem below0_any (x : Nat) (w : World) (hx : x < 2 ^ 64) : Calls Try.prog 106 #[.int .u64 x, .int .u8 0] w fun e w' => e = .returned (.int .u8 0) ∧ w' = w := by
  have := below_any x 0 w hx (by decide)
  rw [below_zero] at this
  exact this
theorem below1_any (x b : Nat) (w : World) (hx : x < 2 ^ 64) (hb : b < 255) : Calls Try.prog 106 #[.int .u64 x, .int .u8 ((b : Int) + 1)] w fun e w' => e = .returned (.int .u8 (belowM x (b + 1))) ∧ w' = w := below_any x (b + 1) w hx (by omega)
end Go.Proofs.Ytoklgjlmjkhmbaa

/-
  The document's answer for lanes, function by function.
-/
set_option linter.unusedSimpArgs false
set_option linter.unusedVariables false
set_option maxRecDepth 100000
namespace Go.Proofs.Ytoklgjlmjkhmbaa
open Go.RowKit

def divK (x k : Nat) : Nat := x / 256 ^ k
theorem divK_zero (x : Nat) : divK x 0 = x := by simp [divK]
theorem divK_succ (x k : Nat) : divK x (k + 1) = divK x k / 256 := by unfold divK; rw [Nat.pow_succ, Nat.div_div_eq_div_mul]

theorem divK_lt (x k : Nat) (hx : x < 2 ^ 64) : divK x k < 2 ^ 64 := Nat.lt_of_le_of_lt (Nat.div_le_self _ _) hx
theorem divK_wrap (x k : Nat) (hx : x < 2 ^ 64) : IntKind.u64.wrap ((divK x k : Int) / 256) = ((divK x (k + 1) : Nat) : Int) := by
  have := divK_lt x k hx
  rw [divK_succ, IntKind.wrap_u64]; omega
theorem u8s_get {l : List Nat} {k : Nat} (h : k < l.length) : (u8s l)[k]? = some (.int .u8 (nthN l k)) := by
  unfold u8s; rw [List.getElem?_map, List.getElem?_eq_getElem h, nthN_eq h]; rfl

theorem refAt_any (x n : Nat) (w : World) (hx : x < 2 ^ 64) (hn : n ≤ 9223372036854775807) : Calls Try.prog 97 #[.int .u64 x, .int .i64 n] w fun e w' => e = .returned (.int .u8 (byteAt x n)) ∧ w' = w := by
  have HX := Lib.hid hx
  clear hx
  go_enter Try.func97, Try.ntmps97
  go_wp2
  go_loopg [0, 6] n (fun q y i wr => ∃ k : Nat, k + q = n ∧ i = .int .i64 k ∧ y = .int .u64 (divK x k) ∧ wr = w)
  case atStart => exact ⟨0, by omega, rfl, by rw [divK_zero], rfl⟩
  case round =>
    obtain ⟨k, hk, rfl, rfl, rfl⟩ := hrel
    have HK := Lib.hid hk
    have hkn : k ≤ n := by omega
    clear hk
    by_cases h8 : k < n
    · have hq := divK_wrap x k HX.out
      go_wp2
      go_roundg (gk - 1)
      case measure => have := HK.out; omega
      case rel => exact ⟨k + 1, by have := HK.out; omega, by go_num, rfl, rfl⟩
    · have hkk : k = n := by omega
      have HKK := Lib.hid hkk
      clear hkk
      go_wp2
      go_ret
      refine ⟨ret_u8 ?_, rfl⟩
      rw [← HKK.out]
      show _ = ((divK x k % 256 : Nat) : Int)
      omega

def doubled (k : Nat) : Nat := 2 ^ k
theorem doubled_succ (k : Nat) : doubled (k + 1) = 2 * doubled k := by unfold doubled; rw [Nat.pow_succ]; omega
theorem doubled_le (k : Nat) (h : k ≤ 7) : doubled k ≤ 128 := Nat.pow_le_pow_right (n := 2) (by decide) h
theorem refWith_any (m n : Nat) (w : World) (hn : n < 8) (hm : m + 2 ^ n < 256) : Calls Try.prog 71 #[.int .u8 m, .int .i64 n] w fun e w' => e = .returned (.int .u8 ((m + 2 ^ n : Nat) : Int)) ∧ w' = w := by
  have hm' : m + doubled n < 256 := hm
  clear hm
  go_enter Try.func71, Try.ntmps71
  go_wp2
  go_loopg [5, 7] n (fun q y i wr => ∃ k : Nat, k + q = n ∧ i = .int .i64 k ∧ y = .int .u8 (doubled k) ∧ wr = w)
  case atStart => exact ⟨0, by omega, rfl, rfl, rfl⟩
  case round =>
    obtain ⟨k, hk, rfl, rfl, rfl⟩ := hrel
    have HK := Lib.hid hk
    have hkn : k ≤ n := by omega
    clear hk
    have hd := doubled_le k (by omega)
    by_cases h8 : k < n
    · have hd2 := doubled_le (k + 1) (by omega)
      rw [doubled_succ] at hd2
      go_wp2
      go_roundg (gk - 1)
      case measure => have := HK.out; omega
      case rel => exact ⟨k + 1, by have := HK.out; omega, by go_num, by rw [doubled_succ]; go_num, rfl⟩
    · obtain rfl : n = k := by omega
      go_wp2
      go_ret
      exact ⟨ret_u8 (by show _ = ((m + doubled n : Nat) : Int); omega), rfl⟩

def halved (m k : Nat) : Nat := m / 2 ^ k
theorem halved_zero (m : Nat) : halved m 0 = m := by simp [halved]
theorem halved_succ (m k : Nat) : halved m (k + 1) = halved m k / 2 := by unfold halved; rw [Nat.pow_succ, Nat.div_div_eq_div_mul]
theorem refHas_any (m n : Nat) (w : World) (hm : m < 256) (hn : n < 8) : Calls Try.prog 69 #[.int .u8 m, .int .i64 n] w fun e w' => e = .returned (.bool (hasM m n)) ∧ w' = w := by
  go_enter Try.func69, Try.ntmps69
  go_wp2
  go_loopg [0, 6] n (fun q y i wr => ∃ k : Nat, k + q = n ∧ i = .int .i64 k ∧ y = .int .u8 (halved m k) ∧ wr = w)
  case atStart => exact ⟨0, by omega, rfl, by rw [halved_zero], rfl⟩
  case round =>
    obtain ⟨k, hk, rfl, rfl, rfl⟩ := hrel
    have HK := Lib.hid hk
    have hkn : k ≤ n := by omega
    have hh : halved m k < 256 := Nat.lt_of_le_of_lt (Nat.div_le_self _ _) hm
    clear hk
    by_cases h8 : k < n
    · have hq : IntKind.u8.wrap ((halved m k : Int) / 2) = ((halved m (k + 1) : Nat) : Int) := by rw [halved_succ, IntKind.wrap_u8]; omega
      go_wp2
      go_roundg (gk - 1)
      case measure => have := HK.out; omega
      case rel => exact ⟨k + 1, by have := HK.out; omega, by go_num, rfl, rfl⟩
    · have hkk : k = n := by omega
      have HKK := Lib.hid hkk
      clear hkk
      go_wp2
      go_ret
      refine ⟨ret_bool ?_, rfl⟩
      rw [← HKK.out]
      show _ = (halved m k % 2 == 1)
      rw [Bool.eq_iff_iff]; simp; omega

def ofK (l : List Nat) (k : Nat) : Nat := word ((l.take 8).drop k)
theorem ofK_big (l : List Nat) (k : Nat) (h : 8 ≤ k) : ofK l k = 0 := by
  unfold ofK; rw [List.drop_of_length_le (by simp; omega)]; rfl
theorem ofK_end (l : List Nat) (k : Nat) (h : l.length ≤ k) : ofK l k = 0 := by
  unfold ofK; rw [List.drop_of_length_le (by simp; omega)]; rfl
theorem ofK_step (l : List Nat) (k : Nat) (h : k < 8) (hk : k < l.length) : ofK l k = nthN l k + 256 * ofK l (k + 1) := by
  unfold ofK
  have hl : k < (l.take 8).length := by simp; omega
  rw [List.drop_eq_getElem_cons hl, word, List.getElem_take, nthN_eq hk]
theorem ofK_lt (l : List Nat) (hl : Bytey l) (k : Nat) (hk : 1 ≤ k) : ofK l k < 2 ^ 56 := by
  unfold ofK
  have hb : Bytey ((l.take 8).drop k) := fun b hb => hl b (List.mem_of_mem_take (List.mem_of_mem_drop hb))
  exact Nat.lt_of_lt_of_le (word_lt hb) (Nat.le_trans (Nat.pow_le_pow_right (by decide) (show ((l.take 8).drop k).length ≤ 7 by simp; omega)) (by decide))

/-- What is told lane by lane. -/
def maskK (f : Nat → Bool) (k : Nat) : Nat := maskOf ((List.range 8).map fun i => decide (i < k) && f i)
theorem maskK_zero (f : Nat → Bool) : maskK f 0 = 0 := by unfold maskK; simp [maskOf, List.range, List.range.loop]
theorem maskK_full (f : Nat → Bool) : maskK f 8 = maskOf ((List.range 8).map f) := by
  unfold maskK
  exact congrArg maskOf (List.map_congr_left fun i hi => by simp [List.mem_range.1 hi])
theorem maskOf_add : ∀ (l m : List Bool) (k : Nat), l.length = m.length → k < l.length → (∀ i, i ≠ k → l.getD i false = m.getD i false) → l.getD k false = false → m.getD k false = true → maskOf m = maskOf l + 2 ^ k
  | [], _, k, _, h, _, _, _ => by simp at h
  | c :: r, [], _, h, _, _, _, _ => by simp at h
  | c :: r, d :: s, 0, he, _, hh, h0, h1 => by
    have e : r = s := by
      apply List.ext_getElem (by simpa using he)
      intro i h2 h3
      have := hh (i + 1) (by omega)
      simpa [List.getD, h2, h3] using this
    simp at h0 h1
    subst h0 h1 e
    simp [maskOf]; omega
  | c :: r, d :: s, k + 1, he, hk, hh, h0, h1 => by
    have hc : c = d := by have := hh 0 (by omega); simpa using this
    have := maskOf_add r s k (by simpa using he) (by simpa using hk) (fun i hi => by have := hh (i + 1) (by omega); simpa using this) (by simpa using h0) (by simpa using h1)
    subst hc
    simp only [maskOf, Nat.pow_succ]; omega
theorem getD_range (g : Nat → Bool) (i : Nat) : ((List.range 8).map g).getD i false = (decide (i < 8) && g i) := by
  rw [List.getD_eq_getElem?_getD, List.getElem?_map]
  by_cases h : i < 8
  · rw [List.getElem?_range h]; simp [h]
  · rw [List.getElem?_eq_none (by simpa using h)]; simp [h]
theorem maskK_yes (f : Nat → Bool) (k : Nat) (hk : k < 8) (h : f k = true) : maskK f (k + 1) = maskK f k + 2 ^ k := by
  unfold maskK
  refine maskOf_add _ _ k (by simp) (by simpa using hk) (fun i hi => ?_) ?_ ?_
  · rw [getD_range, getD_range]
    by_cases h1 : i < k
    · simp [h1, show i < k + 1 by omega]
    · simp [h1, show ¬ i < k + 1 by omega]
  · rw [getD_range]; simp
  · rw [getD_range]; simp [hk, h]
theorem maskK_no (f : Nat → Bool) (k : Nat) (h : f k = false) : maskK f (k + 1) = maskK f k := by
  unfold maskK
  congr 1
  apply List.map_congr_left
  intro i _
  by_cases h1 : i = k
  · subst h1; simp [h]
  · by_cases h2 : i < k
    · simp [h2, show i < k + 1 by omega]
    · simp [h2, show ¬ i < k + 1 by omega]
theorem maskK_lt (f : Nat → Bool) (k : Nat) : maskK f k < 256 := maskOf_lt8 _

/-! ### The bytes, as a row that is laid -/
theorem info_u8z : (Try.prog.info? 5).map (fun i => (i.zero, i.size, i.bytes)) = some (some (.int .u8 0), 1, 8 / 8) := by kernel_rfl
theorem u8s_succ (l : List Nat) (k : Nat) (h : k < l.length) : u8s (l.take (k + 1)) = u8s (l.take k) ++ [.int .u8 (nthN l k)] := by
  unfold u8s
  rw [List.take_succ_eq_append_getElem h, List.map_append, nthN_eq h]; rfl
theorem nthN_bytes8 (x k : Nat) (h : k < 8) : nthN (bytes8 x) k = byteAt x k := bytes8_getD x k h

theorem refBytes_any (x : Nat) (w : World) (hx : x < 2 ^ 64) : Calls Try.prog 70 #[.int .u64 x] w fun e w' => ∃ g cap, e = .returned (.slice (some ⟨g, 0, none⟩) 8 cap) ∧ Below w.heap.size w w' ∧ w'.ownsRow w.heap.size 5 1 (.slice (some ⟨g, 0, none⟩) 8 cap) 8 (u8s (bytes8 x)) := by
  obtain ⟨i0, hi, hz0, hz1, hz2⟩ := info_parts info_u8z
  have HX := Lib.hid hx
  clear hx
  go_enter Try.func70, Try.ntmps70
  go_wp2
  go_loopg [3, 5] 8 (fun q v i wr => ∃ k : Nat, k + q = 8 ∧ i = .int .i64 k ∧ Below w.heap.size w wr ∧ wr.ownsRow w.heap.size 5 1 v k (u8s ((bytes8 x).take k)))
  case atStart => exact ⟨0, rfl, rfl, Below.refl _ _, World.ownsRow_nil _ _ _ _⟩
  case round =>
    obtain ⟨k, hk, rfl, hB, hrow⟩ := hrel
    have HK := Lib.hid hk
    have hkn : k ≤ 8 := by omega
    have hsz := hB.size
    clear hk
    by_cases h8 : k < 8
    · have hc := refAt_any x k wr HX.out (by omega)
      have hs := u8s_succ (bytes8 x) k (by rw [length_bytes8]; exact h8)
      rw [nthN_bytes8 x k h8] at hs
      have HS := Lib.hid hs
      have HC := Lib.hid hc
      clear hs hc
      go_wp2_with (first | (go_at_call 97; refine HC.out.mono ?_; rintro e w' ⟨rfl, rfl⟩) | (at_builtin; refine wpList_append _ rfl (.tmp 8) (.tmp 12) 116 rfl w.heap.size 5 i0 (.int .u8 0) 1 (8 / 8) Try.underlying116 hi hz0 hz1 hz2 rfl (by decide) _ k _ rfl (hrow.alloc _) ⟨_, 0, none⟩ 1 1 [.int .u8 (byteAt x k)] rfl rfl (cell_one_new _ _ _) (by simp [Value.oneCell']) (by unfold maxLen; omega) (by omega) (by simp; omega) (by decide) ?_; intro v' w1 hown' hgrow hwh))
      go_roundg (gk - 1)
      case measure => have := HK.out; omega
      case rel =>
        refine ⟨k + 1, by have := HK.out; omega, by go_num, ?_, by rw [HS.out]; exact hown'⟩
        exact (hB.alloc hsz _).grown hgrow (by simp; omega) (fun j hj => (hrow.lt j hj).1)
    · obtain rfl : k = 8 := by omega
      obtain ⟨g, cap, rfl⟩ := ownsRow_succ hrow
      rw [show (bytes8 x).take 8 = bytes8 x from List.take_of_length_le (by rw [length_bytes8]; exact Nat.le_refl _)] at hrow
      have HR := Lib.hid hrow
      clear hrow
      go_wp2
      go_ret
      exact ⟨g, cap, rfl, hB, HR.out⟩

end Go.Proofs.Ytoklgjlmjkhmbaa

/-
  The document's answer for lanes, the masks and the words that are put together.
-/
set_option linter.unusedSimpArgs false
set_option linter.unusedVariables false
set_option maxRecDepth 100000
namespace Go.Proofs.Ytoklgjlmjkhmbaa
open Go.RowKit

theorem row_cell {w : World} {base : Nat} {e : TypeId} {g n cap : Nat} {xs : List Value} (h : w.ownsRow base e 1 (.slice (some ⟨g, 0, none⟩) n cap) n xs) {j : Nat} {u : Value} (hj : j < n) (hu : xs[j]? = some u) : w.cell? ⟨g, j, none⟩ = some u := by
  rw [h.cellAt j (by omega)]; exact hu
theorem row_size {w : World} {base : Nat} {e : TypeId} {v : Value} {n : Nat} {xs : List Value} (h : w.ownsRow base e 1 v n xs) : xs.length = n := by rw [h.1]; omega


def eqF (x b i : Nat) : Bool := byteAt x i == b
def belF (x b i : Nat) : Bool := decide (byteAt x i < b)
def alF (v x i : Nat) : Bool := byteAt v i == byteAt x i
theorem eqF_mask (x b : Nat) : maskOf ((List.range 8).map (eqF x b)) = equalM x b := rfl
theorem belF_mask (x b : Nat) : maskOf ((List.range 8).map (belF x b)) = belowM x b := rfl
theorem alF_mask (v x : Nat) : maskOf ((List.range 8).map (alF v x)) = alikeM v x := rfl

theorem refEqual_any (x b : Nat) (w : World) (hx : x < 2 ^ 64) (hb : b < 256) : Calls Try.prog 44 #[.int .u64 x, .int .u8 b] w fun e w' => e = .returned (.int .u8 (equalM x b)) ∧ Below w.heap.size w w' := by
  have HX := Lib.hid hx
  clear hx
  go_enter Try.func44, Try.ntmps44
  go_wp2_with fail
  refine (refBytes_any x _ HX.out).mono ?_
  rintro e w1 ⟨g, cap, rfl, hb1, hrow⟩
  have HR := Lib.hid hrow
  clear hrow
  go_wp2
  go_loopg [5, 11] 8 (fun q y i wr => ∃ k : Nat, k + q = 8 ∧ i = .int .i64 k ∧ y = .int .u8 (maskK (eqF x b) k) ∧ wr = w1)
  case atStart => exact ⟨0, rfl, rfl, by rw [maskK_zero]; rfl, rfl⟩
  case round =>
    obtain ⟨k, hk, rfl, rfl, rfl⟩ := hrel
    have HK := Lib.hid hk
    have hkn : k ≤ 8 := by omega
    clear hk
    by_cases h8 : k < 8
    · have hdk : decide ((k : Int) < 8) = true := by simp; omega
      have c1 : wr.cell? ⟨g, k, none⟩ = some (.int .u8 (byteAt x k)) := row_cell HR.out h8 (by rw [u8s_get (by rw [length_bytes8]; exact h8), nthN_bytes8 x k h8])
      by_cases hf : (eqF x b) k = true
      · have hm := maskK_yes (eqF x b) k h8 hf
        have hlt := maskK_lt (eqF x b) (k + 1)
        rw [hm] at hlt
        have hw := refWith_any (maskK (eqF x b) k) k wr h8 hlt
        rw [← hm] at hw
        have HW := Lib.hid hw
        have ht : ((byteAt x k : Int) == (b : Int)) = true := by simp [eqF] at hf ⊢; omega
        clear hm hlt hw hf
        go_wp2_with (first | (go_at_call 71; refine HW.out.mono ?_; rintro e w' ⟨rfl, rfl⟩))
        go_roundg (gk - 1)
        case measure => have := HK.out; omega
        case rel => exact ⟨k + 1, by have := HK.out; omega, by go_num, rfl, rfl⟩
      · have hm := Lib.hid (maskK_no (eqF x b) k (by simpa using hf))
        have ht : ((byteAt x k : Int) == (b : Int)) = false := by simp [eqF] at hf ⊢; omega
        clear hf
        go_wp2
        go_roundg (gk - 1)
        case measure => have := HK.out; omega
        case rel => exact ⟨k + 1, by have := HK.out; omega, by go_num, by rw [hm.out], rfl⟩
    · obtain rfl : k = 8 := by omega
      rw [maskK_full, eqF_mask]
      go_wp2
      go_ret
      exact ⟨rfl, hb1⟩

/-! ### Blend -/
def blendK (v u m k : Nat) : List Nat := (List.range 8).map fun i => if (decide (i < k) && hasM m i) = true then byteAt u i else byteAt v i
theorem blendK_zero (v u m : Nat) : blendK v u m 0 = bytes8 v := by unfold blendK bytes8; exact List.map_congr_left fun i _ => by simp
theorem blendK_full (v u m : Nat) : ofW (blendK v u m 8) = blendW v u m := by
  unfold ofW blendW blendK
  rw [List.take_of_length_le (by simp)]
  exact congrArg word (List.map_congr_left fun i hi => by simp [List.mem_range.1 hi])
theorem blendK_bytey (v u m k : Nat) : Bytey (blendK v u m k) := bytey_range _ fun i => by split <;> exact byteAt_lt _ _
theorem blendK_no (v u m k : Nat) (h : hasM m k = false) : blendK v u m (k + 1) = blendK v u m k := by
  unfold blendK
  exact List.map_congr_left fun i _ => by
    by_cases h1 : i = k
    · subst h1; simp [h]
    · by_cases h2 : i < k
      · simp [h2, show i < k + 1 by omega]
      · simp [h2, show ¬ i < k + 1 by omega]
theorem blendK_yes (v u m k : Nat) (hk : k < 8) (h : hasM m k = true) : blendK v u m (k + 1) = (blendK v u m k).set k (byteAt u k) := by
  unfold blendK
  apply List.ext_getElem (by simp)
  intro i h1 h2
  simp only [List.getElem_map, List.getElem_range, List.getElem_set]
  by_cases h3 : k = i
  · subst h3; simp [h]
  · rw [if_neg h3]
    by_cases h4 : i < k
    · simp [h4, show i < k + 1 by omega]
    · simp [h4, show ¬ i < k + 1 by omega]
theorem blendK_length (v u m k : Nat) : (blendK v u m k).length = 8 := by simp [blendK]

end Go.Proofs.Ytoklgjlmjkhmbaa

/-
  The walk of LanesTurns: it answers true.
-/
set_option linter.unusedSimpArgs false
set_option linter.unusedVariables false
namespace Go.Proofs.Ytoklgjlmjkhmbaa
open Go.RowKit

theorem byteAt_turnW (x m i : Nat) (hi : i < 8) : byteAt (turnW x m) i = byteAt x ((i + m) % 8) := by
  unfold turnW
  rw [byteAt_word (turned_bytey x m)]
  unfold turned
  rw [List.getD_eq_getElem?_getD, List.getElem?_map, List.getElem?_range hi]
  simp only [Option.map_some, Option.getD_some]
  exact bytes8_getD _ _ (Nat.mod_lt _ (by decide))
theorem turnW_zero (x m : Nat) (hx : x < 2 ^ 64) (hm : m % 8 = 0) : turnW x m = x :=
  word_ext (turnW_lt _ _) hx fun i hi => by rw [byteAt_turnW x m i hi]; congr 1; omega
theorem turnW_turnW (x m k j : Nat) (hj : j % 8 = (m + k) % 8) : turnW (turnW x m) k = turnW x j :=
  word_ext (turnW_lt _ _) (turnW_lt _ _) fun i hi => by
    rw [byteAt_turnW _ k i hi, byteAt_turnW _ m _ (Nat.mod_lt _ (by decide)), byteAt_turnW _ j i hi]; congr 1; omega

/-- The word turned once more and once more. -/
def turnK (x k : Nat) : Nat := turnW x (k % 8)
theorem turnK_lt (x k : Nat) : turnK x k < 2 ^ 64 := turnW_lt _ _
theorem turnK_succ (x k : Nat) : turnW (turnK x k) 1 = turnK x (k + 1) := turnW_turnW _ _ _ _ (by omega)
theorem turnK_zero (x : Nat) (hx : x < 2 ^ 64) : turnK x 0 = x := turnW_zero _ _ hx rfl
theorem turnK_eight (x : Nat) (hx : x < 2 ^ 64) : turnK x 8 = x := turnW_zero _ _ hx rfl
theorem bytesA_get (x k : Nat) (hk : k < 8) : (bytesA x)[k]? = some (.int .u8 (byteAt x k)) := by
  obtain rfl | rfl | rfl | rfl | rfl | rfl | rfl | rfl : k = 0 ∨ k = 1 ∨ k = 2 ∨ k = 3 ∨ k = 4 ∨ k = 5 ∨ k = 6 ∨ k = 7 := by omega
  all_goals rfl

end Go.Proofs.Ytoklgjlmjkhmbaa

/-
  The document's answer for lanes that are told and turned; the library's Clone and Equal.
-/
set_option linter.unusedSimpArgs false
set_option linter.unusedVariables false
set_option maxRecDepth 100000
namespace Go.Proofs.Ytoklgjlmjkhmbaa
open Go.RowKit

theorem row_slice {w : World} {base : Nat} {e : TypeId} {size : Nat} {v : Value} {n : Nat} {xs : List Value} (h : w.ownsRow base e size v n xs) : ∃ sp cap, v = .slice sp n cap := by
  rcases h.2 with ⟨h1, h0⟩ | ⟨g, cap, cur, h1, _⟩
  · subst h0; exact ⟨_, _, h1⟩
  · exact ⟨_, _, h1⟩

/-! ### All -/
def lanesK (m k : Nat) : List Nat := (List.range k).filter (hasM m)
theorem lanesK_yes (m k : Nat) (h : hasM m k = true) : lanesK m (k + 1) = lanesK m k ++ [k] := by unfold lanesK; rw [List.range_succ, List.filter_append]; simp [h]
theorem lanesK_no (m k : Nat) (h : hasM m k = false) : lanesK m (k + 1) = lanesK m k := by unfold lanesK; rw [List.range_succ, List.filter_append]; simp [h]
theorem lanesK_full (m : Nat) : lanesK m 8 = lanesOf m := rfl
theorem lanesK_le (m k : Nat) : (lanesK m k).length ≤ k := by unfold lanesK; exact Nat.le_trans (List.length_filter_le _ _) (by simp)

theorem refAll_any (m : Nat) (w : World) (hm : m < 256) : Calls Try.prog 43 #[.int .u8 m] w fun e w' => ∃ sp n cap, e = .returned (.slice sp n cap) ∧ Below w.heap.size w w' ∧ w'.ownsRow w.heap.size 3 1 (.slice sp n cap) (lanesOf m).length (ints (lanesOf m)) := by
  obtain ⟨i0, hi, hz0, hz1, hz2⟩ := info_parts info_int
  go_enter Try.func43, Try.ntmps43
  go_wp2
  go_loopg [3, 5] 8 (fun q v i wr => ∃ k : Nat, k + q = 8 ∧ i = .int .i64 k ∧ Below w.heap.size w wr ∧ wr.ownsRow w.heap.size 3 1 v (lanesK m k).length (ints (lanesK m k)))
  case atStart => exact ⟨0, rfl, rfl, Below.refl _ _, World.ownsRow_nil _ _ _ _⟩
  case round =>
    obtain ⟨k, hk, rfl, hB, hrow⟩ := hrel
    have HK := Lib.hid hk
    have hkn : k ≤ 8 := by omega
    have hsz := hB.size
    have hlk := lanesK_le m k
    clear hk
    by_cases h8 : k < 8
    · have HH := Lib.hid (refHas_any m k wr hm h8)
      have hdk : decide ((k : Int) < 8) = true := by simp; omega
      cases hf : hasM m k with
      | true =>
        have hs := Lib.hid (lanesK_yes m k hf)
        rw [hf] at HH
        clear hf
        go_wp2_with (first | (go_at_call 69; refine HH.out.mono ?_; clear HH; rintro e w' ⟨rfl, rfl⟩) | (at_builtin; refine wpList_append _ rfl (.tmp 11) (.tmp 13) 64 rfl w.heap.size 3 i0 (.int .i64 0) 1 8 Try.underlying64 hi hz0 hz1 hz2 rfl (by decide) _ (lanesK m k).length _ rfl (hrow.alloc _) ⟨_, 0, none⟩ 1 1 [.int .i64 k] rfl rfl (cell_one_new _ _ _) (by simp [Value.oneCell']) (by unfold maxLen; omega) (by omega) (by simp; omega) (by decide) ?_; intro v' w1 hown' hgrow hwh))
        go_roundg (gk - 1)
        case measure => have := HK.out; omega
        case rel =>
          refine ⟨k + 1, by have := HK.out; omega, by go_num, (hB.alloc hsz _).grown hgrow (by simp; omega) (fun j hj => (hrow.lt j hj).1), ?_⟩
          rw [hs.out]
          have h5 := hown'
          rw [show ints (lanesK m k) ++ [.int .i64 (k : Int)] = ints (lanesK m k ++ [k]) by unfold ints; rw [List.map_append]; rfl, show (lanesK m k).length + 1 = (lanesK m k ++ [k]).length by simp] at h5
          exact h5
      | false =>
        have hs := Lib.hid (lanesK_no m k hf)
        rw [hf] at HH
        clear hf
        go_wp2_with (first | (go_at_call 69; refine HH.out.mono ?_; clear HH; rintro e w' ⟨rfl, rfl⟩))
        go_roundg (gk - 1)
        case measure => have := HK.out; omega
        case rel => exact ⟨k + 1, by have := HK.out; omega, by go_num, hB, by rw [hs.out]; exact hrow⟩
    · obtain rfl : k = 8 := by omega
      rw [lanesK_full] at hrow
      obtain ⟨sp, cap, rfl⟩ := row_slice hrow
      have HR := Lib.hid hrow
      clear hrow hlk
      go_wp2
      go_ret
      exact ⟨sp, _, cap, rfl, hB, HR.out⟩

/-! ### Turn -/
def turnedL (x m : Nat) : List Nat := turned (bytes8 x) m
theorem nthN_turned (x m k : Nat) (hk : k < 8) : nthN (turnedL x m) k = byteAt x ((k + m) % 8) := by
  unfold nthN turnedL turned
  rw [List.getD_eq_getElem?_getD, List.getElem?_map, List.getElem?_range hk]
  exact bytes8_getD _ _ (Nat.mod_lt _ (by decide))
theorem turnedL_length (x m : Nat) : (turnedL x m).length = 8 := by simp [turnedL, turned]
theorem turnedL_full (x m : Nat) : ofW (turnedL x m) = turnW x m := by
  unfold ofW turnW turnedL; rw [List.take_of_length_le (by simp [turned])]

/-! ### slices.Clone, slices.Equal -/
/-- Numbers of one kind. -/
def intsOf (k : IntKind) (l : List Int) : List Value := l.map (Value.int k)
theorem intsOf_get {k : IntKind} {l : List Int} {j : Nat} (h : j < l.length) : (intsOf k l)[j]? = some (.int k (nthI l j)) := by
  unfold intsOf; rw [List.getElem?_map, nthI_eq h]; rfl

end Go.Proofs.Ytoklgjlmjkhmbaa

/-
  A labelled statement inside a function that an iterator value names: the kit's law for scopes, inside a fence.
-/
namespace Go.Proofs.Ytoklgjlmjkhmbaa
section
variable {F : Fence} {n : Nat} {P : Program} {b : Frame} {a : Act} {k : List Item} {cs : List Frame} {w : World} {Q : Exit → Act → World → Prop}
theorem stepR_scope {c : Code} : step P (lone (b.atR a (.code (.scope c) :: k)) cs w) = .next (lone (b.atR a (.code c :: .inScope c :: k)) cs w) :=
  step_lone_go (by simp [stepG, stepG.exec, Frame.atR])
theorem stepR_inScope {c : Code} : step P (lone (b.atR a (.inScope c :: k)) cs w) = .next (lone (b.atR a k) cs w) :=
  step_lone_go (by simp [stepG, stepG.exec, Frame.atR])
theorem wpIn_scope_straight {c : Code} (h : c.wpIn F n P (Exit.noGoto Q) a w) : (Code.scope c).wpIn F n P Q a w := by
  intro b k cs hro hb hr
  have h0 : (lone (b.atR a (.code (.scope c) :: k)) cs w).fenced P F := fenced_calm hb hr rfl
  obtain ⟨e, a₁, w₁, hq, harr⟩ := h b (.inScope c :: k) cs hro hb hr
  cases e with
  | normal => exact ⟨.normal, a₁, w₁, hq, .head h0 stepR_scope (StepsIn.trans harr (.one (fenced_calm hb hr rfl) stepR_inScope))⟩
  | exit id =>
    have hx : exitTo id (.inScope c :: k) = exitTo id k := by simp [exitTo]
    exact ⟨.exit id, a₁, w₁, hq, fun k' hk => .head h0 stepR_scope (harr.1 k' (by rw [hx]; exact hk)),
      fun hr' hk => let ⟨k₁, h1, h2⟩ := harr.2 hr' (by rw [hx]; exact hk); ⟨k₁, h1, .head h0 stepR_scope h2⟩⟩
  | goto l => exact hq.elim
  | ret => exact ⟨_, a₁, w₁, hq, .of_steps (.one h0 stepR_scope) harr⟩
  | panic ch => exact ⟨_, a₁, w₁, hq, .of_steps (.one h0 stepR_scope) harr⟩
  | outgrown => exact ⟨_, a₁, w₁, hq, .of_steps (.one h0 stepR_scope) harr⟩
end
end Go.Proofs.Ytoklgjlmjkhmbaa

/-
  A function's way out behind any number of ranges over functions.
-/
set_option linter.unusedSimpArgs false
set_option linter.unusedVariables false
namespace Go.Proofs.Ytoklgjlmjkhmbaa
open Go.RowKit

def marksOf (bs : List Nat) : List Deferred := bs.map fun D => { target := .collected D, args := #[] }
def shutAll (bs : List Nat) (W : World) : World := bs.foldl (fun W D => W.putObj D (.deferred none)) W
theorem shutAll_other {b : Nat} : ∀ {bs : List Nat} {W : World}, b ∉ bs → (shutAll bs W).heap[b]? = W.heap[b]?
  | [], _, _ => rfl
  | D :: bs, W, h => by
    have h1 : b ≠ D := fun e => h (by rw [e]; exact List.mem_cons_self ..)
    show (shutAll bs (W.putObj D (.deferred none))).heap[b]? = _
    rw [shutAll_other (fun hb => h (List.mem_cons_of_mem _ hb)), World.putObj_heap_other h1]
theorem below_shutAll {n : Nat} {w : World} : ∀ {bs : List Nat} {W : World}, Below n w W → (∀ D ∈ bs, n ≤ D) → Below n w (shutAll bs W)
  | [], _, h, _ => h
  | D :: bs, W, h, hD => below_shutAll (bs := bs) (below_putObj h (hD D (List.mem_cons_self ..)) _) (fun D' h' => hD D' (List.mem_cons_of_mem _ h'))
theorem leaves_marks {F : Fence} {n : Nat} {P : Program} {fn : Func} {R : Ending → World → Prop} {tmps : Array Value} {v : Value} : ∀ {bs : List Nat} {W : World}, bs.Nodup → (∀ D ∈ bs, W.heap[D]? = some (.deferred (some []))) →
    (results fn tmps).run P (shutAll bs W) = .ok v (shutAll bs W) → R (.returned v) (shutAll bs W) → LeavesInM F n P fn tmps R (marksOf bs) .returning W
  | [], W, _, _, hr, hR => ⟨v, hr, hR⟩
  | D :: bs, W, hnd, hD, hr, hR => by
    obtain ⟨h1, h2⟩ := List.nodup_cons.1 hnd
    refine ⟨by simp, .inl ⟨_, _, rfl, run_takeDeferred (hD D (List.mem_cons_self ..)), leaves_marks (bs := bs) h2 (fun D' h' => ?_) hr hR⟩⟩
    exact (World.putObj_heap_other (fun (e : D' = D) => h1 (by rw [← e]; exact h'))).trans (hD D' (List.mem_cons_of_mem _ h'))
theorem post_marks {F : Fence} {n : Nat} {P : Program} {fn : Func} {R : Ending → World → Prop} {e : Exit} {tmps : Array Value} {bs : List Nat} {W : World} {v : Value} (he : e = .ret ∨ e = .normal) (hnd : bs.Nodup)
    (hD : ∀ D ∈ bs, W.heap[D]? = some (.deferred (some []))) (hr : (results fn tmps).run P (shutAll bs W) = .ok v (shutAll bs W)) (hR : R (.returned v) (shutAll bs W)) :
    bodyPostM F n P fn R e { tmps := tmps, defers := marksOf bs } W := by
  have h := leaves_marks (F := F) (n := n) hnd hD hr hR
  rcases he with rfl | rfl
  · exact h
  · exact h
end Go.Proofs.Ytoklgjlmjkhmbaa

/-
  Plain laws of hashes: no program in sight.
-/
set_option linter.unusedSimpArgs false
set_option linter.unusedVariables false
namespace Go.Proofs.Ytoklgjlmjkhmbaa

def hOne : Nat := 0xbf58476d1ce4e5b9
def hTwo : Nat := 0x94d049bb133111eb
def hOneBack : Nat := 0x96de1b173f119089
def hTwoBack : Nat := 0x319642b2d24d8ec3
theorem one_back : hOne * hOneBack % 2 ^ 64 = 1 := by decide +kernel
theorem two_back : hTwo * hTwoBack % 2 ^ 64 = 1 := by decide +kernel

def hMul (a b : Nat) : Nat := a * b % 2 ^ 64
def hFold (x b : Nat) : Nat := x ^^^ x / 2 ^ b
def hUnfold (x b : Nat) : Nat := x ^^^ (x ^^^ x / 2 ^ b) / 2 ^ b
def hOf (seed key : Nat) : Nat := hFold (hMul (hFold (hMul (key ^^^ seed) hOne) 32) hTwo) 29
def hKey (seed h : Nat) : Nat := hMul (hUnfold (hMul (hUnfold h 29) hTwoBack) 32) hOneBack ^^^ seed
def hPrefix (h n : Nat) : Nat := h / 2 ^ (64 - n)
def hParts (a b : Nat) : Nat := 64 - Lib.bitLen (a ^^^ b)

theorem hMul_lt (a b : Nat) : hMul a b < 2 ^ 64 := Nat.mod_lt _ (by decide)
theorem hFold_lt {x : Nat} (b : Nat) (h : x < 2 ^ 64) : hFold x b < 2 ^ 64 := Nat.xor_lt_two_pow h (Nat.lt_of_le_of_lt (Nat.div_le_self _ _) h)
theorem hUnfold_lt {x : Nat} (b : Nat) (h : x < 2 ^ 64) : hUnfold x b < 2 ^ 64 := Nat.xor_lt_two_pow h (Nat.lt_of_le_of_lt (Nat.div_le_self _ _) (hFold_lt b h))
theorem hOf_lt (seed key : Nat) : hOf seed key < 2 ^ 64 := hFold_lt _ (hMul_lt _ _)
theorem hKey_lt {seed : Nat} (h : Nat) (hs : seed < 2 ^ 64) : hKey seed h < 2 ^ 64 := Nat.xor_lt_two_pow (hMul_lt _ _) hs
theorem hPrefix_lt {h : Nat} (n : Nat) (hh : h < 2 ^ 64) : hPrefix h n < 2 ^ 64 := Nat.lt_of_le_of_lt (Nat.div_le_self _ _) hh

/-- A bit of a word divided by a power of two. -/
theorem testBit_div (x b i : Nat) : (x / 2 ^ b).testBit i = x.testBit (i + b) := by
  rw [← Nat.shiftRight_eq_div_pow, Nat.testBit_shiftRight, Nat.add_comm]
theorem testBit_fold (x b i : Nat) : (hFold x b).testBit i = (x.testBit i ^^ x.testBit (i + b)) := by
  unfold hFold; rw [Nat.testBit_xor, testBit_div]
theorem testBit_unfold (x b i : Nat) : (hUnfold x b).testBit i = (x.testBit i ^^ (x.testBit (i + b) ^^ x.testBit (i + b + b))) := by
  unfold hUnfold; rw [Nat.testBit_xor, testBit_div, Nat.testBit_xor, testBit_div]
theorem high_false {x : Nat} (h : x < 2 ^ 64) {i : Nat} (hi : 64 ≤ i) : x.testBit i = false := Nat.testBit_lt_two_pow (Nat.lt_of_lt_of_le h (Nat.pow_le_pow_right (by decide) hi))

theorem unfold_fold {x b : Nat} (h : x < 2 ^ 64) (hb : 64 ≤ b + b + b) : hUnfold (hFold x b) b = x := by
  refine Nat.eq_of_testBit_eq fun i => ?_
  rw [testBit_unfold, testBit_fold, testBit_fold, testBit_fold, high_false h (show 64 ≤ i + b + b + b by omega)]
  cases x.testBit i <;> cases x.testBit (i + b) <;> cases x.testBit (i + b + b) <;> rfl
theorem fold_unfold {x b : Nat} (h : x < 2 ^ 64) (hb : 64 ≤ b + b + b) : hFold (hUnfold x b) b = x := by
  refine Nat.eq_of_testBit_eq fun i => ?_
  rw [testBit_fold, testBit_unfold, testBit_unfold, high_false h (show 64 ≤ i + b + b + b by omega)]
  cases x.testBit i <;> cases x.testBit (i + b) <;> cases x.testBit (i + b + b) <;> rfl
/-- What was folded: each bit by the one above. -/
theorem unfold_bit {x b : Nat} (h : x < 2 ^ 64) (hb : 64 ≤ b + b + b) (i : Nat) : (hUnfold x b).testBit i = (x.testBit i ^^ (hUnfold x b).testBit (i + b)) := by
  rw [testBit_unfold, testBit_unfold, high_false h (show 64 ≤ i + b + b + b by omega)]
  simp

theorem mul_mul_mod (a b c : Nat) : hMul (hMul a b) c = a * (b * c) % 2 ^ 64 := by
  unfold hMul; rw [Nat.mod_mul_mod, Nat.mul_assoc]
theorem mul_back {a b c : Nat} (ha : a < 2 ^ 64) (h : b * c % 2 ^ 64 = 1) : hMul (hMul a b) c = a := by
  rw [mul_mul_mod, Nat.mul_mod, h, Nat.mul_one, Nat.mod_mod, Nat.mod_eq_of_lt ha]

theorem xor_twice (a b : Nat) : (a ^^^ b) ^^^ b = a := by
  rw [Nat.xor_assoc, Nat.xor_self, Nat.xor_zero]

theorem key_of {seed key : Nat} (hs : seed < 2 ^ 64) (hk : key < 2 ^ 64) : hKey seed (hOf seed key) = key := by
  unfold hKey hOf
  rw [unfold_fold (hMul_lt _ _) (by decide), mul_back (hFold_lt _ (hMul_lt _ _)) two_back, unfold_fold (hMul_lt _ _) (by decide), mul_back (Nat.xor_lt_two_pow hk hs) one_back, xor_twice]
theorem of_key {seed h : Nat} (hs : seed < 2 ^ 64) (hh : h < 2 ^ 64) : hOf seed (hKey seed h) = h := by
  unfold hKey hOf
  rw [xor_twice, mul_back (hUnfold_lt _ (hMul_lt _ _)) (by rw [Nat.mul_comm]; exact one_back), fold_unfold (hMul_lt _ _) (by decide), mul_back (hUnfold_lt _ hh) (by rw [Nat.mul_comm]; exact two_back), fold_unfold hh (by decide)]
theorem of_inj {seed a b : Nat} (hs : seed < 2 ^ 64) (ha : a < 2 ^ 64) (hb : b < 2 ^ 64) (h : hOf seed a = hOf seed b) : a = b := by
  rw [← key_of hs ha, h, key_of hs hb]
theorem of_nought (seed a : Nat) : hOf 0 (a ^^^ seed) = hOf seed a := by
  unfold hOf; rw [Nat.xor_zero]
theorem h1_h2 (x : Nat) : x / 128 * 128 + x % 128 = x := by omega
theorem h1_or_h2 (x : Nat) : x / 128 * 128 ||| x % 128 = x := by
  rw [show x / 128 * 128 = (x / 128) <<< 7 by rw [Nat.shiftLeft_eq], ← Nat.shiftLeft_add_eq_or_of_lt (by omega : x % 128 < 2 ^ 7), Nat.shiftLeft_eq]; omega

/-! ### Where hashes part -/
theorem bitLen_zero : Lib.bitLen 0 = 0 := by decide
theorem bitLen_lt : ∀ (x : Nat), x < 2 ^ 64 → x < 2 ^ Lib.bitLen x := by
  intro x
  induction x using Nat.strongRecOn with
  | _ x ih =>
    intro h
    by_cases h0 : x = 0
    · subst h0; rw [bitLen_zero]; decide
    · have := ih (x / 2) (by omega) (by omega)
      rw [Lib.bitLen_half x h0 h, Nat.pow_add]
      omega
theorem bitLen_le_iff {x k : Nat} (h : x < 2 ^ 64) (hk : k ≤ 64) : Lib.bitLen x ≤ k ↔ x < 2 ^ k :=
  ⟨fun hl => Nat.lt_of_lt_of_le (bitLen_lt x h) (Nat.pow_le_pow_right (by decide) hl), Lib.bitLen_le x k hk⟩
theorem bitLen_le64 {x : Nat} (h : x < 2 ^ 64) : Lib.bitLen x ≤ 64 := (bitLen_le_iff h (Nat.le_refl _)).2 h

theorem xor_nought {a b : Nat} : a ^^^ b = 0 ↔ a = b :=
  ⟨fun h => by have := congrArg (fun x => x ^^^ b) h; simpa [xor_twice] using this, fun h => by rw [h, Nat.xor_self]⟩
theorem div_eq_iff {a b k : Nat} : a / 2 ^ k = b / 2 ^ k ↔ a ^^^ b < 2 ^ k := by
  rw [← Nat.div_eq_zero_iff_lt (Nat.two_pow_pos k), ← Nat.shiftRight_eq_div_pow, ← Nat.shiftRight_eq_div_pow, ← Nat.shiftRight_eq_div_pow, Nat.shiftRight_xor_distrib, xor_nought]
theorem parts_le (a b : Nat) : hParts a b ≤ 64 := Nat.sub_le _ _
theorem prefix_eq_iff {a b n : Nat} (ha : a < 2 ^ 64) (hb : b < 2 ^ 64) (hn : n ≤ 64) : hPrefix a n = hPrefix b n ↔ n ≤ hParts a b := by
  unfold hPrefix hParts
  have h := Nat.xor_lt_two_pow ha hb
  rw [div_eq_iff, ← bitLen_le_iff h (by omega)]
  have := bitLen_le64 h
  omega
theorem prefix_next {a n : Nat} (hn : n < 64) : hPrefix a (n + 1) = 2 * hPrefix a n + (if a.testBit (63 - n) then 1 else 0) := by
  unfold hPrefix
  rw [show 64 - n = (63 - n) + 1 by omega, show 64 - (n + 1) = 63 - n by omega, Nat.pow_succ, ← Nat.div_div_eq_div_mul, Nat.testBit_eq_decide_div_mod_eq]
  simp only [decide_eq_true_eq]
  split <;> omega
theorem prefix_half {a n : Nat} (hn : n < 64) : hPrefix a (n + 1) / 2 = hPrefix a n := by
  rw [prefix_next hn]; split <;> omega
theorem parts_comm (a b : Nat) : hParts a b = hParts b a := by unfold hParts; rw [Nat.xor_comm]
theorem parts_all {a b : Nat} (ha : a < 2 ^ 64) (hb : b < 2 ^ 64) : hParts a b = 64 ↔ a = b := by
  have h := prefix_eq_iff ha hb (Nat.le_refl 64)
  have e : ∀ x, hPrefix x 64 = x := fun x => by unfold hPrefix; simp
  rw [e, e] at h
  have := parts_le a b
  omega
/-- Up to where they part they have the same bits; there they have not. -/
theorem parts_same {a b n : Nat} (ha : a < 2 ^ 64) (hb : b < 2 ^ 64) (hn : n < hParts a b) : a.testBit (63 - n) = b.testBit (63 - n) := by
  have hl := parts_le a b
  have h0 := (prefix_eq_iff ha hb (show n ≤ 64 by omega)).2 (by omega)
  have h1 := (prefix_eq_iff ha hb (show n + 1 ≤ 64 by omega)).2 (by omega)
  rw [prefix_next (by omega), prefix_next (by omega), h0] at h1
  cases h : a.testBit (63 - n) <;> cases h' : b.testBit (63 - n) <;> simp [h, h'] at h1 <;> rfl
theorem parts_other {a b : Nat} (ha : a < 2 ^ 64) (hb : b < 2 ^ 64) (hn : hParts a b < 64) : a.testBit (63 - hParts a b) ≠ b.testBit (63 - hParts a b) := by
  intro e
  have h0 := (prefix_eq_iff ha hb (parts_le a b)).2 (Nat.le_refl _)
  have h1 : hPrefix a (hParts a b + 1) = hPrefix b (hParts a b + 1) := by rw [prefix_next hn, prefix_next hn, h0, e]
  have := (prefix_eq_iff ha hb (show hParts a b + 1 ≤ 64 by omega)).1 h1
  omega

/-! ### The document's rounds -/
/-- A word of the lowest bits of another, and the next bit. -/
theorem low_next (x k : Nat) : x % 2 ^ (k + 1) = x % 2 ^ k + (if x.testBit k then 2 ^ k else 0) := by
  rw [Nat.mod_pow_succ, Nat.testBit_eq_decide_div_mod_eq]
  simp only [decide_eq_true_eq]
  split
  · rename_i h; rw [h, Nat.mul_one]
  · rename_i h; rw [show x / 2 ^ k % 2 = 0 by omega, Nat.mul_zero]
theorem high_next (x k : Nat) : x / 2 ^ k * 2 ^ k = x / 2 ^ (k + 1) * 2 ^ (k + 1) + (if x.testBit k then 2 ^ k else 0) := by
  rw [Nat.testBit_eq_decide_div_mod_eq]
  simp only [decide_eq_true_eq]
  have e : x / 2 ^ (k + 1) = x / 2 ^ k / 2 := by rw [Nat.pow_succ, Nat.div_div_eq_div_mul]
  rw [e, Nat.pow_succ]
  generalize x / 2 ^ k = y
  have h := Nat.div_add_mod y 2
  split
  · rename_i h1
    rw [h1] at h
    conv => lhs; rw [← h]
    rw [Nat.add_mul, Nat.one_mul, Nat.mul_comm 2 (y / 2), Nat.mul_assoc, Nat.mul_comm 2]
  · have h0 : y % 2 = 0 := by omega
    rw [h0] at h
    conv => lhs; rw [← h]
    rw [Nat.add_zero, Nat.add_zero, Nat.mul_comm 2 (y / 2), Nat.mul_assoc, Nat.mul_comm 2]
/-- A bit of the highest ones of a word. -/
theorem high_bit {x k i : Nat} (h : k ≤ i) : (x / 2 ^ k * 2 ^ k).testBit i = x.testBit i := by
  rw [← Nat.shiftLeft_eq, Nat.testBit_shiftLeft]
  simp only [ge_iff_le, h, decide_true, Bool.true_and]
  rw [testBit_div]; congr 1; omega
theorem parity_mul {m c : Nat} (hc : c % 2 = 1) : m * c % 2 = m % 2 := by rw [Nat.mul_mod, hc, Nat.mul_one, Nat.mod_mod]
/-- The bits of a product with an odd one, from the lowest on. -/
theorem over_bit {r c w n : Nat} (hc : c % 2 = 1) (h : hMul r c = w) (hn : n < 64) : r.testBit n = (((r % 2 ^ n) * c % 2 ^ 64).testBit n ^^ w.testBit n) := by
  have hw : w.testBit n = (r * c).testBit n := by rw [← h]; unfold hMul; rw [Nat.testBit_mod_two_pow]; simp [hn]
  rw [hw, Nat.testBit_mod_two_pow]
  simp only [hn, decide_true, Bool.true_and]
  have e : r * c = r % 2 ^ n * c + 2 ^ n * (r / 2 ^ n * c) := by
    conv => lhs; rw [← Nat.mod_add_div r (2 ^ n)]
    rw [Nat.add_mul, Nat.mul_assoc]
  have hp := parity_mul (m := r / 2 ^ n) hc
  simp only [Nat.testBit_eq_decide_div_mod_eq]
  rw [e, Nat.add_mul_div_left _ _ (Nat.two_pow_pos n)]
  generalize r / 2 ^ n * c = p at hp
  generalize r % 2 ^ n * c / 2 ^ n = q
  generalize r / 2 ^ n = s at hp
  by_cases h1 : s % 2 = 1 <;> by_cases h2 : q % 2 = 1 <;> by_cases h3 : (q + p) % 2 = 1 <;> simp [h1, h2, h3] <;> omega
end Go.Proofs.Ytoklgjlmjkhmbaa

/-
  math/bits.Len64 and LeadingZeros64, walked in place.
-/
set_option linter.unusedSimpArgs false
set_option linter.unusedVariables false
namespace Go.Proofs.Ytoklgjlmjkhmbaa
open Go.RowKit

/-- A word's length by the byte that holds its highest bit. -/
theorem len_by_byte (k x : Nat) (hx : x < 2 ^ 64) (hl : x / 2 ^ k < 256) (hk : k = 0 ∨ 2 ^ k ≤ x) : (k : Int) + Lib.len8 ((x / 2 ^ k : Nat) : Int) = (Lib.bitLen x : Int) := by
  have e : Lib.bitLen x = k + Lib.bitLen (x / 2 ^ k) := by
    rcases hk with rfl | hk
    · simp
    · exact Lib.bitLen_shift k x hk hx
  generalize x / 2 ^ k = y at *
  rw [Lib.len8_of _ (by omega) (by omega), Int.toNat_natCast, e]; omega

theorem len8_size : ((Lib.len8tab.size : Nat) : Int) = 256 := by rw [Lib.len8tab_size]; rfl
theorem len8_at (i : Nat) (h : i < Lib.len8tab.size) : ((Lib.len8tab[i].toNat : Nat) : Int) = Lib.len8 (i : Int) := by
  unfold Lib.len8
  rw [Int.toNat_natCast]
  simp [h]
theorem len_close (k : Nat) (x i : Int) (h0 : 0 ≤ x) (h1 : x ≤ 18446744073709551615) (hi : i.toNat = x.toNat / 2 ^ k) (hlt : x.toNat / 2 ^ k < 256) (hk : k = 0 ∨ 2 ^ k ≤ x.toNat) (hb : i.toNat < Lib.len8tab.size) :
    (k : Int) + wrap64 ((Lib.len8tab[i.toNat].toNat : Nat) : Int) = (Lib.bitLen x.toNat : Int) ∧ (Lib.bitLen x.toNat : Int) ≤ 64 := by
  have h := len_by_byte k x.toNat (by omega) hlt hk
  have hl := Lib.bitLen_le x.toNat 64 (by omega) (by omega)
  rw [← hi, ← len8_at i.toNat hb] at h
  have e : wrap64 ((Lib.len8tab[i.toNat].toNat : Nat) : Int) = ((Lib.len8tab[i.toNat].toNat : Nat) : Int) := by unfold wrap64; omega
  rw [e]
  exact ⟨h, by omega⟩
theorem wrap_close {a b : Int} (h : a = b ∧ b ≤ 64) (h0 : 0 ≤ b) : wrap64 a = b := by unfold wrap64; omega
end Go.Proofs.Ytoklgjlmjkhmbaa

/-
  Package hash: the functions that reckon, each by its contract.
-/
set_option linter.unusedSimpArgs false
set_option linter.unusedVariables false
namespace Go.Proofs.Ytoklgjlmjkhmbaa
open Go.RowKit

theorem xor_u64_div (x y b : Nat) (hx : x < 2 ^ 64) (hy : y < 2 ^ 64) : bits .xor .u64 (x : Int) ((y : Int) / 2 ^ b) = ((x ^^^ y / 2 ^ b : Nat) : Int) := by
  have e : ((y : Int) / 2 ^ b) = ((y / 2 ^ b : Nat) : Int) := by rw [Int.natCast_ediv, Int.natCast_pow]; rfl
  rw [e, xor_u64_lit _ _ hx (Nat.lt_of_le_of_lt (Nat.div_le_self _ _) hy)]
def unf (x b : Nat) : Nat → Nat
  | 0 => x
  | k + 1 => x ^^^ unf x b k / 2 ^ b
theorem unf_lt {x : Nat} (b : Nat) (hx : x < 2 ^ 64) : ∀ k, unf x b k < 2 ^ 64
  | 0 => hx
  | k + 1 => Nat.xor_lt_two_pow hx (Nat.lt_of_le_of_lt (Nat.div_le_self _ _) (unf_lt b hx k))
def backK (n : Nat) : Nat → Nat
  | 0 => n
  | k + 1 => backK n k * ((2 + 2 ^ 64 - n * backK n k % 2 ^ 64) % 2 ^ 64) % 2 ^ 64
theorem backK_int (n k : Nat) : IntKind.u64.wrap ((backK n k : Int) * IntKind.u64.wrap (2 - IntKind.u64.wrap ((n : Int) * (backK n k : Int)))) = ((backK n (k + 1) : Nat) : Int) := by
  show _ = ((backK n k * ((2 + 2 ^ 64 - n * backK n k % 2 ^ 64) % 2 ^ 64) % 2 ^ 64 : Nat) : Int)
  generalize backK n k = x
  simp only [IntKind.wrap_u64]
  have h1 : ((n : Int) * (x : Int)) % 18446744073709551616 = ((n * x % 2 ^ 64 : Nat) : Int) := by omega
  rw [h1]
  have hl : n * x % 2 ^ 64 < 2 ^ 64 := Nat.mod_lt _ (by decide)
  generalize n * x % 2 ^ 64 = y at hl
  have h2 : (2 - (y : Int)) % 18446744073709551616 = (((2 + 2 ^ 64 - y) % 2 ^ 64 : Nat) : Int) := by omega
  rw [h2]
  generalize (2 + 2 ^ 64 - y) % 2 ^ 64 = z
  rw [← Int.natCast_mul]; omega
def turnsAt (a : Act) : Nat := match a.tmps.getD 4 undef with | .int _ k => 5 - k.toNat | _ => 0
theorem back_two : backK hTwo 5 = hTwoBack := by decide +kernel
theorem back_one : backK hOne 5 = hOneBack := by decide +kernel

theorem h1_any (h : Nat) (w : World) : Calls Try.prog 31 #[.int .u64 h] w fun e w' => e = .returned (.int .u64 (h / 128 : Nat)) ∧ w' = w := by
  go_enter Try.func31, Try.ntmps31
  go_wp2
  go_ret
  exact ⟨ret_u64 (by omega), rfl⟩
theorem h2_any (h : Nat) (w : World) (hh : h < 2 ^ 64) : Calls Try.prog 33 #[.int .u64 h] w fun e w' => e = .returned (.int .u8 (h % 128 : Nat)) ∧ w' = w := by
  have hx : bits .and .u64 (h : Int) 127 = ((h % 128 : Nat) : Int) := by
    have := and_u64_lit h 127 hh (by decide)
    rw [show ((127 : Nat) : Int) = 127 by rfl] at this
    rw [this, show h &&& 127 = h % 2 ^ 7 from Nat.and_two_pow_sub_one_eq_mod h 7]
  have HX := Lib.hid hx
  clear hx hh
  go_enter Try.func33, Try.ntmps33
  go_wp2
  go_ret
  refine ⟨ret_u8 ?_, rfl⟩
  rw [HX.out]
  omega
def mayN (n : Int) : Bool := decide (0 ≤ n ∧ n ≤ 64)
end Go.Proofs.Ytoklgjlmjkhmbaa

