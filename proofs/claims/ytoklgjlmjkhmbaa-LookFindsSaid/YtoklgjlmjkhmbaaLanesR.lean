/-
  The document's answer for lanes, function by function.
-/
import Derived.Test.YtoklgjlmjkhmbaaLawParts
import Derived.Deep.LoopGhost
set_option linter.unusedSimpArgs false
set_option linter.unusedVariables false
set_option maxRecDepth 100000
namespace Go.Proofs.Ytoklgjlmjkhmbaa
open Go.RowKit

def divK (x k : Nat) : Nat := x / 256 ^ k
theorem divK_zero (x : Nat) : divK x 0 = x := by simp [divK]
theorem divK_succ (x k : Nat) : divK x (k + 1) = divK x k / 256 := by unfold divK; rw [Nat.pow_succ, Nat.div_div_eq_div_mul]

theorem divK_lt (x k : Nat) (hx : x < 2 ^ 64) : divK x k < 2 ^ 64 := Nat.lt_of_le_of_lt (Nat.div_le_self _ _) hx
theorem divK_wrap (x k : Nat) (hx : x < 2 ^ 64) : IntKind.u64.wrap ((divK x k : Int) / 256) = ((divK x (k + 1) : Nat) : Int) := by
  have := divK_lt x k hx
  rw [divK_succ, IntKind.wrap_u64]; omega
theorem u8s_get {l : List Nat} {k : Nat} (h : k < l.length) : (u8s l)[k]? = some (.int .u8 (nthN l k)) := by
  unfold u8s; rw [List.getElem?_map, List.getElem?_eq_getElem h, nthN_eq h]; rfl

theorem refAt_any (x n : Nat) (w : World) (hx : x < 2 ^ 64) (hn : n ≤ 9223372036854775807) : Calls Try.prog 97 #[.int .u64 x, .int .i64 n] w fun e w' => e = .returned (.int .u8 (byteAt x n)) ∧ w' = w := by
  have HX := Lib.hid hx
  clear hx
  go_enter Try.func97, Try.ntmps97
  go_wp2
  go_loopg [0, 6] n (fun q y i wr => ∃ k : Nat, k + q = n ∧ i = .int .i64 k ∧ y = .int .u64 (divK x k) ∧ wr = w)
  case atStart => exact ⟨0, by omega, rfl, by rw [divK_zero], rfl⟩
  case round =>
    obtain ⟨k, hk, rfl, rfl, rfl⟩ := hrel
    have HK := Lib.hid hk
    have hkn : k ≤ n := by omega
    clear hk
    by_cases h8 : k < n
    · have hq := divK_wrap x k HX.out
      go_wp2
      go_roundg (gk - 1)
      case measure => have := HK.out; omega
      case rel => exact ⟨k + 1, by have := HK.out; omega, by go_num, rfl, rfl⟩
    · have hkk : k = n := by omega
      have HKK := Lib.hid hkk
      clear hkk
      go_wp2
      go_ret
      refine ⟨ret_u8 ?_, rfl⟩
      rw [← HKK.out]
      show _ = ((divK x k % 256 : Nat) : Int)
      omega

def doubled (k : Nat) : Nat := 2 ^ k
theorem doubled_succ (k : Nat) : doubled (k + 1) = 2 * doubled k := by unfold doubled; rw [Nat.pow_succ]; omega
theorem doubled_le (k : Nat) (h : k ≤ 7) : doubled k ≤ 128 := Nat.pow_le_pow_right (n := 2) (by decide) h
theorem refWith_any (m n : Nat) (w : World) (hn : n < 8) (hm : m + 2 ^ n < 256) : Calls Try.prog 71 #[.int .u8 m, .int .i64 n] w fun e w' => e = .returned (.int .u8 ((m + 2 ^ n : Nat) : Int)) ∧ w' = w := by
  have hm' : m + doubled n < 256 := hm
  clear hm
  go_enter Try.func71, Try.ntmps71
  go_wp2
  go_loopg [5, 7] n (fun q y i wr => ∃ k : Nat, k + q = n ∧ i = .int .i64 k ∧ y = .int .u8 (doubled k) ∧ wr = w)
  case atStart => exact ⟨0, by omega, rfl, rfl, rfl⟩
  case round =>
    obtain ⟨k, hk, rfl, rfl, rfl⟩ := hrel
    have HK := Lib.hid hk
    have hkn : k ≤ n := by omega
    clear hk
    have hd := doubled_le k (by omega)
    by_cases h8 : k < n
    · have hd2 := doubled_le (k + 1) (by omega)
      rw [doubled_succ] at hd2
      go_wp2
      go_roundg (gk - 1)
      case measure => have := HK.out; omega
      case rel => exact ⟨k + 1, by have := HK.out; omega, by go_num, by rw [doubled_succ]; go_num, rfl⟩
    · obtain rfl : n = k := by omega
      go_wp2
      go_ret
      exact ⟨ret_u8 (by show _ = ((m + doubled n : Nat) : Int); omega), rfl⟩

def halved (m k : Nat) : Nat := m / 2 ^ k
theorem halved_zero (m : Nat) : halved m 0 = m := by simp [halved]
theorem halved_succ (m k : Nat) : halved m (k + 1) = halved m k / 2 := by unfold halved; rw [Nat.pow_succ, Nat.div_div_eq_div_mul]
theorem refHas_any (m n : Nat) (w : World) (hm : m < 256) (hn : n < 8) : Calls Try.prog 69 #[.int .u8 m, .int .i64 n] w fun e w' => e = .returned (.bool (hasM m n)) ∧ w' = w := by
  go_enter Try.func69, Try.ntmps69
  go_wp2
  go_loopg [0, 6] n (fun q y i wr => ∃ k : Nat, k + q = n ∧ i = .int .i64 k ∧ y = .int .u8 (halved m k) ∧ wr = w)
  case atStart => exact ⟨0, by omega, rfl, by rw [halved_zero], rfl⟩
  case round =>
    obtain ⟨k, hk, rfl, rfl, rfl⟩ := hrel
    have HK := Lib.hid hk
    have hkn : k ≤ n := by omega
    have hh : halved m k < 256 := Nat.lt_of_le_of_lt (Nat.div_le_self _ _) hm
    clear hk
    by_cases h8 : k < n
    · have hq : IntKind.u8.wrap ((halved m k : Int) / 2) = ((halved m (k + 1) : Nat) : Int) := by rw [halved_succ, IntKind.wrap_u8]; omega
      go_wp2
      go_roundg (gk - 1)
      case measure => have := HK.out; omega
      case rel => exact ⟨k + 1, by have := HK.out; omega, by go_num, rfl, rfl⟩
    · have hkk : k = n := by omega
      have HKK := Lib.hid hkk
      clear hkk
      go_wp2
      go_ret
      refine ⟨ret_bool ?_, rfl⟩
      rw [← HKK.out]
      show _ = (halved m k % 2 == 1)
      rw [Bool.eq_iff_iff]; simp; omega

def ofK (l : List Nat) (k : Nat) : Nat := word ((l.take 8).drop k)
theorem ofK_big (l : List Nat) (k : Nat) (h : 8 ≤ k) : ofK l k = 0 := by
  unfold ofK; rw [List.drop_of_length_le (by simp; omega)]; rfl
theorem ofK_end (l : List Nat) (k : Nat) (h : l.length ≤ k) : ofK l k = 0 := by
  unfold ofK; rw [List.drop_of_length_le (by simp; omega)]; rfl
theorem ofK_step (l : List Nat) (k : Nat) (h : k < 8) (hk : k < l.length) : ofK l k = nthN l k + 256 * ofK l (k + 1) := by
  unfold ofK
  have hl : k < (l.take 8).length := by simp; omega
  rw [List.drop_eq_getElem_cons hl, word, List.getElem_take, nthN_eq hk]
theorem ofK_lt (l : List Nat) (hl : Bytey l) (k : Nat) (hk : 1 ≤ k) : ofK l k < 2 ^ 56 := by
  unfold ofK
  have hb : Bytey ((l.take 8).drop k) := fun b hb => hl b (List.mem_of_mem_take (List.mem_of_mem_drop hb))
  exact Nat.lt_of_lt_of_le (word_lt hb) (Nat.le_trans (Nat.pow_le_pow_right (by decide) (show ((l.take 8).drop k).length ≤ 7 by simp; omega)) (by decide))

/-- What is told lane by lane. -/
def maskK (f : Nat → Bool) (k : Nat) : Nat := maskOf ((List.range 8).map fun i => decide (i < k) && f i)
theorem maskK_zero (f : Nat → Bool) : maskK f 0 = 0 := by unfold maskK; simp [maskOf, List.range, List.range.loop]
theorem maskK_full (f : Nat → Bool) : maskK f 8 = maskOf ((List.range 8).map f) := by
  unfold maskK
  exact congrArg maskOf (List.map_congr_left fun i hi => by simp [List.mem_range.1 hi])
theorem maskOf_add : ∀ (l m : List Bool) (k : Nat), l.length = m.length → k < l.length → (∀ i, i ≠ k → l.getD i false = m.getD i false) → l.getD k false = false → m.getD k false = true → maskOf m = maskOf l + 2 ^ k
  | [], _, k, _, h, _, _, _ => by simp at h
  | c :: r, [], _, h, _, _, _, _ => by simp at h
  | c :: r, d :: s, 0, he, _, hh, h0, h1 => by
    have e : r = s := by
      apply List.ext_getElem (by simpa using he)
      intro i h2 h3
      have := hh (i + 1) (by omega)
      simpa [List.getD, h2, h3] using this
    simp at h0 h1
    subst h0 h1 e
    simp [maskOf]; omega
  | c :: r, d :: s, k + 1, he, hk, hh, h0, h1 => by
    have hc : c = d := by have := hh 0 (by omega); simpa using this
    have := maskOf_add r s k (by simpa using he) (by simpa using hk) (fun i hi => by have := hh (i + 1) (by omega); simpa using this) (by simpa using h0) (by simpa using h1)
    subst hc
    simp only [maskOf, Nat.pow_succ]; omega
theorem getD_range (g : Nat → Bool) (i : Nat) : ((List.range 8).map g).getD i false = (decide (i < 8) && g i) := by
  rw [List.getD_eq_getElem?_getD, List.getElem?_map]
  by_cases h : i < 8
  · rw [List.getElem?_range h]; simp [h]
  · rw [List.getElem?_eq_none (by simpa using h)]; simp [h]
theorem maskK_yes (f : Nat → Bool) (k : Nat) (hk : k < 8) (h : f k = true) : maskK f (k + 1) = maskK f k + 2 ^ k := by
  unfold maskK
  refine maskOf_add _ _ k (by simp) (by simpa using hk) (fun i hi => ?_) ?_ ?_
  · rw [getD_range, getD_range]
    by_cases h1 : i < k
    · simp [h1, show i < k + 1 by omega]
    · simp [h1, show ¬ i < k + 1 by omega]
  · rw [getD_range]; simp
  · rw [getD_range]; simp [hk, h]
theorem maskK_no (f : Nat → Bool) (k : Nat) (h : f k = false) : maskK f (k + 1) = maskK f k := by
  unfold maskK
  congr 1
  apply List.map_congr_left
  intro i _
  by_cases h1 : i = k
  · subst h1; simp [h]
  · by_cases h2 : i < k
    · simp [h2, show i < k + 1 by omega]
    · simp [h2, show ¬ i < k + 1 by omega]
theorem maskK_lt (f : Nat → Bool) (k : Nat) : maskK f k < 256 := maskOf_lt8 _

/-! ### The bytes, as a row that is laid -/
theorem info_u8z : (Try.prog.info? 5).map (fun i => (i.zero, i.size, i.bytes)) = some (some (.int .u8 0), 1, 8 / 8) := by kernel_rfl
theorem u8s_succ (l : List Nat) (k : Nat) (h : k < l.length) : u8s (l.take (k + 1)) = u8s (l.take k) ++ [.int .u8 (nthN l k)] := by
  unfold u8s
  rw [List.take_succ_eq_append_getElem h, List.map_append, nthN_eq h]; rfl
theorem nthN_bytes8 (x k : Nat) (h : k < 8) : nthN (bytes8 x) k = byteAt x k := bytes8_getD x k h

theorem refBytes_any (x : Nat) (w : World) (hx : x < 2 ^ 64) : Calls Try.prog 70 #[.int .u64 x] w fun e w' => ∃ g cap, e = .returned (.slice (some ⟨g, 0, none⟩) 8 cap) ∧ Below w.heap.size w w' ∧ w'.ownsRow w.heap.size 5 1 (.slice (some ⟨g, 0, none⟩) 8 cap) 8 (u8s (bytes8 x)) := by
  obtain ⟨i0, hi, hz0, hz1, hz2⟩ := info_parts info_u8z
  have HX := Lib.hid hx
  clear hx
  go_enter Try.func70, Try.ntmps70
  go_wp2
  go_loopg [3, 5] 8 (fun q v i wr => ∃ k : Nat, k + q = 8 ∧ i = .int .i64 k ∧ Below w.heap.size w wr ∧ wr.ownsRow w.heap.size 5 1 v k (u8s ((bytes8 x).take k)))
  case atStart => exact ⟨0, rfl, rfl, Below.refl _ _, World.ownsRow_nil _ _ _ _⟩
  case round =>
    obtain ⟨k, hk, rfl, hB, hrow⟩ := hrel
    have HK := Lib.hid hk
    have hkn : k ≤ 8 := by omega
    have hsz := hB.size
    clear hk
    by_cases h8 : k < 8
    · have hc := refAt_any x k wr HX.out (by omega)
      have hs := u8s_succ (bytes8 x) k (by rw [length_bytes8]; exact h8)
      rw [nthN_bytes8 x k h8] at hs
      have HS := Lib.hid hs
      have HC := Lib.hid hc
      clear hs hc
      go_wp2_with (first | (go_at_call 97; refine HC.out.mono ?_; rintro e w' ⟨rfl, rfl⟩) | (at_builtin; refine wpList_append _ rfl (.tmp 8) (.tmp 12) 116 rfl w.heap.size 5 i0 (.int .u8 0) 1 (8 / 8) Try.underlying116 hi hz0 hz1 hz2 rfl (by decide) _ k _ rfl (hrow.alloc _) ⟨_, 0, none⟩ 1 1 [.int .u8 (byteAt x k)] rfl rfl (cell_one_new _ _ _) (by simp [Value.oneCell']) (by unfold maxLen; omega) (by omega) (by simp; omega) (by decide) ?_; intro v' w1 hown' hgrow hwh))
      go_roundg (gk - 1)
      case measure => have := HK.out; omega
      case rel =>
        refine ⟨k + 1, by have := HK.out; omega, by go_num, ?_, by rw [HS.out]; exact hown'⟩
        exact (hB.alloc hsz _).grown hgrow (by simp; omega) (fun j hj => (hrow.lt j hj).1)
    · obtain rfl : k = 8 := by omega
      obtain ⟨g, cap, rfl⟩ := ownsRow_succ hrow
      rw [show (bytes8 x).take 8 = bytes8 x from List.take_of_length_le (by rw [length_bytes8]; exact Nat.le_refl _)] at hrow
      have HR := Lib.hid hrow
      clear hrow
      go_wp2
      go_ret
      exact ⟨g, cap, rfl, hB, HR.out⟩

end Go.Proofs.Ytoklgjlmjkhmbaa
