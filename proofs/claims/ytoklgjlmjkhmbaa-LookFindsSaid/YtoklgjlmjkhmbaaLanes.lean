/-
  The functions of package lanes, each by its contract.
-/
import Derived.Test.YtoklgjlmjkhmbaaRows
import Derived.Test.YtoklgjlmjkhmbaaKit
import Derived.Test.YtoklgjlmjkhmbaaBase
import Derived.Test.YtoklgjlmjkhmbaaLanesPure
import Derived.WalkKit
import Derived.Deep.QuietTactic
import Derived.BigQuiet
import Derived.Lib.Hide
import Derived.Lib.BitFns
set_option linter.unusedSimpArgs false
set_option linter.unusedVariables false
namespace Go.Proofs.Ytoklgjlmjkhmbaa
open Go.RowKit


/-! ### How the walk's numbers are these -/
theorem shl_digit (b n : Nat) (hb : b < 256) (hn : n < 8) : IntKind.u64.wrap ((b : Int) * 2 ^ (n * 8)) = ((b * 256 ^ n : Nat) : Int) := by
  have e : ((b : Int) * 2 ^ (n * 8)) = ((b * 256 ^ n : Nat) : Int) := by
    rw [show (256 : Nat) ^ n = 2 ^ (n * 8) by rw [Nat.mul_comm, Nat.pow_mul]]
    rw [Int.natCast_mul, Int.natCast_pow]; rfl
  rw [e]
  refine wrap_u64_nat _ ?_
  have h1 : 256 ^ n ≤ 256 ^ 7 := Nat.pow_le_pow_right (by decide) (by omega)
  have h2 := Nat.mul_le_mul (show b ≤ 255 by omega) h1
  simp only [Nat.reducePow, Nat.reduceMul] at h2 ⊢
  omega
theorem with_math (x n b : Nat) (hx : x < 2 ^ 64) (hn : n < 8) (hb : b < 256) :
    bits .or .u64 (bits .andNot .u64 (x : Int) (IntKind.u64.wrap (255 * 2 ^ (n * 8)))) (IntKind.u64.wrap ((b : Int) * 2 ^ (n * 8))) = ((setLane x n b : Nat) : Int) := by
  have h1 : 256 ^ n ≤ 256 ^ 7 := Nat.pow_le_pow_right (by decide) (by omega)
  have h2 := Nat.mul_le_mul (show b ≤ 255 by omega) h1
  simp only [Nat.reducePow, Nat.reduceMul] at h2 h1
  have e := shl_digit 255 n (by decide) hn
  rw [show ((255 : Nat) : Int) = 255 by rfl] at e
  rw [e, shl_digit b n hb hn, u64_andNot_nat _ _ (by simpa using hx) (by omega), u64_or_nat _ _ (Nat.lt_of_le_of_lt Nat.and_le_left (by simpa using hx)) (by omega)]
  congr 1
  have := set_word (bytes8 x) n b (bytes8_bytey x) hb (by rw [length_bytes8]; exact hn)
  rw [word_bytes8 hx, length_bytes8] at this
  exact this

theorem fill_any (b : Nat) (w : World) (hb : b < 256) : Calls Try.prog 67 #[.int .u8 b] w fun e w' => e = .returned (.int .u64 (fillW b)) ∧ w' = w := by
  go_enter Try.func67, Try.ntmps67
  go_wp2
  go_ret
  exact ⟨ret_u64 (by unfold fillW; rw [← ones_eq, Int.natCast_mul]; rfl), rfl⟩

/-! ### Which lanes -/
theorem not_u64 (x : Nat) (hx : x < 2 ^ 64) : bits .xor .u64 IntKind.u64.max (x : Int) = ((18446744073709551615 - x : Nat) : Int) := by
  have e : IntKind.u64.max = ((2 ^ 64 - 1 : Nat) : Int) := rfl
  rw [e, u64_xor_nat _ _ (by decide) (by simpa using hx)]
  congr 1
  exact Nat.eq_of_testBit_eq fun i => by
    have h1 := Nat.testBit_two_pow_sub_succ hx i
    rw [show (18446744073709551615 - x : Nat) = 2 ^ 64 - (x + 1) by simp only [Nat.reducePow]; omega, h1, Nat.testBit_xor, Nat.testBit_two_pow_sub_one]
    by_cases hi : i < 64
    · simp [hi]
    · simp [hi]
      exact Nat.testBit_lt_two_pow (Nat.lt_of_lt_of_le hx (Nat.pow_le_pow_right (by decide) (by omega)))

theorem and_lt_left {a b : Nat} (h : a < 2 ^ 64) : a &&& b < 2 ^ 64 := Nat.lt_of_le_of_lt Nat.and_le_left h
theorem or_lt64 {a b : Nat} (h : a < 2 ^ 64) (k : b < 2 ^ 64) : a ||| b < 2 ^ 64 := Nat.or_lt_two_pow h k
theorem xor_lt64 {a b : Nat} (h : a < 2 ^ 64) (k : b < 2 ^ 64) : a ^^^ b < 2 ^ 64 := Nat.xor_lt_two_pow h k
theorem lows64 : 9187201950435737471 < 2 ^ 64 := by decide
theorem tops64 : 9259542123273814144 < 2 ^ 64 := by decide

theorem noughts_math (x : Nat) (hx : x < 2 ^ 64) :
    bits .xor .u64 IntKind.u64.max (bits .or .u64 (bits .or .u64 (IntKind.u64.wrap (bits .and .u64 (x : Int) 9187201950435737471 + 9187201950435737471)) (x : Int)) 9187201950435737471) =
      ((word ((bytes8 x).map fun b => if (b == 0) = true then 128 else 0) : Nat) : Int) := by
  obtain ⟨h1, h2⟩ := noughts_word (bytes8_bytey x) (length_bytes8 x)
  rw [word_bytes8 hx] at h1 h2
  have e0 : bits .and .u64 (x : Int) 9187201950435737471 = ((x &&& 9187201950435737471 : Nat) : Int) := and_u64_lit x _ hx lows64
  have e1 : ((x &&& 9187201950435737471 : Nat) : Int) + 9187201950435737471 = (((x &&& 9187201950435737471) + 9187201950435737471 : Nat) : Int) := by rw [Int.natCast_add]; rfl
  rw [e0, e1, wrap_u64_nat _ h1, or_u64_lit _ _ h1 hx]
  have e2 := or_u64_lit _ _ (or_lt64 h1 hx) lows64
  rw [show ((9187201950435737471 : Nat) : Int) = 9187201950435737471 by rfl] at e2
  rw [e2, not_u64 _ (or_lt64 (or_lt64 h1 hx) lows64), h2]

theorem noughts_any (v u : Nat) (a : Int) (w : World) (hv : v < 2 ^ 64) (hu : u < 2 ^ 64) (ha : a = ((v ^^^ u : Nat) : Int)) : Calls Try.prog 95 #[.int .u64 a] w fun e w' => e = .returned (.int .u64 (flagsW (alikeL v u))) ∧ w' = w := by
  subst ha
  have hm := noughts_math (v ^^^ u) (xor_lt64 hv hu)
  rw [alike_flags] at hm
  have H := Lib.hid hm
  clear hm
  generalize v ^^^ u = x at *
  go_enter Try.func95, Try.ntmps95
  go_wp2
  go_ret
  exact ⟨ret_u64 H.out, rfl⟩

theorem gathered_any (l : List Bool) (a : Int) (hl : l.length = 8) (w : World) (ha : a = ((flagsW l : Nat) : Int)) : Calls Try.prog 96 #[.int .u64 a] w fun e w' => e = .returned (.int .u8 (maskOf l)) ∧ w' = w := by
  subst ha
  have hg : flagsW l / 128 * 72624976668147840 % 18446744073709551616 / 72057594037927936 % 256 = maskOf l := gather l hl
  generalize flagsW l = x at *
  have H := Lib.hid hg
  clear hg
  go_enter Try.func96, Try.ntmps96
  go_wp2
  go_ret
  refine ⟨ret_u8 ?_, rfl⟩
  rw [IntKind.wrap_u64, ← H.out]
  rw [Int.natCast_emod, Int.natCast_ediv, Int.natCast_emod, Int.natCast_mul, Int.natCast_ediv]
  rfl

theorem alike_any (v u : Nat) (w : World) (hv : v < 2 ^ 64) (hu : u < 2 ^ 64) : Calls Try.prog 66 #[.int .u64 v, .int .u64 u] w fun e w' => e = .returned (.int .u8 (alikeM v u)) ∧ w' = w := by
  have hx := xor_u64_lit v u hv hu
  go_enter Try.func66, Try.ntmps66
  go_wp2_with (first | (go_at_call 95; refine (noughts_any v u _ _ hv hu ?_).mono ?_; rfl; rintro e w' ⟨rfl, rfl⟩) | (go_at_call 96; refine (gathered_any _ _ (length_alikeL _ _) _ rfl).mono ?_; rintro e w' ⟨rfl, rfl⟩))
  go_ret
  exact ⟨rfl, rfl⟩

theorem equal_any (x b : Nat) (w : World) (hx : x < 2 ^ 64) (hb : b < 256) : Calls Try.prog 40 #[.int .u64 x, .int .u8 b] w fun e w' => e = .returned (.int .u8 (equalM x b)) ∧ w' = w := by
  have e : alikeM x (fillW b) = equalM x b := by
    unfold alikeM alikeL equalM
    congr 1
    apply List.map_congr_left
    intro i hi
    unfold fillW
    rw [byteAt_word (bytey_rep _ _ hb), List.getD_eq_getElem?_getD, List.getElem?_replicate, if_pos (List.mem_range.1 hi)]
    rfl
  have H := Lib.hid e
  clear e
  have hf := fillW_lt b hb
  go_enter Try.func40, Try.ntmps40
  go_wp2_with (first | (go_at_call 67; refine (fill_any _ _ hb).mono ?_; rintro e w' ⟨rfl, rfl⟩) | (go_at_call 66; refine (alike_any _ _ _ hx hf).mono ?_; rintro e w' ⟨rfl, rfl⟩))
  go_ret
  exact ⟨ret_u8 (by rw [H.out]), rfl⟩

theorem below_math (x b : Nat) (hx : x < 2 ^ 64) (hb : b < 256) :
    bits .or .u64 (bits .and .u64 (bits .and .u64 (bits .xor .u64 IntKind.u64.max (x : Int)) (fillW b : Int)) 9259542123273814144)
      (bits .and .u64 (bits .xor .u64 IntKind.u64.max (bits .xor .u64 (x : Int) (fillW b : Int)))
        (bits .and .u64 (bits .xor .u64 IntKind.u64.max (IntKind.u64.wrap (bits .or .u64 (x : Int) 9259542123273814144 - bits .and .u64 (fillW b : Int) 9187201950435737471))) 9259542123273814144)) =
      ((flagsW (belowL x b) : Nat) : Int) := by
  obtain ⟨h1, h2, h3⟩ := below_flags x b hx hb
  have hf := fillW_lt b hb
  generalize fillW b = f at *
  have e1 : bits .or .u64 (x : Int) 9259542123273814144 = ((x ||| 9259542123273814144 : Nat) : Int) := or_u64_lit x _ hx tops64
  have e2 : bits .and .u64 (f : Int) 9187201950435737471 = ((f &&& 9187201950435737471 : Nat) : Int) := and_u64_lit f _ hf lows64
  have e3 : ((x ||| 9259542123273814144 : Nat) : Int) - ((f &&& 9187201950435737471 : Nat) : Int) = (((x ||| 9259542123273814144) - (f &&& 9187201950435737471) : Nat) : Int) := (Int.ofNat_sub h2).symm
  have e4 : ∀ y : Nat, y < 2 ^ 64 → bits .and .u64 (y : Int) 9259542123273814144 = ((y &&& 9259542123273814144 : Nat) : Int) := fun y hy => and_u64_lit y _ hy tops64
  have hn : ∀ y : Nat, 18446744073709551615 - y < 2 ^ 64 := fun y => by simp only [Nat.reducePow]; omega
  rw [e1, e2, e3, wrap_u64_nat _ (by omega), not_u64 ((x ||| 9259542123273814144) - (f &&& 9187201950435737471)) (by omega), e4 _ (hn _), xor_u64_lit _ _ hx hf, not_u64 _ (xor_lt64 hx hf), not_u64 _ hx,
    and_u64_lit _ _ (hn _) hf, e4 _ (and_lt_left (hn _)), and_u64_lit _ _ (hn _) (and_lt_left (hn _)), or_u64_lit _ _ (and_lt_left (and_lt_left (hn _))) (and_lt_left (hn _)), h3]

theorem below_any (x b : Nat) (w : World) (hx : x < 2 ^ 64) (hb : b < 256) : Calls Try.prog 106 #[.int .u64 x, .int .u8 b] w fun e w' => e = .returned (.int .u8 (belowM x b)) ∧ w' = w := by
  have hm := below_math x b hx hb
  have H := Lib.hid hm
  clear hm
  clear hx
  go_enter Try.func106, Try.ntmps106
  go_wp2_with (first | (go_at_call 67; refine (fill_any _ _ hb).mono ?_; rintro e w' ⟨rfl, rfl⟩) | (go_at_call 96; refine (gathered_any _ _ (length_belowL x b) _ H.out).mono ?_; rintro e w' ⟨rfl, rfl⟩))
  go_ret
  exact ⟨rfl, rfl⟩

/-! ### Turns -/
theorem rotate_math (x t : Nat) (hx : x < 2 ^ 64) (ht : t < 8) :
    bits .or .u64 (IntKind.u64.wrap ((x : Int) * 2 ^ (8 * t))) ((x : Int) / 2 ^ (64 - 8 * t)) = ((turnW x (8 - t) : Nat) : Int) := by
  have h := turn_word (bytes8 x) t (length_bytes8 x) (bytes8_bytey x) ht
  rw [word_bytes8 hx] at h
  have e1 : IntKind.u64.wrap ((x : Int) * 2 ^ (8 * t)) = ((x * 2 ^ (8 * t) % 18446744073709551616 : Nat) : Int) := by
    rw [IntKind.wrap_u64, Int.natCast_emod, Int.natCast_mul, Int.natCast_pow]; rfl
  have e2 : ((x : Int) / 2 ^ (64 - 8 * t)) = ((x / 2 ^ (64 - 8 * t) : Nat) : Int) := by
    rw [Int.natCast_ediv, Int.natCast_pow]; rfl
  rw [e1, e2, or_u64_lit _ _ (by simp only [Nat.reducePow]; omega) (Nat.lt_of_le_of_lt (Nat.div_le_self _ _) hx), h]
  rfl

theorem and63_u64 (n : Int) : bits .and .u64 (IntKind.u64.wrap n) 63 = n % 64 := by
  have h0 : 0 ≤ n % 18446744073709551616 := Int.emod_nonneg _ (by decide)
  have h1 : n % 18446744073709551616 < 18446744073709551616 := Int.emod_lt_of_pos _ (by decide)
  obtain ⟨m, hm⟩ := Int.eq_ofNat_of_zero_le h0
  rw [IntKind.wrap_u64, hm]
  have := and_u64_lit m 63 (by simp only [Nat.reducePow]; omega) (by decide)
  rw [show ((63 : Nat) : Int) = 63 by rfl] at this
  rw [this, show 63 = 2 ^ 6 - 1 by decide, Nat.and_two_pow_sub_one_eq_mod]
  omega

/-! ### The lanes of a mask -/
def lanesOf (m : Nat) : List Nat := (List.range 8).filter fun i => m / 2 ^ i % 2 == 1

theorem lanesOf_step : ∀ m : Fin 256, 0 < m.val → Lib.trailingZeros8 m.val < 8 ∧ lanesOf m.val = Lib.trailingZeros8 m.val :: lanesOf (m.val &&& (m.val - 1)) := by decide +kernel
theorem lanesOf_zero : lanesOf 0 = [] := by decide +kernel

theorem tz_math (x : Int) (h0 : 0 ≤ x) (h1 : x ≤ 255) : RowKit.wrap64 (Lib.ntz8 x) = (Lib.trailingZeros8 x.toNat : Int) := by
  obtain ⟨n, rfl⟩ := Int.eq_ofNat_of_zero_le h0
  have l := Lib.trailingZeros8_le8 ⟨n, by omega⟩
  rw [Int.toNat_natCast]
  simp only at l
  have e : Lib.ntz8 ((⟨n, by omega⟩ : Fin 256).val : Int) = _ := Lib.ntz8_eq ⟨n, by omega⟩
  refine (congrArg RowKit.wrap64 e).trans ?_
  exact IntWalk.wrap64_in _ ⟨by simp only; omega, by simp only; omega⟩
set_option maxRecDepth 100000 in
theorem tz8_any (x : Int) (w : World) (h0 : 0 ≤ x) (h1 : x ≤ 255) : Calls Try.prog 94 #[.int .u8 x] w fun e w' => e = .returned (.int .i64 (Lib.trailingZeros8 x.toNat)) ∧ w' = w := by
  go_enter Try.func94, Try.ntmps94
  go_wp2
  go_ret
  exact ⟨ret_i64 (tz_math x h0 h1), rfl⟩

theorem each_any (m : Nat) (w : World) : Calls Try.prog 65 #[.int .u8 m] w fun e w' => e = .returned (.func (.func 93) #[] #[.pointer (some ⟨w.heap.size, 0, none⟩)]) ∧ w' = w.alloc (.cells #[.int .u8 m] 31) := by
  go_enter Try.func65, Try.ntmps65
  go_wp2
  go_ret
  exact ⟨rfl, rfl⟩

theorem each_it (m b : Nat) (hm : m < 256) (w : World) (hc : w.cell? ⟨b, 0, none⟩ = some (.int .u8 m)) (hf : w.frozen? ⟨b, 0, none⟩ = false) (RO : Nat → Prop) :
    SeqIt Fence.wide 0 Try.prog 93 #[.pointer (some ⟨b, 0, none⟩)] (fun x : Nat => #[.int .i64 x]) (lanesOf m) (fun c => c = b) RO w := by
  intro l J Jx W hJ hJx hW hY h0
  have hb : b < w.heap.size := by
    refine Nat.lt_of_not_le fun hle => ?_
    simp [World.cell?, Array.getElem?_eq_none hle] at hc
  have hcW : W.cell? ⟨b, 0, none⟩ = some (.int .u8 m) := (hW.cell (p := ⟨b, 0, none⟩) hb).trans hc
  have hfW : W.frozen? ⟨b, 0, none⟩ = false := (hW.frozen (p := ⟨b, 0, none⟩) hb).trans hf
  clear hc hf hW
  refine callsIn_of_wp Try.func93 rfl trivial ?_ rfl
  simp only [Try.ntmps93, List.size_toArray, List.length_cons, List.length_nil, Nat.reduceAdd, Nat.reduceSub, Array.replicate_succ, Array.replicate_zero, List.push_toArray, List.append_toArray, List.nil_append, List.cons_append]
  gi_wp2
  gi_loopw [3] (fun _ wr => ∃ (k m' : Nat), m' < 256 ∧ k ≤ (lanesOf m).length ∧ wr.cell? ⟨b, 0, none⟩ = some (.int .u8 m') ∧ wr.frozen? ⟨b, 0, none⟩ = false ∧ lanesOf m' = (lanesOf m).drop k ∧ J k (fun c => c = b) wr)
    (fun _ wr => match wr.cell? ⟨b, 0, none⟩ with | some v => (intOf v).toNat | none => 0)
  case atStart => exact ⟨0, m, hm, Nat.zero_le _, hcW, hfW, rfl, h0⟩
  case round =>
    obtain ⟨k, m', hm', hkl, hc', hf', hl, hj⟩ := hrel
    by_cases hz : m' = 0
    · subst hz
      have hend : J (lanesOf m).length (fun c => c = b) wr := by
        rw [lanesOf_zero] at hl
        have h1 : (lanesOf m).length = k := by
          have := congrArg List.length hl; simp at this; omega
        rw [h1]; exact hj
      gi_wp2
      go_end0
      exact ⟨⟨_, rfl⟩, .inl ⟨_, hend⟩⟩
    · have hne : ((m' : Int) != 0) = true := by simp; omega
      obtain ⟨ht, hls⟩ := lanesOf_step ⟨m', hm'⟩ (by show 0 < m'; omega)
      simp only at ht hls
      have hk : k < (lanesOf m).length := by
        have := congrArg List.length hl; rw [hls] at this; simp at this; omega
      have hx : (lanesOf m)[k] = Lib.trailingZeros8 m' := by
        rw [hls] at hl
        have := (List.drop_eq_getElem_cons hk).symm.trans hl.symm
        exact (List.cons.inj this).1
      obtain ⟨fn, tmps, assign, body, hy, hR⟩ := hY k _ wr hj hk
      rw [hx] at hy
      clear hx
      have Hl := Lib.hid hl
      have Hls := Lib.hid hls
      clear hl hls hY
      gi_wp2_with (first | (gi_at_call 94; refine (callsIn_wide.2 (tz8_any _ _ (by omega) (by omega))).mono ?_; rintro e w' ⟨rfl, rfl⟩))
      refine hR.mono ?_
      clear hR hy
      rintro e W' (⟨rfl, hJ3, hk3⟩ | ⟨rfl, hJx3, hk3⟩)
      · have hc3 : W'.cell? ⟨b, 0, none⟩ = some (.int .u8 m') := hk3.cell (p := ⟨b, 0, none⟩) (.inr rfl) hc'
        have hf3 : W'.frozen? ⟨b, 0, none⟩ = false := (hk3.frozen (p := ⟨b, 0, none⟩) (.inr rfl) hc').trans hf'
        have HC := Lib.hid hc'
        clear hc' hf' hk3
        have hand : bits .and .u8 (m' : Int) ((m' : Int) - 1) = ((m' &&& (m' - 1) : Nat) : Int) := by
          rw [show ((m' : Int) - 1) = ((m' - 1 : Nat) : Int) by omega]
          exact u8_and_nat _ _ hm' (by omega)
        have hle : m' &&& (m' - 1) ≤ m' - 1 := Nat.and_le_right
        gi_wp2
        have hs := cell_setCell_same (u := Value.int IntKind.u8 ((m' &&& (m' - 1) : Nat) : Int)) hc3
        go_roundw
        case rel =>
          refine ⟨k + 1, m' &&& (m' - 1), by omega, by omega, hs, by rw [World.frozen?_setCell]; exact hf3, ?_, hJ _ _ _ _ _ hJ3 (Foreign.setCell _ _ _ rfl)⟩
          have h1 := Hl.out
          rw [Hls.out] at h1
          have h2 := congrArg List.tail h1
          simp only [List.tail_cons, List.tail_drop] at h2
          exact h2
        case measure =>
          rw [hs, HC.out]; simp [intOf]; omega
      · clear hk3
        gi_wp2
        refine bodyPost_ret (results_none rfl _ _ _) rfl ?_
        exact ⟨⟨_, rfl⟩, .inr ⟨_, hJx3⟩⟩

theorem enters_each (args : Array Value) (w : World) : (callFunc 93 args).run Try.prog w = .ok (.enter 93 args) w := by
  exact enters_of Try.func93 (by kernel_rfl) rfl args w

def firstLane (m : Nat) : Nat := (lanesOf m).headD 0
def someLane (m : Nat) : Bool := !(lanesOf m).isEmpty
def FirstI (w : World) (k : Nat) (S : Nat → Prop) (W : World) : Prop :=
  k = 0 ∧ Own1 ⟨w.heap.size, 0, none⟩ (.int .i64 0) S W ∧ Own1 ⟨w.heap.size + 1, 0, none⟩ (.bool false) S W ∧ Old w.heap.size w S W
def FirstX (m : Nat) (w : World) (c : Code) (_k : Nat) (S : Nat → Prop) (W : World) : Prop :=
  c = .ret ∧ someLane m = true ∧ Own1 ⟨w.heap.size, 0, none⟩ (.int .i64 (firstLane m)) S W ∧ Own1 ⟨w.heap.size + 1, 0, none⟩ (.bool true) S W ∧ Old w.heap.size w S W

theorem first_any (m : Nat) (hm : m < 256) (w : World) : Calls Try.prog 99 #[.int .u8 m] w fun e w' => e = .returned (.tuple #[.int .i64 (firstLane m), .bool (someLane m)]) ∧ Below w.heap.size w w' := by
  refine (callsIn_wide (n := 0)).1 ?_
  refine callsIn_of_wp_marks Try.func99 rfl trivial ?_
  simp only [Try.ntmps99, List.size_toArray, List.length_cons, List.length_nil, Nat.reduceAdd, Nat.reduceSub, Array.replicate_succ, Array.replicate_zero, List.push_toArray, List.append_toArray, List.nil_append, List.cons_append]
  gi_wp2_with (first | (gi_at_call 65; refine (callsIn_wide.2 (each_any _ _)).mono ?_; rintro e w' ⟨rfl, rfl⟩))
  obtain ⟨W0, hW0⟩ : ∃ W0, W0 = (((w.alloc (.cells #[.int .i64 0] 3)).alloc (.cells #[.bool false] 4)).alloc (.cells #[.int .u8 m] 31)) := ⟨_, rfl⟩
  have hz : W0.heap.size = w.heap.size + 3 := by rw [hW0]; simp
  have hA : Own1 ⟨w.heap.size, 0, none⟩ (.int .i64 0) (fun c => c = w.heap.size + 2) W0 := by
    rw [hW0]; exact ((Own1.new _ w _ _ (by omega)).alloc _).alloc _
  have hB : Own1 ⟨w.heap.size + 1, 0, none⟩ (.bool false) (fun c => c = w.heap.size + 2) W0 := by
    rw [hW0]; have := (Own1.new (fun c => c = w.heap.size + 2) (w.alloc (.cells #[.int .i64 0] 3)) (.bool false) 4 (by simp)).alloc (.cells #[.int .u8 m] 31)
    simpa using this
  have hC : Own1 ⟨w.heap.size + 2, 0, none⟩ (.int .u8 m) (fun _ => False) W0 := by
    rw [hW0]; have := (Own1.new (fun _ => False) ((w.alloc (.cells #[.int .i64 0] 3)).alloc (.cells #[.bool false] 4)) (.int .u8 m) 31 (by simp))
    simpa using this
  have hO : Old w.heap.size w (fun c => c = w.heap.size + 2) W0 := by
    rw [hW0]; exact (((Old.mk (Below.refl _ w) (Nat.le_refl _) (fun b hb => by omega)).alloc _).alloc _).alloc _
  rw [← hW0]
  clear hW0
  rw [show w.heap.size + 1 + 1 = w.heap.size + 2 from rfl]
  refine wpIn_range rfl (fun h => by cases h) rfl trivial enters_each (each_it m _ hm W0 hC.cell hC.free (fun b => b < w.heap.size)) (by intro b hb; omega) (fun _ => rfl) (by intro b hb; omega)
    (FirstI w) (FirstX m w)
    (fun k => (Stable.pure _).and ((Own1.stable _ _).and ((Own1.stable _ _).and (Old.stable _ _))))
    (fun c k => (Stable.pure _).and ((Stable.pure _).and ((Own1.stable _ _).and ((Own1.stable _ _).and (Old.stable _ _)))))
    ⟨rfl, hA, hB, hO⟩
    (AxOf (fun _ => { tmps := #[Value.int .u8 m, undef, .pointer (some ⟨w.heap.size, 0, none⟩), .pointer (some ⟨w.heap.size + 1, 0, none⟩), .int .i64 (firstLane m), .int .u8 m, .func (.func 93) #[] #[.pointer (some ⟨w.heap.size + 2, 0, none⟩)], .int .i64 (firstLane m), undef], defers := [] }) (FirstI w))
    (AxOf.stable (fun k => (Stable.pure _).and ((Own1.stable _ _).and ((Own1.stable _ _).and (Old.stable _ _))))) ?assign ?body ?done ?stop
  case assign =>
    intro l k S W hk hl hr hSb hI
    have hx : (lanesOf m)[k] = firstLane m := by
      obtain ⟨rfl, _⟩ := hI
      unfold firstLane; rw [List.headD_eq_head?_getD, List.head?_eq_getElem?, List.getElem?_eq_getElem hk]; rfl
    rw [hx]
    clear hx hC hA hB hO hr
    gi_wp2
    exact ⟨⟨rfl, hI⟩, Kept.refl _ _⟩
  case body =>
    rintro l k S a W r hk hl hlr hr hSb ⟨rfl, h0, h1, h2, h3⟩
    have c1 := h1.cell
    have f1 := h1.free
    have c2 := h2.cell
    have f2 := h2.free
    have hs : someLane m = true := by unfold someLane; cases h : lanesOf m with
      | nil => rw [h] at hk; simp at hk
      | cons a r => rfl
    have HS := Lib.hid hs
    clear hlr hs h0
    gi_wp2
    exact ⟨(Kept.store W ⟨w.heap.size, 0, none⟩ _ h1.mine (Nat.le_refl _)).trans (Kept.store _ ⟨w.heap.size + 1, 0, none⟩ _ h2.mine (by simp)),
      rfl, HS.out, (h1.set _).other _ (by simp), (h2.other (q := ⟨w.heap.size, 0, none⟩) _ (by simp)).set _, (h3.set (p := ⟨w.heap.size, 0, none⟩) (Nat.le_refl _) _).set (p := ⟨w.heap.size + 1, 0, none⟩) (by simp) _⟩
  case done =>
    rintro D S W hD hSD hr ⟨h0, h1, h2, h3⟩ hK
    have c1 := h1.cell
    have f1 := h1.free
    have c2 := h2.cell
    have f2 := h2.free
    have e0 : lanesOf m = [] := List.eq_nil_of_length_eq_zero h0
    have e1 : firstLane m = 0 := by unfold firstLane; rw [e0]; rfl
    have e2 : someLane m = false := by unfold someLane; rw [e0]; rfl
    have E1 := Lib.hid e1
    have E2 := Lib.hid e2
    clear hr h0 e0 e1 e2
    gi_wp2
    have hK2 : ((W.setCell ⟨w.heap.size, 0, none⟩ (.int .i64 0)).setCell ⟨w.heap.size + 1, 0, none⟩ (.bool false)).heap[D]? = some (.deferred (some [])) :=
      (Below.heap_setCell _ _ _ _ (by simp; omega)).trans ((Below.heap_setCell _ _ _ _ (by simp; omega)).trans hK)
    have g1 := (h1.set (.int .i64 0)).other (q := ⟨w.heap.size + 1, 0, none⟩) (.bool false) (by simp)
    have g2 := (h2.other (q := ⟨w.heap.size, 0, none⟩) (.int .i64 0) (by simp)).set (.bool false)
    have g3 := (h3.set (p := ⟨w.heap.size, 0, none⟩) (Nat.le_refl _) (.int .i64 0)).set (p := ⟨w.heap.size + 1, 0, none⟩) (by simp) (.bool false)
    have d1 := (g1.put (D := D) (show w.heap.size ≠ D by omega) (.deferred none)).cell
    have d2 := (g2.put (D := D) (show w.heap.size + 1 ≠ D by omega) (.deferred none)).cell
    refine post_mark (.inl rfl) hK2 (v := .tuple #[.int .i64 0, .bool false]) (by simp [results, Try.results99, go_sem, d1, d2]) ?_
    exact ⟨by rw [E1.out, E2.out]; rfl, below_putObj g3.below (by omega) _⟩
  case stop =>
    rintro D c k S W hD hSD hr hk ⟨rfl, hs, h1, h2, h3⟩ hK
    have c1 := h1.cell
    have c2 := h2.cell
    have HS := Lib.hid hs
    clear hr hs hk
    gi_wp2
    have d1 := (h1.put (D := D) (show w.heap.size ≠ D by omega) (.deferred none)).cell
    have d2 := (h2.put (D := D) (show w.heap.size + 1 ≠ D by omega) (.deferred none)).cell
    refine post_mark (.inl rfl) hK (v := .tuple #[.int .i64 (firstLane m), .bool true]) (by simp [results, Try.results99, go_sem, d1, d2]) ?_
    exact ⟨by rw [HS.out], below_putObj h3.below (by omega) _⟩

def spreadW (m k : Nat) : Nat := ((lanesOf m).take k).foldl (fun x i => setLane x i 255) 0
theorem lanesOf_lt (m i : Nat) (h : i ∈ lanesOf m) : i < 8 := by
  unfold lanesOf at h; exact List.mem_range.1 (List.mem_filter.1 h).1
theorem spreadW_lt (m k : Nat) : spreadW m k < 2 ^ 64 := by
  unfold spreadW
  suffices ∀ (l : List Nat) (x : Nat), x < 2 ^ 64 → l.foldl (fun x i => setLane x i 255) x < 2 ^ 64 from this _ _ (by decide)
  intro l
  induction l with
  | nil => exact fun _ h => h
  | cons a r ih => exact fun x _ => ih _ (setLane_lt _ _ _ (by decide))
theorem spreadW_succ (m k : Nat) (h : k < (lanesOf m).length) : spreadW m (k + 1) = setLane (spreadW m k) (nthN (lanesOf m) k) 255 := by
  unfold spreadW
  rw [List.take_succ_eq_append_getElem h, List.foldl_append, nthN_eq h]; rfl
def SpreadI (m : Nat) (w : World) (k : Nat) (S : Nat → Prop) (W : World) : Prop :=
  Own1 ⟨w.heap.size, 0, none⟩ (.int .u64 (spreadW m k)) S W ∧ Old w.heap.size w S W
def noX (_c : Code) (_k : Nat) (_S : Nat → Prop) (_W : World) : Prop := False
theorem noX_stable (c : Code) (k : Nat) : Stable (noX c k) := fun _ _ _ _ h _ => h
theorem SpreadI.stable (m : Nat) (w : World) (k : Nat) : Stable (SpreadI m w k) := (Own1.stable _ _).and (Old.stable _ _)

/-! ### Words and their bytes -/
end Go.Proofs.Ytoklgjlmjkhmbaa
