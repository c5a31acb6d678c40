/-
  The document's answers for control words.
-/
import Derived.Test.YtbblomlbnecpeaaCtrlPure
import Derived.Test.YtbblomlbnecpeaaLanesS
import Derived.Test.YtbblomlbnecpeaaCommon
set_option linter.unusedSimpArgs false
set_option linter.unusedVariables false
set_option maxRecDepth 100000
namespace Go.Proofs.Ytbblomlbnecpeaa
open Go.RowKit

theorem rbyte_any (b : Nat) (w : World) (hb : b < 256) : Calls Try.prog 33 #[.int .u8 b] w fun e w' => e = .returned (.bool (okB b)) ∧ w' = w := by
  by_cases h1 : b ≤ 127
  · have e : okB b = true := by unfold okB; simp; omega
    have h1' : decide ((b : Int) ≤ 127) = true := by simp; omega
    rw [e]
    go_enter Try.func33, Try.ntmps33
    go_wp2
    go_ret
    exact ⟨rfl, rfl⟩
  · have h1' : decide ((b : Int) ≤ 127) = false := by simp; omega
    by_cases h2 : b = 128
    · subst h2
      go_enter Try.func33, Try.ntmps33
      go_wp2
      go_ret
      exact ⟨rfl, rfl⟩
    · have h2' : ((b : Int) == 128) = false := by simp; omega
      have e : okB b = ((b : Int) == 254) := by
        unfold okB
        have e1 : decide (b < 128) = false := by simp; omega
        have e2 : (b == 128) = false := by simp; omega
        rw [e1, e2]
        rw [Bool.eq_iff_iff]; simp; omega
      rw [e]
      have e'h := Lib.hid e
      clear e
      clear h1 h2
      go_enter Try.func33, Try.ntmps33
      go_wp2
      go_ret
      exact ⟨rfl, rfl⟩
theorem rfull_any (x n : Nat) (w : World) (hx : x < 2 ^ 64) (hn : n < 8) : Calls Try.prog 51 #[.int .u64 x, .int .i64 n] w fun e w' => e = .returned (.bool (fullAt x n)) ∧ w' = w := by
  have A := refAt_any x n w hx (by omega)
  have e : fullAt x n = decide ((byteAt x n : Int) < 128) := by unfold fullAt; rw [Bool.eq_iff_iff]; simp; omega
  rw [e]
  have A'h := Lib.hid A
  have hx'h := Lib.hid hx
  have hn'h := Lib.hid hn
  have e'h := Lib.hid e
  clear A hx hn e
  go_enter Try.func51, Try.ntmps51
  go_wp2_with fail
  refine (A'h.out).mono ?_
  rintro e w' ⟨rfl, rfl⟩
  go_wp2
  go_ret
  exact ⟨rfl, rfl⟩
theorem rright_any (x : Nat) (w : World) (hx : x < 2 ^ 64) : Calls Try.prog 10 #[.int .u64 x] w fun e w' => e = .returned (.bool (rightW x)) ∧ Below w.heap.size w w' := by
  have HX := Lib.hid hx
  clear hx
  go_enter Try.func10, Try.ntmps10
  go_wp2_with fail
  refine (refBytes_any x _ HX.out).mono ?_
  rintro e w1 ⟨g, cap, rfl, hb1, hrow⟩
  have HR := Lib.hid hrow
  clear hrow
  go_wp2
  go_loopg [8] 8 (fun q i wr => ∃ k : Nat, k + q = 8 ∧ i = .int .i64 k ∧ (∀ j, j < k → okB (byteAt x j) = true) ∧ wr = w1)
  case atStart => exact ⟨0, rfl, rfl, fun j hj => absurd hj (by omega), rfl⟩
  case round =>
    obtain ⟨k, hk, rfl, hok, rfl⟩ := hrel
    have HK := Lib.hid hk
    have HO := Lib.hid hok
    have hkn : k ≤ 8 := by omega
    clear hk hok
    by_cases h8 : k < 8
    · have hdk : decide ((k : Int) < 8) = true := by simp; omega
      have c1 : wr.cell? ⟨g, k, none⟩ = some (.int .u8 (byteAt x k)) := row_cell HR.out h8 (by rw [u8s_get (by rw [length_bytes8]; exact h8), nthN_bytes8 x k h8])
      have Y := rbyte_any (byteAt x k) wr (byteAt_lt _ _)
      cases ho : okB (byteAt x k) with
      | true =>
        rw [ho] at Y
        generalize byteAt x k = bb at c1 Y
        have Y'h := Lib.hid Y
        have ho'h := Lib.hid ho
        clear Y ho
        go_wp2_with (first | (go_at_call 33; refine Y'h.out.mono ?_; rintro e w' ⟨rfl, rfl⟩))
        go_roundg (gk - 1)
        case measure => have := HK.out; omega
        case rel => exact ⟨k + 1, by have := HK.out; omega, by go_num, fun j hj => by
          by_cases e : j = k
          · subst e; exact ho'h.out
          · exact HO.out j (by omega), rfl⟩
      | false =>
        rw [ho] at Y
        generalize byteAt x k = bb at c1 Y
        have Y'h := Lib.hid Y
        have ho'h := Lib.hid ho
        clear Y ho
        go_wp2_with (first | (go_at_call 33; refine Y'h.out.mono ?_; rintro e w' ⟨rfl, rfl⟩))
        go_ret
        refine ⟨?_, hb1⟩
        have : rightW x = false := by
          rw [← Bool.not_eq_true, rightW_iff]
          intro h
          have := h k h8
          rw [ho'h.out] at this
          cases this
        rw [this]; rfl
    · obtain rfl : k = 8 := by omega
      go_wp2
      go_ret
      refine ⟨?_, hb1⟩
      rw [(rightW_iff x).2 HO.out]; rfl
theorem rset0_any (x : Nat) (w : World) (hx : x < 2 ^ 64) : Calls Try.prog 13 #[.int .u64 x, .int .i64 0] w fun e w' => e = .returned (.int .u8 (belowM x 128)) ∧ w' = w := by
  have HX := Lib.hid hx
  clear hx
  go_enter Try.func13, Try.ntmps13
  go_wp2_with fail
  go_loopg [5, 8] 8 (fun q y i wr => ∃ k : Nat, k + q = 8 ∧ i = .int .i64 k ∧ y = .int .u8 (maskK (belF x 128) k) ∧ wr = w)
  case atStart => exact ⟨0, rfl, rfl, by rw [maskK_zero]; rfl, rfl⟩
  case round =>
    obtain ⟨k, hk, rfl, rfl, rfl⟩ := hrel
    have HK := Lib.hid hk
    have hkn : k ≤ 8 := by omega
    clear hk
    by_cases h8 : k < 8
    · have hdk : decide ((k : Int) < 8) = true := by simp; omega
      have A := refAt_any x k wr HX.out (by omega)
      by_cases hf : (belF x 128) k = true
      · have hm := maskK_yes (belF x 128) k h8 hf
        have hlt := maskK_lt (belF x 128) (k + 1)
        rw [hm] at hlt
        have hw := refWith_any (maskK (belF x 128) k) k wr h8 hlt
        rw [← hm] at hw
        have HW := Lib.hid hw
        have ht : decide ((byteAt x k : Int) < 128) = true := by simp [eqF, belF] at hf ⊢; omega
        clear hm hlt hw hf
        generalize byteAt x k = bb at *
        have A'h := Lib.hid A
        clear A
        go_wp2_with (first | (go_at_call 31; refine A'h.out.mono ?_; rintro e w' ⟨rfl, rfl⟩) | (go_at_call 39; refine HW.out.mono ?_; rintro e w' ⟨rfl, rfl⟩))
        go_roundg (gk - 1)
        case measure => have := HK.out; omega
        case rel => exact ⟨k + 1, by have := HK.out; omega, by go_num, rfl, rfl⟩
      · have hm := Lib.hid (maskK_no (belF x 128) k (by simpa using hf))
        have ht : decide ((byteAt x k : Int) < 128) = false := by simp [eqF, belF] at hf ⊢; omega
        clear hf
        generalize byteAt x k = bb at *
        have A'h := Lib.hid A
        clear A
        go_wp2_with (first | (go_at_call 31; refine A'h.out.mono ?_; rintro e w' ⟨rfl, rfl⟩))
        go_roundg (gk - 1)
        case measure => have := HK.out; omega
        case rel => exact ⟨k + 1, by have := HK.out; omega, by go_num, by rw [hm.out], rfl⟩
    · obtain rfl : k = 8 := by omega
      go_wp2
      go_ret
      exact ⟨by rw [maskK_full]; rfl, rfl⟩
theorem rset1_any (x : Nat) (w : World) (hx : x < 2 ^ 64) : Calls Try.prog 13 #[.int .u64 x, .int .i64 1] w fun e w' => e = .returned (.int .u8 (equalM x 128)) ∧ w' = w := by
  have HX := Lib.hid hx
  clear hx
  go_enter Try.func13, Try.ntmps13
  go_wp2_with fail
  go_loopg [5, 8] 8 (fun q y i wr => ∃ k : Nat, k + q = 8 ∧ i = .int .i64 k ∧ y = .int .u8 (maskK (eqF x 128) k) ∧ wr = w)
  case atStart => exact ⟨0, rfl, rfl, by rw [maskK_zero]; rfl, rfl⟩
  case round =>
    obtain ⟨k, hk, rfl, rfl, rfl⟩ := hrel
    have HK := Lib.hid hk
    have hkn : k ≤ 8 := by omega
    clear hk
    by_cases h8 : k < 8
    · have hdk : decide ((k : Int) < 8) = true := by simp; omega
      have A := refAt_any x k wr HX.out (by omega)
      by_cases hf : (eqF x 128) k = true
      · have hm := maskK_yes (eqF x 128) k h8 hf
        have hlt := maskK_lt (eqF x 128) (k + 1)
        rw [hm] at hlt
        have hw := refWith_any (maskK (eqF x 128) k) k wr h8 hlt
        rw [← hm] at hw
        have HW := Lib.hid hw
        have ht : ((byteAt x k : Int) == 128) = true := by simp [eqF, belF] at hf ⊢; omega
        clear hm hlt hw hf
        generalize byteAt x k = bb at *
        have A'h := Lib.hid A
        clear A
        go_wp2_with (first | (go_at_call 31; refine A'h.out.mono ?_; rintro e w' ⟨rfl, rfl⟩) | (go_at_call 39; refine HW.out.mono ?_; rintro e w' ⟨rfl, rfl⟩))
        go_roundg (gk - 1)
        case measure => have := HK.out; omega
        case rel => exact ⟨k + 1, by have := HK.out; omega, by go_num, rfl, rfl⟩
      · have hm := Lib.hid (maskK_no (eqF x 128) k (by simpa using hf))
        have ht : ((byteAt x k : Int) == 128) = false := by simp [eqF, belF] at hf ⊢; omega
        clear hf
        generalize byteAt x k = bb at *
        have A'h := Lib.hid A
        clear A
        go_wp2_with (first | (go_at_call 31; refine A'h.out.mono ?_; rintro e w' ⟨rfl, rfl⟩))
        go_roundg (gk - 1)
        case measure => have := HK.out; omega
        case rel => exact ⟨k + 1, by have := HK.out; omega, by go_num, by rw [hm.out], rfl⟩
    · obtain rfl : k = 8 := by omega
      go_wp2
      go_ret
      exact ⟨by rw [maskK_full]; rfl, rfl⟩
theorem rset2_any (x : Nat) (w : World) (hx : x < 2 ^ 64) : Calls Try.prog 13 #[.int .u64 x, .int .i64 2] w fun e w' => e = .returned (.int .u8 (equalM x 254)) ∧ w' = w := by
  have HX := Lib.hid hx
  clear hx
  go_enter Try.func13, Try.ntmps13
  go_wp2_with fail
  go_loopg [5, 8] 8 (fun q y i wr => ∃ k : Nat, k + q = 8 ∧ i = .int .i64 k ∧ y = .int .u8 (maskK (eqF x 254) k) ∧ wr = w)
  case atStart => exact ⟨0, rfl, rfl, by rw [maskK_zero]; rfl, rfl⟩
  case round =>
    obtain ⟨k, hk, rfl, rfl, rfl⟩ := hrel
    have HK := Lib.hid hk
    have hkn : k ≤ 8 := by omega
    clear hk
    by_cases h8 : k < 8
    · have hdk : decide ((k : Int) < 8) = true := by simp; omega
      have A := refAt_any x k wr HX.out (by omega)
      by_cases hf : (eqF x 254) k = true
      · have hm := maskK_yes (eqF x 254) k h8 hf
        have hlt := maskK_lt (eqF x 254) (k + 1)
        rw [hm] at hlt
        have hw := refWith_any (maskK (eqF x 254) k) k wr h8 hlt
        rw [← hm] at hw
        have HW := Lib.hid hw
        have ht : ((byteAt x k : Int) == 254) = true := by simp [eqF, belF] at hf ⊢; omega
        clear hm hlt hw hf
        generalize byteAt x k = bb at *
        have A'h := Lib.hid A
        clear A
        go_wp2_with (first | (go_at_call 31; refine A'h.out.mono ?_; rintro e w' ⟨rfl, rfl⟩) | (go_at_call 39; refine HW.out.mono ?_; rintro e w' ⟨rfl, rfl⟩))
        go_roundg (gk - 1)
        case measure => have := HK.out; omega
        case rel => exact ⟨k + 1, by have := HK.out; omega, by go_num, rfl, rfl⟩
      · have hm := Lib.hid (maskK_no (eqF x 254) k (by simpa using hf))
        have ht : ((byteAt x k : Int) == 254) = false := by simp [eqF, belF] at hf ⊢; omega
        clear hf
        generalize byteAt x k = bb at *
        have A'h := Lib.hid A
        clear A
        go_wp2_with (first | (go_at_call 31; refine A'h.out.mono ?_; rintro e w' ⟨rfl, rfl⟩))
        go_roundg (gk - 1)
        case measure => have := HK.out; omega
        case rel => exact ⟨k + 1, by have := HK.out; omega, by go_num, by rw [hm.out], rfl⟩
    · obtain rfl : k = 8 := by omega
      go_wp2
      go_ret
      exact ⟨by rw [maskK_full]; rfl, rfl⟩
theorem rstops_any (x : Nat) (w : World) (hx : x < 2 ^ 64) : Calls Try.prog 15 #[.int .u64 x] w fun e w' => e = .returned (.bool (stopsW x)) ∧ w' = w := by
  have S := rset1_any x w hx
  have e : stopsW x = decide (0 < equalM x 128) := by unfold stopsW; rw [Bool.eq_iff_iff]; simp; omega
  rw [e]
  generalize equalM x 128 = m at *
  have S'h := Lib.hid S
  have hx'h := Lib.hid hx
  have e'h := Lib.hid e
  clear S hx e
  go_enter Try.func15, Try.ntmps15
  go_wp2_with fail
  refine (S'h.out).mono ?_
  rintro e w' ⟨rfl, rfl⟩
  go_wp2
  go_ret
  exact ⟨rfl, rfl⟩
theorem rfill_any (x h : Nat) (lane : Int) (w : World) (hx : x < 2 ^ 64) (hh : h < 256) : Calls Try.prog 22 #[.int .u64 x, .int .i64 lane, .int .u8 h] w fun e w' =>
    e = .returned (.tuple #[.int .u64 (if fillE x lane h = 0 then setLane x lane.toNat h else 0 : Nat), .int .i64 (fillE x lane h)]) ∧ Below w.heap.size w w' := by
  have I := refIs_any lane w
  by_cases h1 : 0 ≤ lane ∧ lane < 8
  · obtain ⟨n, rfl⟩ : ∃ n : Nat, lane = (n : Int) := ⟨lane.toNat, by omega⟩
    have hn : n < 8 := by omega
    have e1 : isLane (n : Int) = true := by unfold isLane; simp; omega
    rw [e1] at I
    by_cases h2 : h ≤ 127
    · have d2 : decide ((h : Int) > 127) = false := by simp; omega
      have F := rfull_any x n w hx hn
      cases hf : fullAt x n with
      | true =>
        have ez : fillE x n h = 5 := by unfold fillE; rw [if_neg (by simp; omega), if_neg (by omega), Int.toNat_natCast, if_pos hf]
        rw [ez, if_neg (by decide)]
        rw [hf] at F
        have I'h := Lib.hid I
        have F'h := Lib.hid F
        have hx'h := Lib.hid hx
        have hh'h := Lib.hid hh
        have e1'h := Lib.hid e1
        have hf'h := Lib.hid hf
        have ez'h := Lib.hid ez
        clear I F hx hh e1 hf ez
        go_enter Try.func22, Try.ntmps22
        go_wp2_with fail
        refine (I'h.out).mono ?_
        rintro e w' ⟨rfl, rfl⟩
        go_wp2_with fail
        refine (F'h.out).mono ?_
        rintro e w' ⟨rfl, rfl⟩
        go_wp2
        go_ret2
        exact ⟨rfl, Below.refl _ _⟩
      | false =>
        have ez : fillE x n h = 0 := by unfold fillE; rw [if_neg (by simp; omega), if_neg (by omega), Int.toNat_natCast, if_neg (by rw [hf]; simp)]
        have P := refPut_any x h n w hx hh hn
        rw [ez, if_pos rfl, Int.toNat_natCast]
        rw [hf] at F
        generalize setLane x n h = y at *
        have I'h := Lib.hid I
        have F'h := Lib.hid F
        have hx'h := Lib.hid hx
        have hh'h := Lib.hid hh
        have e1'h := Lib.hid e1
        have hf'h := Lib.hid hf
        have ez'h := Lib.hid ez
        have P'h := Lib.hid P
        clear I F hx hh e1 hf ez P
        go_enter Try.func22, Try.ntmps22
        go_wp2_with fail
        refine (I'h.out).mono ?_
        rintro e w' ⟨rfl, rfl⟩
        go_wp2_with fail
        refine (F'h.out).mono ?_
        rintro e w' ⟨rfl, rfl⟩
        go_wp2_with fail
        refine (P'h.out).mono ?_
        rintro e w' ⟨rfl, hb⟩
        go_wp2
        go_ret2
        exact ⟨rfl, hb⟩
    · have d2 : decide ((h : Int) > 127) = true := by simp; omega
      have ez : fillE x n h = 2 := by unfold fillE; rw [if_neg (by simp; omega), if_pos (by omega)]
      rw [ez, if_neg (by decide)]
      have I'h := Lib.hid I
      have hx'h := Lib.hid hx
      have hh'h := Lib.hid hh
      have e1'h := Lib.hid e1
      have ez'h := Lib.hid ez
      clear I hx hh e1 ez
      go_enter Try.func22, Try.ntmps22
      go_wp2_with fail
      refine (I'h.out).mono ?_
      rintro e w' ⟨rfl, rfl⟩
      go_wp2
      go_ret2
      exact ⟨rfl, Below.refl _ _⟩
  · have e1 : isLane lane = false := by unfold isLane; simp; omega
    rw [e1] at I
    have ez : fillE x lane h = 110 := by unfold fillE; rw [if_pos h1]
    rw [ez, if_neg (by decide)]
    have I'h := Lib.hid I
    have hx'h := Lib.hid hx
    have hh'h := Lib.hid hh
    have e1'h := Lib.hid e1
    have ez'h := Lib.hid ez
    have h1'h := Lib.hid h1
    clear I hx hh e1 ez h1
    go_enter Try.func22, Try.ntmps22
    go_wp2_with fail
    refine (I'h.out).mono ?_
    rintro e w' ⟨rfl, rfl⟩
    go_wp2
    go_ret2
    exact ⟨rfl, Below.refl _ _⟩
theorem rerase_any (x : Nat) (lane : Int) (w : World) (hx : x < 2 ^ 64) : Calls Try.prog 23 #[.int .u64 x, .int .i64 lane] w fun e w' =>
    e = .returned (.tuple #[.int .u64 (if eraseE x lane = 0 then setLane x lane.toNat (eraseB x) else 0 : Nat), .int .i64 (eraseE x lane)]) ∧ Below w.heap.size w w' := by
  have I := refIs_any lane w
  by_cases h1 : 0 ≤ lane ∧ lane < 8
  · obtain ⟨n, rfl⟩ : ∃ n : Nat, lane = (n : Int) := ⟨lane.toNat, by omega⟩
    have hn : n < 8 := by omega
    have e1 : isLane (n : Int) = true := by unfold isLane; simp; omega
    rw [e1] at I
    have F := rfull_any x n w hx hn
    cases hf : fullAt x n with
    | true =>
      have ez : eraseE x n = 0 := by unfold eraseE; rw [if_neg (by simp; omega), Int.toNat_natCast, if_neg (by simp [hf])]
      have S := rstops_any x w hx
      have P := refPut_any x (eraseB x) n w hx (by unfold eraseB; split <;> decide) hn
      rw [ez, if_pos rfl, Int.toNat_natCast]
      rw [hf] at F
      cases hs : stopsW x with
      | true =>
        have eb : eraseB x = 128 := by unfold eraseB; rw [if_pos hs]
        rw [hs] at S
        rw [eb] at P ⊢
        generalize setLane x n 128 = y at *
        have I'h := Lib.hid I
        have F'h := Lib.hid F
        have hx'h := Lib.hid hx
        have e1'h := Lib.hid e1
        have hf'h := Lib.hid hf
        have ez'h := Lib.hid ez
        have P'h := Lib.hid P
        have S'h := Lib.hid S
        have hs'h := Lib.hid hs
        have eb'h := Lib.hid eb
        clear I F hx e1 hf ez P S hs eb
        go_enter Try.func23, Try.ntmps23
        go_wp2_with fail
        refine (I'h.out).mono ?_
        rintro e w' ⟨rfl, rfl⟩
        go_wp2_with fail
        refine (F'h.out).mono ?_
        rintro e w' ⟨rfl, rfl⟩
        go_wp2_with fail
        refine (S'h.out).mono ?_
        rintro e w' ⟨rfl, rfl⟩
        go_wp2_with fail
        refine (P'h.out).mono ?_
        rintro e w' ⟨rfl, hb⟩
        go_wp2
        go_ret2
        exact ⟨rfl, hb⟩
      | false =>
        have eb : eraseB x = 254 := by unfold eraseB; rw [if_neg (by rw [hs]; simp)]
        rw [hs] at S
        rw [eb] at P ⊢
        generalize setLane x n 254 = y at *
        have I'h := Lib.hid I
        have F'h := Lib.hid F
        have hx'h := Lib.hid hx
        have e1'h := Lib.hid e1
        have hf'h := Lib.hid hf
        have ez'h := Lib.hid ez
        have P'h := Lib.hid P
        have S'h := Lib.hid S
        have hs'h := Lib.hid hs
        have eb'h := Lib.hid eb
        clear I F hx e1 hf ez P S hs eb
        go_enter Try.func23, Try.ntmps23
        go_wp2_with fail
        refine (I'h.out).mono ?_
        rintro e w' ⟨rfl, rfl⟩
        go_wp2_with fail
        refine (F'h.out).mono ?_
        rintro e w' ⟨rfl, rfl⟩
        go_wp2_with fail
        refine (S'h.out).mono ?_
        rintro e w' ⟨rfl, rfl⟩
        go_wp2_with fail
        refine (P'h.out).mono ?_
        rintro e w' ⟨rfl, hb⟩
        go_wp2
        go_ret2
        exact ⟨rfl, hb⟩
    | false =>
      have ez : eraseE x n = 4 := by unfold eraseE; rw [if_neg (by simp; omega), Int.toNat_natCast, if_pos (by rw [hf]; simp)]
      rw [ez, if_neg (by decide)]
      rw [hf] at F
      have I'h := Lib.hid I
      have F'h := Lib.hid F
      have hx'h := Lib.hid hx
      have e1'h := Lib.hid e1
      have hf'h := Lib.hid hf
      have ez'h := Lib.hid ez
      clear I F hx e1 hf ez
      go_enter Try.func23, Try.ntmps23
      go_wp2_with fail
      refine (I'h.out).mono ?_
      rintro e w' ⟨rfl, rfl⟩
      go_wp2_with fail
      refine (F'h.out).mono ?_
      rintro e w' ⟨rfl, rfl⟩
      go_wp2
      go_ret2
      exact ⟨rfl, Below.refl _ _⟩
  · have e1 : isLane lane = false := by unfold isLane; simp; omega
    rw [e1] at I
    have ez : eraseE x lane = 110 := by unfold eraseE; rw [if_pos h1]
    rw [ez, if_neg (by decide)]
    have I'h := Lib.hid I
    have hx'h := Lib.hid hx
    have e1'h := Lib.hid e1
    have ez'h := Lib.hid ez
    have h1'h := Lib.hid h1
    clear I hx e1 ez h1
    go_enter Try.func23, Try.ntmps23
    go_wp2_with fail
    refine (I'h.out).mono ?_
    rintro e w' ⟨rfl, rfl⟩
    go_wp2
    go_ret2
    exact ⟨rfl, Below.refl _ _⟩
/-- A word made ready, lane by lane. -/
def readyK (x : Nat) : Nat → Nat
  | 0 => x
  | k + 1 => setLane (readyK x k) k (if fullAt (readyK x k) k = true then 254 else 128)
theorem setLane_lt' (x n b : Nat) (hx : x < 2 ^ 64) (hb : b < 256) : setLane x n b < 2 ^ 64 := by
  have := putX_lt x b hx hb [(n : Int)]
  unfold putX at this
  simpa using this
theorem readyK_lt (x : Nat) (hx : x < 2 ^ 64) : ∀ k, readyK x k < 2 ^ 64
  | 0 => hx
  | k + 1 => setLane_lt' _ _ _ (readyK_lt x hx k) (by split <;> decide)
theorem rready_any (x : Nat) (w : World) (hx : x < 2 ^ 64) : Calls Try.prog 27 #[.int .u64 x] w fun e w' => e = .returned (.int .u64 (readyK x 8)) ∧ Below w.heap.size w w' := by
  have HX := Lib.hid hx
  clear hx
  go_enter Try.func27, Try.ntmps27
  go_wp2_with fail
  go_loopg [0, 5] 8 (fun q y i wr => ∃ k : Nat, k + q = 8 ∧ i = .int .i64 k ∧ y = .int .u64 (readyK x k) ∧ Below w.heap.size w wr)
  case atStart => exact ⟨0, rfl, rfl, rfl, Below.refl _ _⟩
  case round =>
    obtain ⟨k, hk, rfl, rfl, hB⟩ := hrel
    have HK := Lib.hid hk
    have hkn : k ≤ 8 := by omega
    clear hk
    by_cases h8 : k < 8
    · have hdk : decide ((k : Int) < 8) = true := by simp; omega
      have hlt := readyK_lt x HX.out k
      have F := rfull_any (readyK x k) k wr hlt h8
      have hs : readyK x (k + 1) = setLane (readyK x k) k (if fullAt (readyK x k) k = true then 254 else 128) := rfl
      obtain ⟨y1, hy1⟩ : ∃ y1, y1 = readyK x (k + 1) := ⟨_, rfl⟩
      rw [← hy1] at hs
      generalize readyK x k = y at *
      have hy1'h := Lib.hid hy1
      clear hy1
      cases hf : fullAt y k with
      | true =>
        rw [hf] at F hs
        rw [if_pos rfl] at hs
        have P := refPut_any y 254 k wr hlt (by decide) h8
        rw [← hs] at P
        have F'h := Lib.hid F
        have P'h := Lib.hid P
        have hf'h := Lib.hid hf
        have hs'h := Lib.hid hs
        have hlt'h := Lib.hid hlt
        have hB'h := Lib.hid hB
        clear F P hf hs hlt hB
        go_wp2_with (first | (go_at_call 51; refine F'h.out.mono ?_; rintro e w' ⟨rfl, rfl⟩) | (go_at_call 52; refine P'h.out.mono ?_; rintro e w2 ⟨rfl, hb2⟩))
        have hB2 := hB'h.out.trans (hb2.mono hB'h.out.size)
        clear hb2
        have hB2'h := Lib.hid hB2
        clear hB2
        go_wp2
        go_roundg (gk - 1)
        case measure => have := HK.out; omega
        case rel => exact ⟨k + 1, by have := HK.out; omega, by go_num, by rw [← hy1'h.out], hB2'h.out⟩
      | false =>
        rw [hf] at F hs
        rw [if_neg (by simp)] at hs
        have P := refPut_any y 128 k wr hlt (by decide) h8
        rw [← hs] at P
        have F'h := Lib.hid F
        have P'h := Lib.hid P
        have hf'h := Lib.hid hf
        have hs'h := Lib.hid hs
        have hlt'h := Lib.hid hlt
        have hB'h := Lib.hid hB
        clear F P hf hs hlt hB
        go_wp2_with (first | (go_at_call 51; refine F'h.out.mono ?_; rintro e w' ⟨rfl, rfl⟩) | (go_at_call 52; refine P'h.out.mono ?_; rintro e w2 ⟨rfl, hb2⟩))
        have hB2 := hB'h.out.trans (hb2.mono hB'h.out.size)
        clear hb2
        have hB2'h := Lib.hid hB2
        clear hB2
        go_wp2
        go_roundg (gk - 1)
        case measure => have := HK.out; omega
        case rel => exact ⟨k + 1, by have := HK.out; omega, by go_num, by rw [← hy1'h.out], hB2'h.out⟩
    · obtain rfl : k = 8 := by omega
      go_wp2
      go_ret
      exact ⟨rfl, hB⟩
end Go.Proofs.Ytbblomlbnecpeaa
