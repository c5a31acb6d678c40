/-
  The document's answers for control words.
-/
import Derived.Test.YtfoohdjgnphdgaaCtrlPure
import Derived.Test.YtfoohdjgnphdgaaLanesS
import Derived.Test.YtfoohdjgnphdgaaCommon
set_option linter.unusedSimpArgs false
set_option linter.unusedVariables false
set_option maxRecDepth 100000
namespace Go.Proofs.Ytfoohdjgnphdgaa
open Go.RowKit

theorem rbyte_any (b : Nat) (w : World) (hb : b < 256) : Calls Try.prog 60 #[.int .u8 b] w fun e w' => e = .returned (.bool (okB b)) ∧ w' = w := by
  by_cases h1 : b ≤ 127
  · have e : okB b = true := by unfold okB; simp; omega
    have h1' : decide ((b : Int) ≤ 127) = true := by simp; omega
    rw [e]
    go_enter Try.func60, Try.ntmps60
    go_wp2
    go_ret
    exact ⟨rfl, rfl⟩
  · have h1' : decide ((b : Int) ≤ 127) = false := by simp; omega
    by_cases h2 : b = 128
    · subst h2
      go_enter Try.func60, Try.ntmps60
      go_wp2
      go_ret
      exact ⟨rfl, rfl⟩
    · have h2' : ((b : Int) == 128) = false := by simp; omega
      have e : okB b = ((b : Int) == 254) := by
        unfold okB
        have e1 : decide (b < 128) = false := by simp; omega
        have e2 : (b == 128) = false := by simp; omega
        rw [e1, e2]
        rw [Bool.eq_iff_iff]; simp; omega
      rw [e]
      have e'h := Lib.hid e
      clear e
      clear h1 h2
      go_enter Try.func60, Try.ntmps60
      go_wp2
      go_ret
      exact ⟨rfl, rfl⟩
theorem rfull_any (x n : Nat) (w : World) (hx : x < 2 ^ 64) (hn : n < 8) : Calls Try.prog 53 #[.int .u64 x, .int .i64 n] w fun e w' => e = .returned (.bool (fullAt x n)) ∧ w' = w := by
  have A := refAt_any x n w hx (by omega)
  have e : fullAt x n = decide ((byteAt x n : Int) < 128) := by unfold fullAt; rw [Bool.eq_iff_iff]; simp; omega
  rw [e]
  have A'h := Lib.hid A
  have hx'h := Lib.hid hx
  have hn'h := Lib.hid hn
  have e'h := Lib.hid e
  clear A hx hn e
  go_enter Try.func53, Try.ntmps53
  go_wp2_with fail
  refine (A'h.out).mono ?_
  rintro e w' ⟨rfl, rfl⟩
  go_wp2
  go_ret
  exact ⟨rfl, rfl⟩
theorem rright_any (x : Nat) (w : World) (hx : x < 2 ^ 64) : Calls Try.prog 39 #[.int .u64 x] w fun e w' => e = .returned (.bool (rightW x)) ∧ Below w.heap.size w w' := by
  have HX := Lib.hid hx
  clear hx
  go_enter Try.func39, Try.ntmps39
  go_wp2_with fail
  refine (refBytes_any x _ HX.out).mono ?_
  rintro e w1 ⟨g, cap, rfl, hb1, hrow⟩
  have HR := Lib.hid hrow
  clear hrow
  go_wp2
  go_loopg [8] 8 (fun q i wr => ∃ k : Nat, k + q = 8 ∧ i = .int .i64 k ∧ (∀ j, j < k → okB (byteAt x j) = true) ∧ wr = w1)
  case atStart => exact ⟨0, rfl, rfl, fun j hj => absurd hj (by omega), rfl⟩
  case round =>
    obtain ⟨k, hk, rfl, hok, rfl⟩ := hrel
    have HK := Lib.hid hk
    have HO := Lib.hid hok
    have hkn : k ≤ 8 := by omega
    clear hk hok
    by_cases h8 : k < 8
    · have hdk : decide ((k : Int) < 8) = true := by simp; omega
      have c1 : wr.cell? ⟨g, k, none⟩ = some (.int .u8 (byteAt x k)) := row_cell HR.out h8 (by rw [u8s_get (by rw [length_bytes8]; exact h8), nthN_bytes8 x k h8])
      have Y := rbyte_any (byteAt x k) wr (byteAt_lt _ _)
      cases ho : okB (byteAt x k) with
      | true =>
        rw [ho] at Y
        generalize byteAt x k = bb at c1 Y
        have Y'h := Lib.hid Y
        have ho'h := Lib.hid ho
        clear Y ho
        go_wp2_with (first | (go_at_call 60; refine Y'h.out.mono ?_; rintro e w' ⟨rfl, rfl⟩))
        go_roundg (gk - 1)
        case measure => have := HK.out; omega
        case rel => exact ⟨k + 1, by have := HK.out; omega, by go_num, fun j hj => by
          by_cases e : j = k
          · subst e; exact ho'h.out
          · exact HO.out j (by omega), rfl⟩
      | false =>
        rw [ho] at Y
        generalize byteAt x k = bb at c1 Y
        have Y'h := Lib.hid Y
        have ho'h := Lib.hid ho
        clear Y ho
        go_wp2_with (first | (go_at_call 60; refine Y'h.out.mono ?_; rintro e w' ⟨rfl, rfl⟩))
        go_ret
        refine ⟨?_, hb1⟩
        have : rightW x = false := by
          rw [← Bool.not_eq_true, rightW_iff]
          intro h
          have := h k h8
          rw [ho'h.out] at this
          cases this
        rw [this]; rfl
    · obtain rfl : k = 8 := by omega
      go_wp2
      go_ret
      refine ⟨?_, hb1⟩
      rw [(rightW_iff x).2 HO.out]; rfl
theorem rset0_any (x : Nat) (w : World) (hx : x < 2 ^ 64) : Calls Try.prog 88 #[.int .u64 x, .int .i64 0] w fun e w' => e = .returned (.int .u8 (belowM x 128)) ∧ w' = w := by
  have HX := Lib.hid hx
  clear hx
  go_enter Try.func88, Try.ntmps88
  go_wp2_with fail
  go_loopg [5, 8] 8 (fun q y i wr => ∃ k : Nat, k + q = 8 ∧ i = .int .i64 k ∧ y = .int .u8 (maskK (belF x 128) k) ∧ wr = w)
  case atStart => exact ⟨0, rfl, rfl, by rw [maskK_zero]; rfl, rfl⟩
  case round =>
    obtain ⟨k, hk, rfl, rfl, rfl⟩ := hrel
    have HK := Lib.hid hk
    have hkn : k ≤ 8 := by omega
    clear hk
    by_cases h8 : k < 8
    · have hdk : decide ((k : Int) < 8) = true := by simp; omega
      have A := refAt_any x k wr HX.out (by omega)
      by_cases hf : (belF x 128) k = true
      · have hm := maskK_yes (belF x 128) k h8 hf
        have hlt := maskK_lt (belF x 128) (k + 1)
        rw [hm] at hlt
        have hw := refWith_any (maskK (belF x 128) k) k wr h8 hlt
        rw [← hm] at hw
        have HW := Lib.hid hw
        have ht : decide ((byteAt x k : Int) < 128) = true := by simp [eqF, belF] at hf ⊢; omega
        clear hm hlt hw hf
        generalize byteAt x k = bb at *
        have A'h := Lib.hid A
        clear A
        go_wp2_with (first | (go_at_call 45; refine A'h.out.mono ?_; rintro e w' ⟨rfl, rfl⟩) | (go_at_call 97; refine HW.out.mono ?_; rintro e w' ⟨rfl, rfl⟩))
        go_roundg (gk - 1)
        case measure => have := HK.out; omega
        case rel => exact ⟨k + 1, by have := HK.out; omega, by go_num, rfl, rfl⟩
      · have hm := Lib.hid (maskK_no (belF x 128) k (by simpa using hf))
        have ht : decide ((byteAt x k : Int) < 128) = false := by simp [eqF, belF] at hf ⊢; omega
        clear hf
        generalize byteAt x k = bb at *
        have A'h := Lib.hid A
        clear A
        go_wp2_with (first | (go_at_call 45; refine A'h.out.mono ?_; rintro e w' ⟨rfl, rfl⟩))
        go_roundg (gk - 1)
        case measure => have := HK.out; omega
        case rel => exact ⟨k + 1, by have := HK.out; omega, by go_num, by rw [hm.out], rfl⟩
    · obtain rfl : k = 8 := by omega
      go_wp2
      go_ret
      exact ⟨by rw [maskK_full]; rfl, rfl⟩
theorem rset1_any (x : Nat) (w : World) (hx : x < 2 ^ 64) : Calls Try.prog 88 #[.int .u64 x, .int .i64 1] w fun e w' => e = .returned (.int .u8 (equalM x 128)) ∧ w' = w := by
  have HX := Lib.hid hx
  clear hx
  go_enter Try.func88, Try.ntmps88
  go_wp2_with fail
  go_loopg [5, 8] 8 (fun q y i wr => ∃ k : Nat, k + q = 8 ∧ i = .int .i64 k ∧ y = .int .u8 (maskK (eqF x 128) k) ∧ wr = w)
  case atStart => exact ⟨0, rfl, rfl, by rw [maskK_zero]; rfl, rfl⟩
  case round =>
    obtain ⟨k, hk, rfl, rfl, rfl⟩ := hrel
    have HK := Lib.hid hk
    have hkn : k ≤ 8 := by omega
    clear hk
    by_cases h8 : k < 8
    · have hdk : decide ((k : Int) < 8) = true := by simp; omega
      have A := refAt_any x k wr HX.out (by omega)
      by_cases hf : (eqF x 128) k = true
      · have hm := maskK_yes (eqF x 128) k h8 hf
        have hlt := maskK_lt (eqF x 128) (k + 1)
        rw [hm] at hlt
        have hw := refWith_any (maskK (eqF x 128) k) k wr h8 hlt
        rw [← hm] at hw
        have HW := Lib.hid hw
        have ht : ((byteAt x k : Int) == 128) = true := by simp [eqF, belF] at hf ⊢; omega
        clear hm hlt hw hf
        generalize byteAt x k = bb at *
        have A'h := Lib.hid A
        clear A
        go_wp2_with (first | (go_at_call 45; refine A'h.out.mono ?_; rintro e w' ⟨rfl, rfl⟩) | (go_at_call 97; refine HW.out.mono ?_; rintro e w' ⟨rfl, rfl⟩))
        go_roundg (gk - 1)
        case measure => have := HK.out; omega
        case rel => exact ⟨k + 1, by have := HK.out; omega, by go_num, rfl, rfl⟩
      · have hm := Lib.hid (maskK_no (eqF x 128) k (by simpa using hf))
        have ht : ((byteAt x k : Int) == 128) = false := by simp [eqF, belF] at hf ⊢; omega
        clear hf
        generalize byteAt x k = bb at *
        have A'h := Lib.hid A
        clear A
        go_wp2_with (first | (go_at_call 45; refine A'h.out.mono ?_; rintro e w' ⟨rfl, rfl⟩))
        go_roundg (gk - 1)
        case measure => have := HK.out; omega
        case rel => exact ⟨k + 1, by have := HK.out; omega, by go_num, by rw [hm.out], rfl⟩
    · obtain rfl : k = 8 := by omega
      go_wp2
      go_ret
      exact ⟨by rw [maskK_full]; rfl, rfl⟩
theorem rset2_any (x : Nat) (w : World) (hx : x < 2 ^ 64) : Calls Try.prog 88 #[.int .u64 x, .int .i64 2] w fun e w' => e = .returned (.int .u8 (equalM x 254)) ∧ w' = w := by
  have HX := Lib.hid hx
  clear hx
  go_enter Try.func88, Try.ntmps88
  go_wp2_with fail
  go_loopg [5, 8] 8 (fun q y i wr => ∃ k : Nat, k + q = 8 ∧ i = .int .i64 k ∧ y = .int .u8 (maskK (eqF x 254) k) ∧ wr = w)
  case atStart => exact ⟨0, rfl, rfl, by rw [maskK_zero]; rfl, rfl⟩
  case round =>
    obtain ⟨k, hk, rfl, rfl, rfl⟩ := hrel
    have HK := Lib.hid hk
    have hkn : k ≤ 8 := by omega
    clear hk
    by_cases h8 : k < 8
    · have hdk : decide ((k : Int) < 8) = true := by simp; omega
      have A := refAt_any x k wr HX.out (by omega)
      by_cases hf : (eqF x 254) k = true
      · have hm := maskK_yes (eqF x 254) k h8 hf
        have hlt := maskK_lt (eqF x 254) (k + 1)
        rw [hm] at hlt
        have hw := refWith_any (maskK (eqF x 254) k) k wr h8 hlt
        rw [← hm] at hw
        have HW := Lib.hid hw
        have ht : ((byteAt x k : Int) == 254) = true := by simp [eqF, belF] at hf ⊢; omega
        clear hm hlt hw hf
        generalize byteAt x k = bb at *
        have A'h := Lib.hid A
        clear A
        go_wp2_with (first | (go_at_call 45; refine A'h.out.mono ?_; rintro e w' ⟨rfl, rfl⟩) | (go_at_call 97; refine HW.out.mono ?_; rintro e w' ⟨rfl, rfl⟩))
        go_roundg (gk - 1)
        case measure => have := HK.out; omega
        case rel => exact ⟨k + 1, by have := HK.out; omega, by go_num, rfl, rfl⟩
      · have hm := Lib.hid (maskK_no (eqF x 254) k (by simpa using hf))
        have ht : ((byteAt x k : Int) == 254) = false := by simp [eqF, belF] at hf ⊢; omega
        clear hf
        generalize byteAt x k = bb at *
        have A'h := Lib.hid A
        clear A
        go_wp2_with (first | (go_at_call 45; refine A'h.out.mono ?_; rintro e w' ⟨rfl, rfl⟩))
        go_roundg (gk - 1)
        case measure => have := HK.out; omega
        case rel => exact ⟨k + 1, by have := HK.out; omega, by go_num, by rw [hm.out], rfl⟩
    · obtain rfl : k = 8 := by omega
      go_wp2
      go_ret
      exact ⟨by rw [maskK_full]; rfl, rfl⟩
theorem rstops_any (x : Nat) (w : World) (hx : x < 2 ^ 64) : Calls Try.prog 77 #[.int .u64 x] w fun e w' => e = .returned (.bool (stopsW x)) ∧ w' = w := by
  have S := rset1_any x w hx
  have e : stopsW x = decide (0 < equalM x 128) := by unfold stopsW; rw [Bool.eq_iff_iff]; simp; omega
  rw [e]
  generalize equalM x 128 = m at *
  have S'h := Lib.hid S
  have hx'h := Lib.hid hx
  have e'h := Lib.hid e
  clear S hx e
  go_enter Try.func77, Try.ntmps77
  go_wp2_with fail
  refine (S'h.out).mono ?_
  rintro e w' ⟨rfl, rfl⟩
  go_wp2
  go_ret
  exact ⟨rfl, rfl⟩
theorem rerase_any (x : Nat) (lane : Int) (w : World) (hx : x < 2 ^ 64) : Calls Try.prog 55 #[.int .u64 x, .int .i64 lane] w fun e w' =>
    e = .returned (.tuple #[.int .u64 (if eraseE x lane = 0 then setLane x lane.toNat (eraseB x) else 0 : Nat), .int .i64 (eraseE x lane)]) ∧ Below w.heap.size w w' := by
  have I := refIs_any lane w
  by_cases h1 : 0 ≤ lane ∧ lane < 8
  · obtain ⟨n, rfl⟩ : ∃ n : Nat, lane = (n : Int) := ⟨lane.toNat, by omega⟩
    have hn : n < 8 := by omega
    have e1 : isLane (n : Int) = true := by unfold isLane; simp; omega
    rw [e1] at I
    have F := rfull_any x n w hx hn
    cases hf : fullAt x n with
    | true =>
      have ez : eraseE x n = 0 := by unfold eraseE; rw [if_neg (by simp; omega), Int.toNat_natCast, if_neg (by simp [hf])]
      have S := rstops_any x w hx
      have P := refPut_any x (eraseB x) n w hx (by unfold eraseB; split <;> decide) hn
      rw [ez, if_pos rfl, Int.toNat_natCast]
      rw [hf] at F
      cases hs : stopsW x with
      | true =>
        have eb : eraseB x = 128 := by unfold eraseB; rw [if_pos hs]
        rw [hs] at S
        rw [eb] at P ⊢
        generalize setLane x n 128 = y at *
        have I'h := Lib.hid I
        have F'h := Lib.hid F
        have hx'h := Lib.hid hx
        have e1'h := Lib.hid e1
        have hf'h := Lib.hid hf
        have ez'h := Lib.hid ez
        have P'h := Lib.hid P
        have S'h := Lib.hid S
        have hs'h := Lib.hid hs
        have eb'h := Lib.hid eb
        clear I F hx e1 hf ez P S hs eb
        go_enter Try.func55, Try.ntmps55
        go_wp2_with fail
        refine (I'h.out).mono ?_
        rintro e w' ⟨rfl, rfl⟩
        go_wp2_with fail
        refine (F'h.out).mono ?_
        rintro e w' ⟨rfl, rfl⟩
        go_wp2_with fail
        refine (S'h.out).mono ?_
        rintro e w' ⟨rfl, rfl⟩
        go_wp2_with fail
        refine (P'h.out).mono ?_
        rintro e w' ⟨rfl, hb⟩
        go_wp2
        go_ret2
        exact ⟨rfl, hb⟩
      | false =>
        have eb : eraseB x = 254 := by unfold eraseB; rw [if_neg (by rw [hs]; simp)]
        rw [hs] at S
        rw [eb] at P ⊢
        generalize setLane x n 254 = y at *
        have I'h := Lib.hid I
        have F'h := Lib.hid F
        have hx'h := Lib.hid hx
        have e1'h := Lib.hid e1
        have hf'h := Lib.hid hf
        have ez'h := Lib.hid ez
        have P'h := Lib.hid P
        have S'h := Lib.hid S
        have hs'h := Lib.hid hs
        have eb'h := Lib.hid eb
        clear I F hx e1 hf ez P S hs eb
        go_enter Try.func55, Try.ntmps55
        go_wp2_with fail
        refine (I'h.out).mono ?_
        rintro e w' ⟨rfl, rfl⟩
        go_wp2_with fail
        refine (F'h.out).mono ?_
        rintro e w' ⟨rfl, rfl⟩
        go_wp2_with fail
        refine (S'h.out).mono ?_
        rintro e w' ⟨rfl, rfl⟩
        go_wp2_with fail
        refine (P'h.out).mono ?_
        rintro e w' ⟨rfl, hb⟩
        go_wp2
        go_ret2
        exact ⟨rfl, hb⟩
    | false =>
      have ez : eraseE x n = 4 := by unfold eraseE; rw [if_neg (by simp; omega), Int.toNat_natCast, if_pos (by rw [hf]; simp)]
      rw [ez, if_neg (by decide)]
      rw [hf] at F
      have I'h := Lib.hid I
      have F'h := Lib.hid F
      have hx'h := Lib.hid hx
      have e1'h := Lib.hid e1
      have hf'h := Lib.hid hf
      have ez'h := Lib.hid ez
      clear I F hx e1 hf ez
      go_enter Try.func55, Try.ntmps55
      go_wp2_with fail
      refine (I'h.out).mono ?_
      rintro e w' ⟨rfl, rfl⟩
      go_wp2_with fail
      refine (F'h.out).mono ?_
      rintro e w' ⟨rfl, rfl⟩
      go_wp2
      go_ret2
      exact ⟨rfl, Below.refl _ _⟩
  · have e1 : isLane lane = false := by unfold isLane; simp; omega
    rw [e1] at I
    have ez : eraseE x lane = 110 := by unfold eraseE; rw [if_pos h1]
    rw [ez, if_neg (by decide)]
    have I'h := Lib.hid I
    have hx'h := Lib.hid hx
    have e1'h := Lib.hid e1
    have ez'h := Lib.hid ez
    have h1'h := Lib.hid h1
    clear I hx e1 ez h1
    go_enter Try.func55, Try.ntmps55
    go_wp2_with fail
    refine (I'h.out).mono ?_
    rintro e w' ⟨rfl, rfl⟩
    go_wp2
    go_ret2
    exact ⟨rfl, Below.refl _ _⟩
/-- A word made ready, lane by lane. -/
def readyK (x : Nat) : Nat → Nat
  | 0 => x
  | k + 1 => setLane (readyK x k) k (if fullAt (readyK x k) k = true then 254 else 128)
theorem setLane_lt' (x n b : Nat) (hx : x < 2 ^ 64) (hb : b < 256) : setLane x n b < 2 ^ 64 := by
  have := putX_lt x b hx hb [(n : Int)]
  unfold putX at this
  simpa using this
theorem readyK_lt (x : Nat) (hx : x < 2 ^ 64) : ∀ k, readyK x k < 2 ^ 64
  | 0 => hx
  | k + 1 => setLane_lt' _ _ _ (readyK_lt x hx k) (by split <;> decide)
end Go.Proofs.Ytfoohdjgnphdgaa
