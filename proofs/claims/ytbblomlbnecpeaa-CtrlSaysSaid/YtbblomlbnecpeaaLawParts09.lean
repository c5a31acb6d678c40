/-
  CtrlParts.
-/
import Derived.Test.YtbblomlbnecpeaaCtrlW
import Derived.Test.YtbblomlbnecpeaaCtrlQ
set_option linter.unusedSimpArgs false
set_option linter.unusedVariables false
set_option maxRecDepth 100000
namespace Go.Proofs.Ytbblomlbnecpeaa
open Go.RowKit

theorem setM_yes {x : Nat} (h : rightW x = true) : setM x 0 = belowM x 128 ∧ setM x 1 = equalM x 128 ∧ setM x 2 = equalM x 254 := by
  unfold setM; simp [h]
theorem setM_no {x : Nat} (h : rightW x = false) (k : Nat) : setM x k = 0 := by
  unfold setM; simp [h]
theorem matchM_yes {x h : Nat} (hr : rightW x = true) (hh : h ≤ 127) : matchM x h = equalM x h ∧ matchE x h = 0 := by
  unfold matchM matchE; simp [hr, hh]
theorem sets_yes (x : Nat) (w : World) (hx : x < 2 ^ 64) (hr : rightW x = true) : Calls Try.prog 12 #[.int .u64 x] w fun e w' => e = .returned (.tuple #[.int .u8 (belowM x 128), .int .u8 (equalM x 128), .int .u8 (equalM x 254)]) ∧ Below w.heap.size w w' := by
  have := sets_any x w hx
  rwa [(setM_yes hr).1, (setM_yes hr).2.1, (setM_yes hr).2.2] at this
theorem sets_no (x : Nat) (w : World) (hx : x < 2 ^ 64) (hr : rightW x = false) : Calls Try.prog 12 #[.int .u64 x] w fun e w' => e = .returned (.tuple #[.int .u8 0, .int .u8 0, .int .u8 0]) ∧ Below w.heap.size w w' := by
  have := sets_any x w hx
  rwa [setM_no hr, setM_no hr, setM_no hr] at this
theorem check_yes (x : Nat) (w : World) (hx : x < 2 ^ 64) (hr : rightW x = true) : Calls Try.prog 11 #[.int .u64 x] w fun e w' => e = .returned (.int .i64 0) ∧ w' = w := by
  have := check_any x w hx
  rwa [if_pos hr] at this
theorem check_no (x : Nat) (w : World) (hx : x < 2 ^ 64) (hr : rightW x = false) : Calls Try.prog 11 #[.int .u64 x] w fun e w' => e = .returned (.int .i64 190) ∧ w' = w := by
  have := check_any x w hx
  rwa [if_neg (by rw [hr]; simp)] at this
theorem match_yes (x h : Nat) (w : World) (hx : x < 2 ^ 64) (hr : rightW x = true) (hh : h ≤ 127) : Calls Try.prog 16 #[.int .u64 x, .int .u8 h] w fun e w' => e = .returned (.tuple #[.int .u8 (equalM x h), .int .i64 0]) ∧ Below w.heap.size w w' := by
  have := match_any x h w hx (by omega)
  rwa [(matchM_yes hr hh).1, (matchM_yes hr hh).2] at this
theorem fill_good (x h n : Nat) (w : World) (hx : x < 2 ^ 64) (hr : rightW x = true) (he : fillE x (n : Int) h = 0) : Calls Try.prog 20 #[.int .u64 x, .int .i64 n, .int .u8 h] w fun e w' => e = .returned (.tuple #[.int .u64 (setLane x n h), .int .i64 0]) ∧ Below w.heap.size w w' := by
  have := xfill_any x h (n : Int) w hx (by have := (fillE_zero he).2.1; omega)
  unfold fillW' fillZ at this
  rwa [if_pos ⟨hr, he⟩, if_pos hr, he, Int.toNat_natCast] at this
theorem fill_bad (x h z : Nat) (lane : Int) (w : World) (hx : x < 2 ^ 64) (hh : h < 256) (hr : rightW x = true) (he : fillE x lane h = z) (hz : z ≠ 0) : Calls Try.prog 20 #[.int .u64 x, .int .i64 lane, .int .u8 h] w fun e w' => e = .returned (.tuple #[.int .u64 0, .int .i64 z]) ∧ Below w.heap.size w w' := by
  have := xfill_any x h lane w hx hh
  unfold fillW' fillZ at this
  rwa [if_neg (fun e => hz (he ▸ e.2)), if_pos hr, he] at this
theorem erase_good (x n : Nat) (w : World) (hx : x < 2 ^ 64) (hr : rightW x = true) (hn : n < 8) (hf : fullAt x n = true) : Calls Try.prog 21 #[.int .u64 x, .int .i64 n] w fun e w' => e = .returned (.tuple #[.int .u64 (setLane x n (eraseB x)), .int .i64 0]) ∧ Below w.heap.size w w' := by
  have he : eraseE x (n : Int) = 0 := by unfold eraseE; rw [if_neg (by simp; omega), Int.toNat_natCast, if_neg (by simp [hf])]
  have := xerase_any x (n : Int) w hx
  unfold eraseW' eraseZ at this
  rwa [if_pos ⟨hr, he⟩, if_pos hr, he, Int.toNat_natCast] at this
theorem erase_bad (x z : Nat) (lane : Int) (w : World) (hx : x < 2 ^ 64) (hr : rightW x = true) (he : eraseE x lane = z) (hz : z ≠ 0) : Calls Try.prog 21 #[.int .u64 x, .int .i64 lane] w fun e w' => e = .returned (.tuple #[.int .u64 0, .int .i64 z]) ∧ Below w.heap.size w w' := by
  have := xerase_any x lane w hx
  unfold eraseW' eraseZ at this
  rwa [if_neg (fun e => hz (he ▸ e.2)), if_pos hr, he] at this
theorem stops_yes (x : Nat) (w : World) (hx : x < 2 ^ 64) (hr : rightW x = true) : Calls Try.prog 14 #[.int .u64 x] w fun e w' => e = .returned (.bool (stopsW x)) ∧ Below w.heap.size w w' := by
  have := stops_any x w hx
  rwa [hr, Bool.true_and] at this
theorem stops_no (x : Nat) (w : World) (hx : x < 2 ^ 64) (hr : rightW x = false) : Calls Try.prog 14 #[.int .u64 x] w fun e w' => e = .returned (.bool false) ∧ Below w.heap.size w w' := by
  have := stops_any x w hx
  rwa [hr, Bool.false_and] at this
theorem eraseB_lt (x : Nat) : eraseB x < 256 := by unfold eraseB; split <;> decide
theorem okB_erase (x : Nat) : okB (eraseB x) = true := by unfold eraseB; split <;> rfl
theorem okB_low {h : Nat} (hh : h ≤ 127) : okB h = true := by unfold okB; simp; omega

set_option maxHeartbeats 1000000 in
theorem walk_CtrlParts (a0 a1 a2 : Int) (w : World) (w0 : (Lit.int .u64 a0).wf = true) (w1 : (Lit.int .i64 a1).wf = true) (w2 : (Lit.int .u8 a2).wf = true) :
    Calls Try.prog 5 #[.int .u64 a0, .int .i64 a1, .int .u8 a2] w fun e w' => e = .returned (.bool true) ∧ Below w.heap.size w w' := by
  obtain ⟨x, rfl, hx⟩ := nat_of_u64 w0
  obtain ⟨h, rfl, hh⟩ := nat_of_u8 w2
  clear w0 w1 w2
  have or0 : bits .or .u8 0 0 = 0 := by decide
  cases hr : rightW x with
  | false =>
    have S := fun w => sets_no x w hx hr
    have C := fun w => check_no x w hx hr
    have T := fun w => stops_no x w hx hr
    have S'h := Lib.hid S
    have C'h := Lib.hid C
    have T'h := Lib.hid T
    have hr'h := Lib.hid hr
    have hx'h := Lib.hid hx
    have hh'h := Lib.hid hh
    clear S C T hr hx hh
    go_enter Try.func5, Try.ntmps5
    go_wp2_with fail
    refine (cwakes_any _).mono ?_
    rintro e w1 ⟨rfl, hb1⟩
    have hb1'h := Lib.hid hb1
    clear hb1
    go_wp2_with fail
    refine (S'h.out _).mono ?_
    rintro e w2 ⟨rfl, hb2⟩
    have hB2 := below_next hb1'h.out hb2
    clear hb2
    have hB2'h := Lib.hid hB2
    clear hB2
    go_wp2_with fail
    refine (C'h.out _).mono ?_
    rintro e w' ⟨rfl, rfl⟩
    go_wp2_with fail
    refine (T'h.out _).mono ?_
    rintro e w3 ⟨rfl, hb3⟩
    have hB3 := below_next hB2'h.out hb3
    clear hb3
    have hB3'h := Lib.hid hB3
    clear hB3
    go_wp2
    go_ret
    exact ⟨rfl, hB3'h.out⟩
  | true =>
    have S := fun w => sets_yes x w hx hr
    have C := fun w => check_yes x w hx hr
    obtain ⟨p1, p2, p3⟩ := sets_apart x
    have q := (check_iff x).2 hr
    have l0 := belowM_lt' x 128
    have l1 := equalM_lt' x 128
    have l2 := equalM_lt' x 254
    have g1 : bits .and .u8 (belowM x 128 : Int) (equalM x 128 : Int) = 0 := by rw [u8_and_nat _ _ l0 l1, p1]; rfl
    have g2 : bits .and .u8 (equalM x 128 : Int) (equalM x 254 : Int) = 0 := by rw [u8_and_nat _ _ l1 l2, p2]; rfl
    have g3 : bits .and .u8 (belowM x 128 : Int) (equalM x 254 : Int) = 0 := by rw [u8_and_nat _ _ l0 l2, p3]; rfl
    have g4 : bits .or .u8 (belowM x 128 : Int) (equalM x 128 : Int) = ((belowM x 128 ||| equalM x 128 : Nat) : Int) := u8_or_nat _ _ l0 l1
    have g5 : bits .or .u8 ((belowM x 128 ||| equalM x 128 : Nat) : Int) (equalM x 254 : Int) = 255 := by rw [u8_or_nat _ _ (Nat.or_lt_two_pow (n := 8) l0 l1) l2, q]; rfl
    clear p1 p2 p3 q
    by_cases he : fillE x a1 h = 0
    · obtain ⟨hl, hh1, hf⟩ := fillE_zero he
      obtain ⟨n, rfl⟩ : ∃ n : Nat, a1 = (n : Int) := ⟨a1.toNat, by omega⟩
      have hn : n < 8 := by omega
      rw [Int.toNat_natCast] at hf
      have F := fun w => fill_good x h n w hx hr he
      have hyr : rightW (setLane x n h) = true := set_right hr (okB_low hh1) hh hn
      have hy := setLane_lt' x n h hx hh
      have hzr : rightW (setLane (setLane x n h) n (eraseB (setLane x n h))) = true := set_right hyr (okB_erase _) (eraseB_lt _) hn
      have hz := setLane_lt' (setLane x n h) n (eraseB (setLane x n h)) hy (eraseB_lt _)
      have M1 := fun w => match_yes (setLane x n h) h w hy hyr hh1
      have M2 := fun w => match_yes x h w hx hr hh1
      have S2 := fun w => sets_yes (setLane x n h) w hy hyr
      have C2 := fun w => check_yes (setLane x n h) w hy hyr
      have E := fun w => erase_good (setLane x n h) n w hy hyr hn (set_fullAt hn hh1)
      have M3 := fun w => match_yes (setLane (setLane x n h) n (eraseB (setLane x n h))) h w hz hzr hh1
      have C3 := fun w => check_yes (setLane (setLane x n h) n (eraseB (setLane x n h))) w hz hzr
      rw [set_unmatch hn hh1 hf (eraseB_or _)] at M3
      rw [set_match hn hh1] at M1
      rw [set_full hn hh1, set_empty hn hh1] at S2
      generalize equalM (setLane x n h) 254 = d2 at *
      generalize setLane (setLane x n h) n (eraseB (setLane x n h)) = z at *
      generalize setLane x n h = y at *
      have lm := equalM_lt' x h
      have lp : 2 ^ n < 256 := Nat.pow_lt_pow_right (m := n) (n := 8) (by decide) hn
      have k1 : bits .or .u8 (equalM x h : Int) ((2 ^ n : Nat) : Int) = ((equalM x h ||| 2 ^ n : Nat) : Int) := u8_or_nat _ _ lm lp
      have k2 : bits .or .u8 (belowM x 128 : Int) ((2 ^ n : Nat) : Int) = ((belowM x 128 ||| 2 ^ n : Nat) : Int) := u8_or_nat _ _ l0 lp
      have k3 : bits .andNot .u8 (equalM x 128 : Int) ((2 ^ n : Nat) : Int) = ((equalM x 128 &&& (255 - 2 ^ n) : Nat) : Int) := u8_andNot_nat _ _ l1 lp
      have hsh : (2 : Int) ^ min n 8 % 256 = ((2 ^ n : Nat) : Int) := by
        have h8 : n = 0 ∨ n = 1 ∨ n = 2 ∨ n = 3 ∨ n = 4 ∨ n = 5 ∨ n = 6 ∨ n = 7 := by omega
        rcases h8 with rfl | rfl | rfl | rfl | rfl | rfl | rfl | rfl <;> rfl
      generalize equalM x h ||| 2 ^ n = o1 at *
      generalize belowM x 128 ||| 2 ^ n = o2 at *
      generalize equalM x 128 &&& (255 - 2 ^ n) = o3 at *
      generalize belowM x 128 ||| equalM x 128 = o4 at *
      generalize 2 ^ n = p at *
      generalize belowM x 128 = m0 at *
      generalize equalM x 128 = m1 at *
      generalize equalM x 254 = m2 at *
      generalize equalM x h = mh at *
      clear l0 l1 l2 lm lp hl
      have S'h := Lib.hid S
      have C'h := Lib.hid C
      have F'h := Lib.hid F
      have M1'h := Lib.hid M1
      have M2'h := Lib.hid M2
      have S2'h := Lib.hid S2
      have C2'h := Lib.hid C2
      have E'h := Lib.hid E
      have M3'h := Lib.hid M3
      have C3'h := Lib.hid C3
      have hr'h := Lib.hid hr
      have hx'h := Lib.hid hx
      have hh'h := Lib.hid hh
      have hn'h := Lib.hid hn
      have hf'h := Lib.hid hf
      have he'h := Lib.hid he
      have hyr'h := Lib.hid hyr
      have hy'h := Lib.hid hy
      have hzr'h := Lib.hid hzr
      have hz'h := Lib.hid hz
      have hh1'h := Lib.hid hh1
      clear S C F M1 M2 S2 C2 E M3 C3 hr hx hh hn hf he hyr hy hzr hz hh1
      go_enter Try.func5, Try.ntmps5
      go_wp2_with fail
      refine (cwakes_any _).mono ?_
      rintro e w1 ⟨rfl, hb1⟩
      have hb1'h := Lib.hid hb1
      clear hb1
      go_wp2_with fail
      refine (S'h.out _).mono ?_
      rintro e w2 ⟨rfl, hb2⟩
      have hB2 := below_next hb1'h.out hb2
      clear hb2
      have hB2'h := Lib.hid hB2
      clear hB2
      go_wp2_with fail
      refine (C'h.out _).mono ?_
      rintro e w' ⟨rfl, rfl⟩
      go_wp2_with fail
      refine (F'h.out _).mono ?_
      rintro e w3 ⟨rfl, hb3⟩
      have hB3 := below_next hB2'h.out hb3
      clear hb3
      have hB3'h := Lib.hid hB3
      clear hB3
      go_wp2_with fail
      refine (M1'h.out _).mono ?_
      rintro e w4 ⟨rfl, hb4⟩
      have hB4 := below_next hB3'h.out hb4
      clear hb4
      have hB4'h := Lib.hid hB4
      clear hB4
      go_wp2_with fail
      refine (M2'h.out _).mono ?_
      rintro e w5 ⟨rfl, hb5⟩
      have hB5 := below_next hB4'h.out hb5
      clear hb5
      have hB5'h := Lib.hid hB5
      clear hB5
      go_wp2_with fail
      refine (S2'h.out _).mono ?_
      rintro e w6 ⟨rfl, hb6⟩
      have hB6 := below_next hB5'h.out hb6
      clear hb6
      have hB6'h := Lib.hid hB6
      clear hB6
      go_wp2_with fail
      refine (C2'h.out _).mono ?_
      rintro e w' ⟨rfl, rfl⟩
      go_wp2_with fail
      refine (E'h.out _).mono ?_
      rintro e w7 ⟨rfl, hb7⟩
      have hB7 := below_next hB6'h.out hb7
      clear hb7
      have hB7'h := Lib.hid hB7
      clear hB7
      go_wp2_with fail
      refine (M3'h.out _).mono ?_
      rintro e w8 ⟨rfl, hb8⟩
      have hB8 := below_next hB7'h.out hb8
      clear hb8
      have hB8'h := Lib.hid hB8
      clear hB8
      go_wp2_with fail
      refine (C3'h.out _).mono ?_
      rintro e w' ⟨rfl, rfl⟩
      go_wp2
      go_ret
      exact ⟨rfl, hB8'h.out⟩
    · have F := fun w => fill_bad x h _ a1 w hx hh hr rfl he
      have hne : (((fillE x a1 h : Nat) : Int) != 0) = true := by simp; omega
      generalize fillE x a1 h = z at *
      generalize belowM x 128 ||| equalM x 128 = o4 at *
      generalize belowM x 128 = m0 at *
      generalize equalM x 128 = m1 at *
      generalize equalM x 254 = m2 at *
      clear l0 l1 l2
      have S'h := Lib.hid S
      have C'h := Lib.hid C
      have F'h := Lib.hid F
      have hr'h := Lib.hid hr
      have hx'h := Lib.hid hx
      have hh'h := Lib.hid hh
      have he'h := Lib.hid he
      clear S C F hr hx hh he
      go_enter Try.func5, Try.ntmps5
      go_wp2_with fail
      refine (cwakes_any _).mono ?_
      rintro e w1 ⟨rfl, hb1⟩
      have hb1'h := Lib.hid hb1
      clear hb1
      go_wp2_with fail
      refine (S'h.out _).mono ?_
      rintro e w2 ⟨rfl, hb2⟩
      have hB2 := below_next hb1'h.out hb2
      clear hb2
      have hB2'h := Lib.hid hB2
      clear hB2
      go_wp2_with fail
      refine (C'h.out _).mono ?_
      rintro e w' ⟨rfl, rfl⟩
      go_wp2_with fail
      refine (F'h.out _).mono ?_
      rintro e w3 ⟨rfl, hb3⟩
      have hB3 := below_next hB2'h.out hb3
      clear hb3
      have hB3'h := Lib.hid hB3
      clear hB3
      go_wp2
      go_ret
      exact ⟨rfl, hB3'h.out⟩
end Go.Proofs.Ytbblomlbnecpeaa
