/-
  CtrlStops.
-/
import Derived.Test.YtbblomlbnecpeaaLawParts09
set_option linter.unusedSimpArgs false
set_option linter.unusedVariables false
set_option maxRecDepth 100000
namespace Go.Proofs.Ytbblomlbnecpeaa
open Go.RowKit

theorem eraseE_or (x : Nat) (lane : Int) : eraseE x lane = 110 ∨ eraseE x lane = 4 ∨ eraseE x lane = 0 := by
  unfold eraseE; split
  · simp
  · split <;> simp
/-- Between rounds. -/
structure StopsR (x : Nat) (w : World) (y : Nat) (W : World) : Prop where
  right : rightW y = true
  lt : y < 2 ^ 64
  same : stopsW y = stopsW x
  old : Below w.heap.size w W
set_option maxHeartbeats 1000000 in
theorem walk_CtrlStops (a0 : Int) (sp : Option Addr) (n cap : Nat) (zs : List Int) (w : World) (w0 : (Lit.int .u64 a0).wf = true) (hc : sp = none → cap = 0) (hcap : n ≤ cap) (h : Sl w sp n (zs.map (Value.int .i64))) (hz : ∀ z ∈ zs, (Lit.int .i64 z).wf = true) :
    Calls Try.prog 6 #[.int .u64 a0, .slice sp n cap] w fun e w' => e = .returned (.bool true) ∧ Below w.heap.size w w' := by
  obtain ⟨x, rfl, hx⟩ := nat_of_u64 w0
  have hlen : n = zs.length := by have := h.1; simpa using this
  have hmax := h.2.1
  unfold maxLen at hmax
  clear w0 hz
  have hc'h := Lib.hid hc
  have hcap'h := Lib.hid hcap
  clear hc hcap
  cases hr : rightW x with
  | false =>
    have C := fun w => check_no x w hx hr
    have C'h := Lib.hid C
    have hr'h := Lib.hid hr
    have hx'h := Lib.hid hx
    have h'h := Lib.hid h
    have hlen'h := Lib.hid hlen
    clear C hr hx h hlen
    go_enter Try.func6, Try.ntmps6
    go_wp2_with fail
    refine (cwakes_any _).mono ?_
    rintro e w1 ⟨rfl, hb1⟩
    go_wp2_with fail
    refine (C'h.out _).mono ?_
    rintro e w' ⟨rfl, rfl⟩
    go_wp2
    go_ret
    exact ⟨rfl, hb1⟩
  | true =>
    have C := fun w => check_yes x w hx hr
    have T := fun w => stops_yes x w hx hr
    generalize hs0 : stopsW x = s0 at *
    have C'h := Lib.hid C
    have T'h := Lib.hid T
    have hr'h := Lib.hid hr
    have hx'h := Lib.hid hx
    have h'h := Lib.hid h
    have hlen'h := Lib.hid hlen
    have hs0'h := Lib.hid hs0
    clear C T hr hx h hlen hs0
    go_enter Try.func6, Try.ntmps6
    go_wp2_with fail
    refine (cwakes_any _).mono ?_
    rintro e w1 ⟨rfl, hb1⟩
    have hb1'h := Lib.hid hb1
    clear hb1
    go_wp2_with fail
    refine (C'h.out _).mono ?_
    rintro e w' ⟨rfl, rfl⟩
    go_wp2_with fail
    refine (T'h.out _).mono ?_
    rintro e w2 ⟨rfl, hb2⟩
    have hB2 := below_next hb1'h.out hb2
    clear hb2
    have hB2'h := Lib.hid hB2
    clear hB2
    go_wp2
    go_loopg [0, 19] n (fun q c i wr => ∃ (k y : Nat), k + q = n ∧ i = .int .i64 k ∧ c = .int .u64 y ∧ StopsR x w y wr)
    case atStart => exact ⟨0, x, by omega, rfl, rfl, hr'h.out, hx'h.out, rfl, hB2'h.out⟩
    case round =>
      obtain ⟨k, y, hkq, rfl, rfl, hR⟩ := hrel
      by_cases hk : k < n
      · by_cases h16 : k = 16
        · subst h16
          obtain ⟨ab, aoff, rfl, hcs⟩ := (h'h.out.below hR.old).some' (by omega)
          have c1 : wr.cell? ⟨ab, aoff + 16, none⟩ = some (.int .i64 (nthZ zs 16)) := hcs 16 _ (i64s_at (by have := hlen'h.out; omega))
          have hd : (16 : Int) < (n : Int) := by omega
          clear hcs
          have hkq'h := Lib.hid hkq
          have hR'h := Lib.hid hR
          have hk'h := Lib.hid hk
          clear hkq hR hk
          go_wp2
          go_ret
          exact ⟨rfl, hR'h.out.old⟩
        · have d16 : ((k : Int) == 16) = false := by simp; omega
          obtain ⟨ab, aoff, rfl, hcs⟩ := (h'h.out.below hR.old).some' (by omega)
          have c1 : wr.cell? ⟨ab, aoff + k, none⟩ = some (.int .i64 (nthZ zs k)) := hcs k _ (i64s_at (by have := hlen'h.out; omega))
          generalize nthZ zs k = z at *
          have hd : (k : Int) < (n : Int) := by omega
          clear hcs
          rcases eraseE_or y z with he | he | he
          · have E := erase_bad y 110 z wr hR.lt hR.right he (by decide)
            have hkq'h := Lib.hid hkq
            have hR'h := Lib.hid hR
            have hk'h := Lib.hid hk
            have h16'h := Lib.hid h16
            have E'h := Lib.hid E
            have he'h := Lib.hid he
            clear hkq hR hk h16 E he
            go_wp2_with (first | (go_at_call 21; refine E'h.out.mono ?_; rintro e w3 ⟨rfl, hb3⟩; have hB3 := hR'h.out.old.trans (hb3.mono hR'h.out.old.size); clear hb3; have hB3'h := Lib.hid hB3; clear hB3))
            go_roundg (gk - 1)
            case measure => have := hkq'h.out; omega
            case rel => exact ⟨k + 1, y, by have := hkq'h.out; omega, by go_num, rfl, hR'h.out.right, hR'h.out.lt, hR'h.out.same, hB3'h.out⟩
          · have E := erase_bad y 4 z wr hR.lt hR.right he (by decide)
            have hkq'h := Lib.hid hkq
            have hR'h := Lib.hid hR
            have hk'h := Lib.hid hk
            have h16'h := Lib.hid h16
            have E'h := Lib.hid E
            have he'h := Lib.hid he
            clear hkq hR hk h16 E he
            go_wp2_with (first | (go_at_call 21; refine E'h.out.mono ?_; rintro e w3 ⟨rfl, hb3⟩; have hB3 := hR'h.out.old.trans (hb3.mono hR'h.out.old.size); clear hb3; have hB3'h := Lib.hid hB3; clear hB3))
            go_roundg (gk - 1)
            case measure => have := hkq'h.out; omega
            case rel => exact ⟨k + 1, y, by have := hkq'h.out; omega, by go_num, rfl, hR'h.out.right, hR'h.out.lt, hR'h.out.same, hB3'h.out⟩
          · obtain ⟨hl, hf⟩ := eraseE_zero he
            obtain ⟨m, rfl⟩ : ∃ m : Nat, z = (m : Int) := ⟨z.toNat, by omega⟩
            have hm : m < 8 := by omega
            rw [Int.toNat_natCast] at hf
            have E := erase_good y m wr hR.lt hR.right hm hf
            have y1 := set_right hR.right (okB_erase y) (eraseB_lt y) hm
            have y2 := setLane_lt' y m (eraseB y) hR.lt (eraseB_lt y)
            have y3 := erase_stops hm hf
            generalize setLane y m (eraseB y) = y' at *
            have T2 := fun w => stops_yes y' w y2 y1
            rw [y3, hR.same, hs0'h.out] at T2
            have hne : (s0 != s0) = false := by simp
            clear hl
            have hkq'h := Lib.hid hkq
            have hR'h := Lib.hid hR
            have hk'h := Lib.hid hk
            have h16'h := Lib.hid h16
            have E'h := Lib.hid E
            have he'h := Lib.hid he
            have hm'h := Lib.hid hm
            have hf'h := Lib.hid hf
            have y1'h := Lib.hid y1
            have y2'h := Lib.hid y2
            have y3'h := Lib.hid y3
            have T2'h := Lib.hid T2
            clear hkq hR hk h16 E he hm hf y1 y2 y3 T2
            go_wp2_with (first | (go_at_call 21; refine E'h.out.mono ?_; rintro e w3 ⟨rfl, hb3⟩; have hB3 := hR'h.out.old.trans (hb3.mono hR'h.out.old.size); clear hb3; have hB3'h := Lib.hid hB3; clear hB3) | (go_at_call 14; refine (T2'h.out _).mono ?_; rintro e w4 ⟨rfl, hb4⟩; have hB4 := hB3'h.out.trans (hb4.mono hB3'h.out.size); clear hb4; have hB4'h := Lib.hid hB4; clear hB4))
            go_roundg (gk - 1)
            case measure => have := hkq'h.out; omega
            case rel => exact ⟨k + 1, y', by have := hkq'h.out; omega, by go_num, rfl, y1'h.out, y2'h.out, by rw [y3'h.out, hR'h.out.same], hB4'h.out⟩
      · have hd : ¬ (k : Int) < (n : Int) := by omega
        have hkq'h := Lib.hid hkq
        have hR'h := Lib.hid hR
        have hk'h := Lib.hid hk
        clear hkq hR hk
        go_wp2
        go_ret
        exact ⟨rfl, hR'h.out.old⟩
end Go.Proofs.Ytbblomlbnecpeaa
