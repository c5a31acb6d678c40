/-
  CtrlReady.
-/
import Derived.Test.YtbblomlbnecpeaaLawParts09
set_option linter.unusedSimpArgs false
set_option linter.unusedVariables false
set_option maxRecDepth 100000
namespace Go.Proofs.Ytbblomlbnecpeaa
open Go.RowKit

theorem min_if' (n c m : Nat) (h : m = min n c) : (if (c : Int) < (n : Int) then (c : Int) else (n : Int)) = (m : Int) := by
  split <;> omega
theorem u8s_natsZ {zs : List Int} (hz : ∀ z ∈ zs, (Lit.int .u8 z).wf = true) : zs.map (Value.int .u8) = u8s (nats zs) := by
  unfold u8s nats
  rw [List.map_map]
  refine List.map_congr_left fun z hm => ?_
  obtain ⟨x, rfl, _⟩ := nat_of_u8 (hz z hm)
  simp
theorem nats_byteyZ {zs : List Int} (hz : ∀ z ∈ zs, (Lit.int .u8 z).wf = true) : Bytey (nats zs) := by
  intro k hk
  unfold nats at hk
  obtain ⟨z, hm, rfl⟩ := List.mem_map.1 hk
  obtain ⟨x, rfl, hx⟩ := nat_of_u8 (hz z hm)
  simpa using hx
theorem u8s_takeZ (l : List Nat) (m : Nat) : (u8s l).take m = u8s (l.take m) := by unfold u8s; rw [List.map_take]
theorem u8s_lengthZ (l : List Nat) : (u8s l).length = l.length := by simp [u8s]
theorem ready_yes (x : Nat) (w : World) (hx : x < 2 ^ 64) (hr : rightW x = true) : Calls Try.prog 24 #[.int .u64 x] w fun e w' => e = .returned (.tuple #[.int .u64 (blendW (fillW 128) (fillW 254) (belowM x 128)), .int .i64 0]) ∧ Below w.heap.size w w' := by
  have := ready_any x w hx
  unfold readyW rightZ at this
  rwa [if_pos hr, if_pos hr] at this
theorem ready_no (x : Nat) (w : World) (hx : x < 2 ^ 64) (hr : rightW x = false) : Calls Try.prog 24 #[.int .u64 x] w fun e w' => e = .returned (.tuple #[.int .u64 0, .int .i64 190]) ∧ Below w.heap.size w w' := by
  have := ready_any x w hx
  unfold readyW rightZ at this
  rwa [if_neg (by rw [hr]; simp), if_neg (by rw [hr]; simp)] at this
theorem blendW_lt' (v u m : Nat) : blendW v u m < 2 ^ 64 := by
  unfold blendW
  have := word_lt (l := (List.range 8).map fun i => if hasM m i = true then byteAt u i else byteAt v i) (bytey_range _ fun j => by split <;> exact byteAt_lt _ _)
  simpa using this
theorem u8_nots : ∀ m : Fin 256, bits .xor .u8 (if IntKind.u8.signed = true then -1 else IntKind.u8.max) (m.val : Int) = ((255 - m.val : Nat) : Int) := by decide +kernel
theorem u8_not (a : Nat) (h : a < 256) : (((255 - a : Nat) : Int) != bits .xor .u8 (if IntKind.u8.signed = true then -1 else IntKind.u8.max) (a : Int)) = false := by
  have := u8_nots ⟨a, h⟩
  simp only at this
  rw [this]; simp
theorem rfillsK_lt {x : Nat} {hs : List Nat} (hx : x < 2 ^ 64) (hb : Bytey hs) : ∀ k, k ≤ hs.length → ∀ y l, rfillsK x hs k = some (y, l) → y < 2 ^ 64
  | 0, _, y, l, h => by cases h; exact hx
  | k + 1, hk, y, l, h => by
    rw [rfillsK_succ x hs (by omega)] at h
    cases hz : rfillsK x hs k with
    | none => rw [hz] at h; cases h
    | some yl =>
      obtain ⟨y0, l0⟩ := yl
      have ih := rfillsK_lt hx hb k (by omega) y0 l0 hz
      rw [hz] at h
      change (if _ ∧ _ then _ else _) = _ at h
      by_cases hc : nthN hs k ≤ 127 ∧ firstOpen y0 < 8
      · rw [if_pos hc] at h
        cases h
        exact setLane_lt' _ _ _ ih (by omega)
      · rw [if_neg hc] at h; cases h
set_option maxHeartbeats 1000000 in
theorem walk_CtrlReady (a0 : Int) (sp : Option Addr) (n cap : Nat) (zs : List Int) (w : World) (w0 : (Lit.int .u64 a0).wf = true) (hc : sp = none → cap = 0) (hcap : n ≤ cap) (h : Sl w sp n (zs.map (Value.int .u8))) (hz : ∀ z ∈ zs, (Lit.int .u8 z).wf = true) :
    Calls Try.prog 7 #[.int .u64 a0, .slice sp n cap] w fun e w' => e = .returned (.bool true) ∧ Below w.heap.size w w' := by
  obtain ⟨x, rfl, hx⟩ := nat_of_u64 w0
  have hmax := h.2.1
  unfold maxLen at hmax
  rw [u8s_natsZ hz] at h
  have hby0 := nats_byteyZ hz
  clear w0 hz
  cases hr : rightW x with
  | false =>
    have S := fun w => sets_no x w hx hr
    have R := fun w => ready_no x w hx hr
    have C := fun w => check_no x w hx hr
    have S'h := Lib.hid S
    have R'h := Lib.hid R
    have C'h := Lib.hid C
    have hr'h := Lib.hid hr
    have hx'h := Lib.hid hx
    have h'h := Lib.hid h
    have hc'h := Lib.hid hc
    have hcap'h := Lib.hid hcap
    have hby0'h := Lib.hid hby0
    clear S R C hr hx h hc hcap hby0
    go_enter Try.func7, Try.ntmps7
    go_wp2_with fail
    refine (cwakes_any _).mono ?_
    rintro e w1 ⟨rfl, hb1⟩
    have hb1'h := Lib.hid hb1
    clear hb1
    go_wp2_with fail
    refine (S'h.out _).mono ?_
    rintro e w2 ⟨rfl, hb2⟩
    have hB2 := below_next hb1'h.out hb2
    clear hb2
    have hB2'h := Lib.hid hB2
    clear hB2
    go_wp2_with fail
    refine (R'h.out _).mono ?_
    rintro e w3 ⟨rfl, hb3⟩
    have hB3 := below_next hB2'h.out hb3
    clear hb3
    have hB3'h := Lib.hid hB3
    clear hB3
    go_wp2_with fail
    refine (C'h.out _).mono ?_
    rintro e w' ⟨rfl, rfl⟩
    go_wp2
    go_ret
    exact ⟨rfl, hB3'h.out⟩
  | true =>
    have S := fun w => sets_yes x w hx hr
    have R := fun w => ready_yes x w hx hr
    have hRr := ready_right (x := x)
    have hR64 := blendW_lt' (fillW 128) (fillW 254) (belowM x 128)
    have S2 := fun w => sets_yes (blendW (fillW 128) (fillW 254) (belowM x 128)) w hR64 hRr
    obtain ⟨s0, s2, s1⟩ := ready_sets x
    rw [s0, s1, s2] at S2
    have hF0 := ready_front x
    obtain ⟨m, hm⟩ : ∃ m, m = min n 8 := ⟨_, rfl⟩
    have hmi := min_if' n 8 m hm
    have hmi' : (if (8 : Int) < (n : Int) then (8 : Int) else (n : Int)) = (m : Int) := hmi
    have hS := h.take m (by omega)
    rw [u8s_takeZ] at hS
    have hby : Bytey ((nats zs).take m) := fun b hb => hby0 b (List.mem_of_mem_take hb)
    generalize (nats zs).take m = hs at *
    have hlen : m = hs.length := by have := hS.1; rwa [u8s_lengthZ] at this
    have q1 : m ≤ 8 := by omega
    have q3 : m ≤ cap := by omega
    have F := fun w (h : Sl w sp m (u8s hs)) => xfills_any (blendW (fillW 128) (fillW 254) (belowM x 128)) m cap sp hs w hR64 hby h (by omega)
    rw [fillsT_same hRr] at F
    have l0 := belowM_lt' x 128
    have hnot := u8_not (belowM x 128) l0
    have hfr := front_fills (hs := hs) hF0 hs.length (Nat.le_refl _)
    have hflt := rfillsK_lt (x := blendW (fillW 128) (fillW 254) (belowM x 128)) hR64 hby hs.length (Nat.le_refl _)
    generalize 255 - belowM x 128 = mn at *
    generalize belowM x 128 = m0 at *
    generalize equalM x 128 = m1 at *
    generalize equalM x 254 = m2 at *
    generalize blendW (fillW 128) (fillW 254) m0 = r at *
    have hnm : ((m0 : Int) != (m0 : Int)) = false := by simp
    have hnn : ((mn : Int) != (mn : Int)) = false := by simp
    clear s0 s1 s2 hmi l0
    cases hk : rfillsK r hs hs.length with
    | none =>
      have e : rfillsT r hs = (0, [], 2) := by unfold rfillsT; rw [hk]
      rw [e] at F
      have S'h := Lib.hid S
      have R'h := Lib.hid R
      have S2'h := Lib.hid S2
      have F'h := Lib.hid F
      have hr'h := Lib.hid hr
      have hx'h := Lib.hid hx
      have h'h := Lib.hid h
      have hc'h := Lib.hid hc
      have hcap'h := Lib.hid hcap
      have hby0'h := Lib.hid hby0
      have hRr'h := Lib.hid hRr
      have hR64'h := Lib.hid hR64
      have hF0'h := Lib.hid hF0
      have hS'h := Lib.hid hS
      have hby'h := Lib.hid hby
      have hlen'h := Lib.hid hlen
      have hfr'h := Lib.hid hfr
      have hflt'h := Lib.hid hflt
      have hm'h := Lib.hid hm
      have hk'h := Lib.hid hk
      have e'h := Lib.hid e
      clear S R S2 F hr hx h hc hcap hby0 hRr hR64 hF0 hS hby hlen hfr hflt hm hk e
      go_enter Try.func7, Try.ntmps7
      go_wp2_with fail
      refine (cwakes_any _).mono ?_
      rintro e w1 ⟨rfl, hb1⟩
      have hb1'h := Lib.hid hb1
      clear hb1
      go_wp2_with fail
      refine (S'h.out _).mono ?_
      rintro e w2 ⟨rfl, hb2⟩
      have hB2 := below_next hb1'h.out hb2
      clear hb2
      have hB2'h := Lib.hid hB2
      clear hB2
      go_wp2_with fail
      refine (R'h.out _).mono ?_
      rintro e w3 ⟨rfl, hb3⟩
      have hB3 := below_next hB2'h.out hb3
      clear hb3
      have hB3'h := Lib.hid hB3
      clear hB3
      go_wp2_with fail
      refine (S2'h.out _).mono ?_
      rintro e w4 ⟨rfl, hb4⟩
      have hB4 := below_next hB3'h.out hb4
      clear hb4
      have hB4'h := Lib.hid hB4
      clear hB4
      go_wp2_with fail
      refine (F'h.out _ (hS'h.out.below hB4'h.out)).mono ?_
      rintro e w5 ⟨sp', n', cap', rfl, hb5, hrow⟩
      obtain rfl := row_len' hrow
      have hB5 := below_next hB4'h.out hb5
      clear hb5 hrow
      have hB5'h := Lib.hid hB5
      clear hB5
      go_wp2
      go_ret
      exact ⟨rfl, hB5'h.out⟩
    | some yl =>
      obtain ⟨y, l⟩ := yl
      have e : rfillsT r hs = (y, l, 0) := by unfold rfillsT; rw [hk]
      rw [e] at F
      have hfr := hfr y l hk
      have hy := hflt y l hk
      have hmask := front_mask hfr
      have S3 := fun w => sets_yes y w hy hfr.right
      rw [hmask] at S3
      have hl := hfr.l_eq
      have hk8 := hfr.le
      rw [← hlen] at hl hk8 S3
      subst hl
      generalize equalM y 128 = m3 at *
      generalize equalM y 254 = m4 at *
      obtain ⟨P, hP⟩ : ∃ P, P = 2 ^ m - 1 := ⟨_, rfl⟩
      rw [← hP] at S3
      have hP8 : P ≤ 255 := by
        have h9 : m = 0 ∨ m = 1 ∨ m = 2 ∨ m = 3 ∨ m = 4 ∨ m = 5 ∨ m = 6 ∨ m = 7 ∨ m = 8 := by omega
        rcases h9 with rfl | rfl | rfl | rfl | rfl | rfl | rfl | rfl | rfl <;> simp at hP <;> omega
      have hfin : ((P : Int) == wrap64 (wrap64 ((2 : Int) ^ m) - 1)) = true := by
        have h9 : m = 0 ∨ m = 1 ∨ m = 2 ∨ m = 3 ∨ m = 4 ∨ m = 5 ∨ m = 6 ∨ m = 7 ∨ m = 8 := by omega
        rcases h9 with h | h | h | h | h | h | h | h | h <;> (rw [hP, h]; decide +kernel)
      have S'h := Lib.hid S
      have R'h := Lib.hid R
      have S2'h := Lib.hid S2
      have F'h := Lib.hid F
      have hr'h := Lib.hid hr
      have hx'h := Lib.hid hx
      have h'h := Lib.hid h
      have hc'h := Lib.hid hc
      have hcap'h := Lib.hid hcap
      have hby0'h := Lib.hid hby0
      have hRr'h := Lib.hid hRr
      have hR64'h := Lib.hid hR64
      have hF0'h := Lib.hid hF0
      have hS'h := Lib.hid hS
      have hby'h := Lib.hid hby
      have hlen'h := Lib.hid hlen
      have hfr'h := Lib.hid hfr
      have hflt'h := Lib.hid hflt
      have hm'h := Lib.hid hm
      have hk'h := Lib.hid hk
      have e'h := Lib.hid e
      have S3'h := Lib.hid S3
      have hy'h := Lib.hid hy
      have hmask'h := Lib.hid hmask
      have hP'h := Lib.hid hP
      clear S R S2 F hr hx h hc hcap hby0 hRr hR64 hF0 hS hby hlen hfr hflt hm hk e S3 hy hmask hP
      go_enter Try.func7, Try.ntmps7
      go_wp2_with fail
      refine (cwakes_any _).mono ?_
      rintro e w1 ⟨rfl, hb1⟩
      have hb1'h := Lib.hid hb1
      clear hb1
      go_wp2_with fail
      refine (S'h.out _).mono ?_
      rintro e w2 ⟨rfl, hb2⟩
      have hB2 := below_next hb1'h.out hb2
      clear hb2
      have hB2'h := Lib.hid hB2
      clear hB2
      go_wp2_with fail
      refine (R'h.out _).mono ?_
      rintro e w3 ⟨rfl, hb3⟩
      have hB3 := below_next hB2'h.out hb3
      clear hb3
      have hB3'h := Lib.hid hB3
      clear hB3
      go_wp2_with fail
      refine (S2'h.out _).mono ?_
      rintro e w4 ⟨rfl, hb4⟩
      have hB4 := below_next hB3'h.out hb4
      clear hb4
      have hB4'h := Lib.hid hB4
      clear hB4
      go_wp2_with fail
      refine (F'h.out _ (hS'h.out.below hB4'h.out)).mono ?_
      rintro e w5 ⟨sp', n', cap', rfl, hb5, hrow⟩
      have hn' : n' = m := by have := row_len' hrow; rw [List.length_range] at this; exact this
      subst hn'
      rw [List.length_range] at hrow
      have hB5 := below_next hB4'h.out hb5
      have hcell : ∀ j, j < n' → ∃ b off, sp' = some ⟨b, off, none⟩ ∧ w5.cell? ⟨b, off + j, none⟩ = some (.int .i64 (j : Int)) := fun j hj => by
        have hsl := Sl.of_row hrow (by unfold maxLen; omega)
        obtain ⟨b, off, e, hcs⟩ := hsl.some' (by omega)
        refine ⟨b, off, e, hcs j _ ?_⟩
        rw [ints_at (by simpa using hj)]
        congr 2
        rw [← nthN_eq (by simpa using hj)]; simp
      clear hb5 hrow
      have hB5'h := Lib.hid hB5
      have hcell'h := Lib.hid hcell
      clear hB5 hcell
      go_wp2
      go_loopg [84] n' (fun q i wr => ∃ k : Nat, k + q = n' ∧ i = .int .i64 k ∧ wr = w5)
      case atStart => exact ⟨0, by omega, rfl, rfl⟩
      case round =>
        obtain ⟨k, hkq, rfl, rfl⟩ := hrel
        by_cases hkn : k < n'
        · obtain ⟨b, off, rfl, c1⟩ := hcell'h.out k hkn
          have hd : (k : Int) < (n' : Int) := by omega
          have hne : ((k : Int) != (k : Int)) = false := by simp
          have hkq'h := Lib.hid hkq
          clear hkq
          go_wp2
          go_roundg (gk - 1)
          case measure => have := hkq'h.out; omega
          case rel => exact ⟨k + 1, by have := hkq'h.out; omega, by go_num, rfl⟩
        · have hd : ¬ (k : Int) < (n' : Int) := by omega
          have hkq'h := Lib.hid hkq
          clear hkq
          go_wp2_with (first | (go_at_call 12; refine (S3'h.out _).mono ?_; rintro e w6 ⟨rfl, hb6⟩; have hB6 := below_next hB5'h.out hb6; clear hb6; have hB6'h := Lib.hid hB6; clear hB6))
          go_ret
          exact ⟨rfl, hB6'h.out⟩
end Go.Proofs.Ytbblomlbnecpeaa
