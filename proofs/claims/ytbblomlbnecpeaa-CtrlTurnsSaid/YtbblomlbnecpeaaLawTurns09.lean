/-
  CtrlTurns.
-/
import Derived.Test.YtbblomlbnecpeaaLawParts09
set_option linter.unusedSimpArgs false
set_option linter.unusedVariables false
set_option maxRecDepth 100000
namespace Go.Proofs.Ytbblomlbnecpeaa
open Go.RowKit

theorem fill_right (x h : Nat) (lane : Int) (w : World) (hx : x < 2 ^ 64) (hh : h < 256) (hr : rightW x = true) : Calls Try.prog 20 #[.int .u64 x, .int .i64 lane, .int .u8 h] w fun e w' =>
    e = .returned (.tuple #[.int .u64 (if fillE x lane h = 0 then setLane x lane.toNat h else 0 : Nat), .int .i64 (fillE x lane h)]) ∧ Below w.heap.size w w' := by
  have := xfill_any x h lane w hx hh
  unfold fillW' fillZ at this
  simp only [hr, true_and, if_true] at this
  exact this
theorem fill_wrong (x h : Nat) (lane : Int) (w : World) (hx : x < 2 ^ 64) (hh : h < 256) (hr : rightW x = false) : Calls Try.prog 20 #[.int .u64 x, .int .i64 lane, .int .u8 h] w fun e w' =>
    e = .returned (.tuple #[.int .u64 0, .int .i64 190]) ∧ Below w.heap.size w w' := by
  have := xfill_any x h lane w hx hh
  unfold fillW' fillZ at this
  rwa [if_neg (by rw [hr]; simp), if_neg (by rw [hr]; simp)] at this
theorem erase_right (x : Nat) (lane : Int) (w : World) (hx : x < 2 ^ 64) (hr : rightW x = true) : Calls Try.prog 21 #[.int .u64 x, .int .i64 lane] w fun e w' =>
    e = .returned (.tuple #[.int .u64 (if eraseE x lane = 0 then setLane x lane.toNat (eraseB x) else 0 : Nat), .int .i64 (eraseE x lane)]) ∧ Below w.heap.size w w' := by
  have := xerase_any x lane w hx
  unfold eraseW' eraseZ at this
  simp only [hr, true_and, if_true] at this
  exact this
theorem erase_wrong (x : Nat) (lane : Int) (w : World) (hx : x < 2 ^ 64) (hr : rightW x = false) : Calls Try.prog 21 #[.int .u64 x, .int .i64 lane] w fun e w' =>
    e = .returned (.tuple #[.int .u64 0, .int .i64 190]) ∧ Below w.heap.size w w' := by
  have := xerase_any x lane w hx
  unfold eraseW' eraseZ at this
  rwa [if_neg (by rw [hr]; simp), if_neg (by rw [hr]; simp)] at this
set_option maxHeartbeats 2000000 in
theorem walk_CtrlTurns (sp : Option Addr) (n cap : Nat) (zs : List Int) (sp2 : Option Addr) (n2 cap2 : Nat) (zs2 : List Int) (a2 : Int) (w : World) (hc : sp = none → cap = 0) (hcap : n ≤ cap) (h : Sl w sp n (zs.map (Value.int .u64))) (hz : ∀ z ∈ zs, (Lit.int .u64 z).wf = true)
    (hc2 : sp2 = none → cap2 = 0) (hcap2 : n2 ≤ cap2) (h2 : Sl w sp2 n2 (zs2.map (Value.int .i64))) (hz2 : ∀ z ∈ zs2, (Lit.int .i64 z).wf = true) (w2 : (Lit.int .u8 a2).wf = true) :
    Calls Try.prog 4 #[.slice sp n cap, .slice sp2 n2 cap2, .int .u8 a2] w fun e w' => e = .returned (.bool true) ∧ Below w.heap.size w w' := by
  obtain ⟨b, rfl, hb⟩ := nat_of_u8 w2
  rw [u64s_nats hz] at h
  have hk64 := nats_w64 hz
  have hlen := len_nats h
  have hlen2 : n2 = zs2.length := by have := h2.1; simpa using this
  have hmax := h.2.1
  have hmax2 := h2.2.1
  unfold maxLen at hmax hmax2
  clear hz hz2 w2 hc hcap hc2 hcap2
  generalize nats zs = keys at *
  have h'h := Lib.hid h
  have hk64'h := Lib.hid hk64
  have hlen'h := Lib.hid hlen
  have h2'h := Lib.hid h2
  have hlen2'h := Lib.hid hlen2
  have hb'h := Lib.hid hb
  clear h hk64 hlen h2 hlen2 hb
  go_enter Try.func4, Try.ntmps4
  go_wp2_with fail
  refine (cwakes_any _).mono ?_
  rintro e w1 ⟨rfl, hb1⟩
  have hb1'h := Lib.hid hb1
  clear hb1
  go_wp2
  go_loopg [24] n (fun q i wr => ∃ k : Nat, k + q = n ∧ i = .int .i64 k ∧ Below w.heap.size w wr)
  case atStart => exact ⟨0, by omega, rfl, hb1'h.out⟩
  case round =>
    obtain ⟨k, hkq, rfl, hB⟩ := hrel
    by_cases hk : k < n
    · obtain ⟨ab, aoff, rfl, hcs⟩ := (h'h.out.below hB).some' (by omega)
      have hkl : k < keys.length := by have := hlen'h.out; omega
      have c1 : wr.cell? ⟨ab, aoff + k, none⟩ = some (.int .u64 (nthN keys k)) := hcs k _ (u64s_at hkl)
      have hx : nthN keys k < 2 ^ 64 := hk64'h.out _ (nthN_mem hkl)
      generalize nthN keys k = x at *
      clear hcs
      have hd : (k : Int) < (n : Int) := by omega
      by_cases hk8 : k = 8
      · subst hk8
        have hkq'h := Lib.hid hkq
        have hB'h := Lib.hid hB
        have hx'h := Lib.hid hx
        clear hkq hB hx
        go_wp2
        go_ret
        exact ⟨rfl, hB'h.out⟩
      · have d8 : ((k : Int) == 8) = false := by simp; omega
        have R := rright_any x wr hx
        have hx' := Lib.hid hx
        cases hr : rightW x with
        | true =>
          rw [hr] at R
          have hkq'h := Lib.hid hkq
          have hB'h := Lib.hid hB
          have hx'h := Lib.hid hx
          have R'h := Lib.hid R
          have hr'h := Lib.hid hr
          clear hkq hB hx R hr
          go_wp2_with (first | (go_at_call 10; refine R'h.out.mono ?_; rintro e w4 ⟨rfl, hb4⟩; have hB4 := hB'h.out.trans (hb4.mono hB'h.out.size); clear hb4; have hB4'h := Lib.hid hB4; clear hB4))
          obtain ⟨go, rfl⟩ : ∃ go : Nat, go = gk := ⟨_, rfl⟩
          go_loopg [35] n2 (fun q i wi => ∃ j : Nat, j + q = n2 ∧ i = .int .i64 j ∧ Below w.heap.size w wi)
          case atStart => exact ⟨0, by omega, rfl, hB4'h.out⟩
          case round =>
            obtain ⟨j, hj, rfl, hBi⟩ := hrel
            by_cases hjn : j < n2
            · obtain ⟨ab2, aoff2, rfl, hcs⟩ := (h2'h.out.below hBi).some' (by omega)
              have c2 : wr.cell? ⟨ab2, aoff2 + j, none⟩ = some (.int .i64 (nthZ zs2 j)) := hcs j _ (i64s_at (by have := hlen2'h.out; omega))
              generalize nthZ zs2 j = z at *
              clear hcs
              have hdj : (j : Int) < (n2 : Int) := by omega
              by_cases hj8 : j = 8
              · subst hj8
                have hj'h := Lib.hid hj
                have hBi'h := Lib.hid hBi
                clear hj hBi
                go_wp2
                go_roundg (go - 1)
                case measure => have := hkq'h.out; omega
                case rel => exact ⟨k + 1, by have := hkq'h.out; omega, by go_num, hBi'h.out⟩
              · have e8 : ((j : Int) == 8) = false := by simp; omega
                have F := fun w => fill_right x b z w hx'h.out hb'h.out hr'h.out
                have E := fun w => erase_right x z w hx'h.out hr'h.out
                have RF := fun w => rfill_any x b z w hx'h.out hb'h.out
                have RE := fun w => rerase_any x z w hx'h.out
                generalize (if fillE x z b = 0 then setLane x z.toNat b else 0) = f1 at *
                generalize fillE x z b = f2 at *
                generalize (if eraseE x z = 0 then setLane x z.toNat (eraseB x) else 0) = e1 at *
                generalize eraseE x z = e2 at *
                have n1 := ne_self f1
                have n2' := ne_self f2
                have n3 := ne_self e1
                have n4 := ne_self e2
                have hj'h := Lib.hid hj
                have hBi'h := Lib.hid hBi
                have F'h := Lib.hid F
                have E'h := Lib.hid E
                have RF'h := Lib.hid RF
                have RE'h := Lib.hid RE
                clear hj hBi F E RF RE
                go_wp2_with (first | (go_at_call 20; refine (F'h.out _).mono ?_; rintro e w5 ⟨rfl, hb5⟩; have hB5 := hBi'h.out.trans (hb5.mono hBi'h.out.size); clear hb5; have hB5'h := Lib.hid hB5; clear hB5) | (go_at_call 21; refine (E'h.out _).mono ?_; rintro e w6 ⟨rfl, hb6⟩; have hB6 := hB5'h.out.trans (hb6.mono hB5'h.out.size); clear hb6; have hB6'h := Lib.hid hB6; clear hB6) | (go_at_call 22; refine (RF'h.out _).mono ?_; rintro e w7 ⟨rfl, hb7⟩; have hB7 := hB6'h.out.trans (hb7.mono hB6'h.out.size); clear hb7; have hB7'h := Lib.hid hB7; clear hB7) | (go_at_call 23; refine (RE'h.out _).mono ?_; rintro e w8 ⟨rfl, hb8⟩; have hB8 := hB7'h.out.trans (hb8.mono hB7'h.out.size); clear hb8; have hB8'h := Lib.hid hB8; clear hB8))
                go_roundg (gk - 1)
                case measure => have := hj'h.out; omega
                case rel => exact ⟨j + 1, by have := hj'h.out; omega, by go_num, hB8'h.out⟩
            · have hdj : ¬ (j : Int) < (n2 : Int) := by omega
              have hj'h := Lib.hid hj
              have hBi'h := Lib.hid hBi
              clear hj hBi
              go_wp2
              go_roundg (go - 1)
              case measure => have := hkq'h.out; omega
              case rel => exact ⟨k + 1, by have := hkq'h.out; omega, by go_num, hBi'h.out⟩
        | false =>
          rw [hr] at R
          have hkq'h := Lib.hid hkq
          have hB'h := Lib.hid hB
          have hx'h := Lib.hid hx
          have R'h := Lib.hid R
          have hr'h := Lib.hid hr
          clear hkq hB hx R hr
          go_wp2_with (first | (go_at_call 10; refine R'h.out.mono ?_; rintro e w4 ⟨rfl, hb4⟩; have hB4 := hB'h.out.trans (hb4.mono hB'h.out.size); clear hb4; have hB4'h := Lib.hid hB4; clear hB4))
          obtain ⟨go, rfl⟩ : ∃ go : Nat, go = gk := ⟨_, rfl⟩
          go_loopg [35] n2 (fun q i wi => ∃ j : Nat, j + q = n2 ∧ i = .int .i64 j ∧ Below w.heap.size w wi)
          case atStart => exact ⟨0, by omega, rfl, hB4'h.out⟩
          case round =>
            obtain ⟨j, hj, rfl, hBi⟩ := hrel
            by_cases hjn : j < n2
            · obtain ⟨ab2, aoff2, rfl, hcs⟩ := (h2'h.out.below hBi).some' (by omega)
              have c2 : wr.cell? ⟨ab2, aoff2 + j, none⟩ = some (.int .i64 (nthZ zs2 j)) := hcs j _ (i64s_at (by have := hlen2'h.out; omega))
              generalize nthZ zs2 j = z at *
              clear hcs
              have hdj : (j : Int) < (n2 : Int) := by omega
              by_cases hj8 : j = 8
              · subst hj8
                have hj'h := Lib.hid hj
                have hBi'h := Lib.hid hBi
                clear hj hBi
                go_wp2
                go_roundg (go - 1)
                case measure => have := hkq'h.out; omega
                case rel => exact ⟨k + 1, by have := hkq'h.out; omega, by go_num, hBi'h.out⟩
              · have e8 : ((j : Int) == 8) = false := by simp; omega
                have F := fun w => fill_wrong x b z w hx'h.out hb'h.out hr'h.out
                have E := fun w => erase_wrong x z w hx'h.out hr'h.out
                have hj'h := Lib.hid hj
                have hBi'h := Lib.hid hBi
                have F'h := Lib.hid F
                have E'h := Lib.hid E
                clear hj hBi F E
                go_wp2_with (first | (go_at_call 20; refine (F'h.out _).mono ?_; rintro e w5 ⟨rfl, hb5⟩; have hB5 := hBi'h.out.trans (hb5.mono hBi'h.out.size); clear hb5; have hB5'h := Lib.hid hB5; clear hB5) | (go_at_call 21; refine (E'h.out _).mono ?_; rintro e w6 ⟨rfl, hb6⟩; have hB6 := hB5'h.out.trans (hb6.mono hB5'h.out.size); clear hb6; have hB6'h := Lib.hid hB6; clear hB6))
                go_roundg (gk - 1)
                case measure => have := hj'h.out; omega
                case rel => exact ⟨j + 1, by have := hj'h.out; omega, by go_num, hB6'h.out⟩
            · have hdj : ¬ (j : Int) < (n2 : Int) := by omega
              have hj'h := Lib.hid hj
              have hBi'h := Lib.hid hBi
              clear hj hBi
              go_wp2
              go_roundg (go - 1)
              case measure => have := hkq'h.out; omega
              case rel => exact ⟨k + 1, by have := hkq'h.out; omega, by go_num, hBi'h.out⟩
    · have hd : ¬ (k : Int) < (n : Int) := by omega
      have hkq'h := Lib.hid hkq
      have hB'h := Lib.hid hB
      clear hkq hB
      go_wp2
      go_ret
      exact ⟨rfl, hB'h.out⟩
end Go.Proofs.Ytbblomlbnecpeaa
