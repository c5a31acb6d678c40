/-
  CtrlSays.
-/
import Derived.Test.YtbblomlbnecpeaaLawReady09
import Derived.Laws.StructEq
set_option linter.unusedSimpArgs false
set_option linter.unusedVariables false
set_option maxRecDepth 100000
namespace Go.Proofs.Ytbblomlbnecpeaa
open Go.RowKit

theorem equalIn_arr3 (a b c : Nat) (w : World) : (Op.equalIn 10000 32 (.agg #[.int .u8 a, .int .u8 b, .int .u8 c]) (.agg #[.int .u8 a, .int .u8 b, .int .u8 c])).run Try.prog w = .ok true w := by
  have h1 := run_equalIn_int (P := Try.prog) w 9998 29 .u8 .u8 a a Try.underlying29
  have h2 := run_equalIn_int (P := Try.prog) w 9998 29 .u8 .u8 b b Try.underlying29
  have h3 := run_equalIn_int (P := Try.prog) w 9998 29 .u8 .u8 c c Try.underlying29
  have p0 : ∀ (x y z : Value) (w : World), (part 29 #[x, y, z] 0).run Try.prog w = .ok x w := fun x y z w => by kernel_rfl
  have p1 : ∀ (x y z : Value) (w : World), (part 29 #[x, y, z] 1).run Try.prog w = .ok y w := fun x y z w => by kernel_rfl
  have p2 : ∀ (x y z : Value) (w : World), (part 29 #[x, y, z] 2).run Try.prog w = .ok z w := fun x y z w => by kernel_rfl
  unfold Op.equalIn
  simp [run_underlying Try.underlying32, List.range', p0, p1, p2, h1, h2, h3]
theorem neq_arr3 (a b c : Nat) (w : World) : (binOp .neq 32 (.agg #[.int .u8 a, .int .u8 b, .int .u8 c]) (.agg #[.int .u8 a, .int .u8 b, .int .u8 c])).run Try.prog w = .ok (.bool false) w := by
  rw [run_neq_struct, equalIn_arr3]; rfl
set_option maxHeartbeats 4000000 in
theorem walk_CtrlSays (sp : Option Addr) (n cap : Nat) (zs : List Int) (sp2 : Option Addr) (n2 cap2 : Nat) (zs2 : List Int) (w : World) (hc : sp = none → cap = 0) (hcap : n ≤ cap) (h : Sl w sp n (zs.map (Value.int .u64))) (hz : ∀ z ∈ zs, (Lit.int .u64 z).wf = true)
    (hc2 : sp2 = none → cap2 = 0) (hcap2 : n2 ≤ cap2) (h2 : Sl w sp2 n2 (zs2.map (Value.int .u8))) (hz2 : ∀ z ∈ zs2, (Lit.int .u8 z).wf = true) :
    Calls Try.prog 3 #[.slice sp n cap, .slice sp2 n2 cap2] w fun e w' => e = .returned (.bool true) ∧ Below w.heap.size w w' := by
  rw [u64s_nats hz] at h
  have hk64 := nats_w64 hz
  have hlen := len_nats h
  rw [u8s_natsZ hz2] at h2
  have hby := nats_byteyZ hz2
  have hlen2 : n2 = (nats zs2).length := by have := h2.1; rwa [u8s_lengthZ] at this
  have hmax := h.2.1
  have hmax2 := h2.2.1
  unfold maxLen at hmax hmax2
  clear hz hz2 hc hcap hc2 hcap2
  generalize nats zs = keys at *
  generalize nats zs2 = bs at *
  have h'h := Lib.hid h
  have hk64'h := Lib.hid hk64
  have hlen'h := Lib.hid hlen
  have h2'h := Lib.hid h2
  have hlen2'h := Lib.hid hlen2
  have hby'h := Lib.hid hby
  clear h hk64 hlen h2 hlen2 hby
  go_enter Try.func3, Try.ntmps3
  go_wp2_with fail
  refine (cwakes_any _).mono ?_
  rintro e w1 ⟨rfl, hb1⟩
  have hb1'h := Lib.hid hb1
  clear hb1
  go_wp2
  go_loopg [23] n (fun q i wr => ∃ k : Nat, k + q = n ∧ i = .int .i64 k ∧ Below w.heap.size w wr)
  case atStart => exact ⟨0, by omega, rfl, hb1'h.out⟩
  case round =>
    obtain ⟨k, hkq, rfl, hB⟩ := hrel
    by_cases hk : k < n
    · obtain ⟨ab, aoff, rfl, hcs⟩ := (h'h.out.below hB).some' (by omega)
      have hkl : k < keys.length := by have := hlen'h.out; omega
      have c1 : wr.cell? ⟨ab, aoff + k, none⟩ = some (.int .u64 (nthN keys k)) := hcs k _ (u64s_at hkl)
      have hx : nthN keys k < 2 ^ 64 := hk64'h.out _ (nthN_mem hkl)
      generalize nthN keys k = x at *
      clear hcs
      have hd : (k : Int) < (n : Int) := by omega
      by_cases hk10 : k = 10
      · subst hk10
        have hkq'h := Lib.hid hkq
        have hB'h := Lib.hid hB
        have hx'h := Lib.hid hx
        clear hkq hB hx
        have hS8 := fun (W : World) => (Sl.of_blk (World.alloc_heap_new W (.cells #[.int .u8 128, .int .u8 128, .int .u8 128, .int .u8 128, .int .u8 128, .int .u8 128, .int .u8 128, .int .u8 128] 5)) (by decide) : Sl (W.alloc (.cells #[.int .u8 128, .int .u8 128, .int .u8 128, .int .u8 128, .int .u8 128, .int .u8 128, .int .u8 128, .int .u8 128] 5)) (some ⟨W.heap.size, 0, none⟩) 8 (u8s [128, 128, 128, 128, 128, 128, 128, 128]))
        have O := fun w sp h => refOf_any sp 8 8 [128, 128, 128, 128, 128, 128, 128, 128] w (by intro c hc; simp at hc; omega) h
        rw [show ofW [128, 128, 128, 128, 128, 128, 128, 128] = fillW 128 by decide +kernel] at O
        have N := fun w => new_any w
        generalize fillW 128 = n0 at *
        have h00 : ((n0 : Int) == (n0 : Int)) = true := by simp
        have hS8'h := Lib.hid hS8
        have O'h := Lib.hid O
        have N'h := Lib.hid N
        clear hS8 O N
        go_wp2_with (first | (go_at_call 18; refine (N'h.out _).mono ?_; rintro e w8 ⟨rfl, rfl⟩) | (go_at_call 19; refine (O'h.out _ _ (hS8'h.out _)).mono ?_; rintro e w9 ⟨rfl, rfl⟩))
        go_ret
        exact ⟨rfl, hB'h.out.alloc hB'h.out.size _⟩
      · have d10 : ((k : Int) == 10) = false := by simp; omega
        have R := rright_any x wr hx
        cases hr : rightW x with
        | true =>
          rw [hr] at R
          have C := fun w => check_yes x w hx hr
          have S := fun w => sets_yes x w hx hr
          have G0 := fun w => rset0_any x w hx
          have G1 := fun w => rset1_any x w hx
          have G2 := fun w => rset2_any x w hx
          have T := fun w => stops_yes x w hx hr
          have T2 := fun w => rstops_any x w hx
          generalize belowM x 128 = m0 at *
          generalize equalM x 128 = m1 at *
          generalize equalM x 254 = m2 at *
          generalize stopsW x = s0 at *
          have hss : (s0 != s0) = false := by simp
          have hone : (#[.int .u8 m0, .int .u8 m1, .int .u8 m2] : Array Value).all (·.oneCell') = true := by kernel_rfl
          have hneq := fun w => neq_arr3 m0 m1 m2 w
          have hkq'h := Lib.hid hkq
          have hB'h := Lib.hid hB
          have hx'h := Lib.hid hx
          have R'h := Lib.hid R
          have hr'h := Lib.hid hr
          have C'h := Lib.hid C
          have S'h := Lib.hid S
          have G0'h := Lib.hid G0
          have G1'h := Lib.hid G1
          have G2'h := Lib.hid G2
          have T'h := Lib.hid T
          have T2'h := Lib.hid T2
          have hone'h := Lib.hid hone
          clear hkq hB hx R hr C S G0 G1 G2 T T2 hone
          go_wp2_with (first | (go_at_call 10; refine (R'h.out).mono ?_; rintro e w4 ⟨rfl, hb4⟩; have hB4 := hB'h.out.trans (hb4.mono hB'h.out.size); clear hb4; have hB4'h := Lib.hid hB4; clear hB4) | (go_at_call 11; refine (C'h.out _).mono ?_; rintro e w5 ⟨rfl, rfl⟩) | (go_at_call 12; refine (S'h.out _).mono ?_; rintro e w6 ⟨rfl, hb6⟩; have hB6 := hB4'h.out.trans (hb6.mono hB4'h.out.size); clear hb6; have hB6'h := Lib.hid hB6; clear hB6))
          obtain ⟨W7, hW7⟩ : ∃ W7, W7 = w6.alloc (.cells #[.int .u8 0, .int .u8 0, .int .u8 0] 32) := ⟨_, rfl⟩
          have hn7 : W7.heap[w6.heap.size]? = some (.cells #[.int .u8 0, .int .u8 0, .int .u8 0] 32 (0, 0)) := by rw [hW7]; exact World.alloc_heap_new _ _
          have hb7 : Below w6.heap.size w6 W7 := by rw [hW7]; exact (Below.refl _ _).alloc (Nat.le_refl _) _
          have hn8 := setRow_heap _ _ _ #[.int .u8 m0, .int .u8 m1, .int .u8 m2] _ _ hn7
          have hB8 := hB6'h.out.trans (Below.mono (below_setRow' hb7 (Nat.le_refl _) #[.int .u8 m0, .int .u8 m1, .int .u8 m2]) hB6'h.out.size)
          obtain ⟨W8, hW8⟩ : ∃ W8, W8 = W7.setRow w6.heap.size #[.int .u8 m0, .int .u8 m1, .int .u8 m2] := ⟨_, rfl⟩
          rw [← hW8] at hn8 hB8
          rw [← hW7]
          clear hW7 hb7
          have hn7'h := Lib.hid hn7
          have hn8'h := Lib.hid hn8
          have hB8'h := Lib.hid hB8
          have hW8'h := Lib.hid hW8
          clear hn7 hn8 hB8 hW8
          clear hB6'h
          refine (G0'h.out _).mono ?_
          rintro e w7 ⟨rfl, rfl⟩
          go_wp2_with fail
          refine (G1'h.out _).mono ?_
          rintro e w7 ⟨rfl, rfl⟩
          go_wp2_with fail
          refine (G2'h.out _).mono ?_
          rintro e w7 ⟨rfl, rfl⟩
          go_wp2_with (first | (refine wpList_store_row rfl 32 (.tmp 12) (.tmp 59) rfl w6.heap.size #[.int .u8 m0, .int .u8 m1, .int .u8 m2] rfl rfl 32 #[.int .u8 0, .int .u8 0, .int .u8 0] hn7'h.out infoS rfl hone'h.out ?_; rw [← hW8'h.out]) | (refine wpList_load_row rfl 32 (.tmp 12) rfl w6.heap.size rfl 32 #[.int .u8 m0, .int .u8 m1, .int .u8 m2] (0, 0) _ hn8'h.out Try.underlying32 rfl infoS ?_) | (go_at_call 14; refine (T'h.out _).mono ?_; rintro e w9 ⟨rfl, hb6⟩; have hB6 := hB8'h.out.trans (hb6.mono hB8'h.out.size); clear hb6; have hB6'h := Lib.hid hB6; clear hB6) | (go_at_call 15; refine (T2'h.out _).mono ?_; rintro e w10 ⟨rfl, rfl⟩))
          obtain ⟨go, rfl⟩ : ∃ go : Nat, go = gk := ⟨_, rfl⟩
          go_loopg [78] n2 (fun q i wi => ∃ j : Nat, j + q = n2 ∧ i = .int .i64 j ∧ Below w.heap.size w wi)
          case atStart => exact ⟨0, by omega, rfl, hB6'h.out⟩
          case round =>
            obtain ⟨j, hj, rfl, hBi⟩ := hrel
            by_cases hjn : j < n2
            · obtain ⟨ab2, aoff2, rfl, hcs⟩ := (h2'h.out.below hBi).some' (by omega)
              have hjl : j < bs.length := by have := hlen2'h.out; omega
              have c2 : wr.cell? ⟨ab2, aoff2 + j, none⟩ = some (.int .u8 (nthN bs j)) := hcs j _ (u8s_get hjl)
              have hb256 : nthN bs j < 256 := hby'h.out _ (nthN_mem hjl)
              generalize nthN bs j = b at *
              clear hcs
              have hdj : (j : Int) < (n2 : Int) := by omega
              by_cases hj8 : j = 8
              · subst hj8
                have hj'h := Lib.hid hj
                have hBi'h := Lib.hid hBi
                have hb256'h := Lib.hid hb256
                clear hj hBi hb256
                go_wp2
                go_roundg (go - 1)
                case measure => have := hkq'h.out; omega
                case rel => exact ⟨k + 1, by have := hkq'h.out; omega, by go_num, hBi'h.out⟩
              · have e8 : ((j : Int) == 8) = false := by simp; omega
                by_cases h127 : b ≤ 127
                · have d127 : decide ((b : Int) ≤ 127) = true := by simp; omega
                  have M := fun w => match_yes x b w hx'h.out hr'h.out h127
                  have Q := fun w => refEqual_any x b w hx'h.out hb256
                  generalize equalM x b = mm at *
                  have hmm := ne_self mm
                  have hj'h := Lib.hid hj
                  have hBi'h := Lib.hid hBi
                  have hb256'h := Lib.hid hb256
                  have M'h := Lib.hid M
                  have Q'h := Lib.hid Q
                  have h127'h := Lib.hid h127
                  clear hj hBi hb256 M Q h127
                  go_wp2_with (first | (go_at_call 16; refine (M'h.out _).mono ?_; rintro e w7 ⟨rfl, hb7⟩; have hB7 := hBi'h.out.trans (hb7.mono hBi'h.out.size); clear hb7; have hB7'h := Lib.hid hB7; clear hB7) | (go_at_call 17; refine (Q'h.out _).mono ?_; rintro e w8 ⟨rfl, hb8⟩; have hB8 := hB7'h.out.trans (hb8.mono hB7'h.out.size); clear hb8; have hB8'h := Lib.hid hB8; clear hB8))
                  go_roundg (gk - 1)
                  case measure => have := hj'h.out; omega
                  case rel => exact ⟨j + 1, by have := hj'h.out; omega, by go_num, hB8'h.out⟩
                · have d127 : decide ((b : Int) ≤ 127) = false := by simp; omega
                  have M := fun w => match_any x b w hx'h.out hb256
                  have m1 : matchM x b = 0 := by unfold matchM; rw [if_neg (fun e => h127 e.2)]
                  have m2 : matchE x b = 2 := by unfold matchE; rw [if_pos hr'h.out, if_neg h127]
                  rw [m1, m2] at M
                  have hj'h := Lib.hid hj
                  have hBi'h := Lib.hid hBi
                  have hb256'h := Lib.hid hb256
                  have M'h := Lib.hid M
                  have h127'h := Lib.hid h127
                  have m1'h := Lib.hid m1
                  have m2'h := Lib.hid m2
                  clear hj hBi hb256 M h127 m1 m2
                  go_wp2_with (first | (go_at_call 16; refine (M'h.out _).mono ?_; rintro e w7 ⟨rfl, hb7⟩; have hB7 := hBi'h.out.trans (hb7.mono hBi'h.out.size); clear hb7; have hB7'h := Lib.hid hB7; clear hB7))
                  go_roundg (gk - 1)
                  case measure => have := hj'h.out; omega
                  case rel => exact ⟨j + 1, by have := hj'h.out; omega, by go_num, hB7'h.out⟩
            · have hdj : ¬ (j : Int) < (n2 : Int) := by omega
              have hj'h := Lib.hid hj
              have hBi'h := Lib.hid hBi
              clear hj hBi
              go_wp2
              go_roundg (go - 1)
              case measure => have := hkq'h.out; omega
              case rel => exact ⟨k + 1, by have := hkq'h.out; omega, by go_num, hBi'h.out⟩
        | false =>
          rw [hr] at R
          have C := fun w => check_no x w hx hr
          have S := fun w => sets_no x w hx hr
          have T := fun w => stops_no x w hx hr
          have hneq : ∀ w, (binOp .neq 32 (.agg #[.int .u8 0, .int .u8 0, .int .u8 0]) (.agg #[.int .u8 0, .int .u8 0, .int .u8 0])).run Try.prog w = .ok (.bool false) w := fun w => neq_arr3 0 0 0 w
          have hkq'h := Lib.hid hkq
          have hB'h := Lib.hid hB
          have hx'h := Lib.hid hx
          have R'h := Lib.hid R
          have hr'h := Lib.hid hr
          have C'h := Lib.hid C
          have S'h := Lib.hid S
          have T'h := Lib.hid T
          clear hkq hB hx R hr C S T
          go_wp2_with (first | (go_at_call 10; refine (R'h.out).mono ?_; rintro e w4 ⟨rfl, hb4⟩; have hB4 := hB'h.out.trans (hb4.mono hB'h.out.size); clear hb4; have hB4'h := Lib.hid hB4; clear hB4) | (go_at_call 11; refine (C'h.out _).mono ?_; rintro e w5 ⟨rfl, rfl⟩) | (go_at_call 12; refine (S'h.out _).mono ?_; rintro e w6 ⟨rfl, hb6⟩; have hB6 := hB4'h.out.trans (hb6.mono hB4'h.out.size); clear hb6; have hB6'h := Lib.hid hB6; clear hB6) | (refine wpList_load_row rfl 32 (.tmp 12) rfl w6.heap.size rfl 32 #[.int .u8 0, .int .u8 0, .int .u8 0] (0, 0) _ (World.alloc_heap_new _ _) Try.underlying32 rfl infoS ?_; have hB8 := hB6'h.out.alloc hB6'h.out.size (.cells #[.int .u8 0, .int .u8 0, .int .u8 0] 32); have hB8'h := Lib.hid hB8; clear hB8 hB6'h) | (go_at_call 14; refine (T'h.out _).mono ?_; rintro e w9 ⟨rfl, hb6⟩; have hB6 := hB8'h.out.trans (hb6.mono hB8'h.out.size); clear hb6; have hB6'h := Lib.hid hB6; clear hB6))
          obtain ⟨go, rfl⟩ : ∃ go : Nat, go = gk := ⟨_, rfl⟩
          go_loopg [78] n2 (fun q i wi => ∃ j : Nat, j + q = n2 ∧ i = .int .i64 j ∧ Below w.heap.size w wi)
          case atStart => exact ⟨0, by omega, rfl, hB6'h.out⟩
          case round =>
            obtain ⟨j, hj, rfl, hBi⟩ := hrel
            by_cases hjn : j < n2
            · obtain ⟨ab2, aoff2, rfl, hcs⟩ := (h2'h.out.below hBi).some' (by omega)
              have hjl : j < bs.length := by have := hlen2'h.out; omega
              have c2 : wr.cell? ⟨ab2, aoff2 + j, none⟩ = some (.int .u8 (nthN bs j)) := hcs j _ (u8s_get hjl)
              have hb256 : nthN bs j < 256 := hby'h.out _ (nthN_mem hjl)
              generalize nthN bs j = b at *
              clear hcs
              have hdj : (j : Int) < (n2 : Int) := by omega
              by_cases hj8 : j = 8
              · subst hj8
                have hj'h := Lib.hid hj
                have hBi'h := Lib.hid hBi
                have hb256'h := Lib.hid hb256
                clear hj hBi hb256
                go_wp2
                go_roundg (go - 1)
                case measure => have := hkq'h.out; omega
                case rel => exact ⟨k + 1, by have := hkq'h.out; omega, by go_num, hBi'h.out⟩
              · have e8 : ((j : Int) == 8) = false := by simp; omega
                have M := fun w => match_any x b w hx'h.out hb256
                have m1 : matchM x b = 0 := by unfold matchM; rw [if_neg (by rw [hr'h.out]; simp)]
                have m2 : matchE x b = 190 := by unfold matchE; rw [if_neg (by rw [hr'h.out]; simp)]
                rw [m1, m2] at M
                have hj'h := Lib.hid hj
                have hBi'h := Lib.hid hBi
                have hb256'h := Lib.hid hb256
                have M'h := Lib.hid M
                have m1'h := Lib.hid m1
                have m2'h := Lib.hid m2
                clear hj hBi hb256 M m1 m2
                go_wp2_with (first | (go_at_call 16; refine (M'h.out _).mono ?_; rintro e w7 ⟨rfl, hb7⟩; have hB7 := hBi'h.out.trans (hb7.mono hBi'h.out.size); clear hb7; have hB7'h := Lib.hid hB7; clear hB7))
                go_roundg (gk - 1)
                case measure => have := hj'h.out; omega
                case rel => exact ⟨j + 1, by have := hj'h.out; omega, by go_num, hB7'h.out⟩
            · have hdj : ¬ (j : Int) < (n2 : Int) := by omega
              have hj'h := Lib.hid hj
              have hBi'h := Lib.hid hBi
              clear hj hBi
              go_wp2
              go_roundg (go - 1)
              case measure => have := hkq'h.out; omega
              case rel => exact ⟨k + 1, by have := hkq'h.out; omega, by go_num, hBi'h.out⟩
    · have hd : ¬ (k : Int) < (n : Int) := by omega
      have hkq'h := Lib.hid hkq
      have hB'h := Lib.hid hB
      clear hkq hB
      have hS8 := fun (W : World) => (Sl.of_blk (World.alloc_heap_new W (.cells #[.int .u8 128, .int .u8 128, .int .u8 128, .int .u8 128, .int .u8 128, .int .u8 128, .int .u8 128, .int .u8 128] 5)) (by decide) : Sl (W.alloc (.cells #[.int .u8 128, .int .u8 128, .int .u8 128, .int .u8 128, .int .u8 128, .int .u8 128, .int .u8 128, .int .u8 128] 5)) (some ⟨W.heap.size, 0, none⟩) 8 (u8s [128, 128, 128, 128, 128, 128, 128, 128]))
      have O := fun w sp h => refOf_any sp 8 8 [128, 128, 128, 128, 128, 128, 128, 128] w (by intro c hc; simp at hc; omega) h
      rw [show ofW [128, 128, 128, 128, 128, 128, 128, 128] = fillW 128 by decide +kernel] at O
      have N := fun w => new_any w
      generalize fillW 128 = n0 at *
      have h00 : ((n0 : Int) == (n0 : Int)) = true := by simp
      have hS8'h := Lib.hid hS8
      have O'h := Lib.hid O
      have N'h := Lib.hid N
      clear hS8 O N
      go_wp2_with (first | (go_at_call 18; refine (N'h.out _).mono ?_; rintro e w8 ⟨rfl, rfl⟩) | (go_at_call 19; refine (O'h.out _ _ (hS8'h.out _)).mono ?_; rintro e w9 ⟨rfl, rfl⟩))
      go_ret
      exact ⟨rfl, hB'h.out.alloc hB'h.out.size _⟩
end Go.Proofs.Ytbblomlbnecpeaa
