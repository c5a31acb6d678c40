/-
  RangesMaps: which lines there are, the maps at steps, and the times of values.
-/
import Derived.Test.YthfeiiibedmkiaaTell28
set_option linter.unusedSimpArgs false
set_option linter.unusedVariables false
set_option maxRecDepth 100000
namespace Go.Proofs.Ythfeiiibedmkiaa
open Go.RowKit

theorem slk_times {W : World} {base : Nat} {s : Option Addr} {c : Nat} {out : List (Int × Int)} (h : W.ownsRow base 43 2 (.slice s out.length c) out.length (tms out)) (hl : out.length ≤ 4096) : SlK W 2 s out.length (tms out) := SlK.of_row h (Nat.le_trans hl (by decide))
set_option maxHeartbeats 8000000 in
theorem walk_RangesMaps (s0 : Option Addr) (n0 c0 : Nat) (x : List Ch) (s1 : Option Addr) (n1 c1 : Nat) (zs : List Int) (s2 : Option Addr) (n2 c2 : Nat) (ps : Ps) (w : World) (in0 : ChIn w s0 n0 c0 x) (nl1 : s1 = none → c1 = 0) (lc1 : n1 ≤ c1) (sl1 : Sl w s1 n1 (zs.map (Value.int .i64))) (wf1 : ∀ z ∈ zs, (Lit.int .i64 z).wf = true) (in2 : RowIn w s2 n2 c2 ps) :
    Calls Try.prog 3 #[.slice s0 n0 c0, .slice s1 n1 c1, .slice s2 n2 c2] w fun e w' => e = .returned (.bool true) ∧ Below w.heap.size w w' := by
  have WK := fun w => wakes28_any w
  have hlen1 : n1 = zs.length := by have := sl1.1; simpa using this
  have hmax1 := sl1.2.1
  unfold maxLen at hmax1
  have hlen2 := prs_len in2.sl
  have hmax2 := in2.sl.2.1
  unfold maxLen at hmax2
  clear nl1 lc1
  have WK'h := Lib.hid WK
  have in0'h := Lib.hid in0
  have sl1'h := Lib.hid sl1
  have in2'h := Lib.hid in2
  have hlen1'h := Lib.hid hlen1
  have hlen2'h := Lib.hid hlen2
  have wf1'h := Lib.hid wf1
  clear WK in0 sl1 in2 hlen1 hlen2 wf1
  go_enter Try.func3, Try.ntmps3
  go_upto_region 3 with (first | (go_at_call 9; refine (WK'h.out _).mono ?_; rintro e w1 ⟨rfl, hb1⟩))
  have H1 := (Hs.nil w).next hb1
  clear hb1
  have H1'h := Lib.hid H1
  clear H1
  go_upto_region 4 with (first | (go_at_call 10; refine (few_ln s0 n0 c0 x _ (in0'h.out.below H1'h.out.old)).mono ?_; rintro e w2 ⟨sl, n, cl, rfl, hb2, L2⟩))
  have H2 := H1'h.out.next hb2
  clear hb2
  obtain ⟨l, hl⟩ : ∃ l, l = x.take 24 := ⟨_, rfl⟩
  rw [← hl] at L2
  have H2'h := Lib.hid H2
  have L2'h := Lib.hid L2
  have hl'h := Lib.hid hl
  clear H2 L2 hl
  go_upto_region 5 with (first | (go_at_call 11; refine (right_ln L2'h.out).mono ?_; rintro e w3 ⟨rfl, hb3⟩))
  have H3 := H2'h.out.next hb3
  have L3 := L2'h.out.below hb3
  clear hb3 H1'h H2'h L2'h
  have H3'h := Lib.hid H3
  have L3'h := Lib.hid L3
  clear H3 L3
  go_upto_region 6 with (first | (go_at_call 12; refine (check_ln L3'h.out).mono ?_; rintro e w4 ⟨rfl, hb4⟩))
  have H4 := H3'h.out.next hb4
  have L4 := L3'h.out.below hb4
  clear hb4 H3'h L3'h
  cases hr : rightL l with
  | true =>
    have hc : chkE l = 0 := by unfold chkE; rw [if_pos hr]
    rw [hc]
    clear hc
    have H4'h := Lib.hid H4
    have L4'h := Lib.hid L4
    have hr'h := Lib.hid hr
    clear H4 L4 hr
    go_wp2
    go_loopg [41] n1 (fun q i wr => ∃ k : Nat, k + q = n1 ∧ k ≤ 8 ∧ i = .int .i64 k ∧ Hs w [] wr ∧ Ln wr sl n cl l)
    case atStart => exact ⟨0, by omega, by omega, rfl, H4'h.out, L4'h.out⟩
    case round =>
      obtain ⟨k, hq, hk8, rfl, hH, hL⟩ := hrel
      by_cases hlt : k < n1
      · have hkl : k < zs.length := by have := hlen1'h.out; omega
        obtain ⟨rb, ro, rfl, hcs⟩ := ((SlK.of_sl sl1'h.out).below hH.old).sl.some' (by omega)
        have c1 : wr.cell? ⟨rb, ro + k, none⟩ = some (.int .i64 (nthZ zs k)) := hcs k _ (i64s_at hkl)
        have hzw := wf_i64' (wf1'h.out _ (nthZ_mem hkl))
        generalize nthZ zs k = s at c1 hzw
        have hi1 : (k : Int) < (n1 : Int) := by omega
        have h0k : (0 : Int) ≤ (k : Int) := by omega
        clear hlt hcs
        by_cases h8 : k = 8
        · have h8' : ((k : Int) == 8) = true := by rw [h8]; rfl
          clear h8 hzw
          have hH'h := Lib.hid hH
          have hL'h := Lib.hid hL
          have hq'h := Lib.hid hq
          have hk8'h := Lib.hid hk8
          have hkl'h := Lib.hid hkl
          clear hH hL hq hk8 hkl
          go_wp2
          obtain ⟨go, rfl⟩ : ∃ go : Nat, go = gk := ⟨_, rfl⟩
          go_loopg [72] n2 (fun q i wr => ∃ k : Nat, k + q = n2 ∧ k ≤ 8 ∧ i = .int .i64 k ∧ Hs w [] wr ∧ Ln wr sl n cl l)
          case atStart => exact ⟨0, by omega, by omega, rfl, hH'h.out, hL'h.out⟩
          case round =>
            obtain ⟨j, hq2, hj8, rfl, hH, hL⟩ := hrel
            by_cases hlt : j < n2
            · have hjl : j < ps.length := by have := hlen2'h.out; omega
              obtain ⟨pb, po, rfl⟩ := prs_some in2'h.out.sl (by omega)
              obtain ⟨d1, d2⟩ := prs_cells (in2'h.out.sl.below hH.old) hjl
              have hi2 : (j : Int) < (n2 : Int) := by omega
              have h0j : (0 : Int) ≤ (j : Int) := by omega
              generalize nthP ps j = p at d1 d2
              obtain ⟨key, val⟩ := p
              simp only at d1 d2
              have H5 := hH.new #[.int .u64 (key : Int), .int .u64 (val : Int)] 38
              have L5 := hL.below ((Below.refl wr.heap.size wr).alloc (Nat.le_refl _) (.cells #[.int .u64 (key : Int), .int .u64 (val : Int)] 38))
              clear hlt
              have hH'h := Lib.hid hH
              have hL'h := Lib.hid hL
              have hq2'h := Lib.hid hq2
              have H5'h := Lib.hid H5
              have L5'h := Lib.hid L5
              have hjl'h := Lib.hid hjl
              clear hH hL hq2 H5 L5 hjl
              go_upto_region 25 with fail
              change Code.wp _ _ _ _ (wr.alloc (.cells #[.int .u64 (key : Int), .int .u64 (val : Int)] 38))
              have H5 := H5'h.out
              have L5 := L5'h.out
              clear H5'h L5'h
              generalize wr.alloc _ = W5 at H5 L5 ⊢
              obtain ⟨b5, hb5'⟩ : ∃ b5, b5 = wr.heap.size := ⟨_, rfl⟩
              rw [← hb5'] at H5 ⊢
              clear hb5' d1 d2 hH'h hL'h
              by_cases h8 : j = 8
              · have h8' : ((j : Int) == 8) = true := by rw [h8]; rfl
                clear h8
                have H5'h := Lib.hid H5
                have L5'h := Lib.hid L5
                have hj8'h := Lib.hid hj8
                clear H5 L5 hj8
                go_wp2_with (first | (go_at_call 10; refine (few_ln s0 n0 c0 x _ (in0'h.out.below H5'h.out.old)).mono ?_; rintro e wz ⟨sz, mz, cz, rfl, hbz, Lz⟩) | (go_at_call 19; refine (same_line (L5'h.out.below hbz) (by rw [hl'h.out]; exact Lz)).mono ?_; rintro e wy ⟨rfl, dy, rfl⟩))
                go_ret
                exact ⟨rfl, ((H5'h.out.next hbz).drewN dy).old⟩
              · have h8' : ((j : Int) == 8) = false := by simp; omega
                have hj7 : j < 8 := by omega
                have k1 : W5.cell? ⟨b5, 0, none⟩ = some (.int .u64 (key : Int)) := blk_cell H5.rows.1 rfl
                have k2 : W5.cell? ⟨b5, 1, none⟩ = some (.int .u64 (val : Int)) := blk_cell H5.rows.1 rfl
                clear h8 hj8
                have H5'h := Lib.hid H5
                have L5'h := Lib.hid L5
                have hj7'h := Lib.hid hj7
                clear H5 L5 hj7
                go_upto_region 29 with (go_at_call 16; refine (rdSteps_ln L5'h.out key val hr'h.out).mono ?_; rintro e w6 ⟨s6, c6, rfl, hb6, hrow6⟩)
                have H6 := H5'h.out.next hb6
                have L6 := L5'h.out.below hb6
                have S6 := slk_times hrow6 (Nat.le_trans (steps_len L6 key val) (by decide))
                have k1 : w6.cell? ⟨b5, 0, none⟩ = some (.int .u64 (key : Int)) := blk_cell H6.rows.1 rfl
                have k2 : w6.cell? ⟨b5, 1, none⟩ = some (.int .u64 (val : Int)) := blk_cell H6.rows.1 rfl
                clear hb6 hrow6 H5'h L5'h
                have H6'h := Lib.hid H6
                have L6'h := Lib.hid L6
                have S6'h := Lib.hid S6
                clear H6 L6 S6
                go_wp2_with (first | (go_at_call 18; refine (steps_ln L6'h.out key val).mono ?_; rintro e w7 ⟨s7, c7, rfl, hb7, hrow7⟩; have S7 := slk_times hrow7 (Nat.le_trans (steps_len L6'h.out key val) (by decide))) | (go_at_call 17; refine (equalT_any s7 s6 _ _ c7 c6 _ _ _ S7 (S6'h.out.below hb7)).mono ?_; rw [decide_eq_true rfl]; rintro e w8 ⟨rfl, d8, rfl⟩))
                go_roundg (gk - 1)
                case measure => have := hq2'h.out; omega
                case rel => exact ⟨j + 1, by have := hq2'h.out; omega, by have := hj7'h.out; omega, by go_num, ((H6'h.out.next hb7).drewN d8).tail, (L6'h.out.below hb7).below (below_drewN' _ d8)⟩
            · have hi2 : ¬ (j : Int) < (n2 : Int) := by omega
              clear hlt
              have hH'h := Lib.hid hH
              have hL'h := Lib.hid hL
              have hq2'h := Lib.hid hq2
              have hj8'h := Lib.hid hj8
              clear hH hL hq2 hj8
              go_wp2_with (first | (go_at_call 10; refine (few_ln s0 n0 c0 x _ (in0'h.out.below hH'h.out.old)).mono ?_; rintro e wz ⟨sz, mz, cz, rfl, hbz, Lz⟩) | (go_at_call 19; refine (same_line (hL'h.out.below hbz) (by rw [hl'h.out]; exact Lz)).mono ?_; rintro e wy ⟨rfl, dy, rfl⟩))
              go_ret
              exact ⟨rfl, ((hH'h.out.next hbz).drewN dy).old⟩
        · have h8' : ((k : Int) == 8) = false := by simp; omega
          have hk7 : k < 8 := by omega
          clear h8 hk8
          have hH'h := Lib.hid hH
          have hL'h := Lib.hid hL
          have hq'h := Lib.hid hq
          have hkl'h := Lib.hid hkl
          have hzw'h := Lib.hid hzw
          have hk7'h := Lib.hid hk7
          clear hH hL hq hkl hzw hk7
          go_upto_region 13 with (go_at_call 13; refine (map_ln hL'h.out s).mono ?_; rintro e w5 ⟨s5, n5, c5, rfl, hb5, S5, -, -⟩)
          obtain rfl := prs_len S5
          have h5 := hH'h.out.next hb5
          have l5 := hL'h.out.below hb5
          have H6 := h5.new #[.slice s5 (mapA l s).length c5] 31
          have L6 := l5.below ((Below.refl w5.heap.size w5).alloc (Nat.le_refl _) (.cells #[.slice s5 (mapA l s).length c5] 31))
          have S6 := S5.below ((Below.refl w5.heap.size w5).alloc (Nat.le_refl _) (.cells #[.slice s5 (mapA l s).length c5] 31))
          change Code.wp _ _ _ _ (w5.alloc (.cells #[.slice s5 (mapA l s).length c5] 31))
          generalize w5.alloc _ = W6 at H6 L6 S6 ⊢
          obtain ⟨b5, hb5'⟩ : ∃ b5, b5 = w5.heap.size := ⟨_, rfl⟩
          rw [← hb5'] at H6 ⊢
          clear hb5 S5 h5 l5 hb5' c1
          have H6'h := Lib.hid H6
          have L6'h := Lib.hid L6
          have S6'h := Lib.hid S6
          clear H6 L6 S6
          go_upto_region 14 with fail
          have H7 := H6'h.out.new #[.slice none 0 0] 31
          have L7 := L6'h.out.below ((Below.refl W6.heap.size W6).alloc (Nat.le_refl _) (.cells #[.slice none 0 0] 31))
          have S7 := S6'h.out.below ((Below.refl W6.heap.size W6).alloc (Nat.le_refl _) (.cells #[.slice none 0 0] 31))
          have B7 := (Below.refl W6.heap.size W6).alloc (Nat.le_refl _) (.cells #[.slice none 0 0] 31)
          have hbz := World.size_alloc W6 (.cells #[.slice none 0 0] 31)
          change Code.wp _ _ _ _ (W6.alloc (.cells #[.slice none 0 0] 31))
          generalize W6.alloc _ = W7 at H7 L7 S7 B7 hbz ⊢
          obtain ⟨b6, hb6'⟩ : ∃ b6, b6 = W6.heap.size := ⟨_, rfl⟩
          rw [← hb6'] at H7 hbz ⊢
          have hbe : W6.heap.size ≤ b6 := by omega
          clear hb6' H6'h
          have B7'h := Lib.hid B7
          have hbz'h := Lib.hid hbz
          have hbe'h := Lib.hid hbe
          clear B7 hbz hbe
          by_cases hs0 : 0 ≤ s
          · have hf : failE l s s = 0 := fail_yes hr'h.out hs0 (by omega)
            rw [hf]
            have H7'h := Lib.hid H7
            have L7'h := Lib.hid L7
            have S7'h := Lib.hid S7
            have hf'h := Lib.hid hf
            clear H7 L7 S7 hf
            go_upto_region 18 with fail
            go_upto_region 19 with (go_at_call 14; refine (rdMap_ln L7'h.out s hf'h.out).mono ?_; rintro e w8 ⟨s8, n8, c8, rfl, hb8, S8, hs8⟩; have H8 := H7'h.out.next hb8; have k1 : w8.cell? ⟨b6, 0, none⟩ = some (.slice none 0 0) := blk_cell H8.rows.1 rfl; have k2 : w8.frozen? ⟨b6, 0, none⟩ = false := blk_free 0 H8.rows.1)
            obtain rfl := prs_len S8
            have H9 := H8.put 0 rfl 0 (.slice s8 (mapA l s).length c8)
            have B9 := (below_next B7'h.out hb8).setCell (p := ⟨b6, 0, none⟩) hbe'h.out (.slice s8 (mapA l s).length c8)
            have T9 : SlK (w8.setCell ⟨b6, 0, none⟩ (.slice s8 (mapA l s).length c8)) 2 s8 (mapA l s).length (prs (mapA l s)) := by
              refine S8.keep fun b o hb he ho => ?_
              rw [Below.heap_setCell]
              · exact ho
              · obtain ⟨a, ha, rfl⟩ := Option.map_eq_some_iff.1 he
                have := hs8 a ha
                have := hbz'h.out
                show a.block ≠ b6
                omega
            generalize w8.setCell _ _ = W9 at H9 B9 T9 ⊢
            have L9 := L6'h.out.below B9
            have S9 := S6'h.out.below B9
            clear k1 k2 hb8 S8 hs8 H8 H7'h L7'h S7'h
            have k1 : W9.cell? ⟨b5, 0, none⟩ = some (.slice s5 (mapA l s).length c5) := blk_cell H9.rows.2.1 rfl
            have k2 : W9.cell? ⟨b6, 0, none⟩ = some (.slice s8 (mapA l s).length c8) := blk_cell H9.rows.1 rfl
            have H9'h := Lib.hid H9
            have L9'h := Lib.hid L9
            have S9'h := Lib.hid S9
            have T9'h := Lib.hid T9
            have B9'h := Lib.hid B9
            clear H9 L9 S9 T9 B9
            go_wp2_with (go_at_call 15; refine (rsame_any s5 s8 _ _ c5 c8 _ _ _ S9'h.out T9'h.out).mono ?_; rw [decide_eq_true rfl]; rintro e w10 ⟨rfl, hb10⟩)
            go_roundg (gk - 1)
            case measure => have := hq'h.out; omega
            case rel => exact ⟨k + 1, by have := hq'h.out; omega, by have := hk7'h.out; omega, by go_num, (H9'h.out.next hb10).tail.tail, L9'h.out.below hb10⟩
          · have hf : failE l s s = 2 := fail_span hr'h.out (by unfold spanB; simp; omega)
            have hm0 : mapA l s = [] := by unfold mapA; rw [if_neg (by omega)]
            rw [hf]
            rw [hm0] at H7 S7
            have k1 : W7.cell? ⟨b5, 0, none⟩ = some (.slice s5 0 c5) := blk_cell H7.rows.2.1 rfl
            have k2 : W7.cell? ⟨b6, 0, none⟩ = some (.slice none 0 0) := blk_cell H7.rows.1 rfl
            have H7'h := Lib.hid H7
            have L7'h := Lib.hid L7
            have S7'h := Lib.hid S7
            have hf'h := Lib.hid hf
            clear H7 L7 S7 hf
            go_wp2_with (go_at_call 15; refine (rsame_any s5 none 0 0 c5 0 [] [] _ S7'h.out (SlK.nil _ _ _)).mono ?_; rw [decide_eq_true rfl]; rintro e w8 ⟨rfl, hb8⟩)
            go_roundg (gk - 1)
            case measure => have := hq'h.out; omega
            case rel => exact ⟨k + 1, by have := hq'h.out; omega, by have := hk7'h.out; omega, by go_num, (H7'h.out.next hb8).tail.tail, L7'h.out.below hb8⟩
      · have hi1 : ¬ (k : Int) < (n1 : Int) := by omega
        clear hlt
        have hH'h := Lib.hid hH
        have hL'h := Lib.hid hL
        have hq'h := Lib.hid hq
        have hk8'h := Lib.hid hk8
        clear hH hL hq hk8
        go_wp2
        obtain ⟨go, rfl⟩ : ∃ go : Nat, go = gk := ⟨_, rfl⟩
        go_loopg [72] n2 (fun q i wr => ∃ k : Nat, k + q = n2 ∧ k ≤ 8 ∧ i = .int .i64 k ∧ Hs w [] wr ∧ Ln wr sl n cl l)
        case atStart => exact ⟨0, by omega, by omega, rfl, hH'h.out, hL'h.out⟩
        case round =>
          obtain ⟨j, hq2, hj8, rfl, hH, hL⟩ := hrel
          by_cases hlt : j < n2
          · have hjl : j < ps.length := by have := hlen2'h.out; omega
            obtain ⟨pb, po, rfl⟩ := prs_some in2'h.out.sl (by omega)
            obtain ⟨d1, d2⟩ := prs_cells (in2'h.out.sl.below hH.old) hjl
            have hi2 : (j : Int) < (n2 : Int) := by omega
            have h0j : (0 : Int) ≤ (j : Int) := by omega
            generalize nthP ps j = p at d1 d2
            obtain ⟨key, val⟩ := p
            simp only at d1 d2
            have H5 := hH.new #[.int .u64 (key : Int), .int .u64 (val : Int)] 38
            have L5 := hL.below ((Below.refl wr.heap.size wr).alloc (Nat.le_refl _) (.cells #[.int .u64 (key : Int), .int .u64 (val : Int)] 38))
            clear hlt
            have hH'h := Lib.hid hH
            have hL'h := Lib.hid hL
            have hq2'h := Lib.hid hq2
            have H5'h := Lib.hid H5
            have L5'h := Lib.hid L5
            have hjl'h := Lib.hid hjl
            clear hH hL hq2 H5 L5 hjl
            go_upto_region 25 with fail
            change Code.wp _ _ _ _ (wr.alloc (.cells #[.int .u64 (key : Int), .int .u64 (val : Int)] 38))
            have H5 := H5'h.out
            have L5 := L5'h.out
            clear H5'h L5'h
            generalize wr.alloc _ = W5 at H5 L5 ⊢
            obtain ⟨b5, hb5'⟩ : ∃ b5, b5 = wr.heap.size := ⟨_, rfl⟩
            rw [← hb5'] at H5 ⊢
            clear hb5' d1 d2 hH'h hL'h
            by_cases h8 : j = 8
            · have h8' : ((j : Int) == 8) = true := by rw [h8]; rfl
              clear h8
              have H5'h := Lib.hid H5
              have L5'h := Lib.hid L5
              have hj8'h := Lib.hid hj8
              clear H5 L5 hj8
              go_wp2_with (first | (go_at_call 10; refine (few_ln s0 n0 c0 x _ (in0'h.out.below H5'h.out.old)).mono ?_; rintro e wz ⟨sz, mz, cz, rfl, hbz, Lz⟩) | (go_at_call 19; refine (same_line (L5'h.out.below hbz) (by rw [hl'h.out]; exact Lz)).mono ?_; rintro e wy ⟨rfl, dy, rfl⟩))
              go_ret
              exact ⟨rfl, ((H5'h.out.next hbz).drewN dy).old⟩
            · have h8' : ((j : Int) == 8) = false := by simp; omega
              have hj7 : j < 8 := by omega
              have k1 : W5.cell? ⟨b5, 0, none⟩ = some (.int .u64 (key : Int)) := blk_cell H5.rows.1 rfl
              have k2 : W5.cell? ⟨b5, 1, none⟩ = some (.int .u64 (val : Int)) := blk_cell H5.rows.1 rfl
              clear h8 hj8
              have H5'h := Lib.hid H5
              have L5'h := Lib.hid L5
              have hj7'h := Lib.hid hj7
              clear H5 L5 hj7
              go_upto_region 29 with (go_at_call 16; refine (rdSteps_ln L5'h.out key val hr'h.out).mono ?_; rintro e w6 ⟨s6, c6, rfl, hb6, hrow6⟩)
              have H6 := H5'h.out.next hb6
              have L6 := L5'h.out.below hb6
              have S6 := slk_times hrow6 (Nat.le_trans (steps_len L6 key val) (by decide))
              have k1 : w6.cell? ⟨b5, 0, none⟩ = some (.int .u64 (key : Int)) := blk_cell H6.rows.1 rfl
              have k2 : w6.cell? ⟨b5, 1, none⟩ = some (.int .u64 (val : Int)) := blk_cell H6.rows.1 rfl
              clear hb6 hrow6 H5'h L5'h
              have H6'h := Lib.hid H6
              have L6'h := Lib.hid L6
              have S6'h := Lib.hid S6
              clear H6 L6 S6
              go_wp2_with (first | (go_at_call 18; refine (steps_ln L6'h.out key val).mono ?_; rintro e w7 ⟨s7, c7, rfl, hb7, hrow7⟩; have S7 := slk_times hrow7 (Nat.le_trans (steps_len L6'h.out key val) (by decide))) | (go_at_call 17; refine (equalT_any s7 s6 _ _ c7 c6 _ _ _ S7 (S6'h.out.below hb7)).mono ?_; rw [decide_eq_true rfl]; rintro e w8 ⟨rfl, d8, rfl⟩))
              go_roundg (gk - 1)
              case measure => have := hq2'h.out; omega
              case rel => exact ⟨j + 1, by have := hq2'h.out; omega, by have := hj7'h.out; omega, by go_num, ((H6'h.out.next hb7).drewN d8).tail, (L6'h.out.below hb7).below (below_drewN' _ d8)⟩
          · have hi2 : ¬ (j : Int) < (n2 : Int) := by omega
            clear hlt
            have hH'h := Lib.hid hH
            have hL'h := Lib.hid hL
            have hq2'h := Lib.hid hq2
            have hj8'h := Lib.hid hj8
            clear hH hL hq2 hj8
            go_wp2_with (first | (go_at_call 10; refine (few_ln s0 n0 c0 x _ (in0'h.out.below hH'h.out.old)).mono ?_; rintro e wz ⟨sz, mz, cz, rfl, hbz, Lz⟩) | (go_at_call 19; refine (same_line (hL'h.out.below hbz) (by rw [hl'h.out]; exact Lz)).mono ?_; rintro e wy ⟨rfl, dy, rfl⟩))
            go_ret
            exact ⟨rfl, ((hH'h.out.next hbz).drewN dy).old⟩
  | false =>
    have hc : chkE l = 380 := by unfold chkE; rw [if_neg (by rw [hr]; decide)]
    rw [hc]
    clear hc
    have H4'h := Lib.hid H4
    have L4'h := Lib.hid L4
    have hr'h := Lib.hid hr
    clear H4 L4 hr
    go_wp2
    go_loopg [41] n1 (fun q i wr => ∃ k : Nat, k + q = n1 ∧ k ≤ 8 ∧ i = .int .i64 k ∧ Hs w [] wr ∧ Ln wr sl n cl l)
    case atStart => exact ⟨0, by omega, by omega, rfl, H4'h.out, L4'h.out⟩
    case round =>
      obtain ⟨k, hq, hk8, rfl, hH, hL⟩ := hrel
      by_cases hlt : k < n1
      · have hkl : k < zs.length := by have := hlen1'h.out; omega
        obtain ⟨rb, ro, rfl, hcs⟩ := ((SlK.of_sl sl1'h.out).below hH.old).sl.some' (by omega)
        have c1 : wr.cell? ⟨rb, ro + k, none⟩ = some (.int .i64 (nthZ zs k)) := hcs k _ (i64s_at hkl)
        have hzw := wf_i64' (wf1'h.out _ (nthZ_mem hkl))
        generalize nthZ zs k = s at c1 hzw
        have hi1 : (k : Int) < (n1 : Int) := by omega
        have h0k : (0 : Int) ≤ (k : Int) := by omega
        clear hlt hcs
        by_cases h8 : k = 8
        · have h8' : ((k : Int) == 8) = true := by rw [h8]; rfl
          clear h8 hzw
          have hH'h := Lib.hid hH
          have hL'h := Lib.hid hL
          have hq'h := Lib.hid hq
          have hk8'h := Lib.hid hk8
          have hkl'h := Lib.hid hkl
          clear hH hL hq hk8 hkl
          go_wp2
          obtain ⟨go, rfl⟩ : ∃ go : Nat, go = gk := ⟨_, rfl⟩
          go_loopg [72] n2 (fun q i wr => ∃ k : Nat, k + q = n2 ∧ k ≤ 8 ∧ i = .int .i64 k ∧ Hs w [] wr ∧ Ln wr sl n cl l)
          case atStart => exact ⟨0, by omega, by omega, rfl, hH'h.out, hL'h.out⟩
          case round =>
            obtain ⟨j, hq2, hj8, rfl, hH, hL⟩ := hrel
            by_cases hlt : j < n2
            · have hjl : j < ps.length := by have := hlen2'h.out; omega
              obtain ⟨pb, po, rfl⟩ := prs_some in2'h.out.sl (by omega)
              obtain ⟨d1, d2⟩ := prs_cells (in2'h.out.sl.below hH.old) hjl
              have hi2 : (j : Int) < (n2 : Int) := by omega
              have h0j : (0 : Int) ≤ (j : Int) := by omega
              generalize nthP ps j = p at d1 d2
              obtain ⟨key, val⟩ := p
              simp only at d1 d2
              have H5 := hH.new #[.int .u64 (key : Int), .int .u64 (val : Int)] 38
              have L5 := hL.below ((Below.refl wr.heap.size wr).alloc (Nat.le_refl _) (.cells #[.int .u64 (key : Int), .int .u64 (val : Int)] 38))
              clear hlt
              have hH'h := Lib.hid hH
              have hL'h := Lib.hid hL
              have hq2'h := Lib.hid hq2
              have H5'h := Lib.hid H5
              have L5'h := Lib.hid L5
              have hjl'h := Lib.hid hjl
              clear hH hL hq2 H5 L5 hjl
              go_upto_region 25 with fail
              change Code.wp _ _ _ _ (wr.alloc (.cells #[.int .u64 (key : Int), .int .u64 (val : Int)] 38))
              have H5 := H5'h.out
              have L5 := L5'h.out
              clear H5'h L5'h
              generalize wr.alloc _ = W5 at H5 L5 ⊢
              obtain ⟨b5, hb5'⟩ : ∃ b5, b5 = wr.heap.size := ⟨_, rfl⟩
              rw [← hb5'] at H5 ⊢
              clear hb5' d1 d2 hH'h hL'h
              by_cases h8 : j = 8
              · have h8' : ((j : Int) == 8) = true := by rw [h8]; rfl
                clear h8
                have H5'h := Lib.hid H5
                have L5'h := Lib.hid L5
                have hj8'h := Lib.hid hj8
                clear H5 L5 hj8
                go_wp2_with (first | (go_at_call 10; refine (few_ln s0 n0 c0 x _ (in0'h.out.below H5'h.out.old)).mono ?_; rintro e wz ⟨sz, mz, cz, rfl, hbz, Lz⟩) | (go_at_call 19; refine (same_line (L5'h.out.below hbz) (by rw [hl'h.out]; exact Lz)).mono ?_; rintro e wy ⟨rfl, dy, rfl⟩))
                go_ret
                exact ⟨rfl, ((H5'h.out.next hbz).drewN dy).old⟩
              · have h8' : ((j : Int) == 8) = false := by simp; omega
                have hj7 : j < 8 := by omega
                have k1 : W5.cell? ⟨b5, 0, none⟩ = some (.int .u64 (key : Int)) := blk_cell H5.rows.1 rfl
                have k2 : W5.cell? ⟨b5, 1, none⟩ = some (.int .u64 (val : Int)) := blk_cell H5.rows.1 rfl
                clear h8 hj8
                have H5'h := Lib.hid H5
                have L5'h := Lib.hid L5
                have hj7'h := Lib.hid hj7
                clear H5 L5 hj7
                have e0 : stepsL l key val = [] := by unfold stepsL; rw [if_neg (by rw [hr'h.out]; decide)]
                have ST := steps_ln L5'h.out key val
                rw [e0] at ST
                have ST'h := Lib.hid ST
                clear ST
                clear e0
                go_wp2_with (first | (go_at_call 18; refine ST'h.out.mono ?_; rintro e w7 ⟨s7, c7, rfl, hb7, hrow7⟩; have S7 := slk_times hrow7 (by decide)) | (go_at_call 17; refine (equalT_any s7 none 0 0 c7 0 [] [] _ S7 (SlK.nil _ _ _)).mono ?_; rw [decide_eq_true rfl]; rintro e w8 ⟨rfl, d8, rfl⟩))
                go_roundg (gk - 1)
                case measure => have := hq2'h.out; omega
                case rel => exact ⟨j + 1, by have := hq2'h.out; omega, by have := hj7'h.out; omega, by go_num, ((H5'h.out.next hb7).drewN d8).tail, (L5'h.out.below hb7).below (below_drewN' _ d8)⟩
            · have hi2 : ¬ (j : Int) < (n2 : Int) := by omega
              clear hlt
              have hH'h := Lib.hid hH
              have hL'h := Lib.hid hL
              have hq2'h := Lib.hid hq2
              have hj8'h := Lib.hid hj8
              clear hH hL hq2 hj8
              go_wp2_with (first | (go_at_call 10; refine (few_ln s0 n0 c0 x _ (in0'h.out.below hH'h.out.old)).mono ?_; rintro e wz ⟨sz, mz, cz, rfl, hbz, Lz⟩) | (go_at_call 19; refine (same_line (hL'h.out.below hbz) (by rw [hl'h.out]; exact Lz)).mono ?_; rintro e wy ⟨rfl, dy, rfl⟩))
              go_ret
              exact ⟨rfl, ((hH'h.out.next hbz).drewN dy).old⟩
        · have h8' : ((k : Int) == 8) = false := by simp; omega
          have hk7 : k < 8 := by omega
          clear h8 hk8
          have hH'h := Lib.hid hH
          have hL'h := Lib.hid hL
          have hq'h := Lib.hid hq
          have hkl'h := Lib.hid hkl
          have hzw'h := Lib.hid hzw
          have hk7'h := Lib.hid hk7
          clear hH hL hq hkl hzw hk7
          go_upto_region 13 with (go_at_call 13; refine (map_ln hL'h.out s).mono ?_; rintro e w5 ⟨s5, n5, c5, rfl, hb5, S5, -, -⟩)
          obtain rfl := prs_len S5
          have h5 := hH'h.out.next hb5
          have l5 := hL'h.out.below hb5
          have H6 := h5.new #[.slice s5 (mapA l s).length c5] 31
          have L6 := l5.below ((Below.refl w5.heap.size w5).alloc (Nat.le_refl _) (.cells #[.slice s5 (mapA l s).length c5] 31))
          have S6 := S5.below ((Below.refl w5.heap.size w5).alloc (Nat.le_refl _) (.cells #[.slice s5 (mapA l s).length c5] 31))
          change Code.wp _ _ _ _ (w5.alloc (.cells #[.slice s5 (mapA l s).length c5] 31))
          generalize w5.alloc _ = W6 at H6 L6 S6 ⊢
          obtain ⟨b5, hb5'⟩ : ∃ b5, b5 = w5.heap.size := ⟨_, rfl⟩
          rw [← hb5'] at H6 ⊢
          clear hb5 S5 h5 l5 hb5' c1
          have H6'h := Lib.hid H6
          have L6'h := Lib.hid L6
          have S6'h := Lib.hid S6
          clear H6 L6 S6
          go_upto_region 14 with fail
          have H7 := H6'h.out.new #[.slice none 0 0] 31
          have L7 := L6'h.out.below ((Below.refl W6.heap.size W6).alloc (Nat.le_refl _) (.cells #[.slice none 0 0] 31))
          have S7 := S6'h.out.below ((Below.refl W6.heap.size W6).alloc (Nat.le_refl _) (.cells #[.slice none 0 0] 31))
          have B7 := (Below.refl W6.heap.size W6).alloc (Nat.le_refl _) (.cells #[.slice none 0 0] 31)
          have hbz := World.size_alloc W6 (.cells #[.slice none 0 0] 31)
          change Code.wp _ _ _ _ (W6.alloc (.cells #[.slice none 0 0] 31))
          generalize W6.alloc _ = W7 at H7 L7 S7 B7 hbz ⊢
          obtain ⟨b6, hb6'⟩ : ∃ b6, b6 = W6.heap.size := ⟨_, rfl⟩
          rw [← hb6'] at H7 hbz ⊢
          have hbe : W6.heap.size ≤ b6 := by omega
          clear hb6' H6'h
          have B7'h := Lib.hid B7
          have hbz'h := Lib.hid hbz
          have hbe'h := Lib.hid hbe
          clear B7 hbz hbe
          have hf : failE l s s = 380 := fail_wrong hr'h.out
          have hm0 : mapA l s = [] := by unfold mapA; rw [if_neg (by omega)]
          rw [hf]
          rw [hm0] at H7 S7
          have k1 : W7.cell? ⟨b5, 0, none⟩ = some (.slice s5 0 c5) := blk_cell H7.rows.2.1 rfl
          have k2 : W7.cell? ⟨b6, 0, none⟩ = some (.slice none 0 0) := blk_cell H7.rows.1 rfl
          have H7'h := Lib.hid H7
          have L7'h := Lib.hid L7
          have S7'h := Lib.hid S7
          have hf'h := Lib.hid hf
          clear H7 L7 S7 hf
          go_wp2_with (go_at_call 15; refine (rsame_any s5 none 0 0 c5 0 [] [] _ S7'h.out (SlK.nil _ _ _)).mono ?_; rw [decide_eq_true rfl]; rintro e w8 ⟨rfl, hb8⟩)
          go_roundg (gk - 1)
          case measure => have := hq'h.out; omega
          case rel => exact ⟨k + 1, by have := hq'h.out; omega, by have := hk7'h.out; omega, by go_num, (H7'h.out.next hb8).tail.tail, L7'h.out.below hb8⟩
      · have hi1 : ¬ (k : Int) < (n1 : Int) := by omega
        clear hlt
        have hH'h := Lib.hid hH
        have hL'h := Lib.hid hL
        have hq'h := Lib.hid hq
        have hk8'h := Lib.hid hk8
        clear hH hL hq hk8
        go_wp2
        obtain ⟨go, rfl⟩ : ∃ go : Nat, go = gk := ⟨_, rfl⟩
        go_loopg [72] n2 (fun q i wr => ∃ k : Nat, k + q = n2 ∧ k ≤ 8 ∧ i = .int .i64 k ∧ Hs w [] wr ∧ Ln wr sl n cl l)
        case atStart => exact ⟨0, by omega, by omega, rfl, hH'h.out, hL'h.out⟩
        case round =>
          obtain ⟨j, hq2, hj8, rfl, hH, hL⟩ := hrel
          by_cases hlt : j < n2
          · have hjl : j < ps.length := by have := hlen2'h.out; omega
            obtain ⟨pb, po, rfl⟩ := prs_some in2'h.out.sl (by omega)
            obtain ⟨d1, d2⟩ := prs_cells (in2'h.out.sl.below hH.old) hjl
            have hi2 : (j : Int) < (n2 : Int) := by omega
            have h0j : (0 : Int) ≤ (j : Int) := by omega
            generalize nthP ps j = p at d1 d2
            obtain ⟨key, val⟩ := p
            simp only at d1 d2
            have H5 := hH.new #[.int .u64 (key : Int), .int .u64 (val : Int)] 38
            have L5 := hL.below ((Below.refl wr.heap.size wr).alloc (Nat.le_refl _) (.cells #[.int .u64 (key : Int), .int .u64 (val : Int)] 38))
            clear hlt
            have hH'h := Lib.hid hH
            have hL'h := Lib.hid hL
            have hq2'h := Lib.hid hq2
            have H5'h := Lib.hid H5
            have L5'h := Lib.hid L5
            have hjl'h := Lib.hid hjl
            clear hH hL hq2 H5 L5 hjl
            go_upto_region 25 with fail
            change Code.wp _ _ _ _ (wr.alloc (.cells #[.int .u64 (key : Int), .int .u64 (val : Int)] 38))
            have H5 := H5'h.out
            have L5 := L5'h.out
            clear H5'h L5'h
            generalize wr.alloc _ = W5 at H5 L5 ⊢
            obtain ⟨b5, hb5'⟩ : ∃ b5, b5 = wr.heap.size := ⟨_, rfl⟩
            rw [← hb5'] at H5 ⊢
            clear hb5' d1 d2 hH'h hL'h
            by_cases h8 : j = 8
            · have h8' : ((j : Int) == 8) = true := by rw [h8]; rfl
              clear h8
              have H5'h := Lib.hid H5
              have L5'h := Lib.hid L5
              have hj8'h := Lib.hid hj8
              clear H5 L5 hj8
              go_wp2_with (first | (go_at_call 10; refine (few_ln s0 n0 c0 x _ (in0'h.out.below H5'h.out.old)).mono ?_; rintro e wz ⟨sz, mz, cz, rfl, hbz, Lz⟩) | (go_at_call 19; refine (same_line (L5'h.out.below hbz) (by rw [hl'h.out]; exact Lz)).mono ?_; rintro e wy ⟨rfl, dy, rfl⟩))
              go_ret
              exact ⟨rfl, ((H5'h.out.next hbz).drewN dy).old⟩
            · have h8' : ((j : Int) == 8) = false := by simp; omega
              have hj7 : j < 8 := by omega
              have k1 : W5.cell? ⟨b5, 0, none⟩ = some (.int .u64 (key : Int)) := blk_cell H5.rows.1 rfl
              have k2 : W5.cell? ⟨b5, 1, none⟩ = some (.int .u64 (val : Int)) := blk_cell H5.rows.1 rfl
              clear h8 hj8
              have H5'h := Lib.hid H5
              have L5'h := Lib.hid L5
              have hj7'h := Lib.hid hj7
              clear H5 L5 hj7
              have e0 : stepsL l key val = [] := by unfold stepsL; rw [if_neg (by rw [hr'h.out]; decide)]
              have ST := steps_ln L5'h.out key val
              rw [e0] at ST
              have ST'h := Lib.hid ST
              clear ST
              clear e0
              go_wp2_with (first | (go_at_call 18; refine ST'h.out.mono ?_; rintro e w7 ⟨s7, c7, rfl, hb7, hrow7⟩; have S7 := slk_times hrow7 (by decide)) | (go_at_call 17; refine (equalT_any s7 none 0 0 c7 0 [] [] _ S7 (SlK.nil _ _ _)).mono ?_; rw [decide_eq_true rfl]; rintro e w8 ⟨rfl, d8, rfl⟩))
              go_roundg (gk - 1)
              case measure => have := hq2'h.out; omega
              case rel => exact ⟨j + 1, by have := hq2'h.out; omega, by have := hj7'h.out; omega, by go_num, ((H5'h.out.next hb7).drewN d8).tail, (L5'h.out.below hb7).below (below_drewN' _ d8)⟩
          · have hi2 : ¬ (j : Int) < (n2 : Int) := by omega
            clear hlt
            have hH'h := Lib.hid hH
            have hL'h := Lib.hid hL
            have hq2'h := Lib.hid hq2
            have hj8'h := Lib.hid hj8
            clear hH hL hq2 hj8
            go_wp2_with (first | (go_at_call 10; refine (few_ln s0 n0 c0 x _ (in0'h.out.below hH'h.out.old)).mono ?_; rintro e wz ⟨sz, mz, cz, rfl, hbz, Lz⟩) | (go_at_call 19; refine (same_line (hL'h.out.below hbz) (by rw [hl'h.out]; exact Lz)).mono ?_; rintro e wy ⟨rfl, dy, rfl⟩))
            go_ret
            exact ⟨rfl, ((hH'h.out.next hbz).drewN dy).old⟩
end Go.Proofs.Ythfeiiibedmkiaa
