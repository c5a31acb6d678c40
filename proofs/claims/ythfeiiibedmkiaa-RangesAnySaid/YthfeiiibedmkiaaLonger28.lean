/-
  RangesLonger: a longer time lets more be told, and asks for fewer.
-/
import Derived.Test.YthfeiiibedmkiaaTell28
set_option linter.unusedSimpArgs false
set_option linter.unusedVariables false
set_option maxRecDepth 100000
namespace Go.Proofs.Ythfeiiibedmkiaa
open Go.RowKit

theorem range_vals {l : List Ch} {f t : Int} (told : Ps) (hf : failE l f t = 0) : rangeE l f t told ≠ 380 ∧ rangeE l f t told ≠ 2 := by
  unfold rangeE
  rw [if_neg (by omega)]
  split
  · decide
  · split
    · decide
    · split <;> decide
theorem row_sl {W : World} {base : Nat} {s : Option Addr} {c : Nat} {out : List Nat} (h : W.ownsRow base 36 1 (.slice s out.length c) out.length (u64s out)) (hl : out.length ≤ 4096) : Sl W s out.length (u64s out) :=
  (SlK.of_row h (Nat.le_trans hl (by decide))).sl
set_option maxHeartbeats 8000000 in
theorem walk_RangesLonger (s0 : Option Addr) (n0 c0 : Nat) (x : List Ch) (f t : Int) (s2 : Option Addr) (n2 c2 : Nat) (told : Ps) (w : World) (in0 : ChIn w s0 n0 c0 x) (ok1 : TmOk (f, t)) (in2 : RowIn w s2 n2 c2 told) :
    Calls Try.prog 5 #[.slice s0 n0 c0, .agg (tmA f t), .slice s2 n2 c2] w fun e w' => e = .returned (.bool true) ∧ Below w.heap.size w w' := by
  have WK := fun w => wakes28_any w
  have hO := (Hs.nil w).new (tmA f t) 43
  obtain ⟨W, hW⟩ : ∃ W, W = w.alloc (.cells (tmA f t) 43) := ⟨_, rfl⟩
  rw [← hW] at hO
  obtain ⟨m, hm⟩ : ∃ m, m = min n2 8 := ⟨_, rfl⟩
  have hmv : (if (8 : Int) < (n2 : Int) then (8 : Int) else (n2 : Int)) = (m : Int) := by split <;> omega
  have hrn := prs_len in2.sl
  obtain ⟨tk, htk⟩ : ∃ tk, tk = told.take 8 := ⟨_, rfl⟩
  have hSt : SlK w 2 s2 m (prs tk) := by
    have h1 := in2.sl.take m (by omega)
    rw [prs_take] at h1
    have : told.take m = tk := by
      rw [htk]
      by_cases hx : n2 ≤ 8
      · rw [List.take_of_length_le (by omega), List.take_of_length_le (by omega)]
      · rw [show m = 8 by omega]
    rwa [this] at h1
  have hPt : P64 tk := by rw [htk]; exact fun p hp => in2.ok p (List.mem_of_mem_take hp)
  have hmc : (m : Int) ≤ (c2 : Int) := by have := in2.le; omega
  have hm0 : (0 : Int) ≤ (m : Int) := by omega
  have hm8 : m ≤ 4096 := by omega
  have hrn' : n2 ≤ c2 := in2.le
  have hrmax : (n2 : Int) ≤ 9223372036854775807 := by have := in2.sl.2.1; unfold maxLen at this; omega
  clear hm hrn htk
  have WK'h := Lib.hid WK
  have hO'h := Lib.hid hO
  have in0'h := Lib.hid in0
  have ok1'h := Lib.hid ok1
  have in2'h := Lib.hid in2
  have hSt'h := Lib.hid hSt
  have hPt'h := Lib.hid hPt
  have hm8'h := Lib.hid hm8
  clear WK hO in0 ok1 in2 hSt hPt hm8
  go_enter Try.func5, Try.ntmps5
  go_upto_region 1 with fail
  rw [← hW]
  clear hW
  go_upto_region 3 with (first | (go_at_call 9; refine (WK'h.out _).mono ?_; rintro e w1 ⟨rfl, hb1⟩))
  have H1 := hO'h.out.next hb1
  clear hb1
  have H1'h := Lib.hid H1
  clear H1
  go_upto_region 4 with (first | (go_at_call 10; refine (few_ln s0 n0 c0 x _ (in0'h.out.below H1'h.out.old)).mono ?_; rintro e w2 ⟨sl, n, cl, rfl, hb2, L2⟩))
  have H2 := H1'h.out.next hb2
  clear hb2
  generalize x.take 24 = l at L2
  obtain ⟨E, hE⟩ : ∃ E, E = rangeE l f t tk := ⟨_, rfl⟩
  have H2'h := Lib.hid H2
  have L2'h := Lib.hid L2
  have hE'h := Lib.hid hE
  clear H2 L2 hE
  go_upto_region 6 with (first | guard_target = wpList _ _ _ (Oper.mk _ (.load _ (.tmp 4)) _ _ _ _ :: _) _ _; refine wpList_load_row rfl 43 (.tmp 4) rfl (w.heap.size) rfl 43 (tmA f t) (0, 0) _ H2'h.out.rows.1 Try.underlying43 rfl info_tm ?_ | (go_at_call 23; refine (range_ln L2'h.out f t s2 m c2 tk (hSt'h.out.below H2'h.out.old) hPt'h.out hm8'h.out).mono ?_; rw [← hE'h.out]; rintro e w3 ⟨rfl, hb3⟩))
  have H3 := H2'h.out.next hb3
  have L3 := L2'h.out.below hb3
  clear hb3 hmv hmc hm0 hrn' hrmax H1'h H2'h L2'h
  by_cases hf : failE l f t = 0
  · obtain ⟨hr, h0, hft⟩ := fail_parts hf
    have hE2 := range_vals tk hf
    have z1 : ((E : Int) == 380) = false := by have := hE'h.out; simp; omega
    have z2 : ((E : Int) == 2) = false := by have := hE'h.out; simp; omega
    have q0 : w3.cell? ⟨w.heap.size, 0, none⟩ = some (.int .i64 f) := blk_cell H3.rows.1 rfl
    have q1 : w3.cell? ⟨w.heap.size, 1, none⟩ = some (.int .i64 t) := blk_cell H3.rows.1 rfl
    by_cases hf0 : f = 0
    · have z3 : (f == 0) = true := by simp [hf0]
      clear hf0
      have H3'h := Lib.hid H3
      have L3'h := Lib.hid L3
      have hf'h := Lib.hid hf
      have hr'h := Lib.hid hr
      have h0'h := Lib.hid h0
      have hft'h := Lib.hid hft
      have hE2'h := Lib.hid hE2
      clear H3 L3 hf hr h0 hft hE2
      go_wp2
      go_ret
      exact ⟨rfl, H3'h.out.old⟩
    · have z3 : (f == 0) = false := by simp [hf0]
      by_cases ht : 1099511627776 < t
      · clear hf0
        have H3'h := Lib.hid H3
        have L3'h := Lib.hid L3
        have hf'h := Lib.hid hf
        have hr'h := Lib.hid hr
        have h0'h := Lib.hid h0
        have hft'h := Lib.hid hft
        have hE2'h := Lib.hid hE2
        clear H3 L3 hf hr h0 hft hE2
        go_wp2
        go_ret
        exact ⟨rfl, H3'h.out.old⟩
      · have hw0 : IntKind.i64.wrap (f - 1) = f - 1 := Go.IntWalk.i64_in _ (by omega)
        have hw64 : RowKit.wrap64 (f - 1) = f - 1 := (Go.IntWalk.i64_left _).symm.trans hw0
        have hv0 : IntKind.i64.wrap (t + 1) = t + 1 := Go.IntWalk.i64_in _ (by omega)
        have hv64 : RowKit.wrap64 (t + 1) = t + 1 := (Go.IntWalk.i64_left _).symm.trans hv0
        have hf' : failE l (f - 1) (t + 1) = 0 := fail_yes hr (by omega) (by omega)
        have hle1 : f - 1 ≤ f := by omega
        have hle2 : t ≤ t + 1 := by omega
        have a1 := least_longer l hle1 hft hle2
        have a2 := most_longer l hle1 hft hle2
        have ea : szL l f t = leastM l (cntL l f) (numT l f t) := by unfold szL; rw [if_pos hf]
        have eb : szM l f t = mostM l (cntL l f) (numT l f t) := by unfold szM; rw [if_pos hf]
        have ec : szL l (f - 1) (t + 1) = leastM l (cntL l (f - 1)) (numT l (f - 1) (t + 1)) := by unfold szL; rw [if_pos hf']
        have ed : szM l (f - 1) (t + 1) = mostM l (cntL l (f - 1)) (numT l (f - 1) (t + 1)) := by unfold szM; rw [if_pos hf']
        rw [← ea, ← ec] at a1
        rw [← eb, ← ed] at a2
        clear ea eb ec ed
        have hb1 := sz_le L3 f t
        have hb2 := sz_le L3 (f - 1) (t + 1)
        have SA := fun W (hb : Below w3.heap.size w3 W) => sizes_ln (L3.below hb) f t
        have SB := fun W (hb : Below w3.heap.size w3 W) => sizes_ln (L3.below hb) (f - 1) (t + 1)
        rw [hf] at SA
        rw [hf'] at SB
        generalize szL l f t = a at *
        generalize szM l f t = b at *
        generalize szL l (f - 1) (t + 1) = c at *
        generalize szM l (f - 1) (t + 1) = d at *
        have i1 : ¬ ((a : Int) < (c : Int)) := by omega
        have i2 : ¬ ((d : Int) < (b : Int)) := by omega
        have H4 := H3.new (tmA (f - 1) (t + 1)) 43
        clear hf0
        have H3'h := Lib.hid H3
        have L3'h := Lib.hid L3
        have H4'h := Lib.hid H4
        have hf'h := Lib.hid hf
        have hr'h := Lib.hid hr
        have h0'h := Lib.hid h0
        have hft'h := Lib.hid hft
        have hE2'h := Lib.hid hE2
        have hf''h := Lib.hid hf'
        have hle1'h := Lib.hid hle1
        have hle2'h := Lib.hid hle2
        have a1'h := Lib.hid a1
        have a2'h := Lib.hid a2
        have SA'h := Lib.hid SA
        have SB'h := Lib.hid SB
        have hb1'h := Lib.hid hb1
        have hb2'h := Lib.hid hb2
        clear H3 L3 H4 hf hr h0 hft hE2 hf' hle1 hle2 a1 a2 SA SB hb1 hb2
        go_upto_region 9 with fail
        clear q0 q1
        change Code.wp _ _ _ _ (w3.alloc (.cells (tmA (f - 1) (t + 1)) 43))
        have H4 := H4'h.out
        clear H4'h
        obtain ⟨W4, hW4⟩ : ∃ W4, W4 = w3.alloc (.cells (tmA (f - 1) (t + 1)) 43) := ⟨_, rfl⟩
        have B4 : Below w3.heap.size w3 W4 := by rw [hW4]; exact (Below.refl _ _).alloc (Nat.le_refl _) _
        rw [← hW4] at H4 ⊢
        obtain ⟨b9, hb9⟩ : ∃ b9, b9 = w3.heap.size := ⟨_, rfl⟩
        rw [← hb9] at H4 ⊢
        clear hW4 hb9
        have H4'h := Lib.hid H4
        have B4'h := Lib.hid B4
        clear H4 B4
        go_upto_region 10 with (first | guard_target = wpList _ _ _ (Oper.mk _ (.load _ (.tmp 4)) _ _ _ _ :: _) _ _; refine wpList_load_row rfl 43 (.tmp 4) rfl (w.heap.size) rfl 43 (tmA f t) (0, 0) _ H4'h.out.rows.2.1 Try.underlying43 rfl info_tm ?_ | (go_at_call 25; refine (SA'h.out _ B4'h.out).mono ?_; rintro e w5 ⟨rfl, hb5⟩))
        have H5 := H4'h.out.next hb5
        have B5 := below_next B4'h.out hb5
        clear hb5 H4'h B4'h
        have H5'h := Lib.hid H5
        have B5'h := Lib.hid B5
        clear H5 B5
        go_upto_region 11 with (first | guard_target = wpList _ _ _ (Oper.mk _ (.load _ (.tmp 9)) _ _ _ _ :: _) _ _; refine wpList_load_row rfl 43 (.tmp 9) rfl (b9) rfl 43 (tmA (f - 1) (t + 1)) (0, 0) _ H5'h.out.rows.1 Try.underlying43 rfl info_tm ?_ | (go_at_call 25; refine (SB'h.out _ B5'h.out).mono ?_; rintro e w6 ⟨rfl, hb6⟩))
        have H6 := H5'h.out.next hb6
        have B6 := below_next B5'h.out hb6
        clear hb6 H5'h B5'h
        by_cases hE0 : E = 0
        · have z4 : ((E : Int) == 0) = true := by rw [hE0]; rfl
          have hR0 : rangeE l (f - 1) (t + 1) tk = 0 := range_longer hf'h.out hf''h.out hle1'h.out hle2'h.out (by rw [← hE'h.out]; exact hE0)
          clear hE0
          have H6'h := Lib.hid H6
          have B6'h := Lib.hid B6
          have hR0'h := Lib.hid hR0
          clear H6 B6 hR0
          go_upto_region 13 with (first | guard_target = wpList _ _ _ (Oper.mk _ (.load _ (.tmp 9)) _ _ _ _ :: _) _ _; refine wpList_load_row_w (by kernel_rfl) 43 (.tmp 9) rfl (b9) rfl 43 (tmA (f - 1) (t + 1)) (0, 0) _ H6'h.out.rows.1 Try.underlying43 rfl info_tm ?_ | (go_at_call 23; refine (range_ln (L3'h.out.below B6'h.out) (f - 1) (t + 1) s2 m c2 tk (hSt'h.out.below H6'h.out.old) hPt'h.out hm8'h.out).mono ?_; rw [hR0'h.out]; rintro e w7 ⟨rfl, hb7⟩))
          have H7 := H6'h.out.next hb7
          have B7 := below_next B6'h.out hb7
          clear hb7 H6'h B6'h
          have H7'h := Lib.hid H7
          have B7'h := Lib.hid B7
          clear H7 B7
          go_upto_region 14 with (first | guard_target = wpList _ _ _ (Oper.mk _ (.load _ (.tmp 4)) _ _ _ _ :: _) _ _; refine wpList_load_row rfl 43 (.tmp 4) rfl (w.heap.size) rfl 43 (tmA f t) (0, 0) _ H7'h.out.rows.2.1 Try.underlying43 rfl info_tm ?_ | (go_at_call 26; refine (must_ln (L3'h.out.below B7'h.out) f t).mono ?_; rintro e w8 ⟨s8, c8, rfl, hb8, hrow8⟩))
          have H8 := H7'h.out.next hb8
          have B8 := below_next B7'h.out hb8
          have S8 := row_sl hrow8 (Nat.le_trans (must_len L3'h.out f t) (by decide))
          clear hb8 hrow8 H7'h B7'h
          have H8'h := Lib.hid H8
          have B8'h := Lib.hid B8
          have S8'h := Lib.hid S8
          clear H8 B8 S8
          go_wp2_with (first | guard_target = wpList _ _ _ (Oper.mk _ (.load _ (.tmp 9)) _ _ _ _ :: _) _ _; refine wpList_load_row rfl 43 (.tmp 9) rfl (b9) rfl 43 (tmA (f - 1) (t + 1)) (0, 0) _ H8'h.out.rows.1 Try.underlying43 rfl info_tm ?_ | (go_at_call 26; refine (must_ln (L3'h.out.below B8'h.out) (f - 1) (t + 1)).mono ?_; rintro e w9 ⟨s9, c9, rfl, hb9, hrow9⟩))
          have H9 := H8'h.out.next hb9
          have S9 := S8'h.out.below hb9
          have S10 := row_sl hrow9 (Nat.le_trans (must_len L3'h.out (f - 1) (t + 1)) (by decide))
          have hml : (mustL l (f - 1) (t + 1)).length ≤ 4096 := Nat.le_trans (must_len L3'h.out (f - 1) (t + 1)) (by decide)
          have hin : ∀ k, k ∈ mustL l (f - 1) (t + 1) → k ∈ mustL l f t := fun k hk => must_longer hf'h.out hf''h.out hle1'h.out hle2'h.out hk
          generalize mustL l (f - 1) (t + 1) = ml at *
          generalize mustL l f t = ms at *
          obtain ⟨nm, hnm⟩ : ∃ nm, nm = ml.length := ⟨_, rfl⟩
          rw [← hnm] at S10 hml ⊢
          clear hb9 hrow9 H8'h B8'h S8'h
          have H9'h := Lib.hid H9
          have S9'h := Lib.hid S9
          have S10'h := Lib.hid S10
          have hin'h := Lib.hid hin
          have hnm'h := Lib.hid hnm
          clear H9 S9 S10 hin hnm
          go_loopg [103] nm (fun q i wr => ∃ k : Nat, k + q = nm ∧ i = .int .i64 k ∧ Below w9.heap.size w9 wr)
          case atStart => exact ⟨0, by omega, rfl, Below.refl _ _⟩
          case round =>
            obtain ⟨k, hq, rfl, hB⟩ := hrel
            by_cases hlt : k < nm
            · have hkl : k < ml.length := by have := hnm'h.out; omega
              obtain ⟨rb, ro, rfl, hcs⟩ := (S10'h.out.below hB).some' (by omega)
              have c1 : wr.cell? ⟨rb, ro + k, none⟩ = some (.int .u64 (nthN ml k : Nat)) := hcs k _ (u64s_at hkl)
              have hmem : ms.contains (nthN ml k) = true := by simpa using hin'h.out _ (nthN_mem hkl)
              generalize nthN ml k = kk at *
              have hi1 : (k : Int) < (nm : Int) := by omega
              have h0k : (0 : Int) ≤ (k : Int) := by omega
              clear hlt hcs
              have hq'h := Lib.hid hq
              have hB'h := Lib.hid hB
              have hmem'h := Lib.hid hmem
              have hkl'h := Lib.hid hkl
              clear hq hB hmem hkl
              go_wp2_with (go_at_call 27; refine (containsU_any s8 ms.length c8 ms kk wr (S9'h.out.below hB'h.out)).mono ?_; rw [hmem'h.out]; rintro e w11 ⟨rfl, rfl⟩)
              go_roundg (gk - 1)
              case measure => have := hq'h.out; omega
              case rel => exact ⟨k + 1, by have := hq'h.out; omega, by go_num, hB'h.out⟩
            · have hi1 : ¬ (k : Int) < (nm : Int) := by omega
              clear hlt
              have hq'h := Lib.hid hq
              have hB'h := Lib.hid hB
              clear hq hB
              go_wp2
              go_ret
              exact ⟨rfl, (H9'h.out.next hB'h.out).old⟩
        · have z4 : ((E : Int) == 0) = false := by simp; omega
          clear hE0
          obtain ⟨w7, hw7⟩ : ∃ w7, w7 = w6 := ⟨_, rfl⟩
          rw [← hw7] at H6 B6 ⊢
          clear hw7
          have H6'h := Lib.hid H6
          have B6'h := Lib.hid B6
          clear H6 B6
          go_upto_region 13 with fail
          have H7 := H6'h.out
          have B7 := B6'h.out
          clear H6'h B6'h
          have H7'h := Lib.hid H7
          have B7'h := Lib.hid B7
          clear H7 B7
          go_upto_region 14 with (first | guard_target = wpList _ _ _ (Oper.mk _ (.load _ (.tmp 4)) _ _ _ _ :: _) _ _; refine wpList_load_row rfl 43 (.tmp 4) rfl (w.heap.size) rfl 43 (tmA f t) (0, 0) _ H7'h.out.rows.2.1 Try.underlying43 rfl info_tm ?_ | (go_at_call 26; refine (must_ln (L3'h.out.below B7'h.out) f t).mono ?_; rintro e w8 ⟨s8, c8, rfl, hb8, hrow8⟩))
          have H8 := H7'h.out.next hb8
          have B8 := below_next B7'h.out hb8
          have S8 := row_sl hrow8 (Nat.le_trans (must_len L3'h.out f t) (by decide))
          clear hb8 hrow8 H7'h B7'h
          have H8'h := Lib.hid H8
          have B8'h := Lib.hid B8
          have S8'h := Lib.hid S8
          clear H8 B8 S8
          go_wp2_with (first | guard_target = wpList _ _ _ (Oper.mk _ (.load _ (.tmp 9)) _ _ _ _ :: _) _ _; refine wpList_load_row rfl 43 (.tmp 9) rfl (b9) rfl 43 (tmA (f - 1) (t + 1)) (0, 0) _ H8'h.out.rows.1 Try.underlying43 rfl info_tm ?_ | (go_at_call 26; refine (must_ln (L3'h.out.below B8'h.out) (f - 1) (t + 1)).mono ?_; rintro e w9 ⟨s9, c9, rfl, hb9, hrow9⟩))
          have H9 := H8'h.out.next hb9
          have S9 := S8'h.out.below hb9
          have S10 := row_sl hrow9 (Nat.le_trans (must_len L3'h.out (f - 1) (t + 1)) (by decide))
          have hml : (mustL l (f - 1) (t + 1)).length ≤ 4096 := Nat.le_trans (must_len L3'h.out (f - 1) (t + 1)) (by decide)
          have hin : ∀ k, k ∈ mustL l (f - 1) (t + 1) → k ∈ mustL l f t := fun k hk => must_longer hf'h.out hf''h.out hle1'h.out hle2'h.out hk
          generalize mustL l (f - 1) (t + 1) = ml at *
          generalize mustL l f t = ms at *
          obtain ⟨nm, hnm⟩ : ∃ nm, nm = ml.length := ⟨_, rfl⟩
          rw [← hnm] at S10 hml ⊢
          clear hb9 hrow9 H8'h B8'h S8'h
          have H9'h := Lib.hid H9
          have S9'h := Lib.hid S9
          have S10'h := Lib.hid S10
          have hin'h := Lib.hid hin
          have hnm'h := Lib.hid hnm
          clear H9 S9 S10 hin hnm
          go_loopg [103] nm (fun q i wr => ∃ k : Nat, k + q = nm ∧ i = .int .i64 k ∧ Below w9.heap.size w9 wr)
          case atStart => exact ⟨0, by omega, rfl, Below.refl _ _⟩
          case round =>
            obtain ⟨k, hq, rfl, hB⟩ := hrel
            by_cases hlt : k < nm
            · have hkl : k < ml.length := by have := hnm'h.out; omega
              obtain ⟨rb, ro, rfl, hcs⟩ := (S10'h.out.below hB).some' (by omega)
              have c1 : wr.cell? ⟨rb, ro + k, none⟩ = some (.int .u64 (nthN ml k : Nat)) := hcs k _ (u64s_at hkl)
              have hmem : ms.contains (nthN ml k) = true := by simpa using hin'h.out _ (nthN_mem hkl)
              generalize nthN ml k = kk at *
              have hi1 : (k : Int) < (nm : Int) := by omega
              have h0k : (0 : Int) ≤ (k : Int) := by omega
              clear hlt hcs
              have hq'h := Lib.hid hq
              have hB'h := Lib.hid hB
              have hmem'h := Lib.hid hmem
              have hkl'h := Lib.hid hkl
              clear hq hB hmem hkl
              go_wp2_with (go_at_call 27; refine (containsU_any s8 ms.length c8 ms kk wr (S9'h.out.below hB'h.out)).mono ?_; rw [hmem'h.out]; rintro e w11 ⟨rfl, rfl⟩)
              go_roundg (gk - 1)
              case measure => have := hq'h.out; omega
              case rel => exact ⟨k + 1, by have := hq'h.out; omega, by go_num, hB'h.out⟩
            · have hi1 : ¬ (k : Int) < (nm : Int) := by omega
              clear hlt
              have hq'h := Lib.hid hq
              have hB'h := Lib.hid hB
              clear hq hB
              go_wp2
              go_ret
              exact ⟨rfl, (H9'h.out.next hB'h.out).old⟩
  · have hEf : E = 380 ∨ E = 2 := by
      have := hE'h.out
      rw [range_fail tk hf] at this
      rw [this]
      unfold failE at hf ⊢
      split
      · rename_i h1
        rw [if_pos h1] at hf
        split
        · rename_i h2; rw [if_pos h2] at hf; exact absurd rfl hf
        · exact .inr rfl
      · exact .inl rfl
    have q0 : w3.cell? ⟨w.heap.size, 0, none⟩ = some (.int .i64 f) := blk_cell H3.rows.1 rfl
    have q1 : w3.cell? ⟨w.heap.size, 1, none⟩ = some (.int .i64 t) := blk_cell H3.rows.1 rfl
    rcases hEf with hEf | hEf
    · have z1 : ((E : Int) == 380) = true := by rw [hEf]; rfl
      clear hEf
      have H3'h := Lib.hid H3
      have L3'h := Lib.hid L3
      have hf'h := Lib.hid hf
      clear H3 L3 hf
      go_wp2
      go_ret
      exact ⟨rfl, H3'h.out.old⟩
    · have z1 : ((E : Int) == 380) = false := by rw [hEf]; rfl
      have z2 : ((E : Int) == 2) = true := by rw [hEf]; rfl
      clear hEf
      have H3'h := Lib.hid H3
      have L3'h := Lib.hid L3
      have hf'h := Lib.hid hf
      clear H3 L3 hf
      go_wp2
      go_ret
      exact ⟨rfl, H3'h.out.old⟩
end Go.Proofs.Ythfeiiibedmkiaa
