/-
  RangesHeld: which keys are there in a time, with which values, and how many there are.
-/
import Derived.Test.YthfeiiibedmkiaaLonger28
set_option linter.unusedSimpArgs false
set_option linter.unusedVariables false
set_option maxRecDepth 100000
namespace Go.Proofs.Ythfeiiibedmkiaa
open Go.RowKit

theorem len_far {W : World} {sp : Option Addr} {n cap : Nat} {l : List Ch} (L : Ln W sp n cap l) :
    Calls Try.prog 34 #[.slice sp n cap, .agg #[.int .i64 0, .int .i64 0], .int .u64 9223372036854775808] W fun e w' => e = .returned (.bool false) ∧ Below W.heap.size W w' := by
  have h := len_ln L 0 0 9223372036854775808
  have h2 := (sz_le L 0 0).2
  have e : lenB l 0 0 9223372036854775808 = false := by
    unfold lenB
    by_cases hf : failE l 0 0 = 0
    · unfold szM at h2
      rw [if_pos hf] at h2
      have : decide (9223372036854775808 ≤ mostM l (cntL l 0) (numT l 0 0)) = false := decide_eq_false (by omega)
      rw [this, Bool.and_false, Bool.and_false]
    · rw [decide_eq_false hf, Bool.false_and]
  rw [e] at h
  exact h
theorem len_no {l : List Ch} {f t : Int} (h : failE l f t ≠ 0) (x : Nat) : lenB l f t x = false := by unfold lenB; rw [decide_eq_false h, Bool.false_and]
theorem len_yes {l : List Ch} {f t : Int} (h : failE l f t = 0) (x : Nat) : lenB l f t x = (decide (szL l f t ≤ x) && decide (x ≤ szM l f t)) := by
  unfold lenB szL szM; rw [decide_eq_true h, Bool.true_and, if_pos h, if_pos h]
theorem fails_none {l : List Ch} {f t : Int} (h : failE l f t ≠ 0) : szL l f t = 0 ∧ szM l f t = 0 ∧ mustL l f t = [] ∧ (∀ k, valsL l k f t = []) ∧ (∀ k, hAll l k f t = false) ∧ (∀ k, hSome l k f t = false) := by
  refine ⟨?_, ?_, ?_, fun k => ?_, fun k => ?_, fun k => ?_⟩
  · unfold szL; rw [if_neg h]
  · unfold szM; rw [if_neg h]
  · unfold mustL; rw [if_neg h]
  · unfold valsL; rw [if_neg h]
  · unfold hAll; rw [if_neg h]
  · unfold hSome; rw [if_neg h]
set_option maxHeartbeats 16000000 in
theorem walk_RangesHeld (s0 : Option Addr) (n0 c0 : Nat) (x : List Ch) (s1 : Option Addr) (n1 c1 : Nat) (ts : List (Int × Int)) (s2 : Option Addr) (n2 c2 : Nat) (zs : List Int) (w : World) (in0 : ChIn w s0 n0 c0 x) (in1 : TmIn w s1 n1 c1 ts) (nl2 : s2 = none → c2 = 0) (lc2 : n2 ≤ c2) (sl2 : Sl w s2 n2 (zs.map (Value.int .u64))) (wf2 : ∀ z ∈ zs, (Lit.int .u64 z).wf = true) :
    Calls Try.prog 7 #[.slice s0 n0 c0, .slice s1 n1 c1, .slice s2 n2 c2] w fun e w' => e = .returned (.bool true) ∧ Below w.heap.size w w' := by
  have WK := fun w => wakes28_any w
  have hlen2 : n2 = zs.length := by have := sl2.1; simpa using this
  have hmax2 := sl2.2.1
  unfold maxLen at hmax2
  have hlen1 := tms_len in1.sl
  have hmax1 := in1.sl.2.1
  unfold maxLen at hmax1
  clear nl2 lc2
  have WK'h := Lib.hid WK
  have in0'h := Lib.hid in0
  have in1'h := Lib.hid in1
  have sl2'h := Lib.hid sl2
  have hlen1'h := Lib.hid hlen1
  have hlen2'h := Lib.hid hlen2
  have wf2'h := Lib.hid wf2
  clear WK in0 in1 sl2 hlen1 hlen2 wf2
  go_enter Try.func7, Try.ntmps7
  go_upto_region 3 with (first | (go_at_call 9; refine (WK'h.out _).mono ?_; rintro e w1 ⟨rfl, hb1⟩))
  have H1 := (Hs.nil w).next hb1
  clear hb1
  have H1'h := Lib.hid H1
  clear H1
  go_upto_region 4 with (first | (go_at_call 10; refine (few_ln s0 n0 c0 x _ (in0'h.out.below H1'h.out.old)).mono ?_; rintro e w2 ⟨sl, n, cl, rfl, hb2, L2⟩))
  have H2 := H1'h.out.next hb2
  clear hb2
  obtain ⟨l, hl⟩ : ∃ l, l = x.take 24 := ⟨_, rfl⟩
  rw [← hl] at L2
  obtain ⟨rgt, hrgt⟩ : ∃ b, b = rightL l := ⟨_, rfl⟩
  have H2'h := Lib.hid H2
  have L2'h := Lib.hid L2
  have hl'h := Lib.hid hl
  have hrgt'h := Lib.hid hrgt
  clear H2 L2 hl hrgt
  go_upto_region 5 with (first | (go_at_call 11; refine (right_ln L2'h.out).mono ?_; rw [← hrgt'h.out]; rintro e w3 ⟨rfl, hb3⟩))
  have H3 := H2'h.out.next hb3
  have L3 := L2'h.out.below hb3
  clear hb3 H1'h H2'h L2'h
  have H3'h := Lib.hid H3
  have L3'h := Lib.hid L3
  clear H3 L3
  go_wp2
  go_loopg [35] n1 (fun q i wr => ∃ k : Nat, k + q = n1 ∧ k ≤ 6 ∧ i = .int .i64 k ∧ Hs w [] wr ∧ Ln wr sl n cl l)
  case atStart => exact ⟨0, by omega, by omega, rfl, H3'h.out, L3'h.out⟩
  case round =>
    obtain ⟨go, rfl⟩ : ∃ go : Nat, go = gk := ⟨_, rfl⟩
    obtain ⟨k, hq, hk6, rfl, hH, hL⟩ := hrel
    clear H3'h L3'h
    by_cases hlt : k < n1
    · have hkl : k < ts.length := by have := hlen1'h.out; omega
      obtain ⟨rb, ro, rfl⟩ := tms_some in1'h.out.sl (by omega)
      obtain ⟨d1, d2⟩ := tms_cells (in1'h.out.sl.below hH.old) hkl
      have hi1 : (k : Int) < (n1 : Int) := by omega
      have h0k : (0 : Int) ≤ (k : Int) := by omega
      generalize nthT ts k = p at d1 d2
      obtain ⟨f, t⟩ := p
      simp only at d1 d2
      have H5 := hH.new (tmA f t) 43
      have L5 := hL.below ((Below.refl wr.heap.size wr).alloc (Nat.le_refl _) (.cells (tmA f t) 43))
      clear hlt
      have hH'h := Lib.hid hH
      have hL'h := Lib.hid hL
      have hq'h := Lib.hid hq
      have H5'h := Lib.hid H5
      have L5'h := Lib.hid L5
      have hkl'h := Lib.hid hkl
      clear hH hL hq H5 L5 hkl
      go_upto_region 8 with fail
      change Code.wp _ _ _ _ (wr.alloc (.cells (tmA f t) 43))
      have H5 := H5'h.out
      have L5 := L5'h.out
      clear H5'h L5'h
      generalize wr.alloc _ = W5 at H5 L5 ⊢
      obtain ⟨b10, hb10⟩ : ∃ b10, b10 = wr.heap.size := ⟨_, rfl⟩
      rw [← hb10] at H5 ⊢
      clear hb10 d1 d2 hH'h hL'h
      by_cases h6 : k = 6
      · have h6' : ((k : Int) == 6) = true := by rw [h6]; rfl
        clear h6
        have hk6'h := Lib.hid hk6
        clear hk6
        have H5'h := Lib.hid H5
        have L5'h := Lib.hid L5
        clear H5 L5
        go_wp2_with (first | (go_at_call 10; refine (few_ln s0 n0 c0 x _ (in0'h.out.below H5'h.out.old)).mono ?_; rintro e wz ⟨sz, mz, cz, rfl, hbz, Lz⟩) | (go_at_call 19; refine (same_line (L5'h.out.below hbz) (by rw [hl'h.out]; exact Lz)).mono ?_; rintro e wy ⟨rfl, dy, rfl⟩) | (go_at_call 34; refine (len_far ((L5'h.out.below hbz).below (below_drewN' _ dy))).mono ?_; rintro e wx ⟨rfl, hbx⟩))
        go_ret
        exact ⟨rfl, (((H5'h.out.next hbz).drewN dy).next hbx).old⟩
      · have h6' : ((k : Int) == 6) = false := by simp; omega
        have hk5 : k < 6 := by omega
        clear h6 hk6
        cases rgt with
        | false =>
          have hr : rightL l = false := hrgt'h.out.symm
          have hf := fail_wrong (f := f) (t := t) hr
          obtain ⟨eL, eM, eU, eV, eA, eS⟩ := fails_none (l := l) (f := f) (t := t) (by omega)
          have hf0 : failE l f t ≠ 0 := by omega
          clear hr
          have H5'h := Lib.hid H5
          have L5'h := Lib.hid L5
          have hf'h := Lib.hid hf
          have hf0'h := Lib.hid hf0
          have eL'h := Lib.hid eL
          have eM'h := Lib.hid eM
          have eU'h := Lib.hid eU
          have eV'h := Lib.hid eV
          have eA'h := Lib.hid eA
          have eS'h := Lib.hid eS
          have hk5'h := Lib.hid hk5
          clear H5 L5 hf hf0 eL eM eU eV eA eS hk5
          go_upto_region 17 with fail
          have H7 := H5'h.out
          have L7 := L5'h.out
          have SM : Sl W5 none ([] : List Nat).length (u64s []) := Sl.nil _ _
          clear H5'h L5'h
          generalize W5 = w7 at H7 L7 SM ⊢
          have SZ := sizes_ln L7 f t
          rw [eL'h.out, eM'h.out, hf'h.out] at SZ
          have H7'h := Lib.hid H7
          have L7'h := Lib.hid L7
          have SM'h := Lib.hid SM
          have SZ'h := Lib.hid SZ
          clear H7 L7 SM SZ
          go_upto_region 18 with (first | guard_target = wpList _ _ _ (Oper.mk _ (.load _ (.tmp 10)) _ _ _ _ :: _) _ _; refine wpList_load_row rfl 43 (.tmp 10) rfl (b10) rfl 43 (tmA f t) (0, 0) _ H7'h.out.rows.1 Try.underlying43 rfl info_tm ?_ | (go_at_call 25; refine SZ'h.out.mono ?_; rintro e w9 ⟨rfl, hb9⟩))
          have H9 := H7'h.out.next hb9
          have L9 := L7'h.out.below hb9
          have SM9 := ((SlK.of_sl SM'h.out).below hb9).sl
          clear H7'h L7'h SM'h SZ'h hb9
          have H9'h := Lib.hid H9
          have L9'h := Lib.hid L9
          have SM9'h := Lib.hid SM9
          clear H9 L9 SM9
          go_upto_region 20 with (first | guard_target = wpList _ _ _ (Oper.mk _ (.load _ (.tmp 10)) _ _ _ _ :: _) _ _; refine wpList_load_row_w (by kernel_rfl) 43 (.tmp 10) rfl (b10) rfl 43 (tmA f t) (0, 0) _ H9'h.out.rows.1 Try.underlying43 rfl info_tm ?_ | (go_at_call 26; refine (must_ln L9'h.out f t).mono ?_; rw [eU'h.out]; rintro e w11 ⟨s11, c11, rfl, hb11, hrow11⟩; have S11 := (SlK.of_row hrow11 (Nat.le_trans (by first | exact hml'h.out | decide) (by decide : 4096 ≤ maxLen))).sl) | (go_at_call 33; refine (same64 s11 none _ c11 0 [] _ S11 ((SlK.of_sl SM9'h.out).below hb11).sl).mono ?_; rintro e w12 ⟨rfl, d12, rfl⟩))
          have H12 := (H9'h.out.next hb11).drewN d12
          have L12 := (L9'h.out.below hb11).below (below_drewN' _ d12)
          generalize w11.drewN d12 = W12 at H12 L12 ⊢
          clear H9'h L9'h SM9'h hb11 hrow11 S11
          have H12'h := Lib.hid H12
          have L12'h := Lib.hid L12
          clear H12 L12
          go_wp2
          go_loopg [86] 9 (fun q i wr => ∃ j : Nat, j + q = 9 ∧ i = .int .u64 j ∧ Hs w [(b10, tmA f t, 43)] wr ∧ Ln wr sl n cl l)
          case atStart => exact ⟨0, by omega, rfl, H12'h.out, L12'h.out⟩
          case round =>
            obtain ⟨j, hqj, rfl, hH, hL⟩ := hrel
            clear H12'h L12'h
            by_cases hlt : j < 9
            · have hi2 : (j : Int) < 9 := by omega
              have h0j : (0 : Int) ≤ (j : Int) := by omega
              have LN := len_ln hL f t j
              clear hlt
              rw [len_no hf0'h.out] at LN
              have hH'h := Lib.hid hH
              have hL'h := Lib.hid hL
              have hqj'h := Lib.hid hqj
              have LN'h := Lib.hid LN
              clear hH hL hqj LN
              go_wp2_with (first | guard_target = wpList _ _ _ (Oper.mk _ (.load _ (.tmp 10)) _ _ _ _ :: _) _ _; refine wpList_load_row rfl 43 (.tmp 10) rfl (b10) rfl 43 (tmA f t) (0, 0) _ hH'h.out.rows.1 Try.underlying43 rfl info_tm ?_ | (go_at_call 34; refine LN'h.out.mono ?_; rintro e w13 ⟨rfl, hb13⟩))
              go_roundg (gk - 1)
              case measure => have := hqj'h.out; omega
              case rel => exact ⟨j + 1, by have := hqj'h.out; omega, by go_num, hH'h.out.next hb13, hL'h.out.below hb13⟩
            · have hi2 : ¬ (j : Int) < 9 := by omega
              clear hlt
              have hH'h := Lib.hid hH
              have hL'h := Lib.hid hL
              have hqj'h := Lib.hid hqj
              clear hH hL hqj
              go_wp2
              obtain ⟨g2, rfl⟩ : ∃ g2 : Nat, g2 = gk := ⟨_, rfl⟩
              go_loopg [110] n2 (fun q i wr => ∃ j : Nat, j + q = n2 ∧ j ≤ 6 ∧ i = .int .i64 j ∧ Hs w [(b10, tmA f t, 43)] wr ∧ Ln wr sl n cl l)
              case atStart => exact ⟨0, by omega, by omega, rfl, hH'h.out, hL'h.out⟩
              case round =>
                obtain ⟨i, hqi, hi6, rfl, hH, hL⟩ := hrel
                clear hH'h hL'h
                by_cases hlt : i < n2
                · have hil : i < zs.length := by have := hlen2'h.out; omega
                  obtain ⟨pb, po, rfl, hcs⟩ := ((SlK.of_sl sl2'h.out).below hH.old).sl.some' (by omega)
                  have c1 : wr.cell? ⟨pb, po + i, none⟩ = some (.int .u64 (nthZ zs i)) := hcs i _ (i64s_at hil)
                  obtain ⟨key, hkey, hk64⟩ := nat_of_u64 (wf2'h.out _ (nthZ_mem hil))
                  rw [hkey] at c1
                  have hi3 : (i : Int) < (n2 : Int) := by omega
                  have h0i : (0 : Int) ≤ (i : Int) := by omega
                  clear hlt hcs hkey
                  by_cases h8 : i = 6
                  · have h8' : ((i : Int) == 6) = true := by rw [h8]; rfl
                    clear h8
                    have hH'h := Lib.hid hH
                    have hL'h := Lib.hid hL
                    have hqi'h := Lib.hid hqi
                    have hi6'h := Lib.hid hi6
                    have hk64'h := Lib.hid hk64
                    have hil'h := Lib.hid hil
                    clear hH hL hqi hi6 hk64 hil
                    go_wp2
                    go_roundg (go - 1)
                    case measure => have := hq'h.out; omega
                    case rel => exact ⟨k + 1, by have := hq'h.out; omega, by have := hk5'h.out; omega, by go_num, hH'h.out.tail, hL'h.out⟩
                  · have h8' : ((i : Int) == 6) = false := by simp; omega
                    have hi5 : i < 6 := by omega
                    clear h8 hi6
                    have hH'h := Lib.hid hH
                    have hL'h := Lib.hid hL
                    have hqi'h := Lib.hid hqi
                    have hi5'h := Lib.hid hi5
                    have hk64'h := Lib.hid hk64
                    have hil'h := Lib.hid hil
                    clear hH hL hqi hi5 hk64 hil
                    have HD := held_ln hL'h.out key f t
                    rw [eA'h.out key, eS'h.out key] at HD
                    have HD'h := Lib.hid HD
                    clear HD
                    go_upto_region 36 with (first | guard_target = wpList _ _ _ (Oper.mk _ (.load _ (.tmp 10)) _ _ _ _ :: _) _ _; refine wpList_load_row rfl 43 (.tmp 10) rfl (b10) rfl 43 (tmA f t) (0, 0) _ hH'h.out.rows.1 Try.underlying43 rfl info_tm ?_ | (go_at_call 29; refine HD'h.out.mono ?_; rintro e w13 ⟨rfl, hb13⟩))
                    have H13 := hH'h.out.next hb13
                    have L13 := hL'h.out.below hb13
                    clear hH'h hL'h hb13 HD'h c1
                    have H13'h := Lib.hid H13
                    have L13'h := Lib.hid L13
                    clear H13 L13
                    go_wp2_with (first | guard_target = wpList _ _ _ (Oper.mk _ (.load _ (.tmp 10)) _ _ _ _ :: _) _ _; refine wpList_load_row_w (by kernel_rfl) 43 (.tmp 10) rfl (b10) rfl 43 (tmA f t) (0, 0) _ H13'h.out.rows.1 Try.underlying43 rfl info_tm ?_ | (go_at_call 30; refine (vals_ln L13'h.out key f t).mono ?_; rw [eV'h.out key]; rintro e w14 ⟨s14, c14, rfl, hb14, hrow14⟩; have S14 := (SlK.of_row hrow14 (by decide)).sl) | (go_at_call 33; refine (same64 s14 none _ c14 0 [] _ S14 (Sl.nil _ _)).mono ?_; rintro e w15 ⟨rfl, d15, rfl⟩))
                    go_roundg (gk - 1)
                    case measure => have := hqi'h.out; omega
                    case rel => exact ⟨i + 1, by have := hqi'h.out; omega, by have := hi5'h.out; omega, by go_num, (H13'h.out.next hb14).drewN d15, (L13'h.out.below hb14).below (below_drewN' _ d15)⟩
                · have hi3 : ¬ (i : Int) < (n2 : Int) := by omega
                  clear hlt
                  have hH'h := Lib.hid hH
                  have hL'h := Lib.hid hL
                  have hqi'h := Lib.hid hqi
                  have hi6'h := Lib.hid hi6
                  clear hH hL hqi hi6
                  go_wp2
                  go_roundg (go - 1)
                  case measure => have := hq'h.out; omega
                  case rel => exact ⟨k + 1, by have := hq'h.out; omega, by have := hk5'h.out; omega, by go_num, hH'h.out.tail, hL'h.out⟩
        | true =>
          have hr : rightL l = true := hrgt'h.out.symm
          cases hsp : spanB f t with
          | false =>
            have hf := fail_span hr hsp
            obtain ⟨eL, eM, eU, eV, eA, eS⟩ := fails_none (l := l) (f := f) (t := t) (by omega)
            have hf0 : failE l f t ≠ 0 := by omega
            clear hr
            have H5'h := Lib.hid H5
            have L5'h := Lib.hid L5
            have hf'h := Lib.hid hf
            have hf0'h := Lib.hid hf0
            have eL'h := Lib.hid eL
            have eM'h := Lib.hid eM
            have eU'h := Lib.hid eU
            have eV'h := Lib.hid eV
            have eA'h := Lib.hid eA
            have eS'h := Lib.hid eS
            have hsp'h := Lib.hid hsp
            have hk5'h := Lib.hid hk5
            clear H5 L5 hf hf0 eL eM eU eV eA eS hsp hk5
            go_upto_region 17 with (first | guard_target = wpList _ _ _ (Oper.mk _ (.load _ (.tmp 10)) _ _ _ _ :: _) _ _; refine wpList_load_row_w (by kernel_rfl) 43 (.tmp 10) rfl (b10) rfl 43 (tmA f t) (0, 0) _ H5'h.out.rows.1 Try.underlying43 rfl info_tm ?_ | (go_at_call 21; refine (rdSpan_any f t _).mono ?_; rw [hsp'h.out]; rintro e w7 ⟨rfl, hb7⟩))
            have H7 := H5'h.out.next hb7
            have L7 := L5'h.out.below hb7
            have SM : Sl w7 none ([] : List Nat).length (u64s []) := Sl.nil _ _
            clear H5'h L5'h hb7
            have SZ := sizes_ln L7 f t
            rw [eL'h.out, eM'h.out, hf'h.out] at SZ
            have H7'h := Lib.hid H7
            have L7'h := Lib.hid L7
            have SM'h := Lib.hid SM
            have SZ'h := Lib.hid SZ
            clear H7 L7 SM SZ
            go_upto_region 18 with (first | guard_target = wpList _ _ _ (Oper.mk _ (.load _ (.tmp 10)) _ _ _ _ :: _) _ _; refine wpList_load_row rfl 43 (.tmp 10) rfl (b10) rfl 43 (tmA f t) (0, 0) _ H7'h.out.rows.1 Try.underlying43 rfl info_tm ?_ | (go_at_call 25; refine SZ'h.out.mono ?_; rintro e w9 ⟨rfl, hb9⟩))
            have H9 := H7'h.out.next hb9
            have L9 := L7'h.out.below hb9
            have SM9 := ((SlK.of_sl SM'h.out).below hb9).sl
            clear H7'h L7'h SM'h SZ'h hb9
            have H9'h := Lib.hid H9
            have L9'h := Lib.hid L9
            have SM9'h := Lib.hid SM9
            clear H9 L9 SM9
            go_upto_region 20 with (first | guard_target = wpList _ _ _ (Oper.mk _ (.load _ (.tmp 10)) _ _ _ _ :: _) _ _; refine wpList_load_row_w (by kernel_rfl) 43 (.tmp 10) rfl (b10) rfl 43 (tmA f t) (0, 0) _ H9'h.out.rows.1 Try.underlying43 rfl info_tm ?_ | (go_at_call 26; refine (must_ln L9'h.out f t).mono ?_; rw [eU'h.out]; rintro e w11 ⟨s11, c11, rfl, hb11, hrow11⟩; have S11 := (SlK.of_row hrow11 (Nat.le_trans (by first | exact hml'h.out | decide) (by decide : 4096 ≤ maxLen))).sl) | (go_at_call 33; refine (same64 s11 none _ c11 0 [] _ S11 ((SlK.of_sl SM9'h.out).below hb11).sl).mono ?_; rintro e w12 ⟨rfl, d12, rfl⟩))
            have H12 := (H9'h.out.next hb11).drewN d12
            have L12 := (L9'h.out.below hb11).below (below_drewN' _ d12)
            generalize w11.drewN d12 = W12 at H12 L12 ⊢
            clear H9'h L9'h SM9'h hb11 hrow11 S11
            have H12'h := Lib.hid H12
            have L12'h := Lib.hid L12
            clear H12 L12
            go_wp2
            go_loopg [86] 9 (fun q i wr => ∃ j : Nat, j + q = 9 ∧ i = .int .u64 j ∧ Hs w [(b10, tmA f t, 43)] wr ∧ Ln wr sl n cl l)
            case atStart => exact ⟨0, by omega, rfl, H12'h.out, L12'h.out⟩
            case round =>
              obtain ⟨j, hqj, rfl, hH, hL⟩ := hrel
              clear H12'h L12'h
              by_cases hlt : j < 9
              · have hi2 : (j : Int) < 9 := by omega
                have h0j : (0 : Int) ≤ (j : Int) := by omega
                have LN := len_ln hL f t j
                clear hlt
                rw [len_no hf0'h.out] at LN
                have hH'h := Lib.hid hH
                have hL'h := Lib.hid hL
                have hqj'h := Lib.hid hqj
                have LN'h := Lib.hid LN
                clear hH hL hqj LN
                go_wp2_with (first | guard_target = wpList _ _ _ (Oper.mk _ (.load _ (.tmp 10)) _ _ _ _ :: _) _ _; refine wpList_load_row rfl 43 (.tmp 10) rfl (b10) rfl 43 (tmA f t) (0, 0) _ hH'h.out.rows.1 Try.underlying43 rfl info_tm ?_ | (go_at_call 34; refine LN'h.out.mono ?_; rintro e w13 ⟨rfl, hb13⟩))
                go_roundg (gk - 1)
                case measure => have := hqj'h.out; omega
                case rel => exact ⟨j + 1, by have := hqj'h.out; omega, by go_num, hH'h.out.next hb13, hL'h.out.below hb13⟩
              · have hi2 : ¬ (j : Int) < 9 := by omega
                clear hlt
                have hH'h := Lib.hid hH
                have hL'h := Lib.hid hL
                have hqj'h := Lib.hid hqj
                clear hH hL hqj
                go_wp2
                obtain ⟨g2, rfl⟩ : ∃ g2 : Nat, g2 = gk := ⟨_, rfl⟩
                go_loopg [110] n2 (fun q i wr => ∃ j : Nat, j + q = n2 ∧ j ≤ 6 ∧ i = .int .i64 j ∧ Hs w [(b10, tmA f t, 43)] wr ∧ Ln wr sl n cl l)
                case atStart => exact ⟨0, by omega, by omega, rfl, hH'h.out, hL'h.out⟩
                case round =>
                  obtain ⟨i, hqi, hi6, rfl, hH, hL⟩ := hrel
                  clear hH'h hL'h
                  by_cases hlt : i < n2
                  · have hil : i < zs.length := by have := hlen2'h.out; omega
                    obtain ⟨pb, po, rfl, hcs⟩ := ((SlK.of_sl sl2'h.out).below hH.old).sl.some' (by omega)
                    have c1 : wr.cell? ⟨pb, po + i, none⟩ = some (.int .u64 (nthZ zs i)) := hcs i _ (i64s_at hil)
                    obtain ⟨key, hkey, hk64⟩ := nat_of_u64 (wf2'h.out _ (nthZ_mem hil))
                    rw [hkey] at c1
                    have hi3 : (i : Int) < (n2 : Int) := by omega
                    have h0i : (0 : Int) ≤ (i : Int) := by omega
                    clear hlt hcs hkey
                    by_cases h8 : i = 6
                    · have h8' : ((i : Int) == 6) = true := by rw [h8]; rfl
                      clear h8
                      have hH'h := Lib.hid hH
                      have hL'h := Lib.hid hL
                      have hqi'h := Lib.hid hqi
                      have hi6'h := Lib.hid hi6
                      have hk64'h := Lib.hid hk64
                      have hil'h := Lib.hid hil
                      clear hH hL hqi hi6 hk64 hil
                      go_wp2
                      go_roundg (go - 1)
                      case measure => have := hq'h.out; omega
                      case rel => exact ⟨k + 1, by have := hq'h.out; omega, by have := hk5'h.out; omega, by go_num, hH'h.out.tail, hL'h.out⟩
                    · have h8' : ((i : Int) == 6) = false := by simp; omega
                      have hi5 : i < 6 := by omega
                      clear h8 hi6
                      have hH'h := Lib.hid hH
                      have hL'h := Lib.hid hL
                      have hqi'h := Lib.hid hqi
                      have hi5'h := Lib.hid hi5
                      have hk64'h := Lib.hid hk64
                      have hil'h := Lib.hid hil
                      clear hH hL hqi hi5 hk64 hil
                      have HD := held_ln hL'h.out key f t
                      rw [eA'h.out key, eS'h.out key] at HD
                      have HD'h := Lib.hid HD
                      clear HD
                      go_upto_region 36 with (first | guard_target = wpList _ _ _ (Oper.mk _ (.load _ (.tmp 10)) _ _ _ _ :: _) _ _; refine wpList_load_row rfl 43 (.tmp 10) rfl (b10) rfl 43 (tmA f t) (0, 0) _ hH'h.out.rows.1 Try.underlying43 rfl info_tm ?_ | (go_at_call 29; refine HD'h.out.mono ?_; rintro e w13 ⟨rfl, hb13⟩))
                      have H13 := hH'h.out.next hb13
                      have L13 := hL'h.out.below hb13
                      clear hH'h hL'h hb13 HD'h c1
                      have H13'h := Lib.hid H13
                      have L13'h := Lib.hid L13
                      clear H13 L13
                      go_wp2_with (first | guard_target = wpList _ _ _ (Oper.mk _ (.load _ (.tmp 10)) _ _ _ _ :: _) _ _; refine wpList_load_row_w (by kernel_rfl) 43 (.tmp 10) rfl (b10) rfl 43 (tmA f t) (0, 0) _ H13'h.out.rows.1 Try.underlying43 rfl info_tm ?_ | (go_at_call 30; refine (vals_ln L13'h.out key f t).mono ?_; rw [eV'h.out key]; rintro e w14 ⟨s14, c14, rfl, hb14, hrow14⟩; have S14 := (SlK.of_row hrow14 (by decide)).sl) | (go_at_call 33; refine (same64 s14 none _ c14 0 [] _ S14 (Sl.nil _ _)).mono ?_; rintro e w15 ⟨rfl, d15, rfl⟩))
                      go_roundg (gk - 1)
                      case measure => have := hqi'h.out; omega
                      case rel => exact ⟨i + 1, by have := hqi'h.out; omega, by have := hi5'h.out; omega, by go_num, (H13'h.out.next hb14).drewN d15, (L13'h.out.below hb14).below (below_drewN' _ d15)⟩
                  · have hi3 : ¬ (i : Int) < (n2 : Int) := by omega
                    clear hlt
                    have hH'h := Lib.hid hH
                    have hL'h := Lib.hid hL
                    have hqi'h := Lib.hid hqi
                    have hi6'h := Lib.hid hi6
                    clear hH hL hqi hi6
                    go_wp2
                    go_roundg (go - 1)
                    case measure => have := hq'h.out; omega
                    case rel => exact ⟨k + 1, by have := hq'h.out; omega, by have := hk5'h.out; omega, by go_num, hH'h.out.tail, hL'h.out⟩
          | true =>
            have hf := fail_ok hr hsp
            have hab := sz_le L5 f t
            obtain ⟨a, eL⟩ : ∃ a, szL l f t = a := ⟨_, rfl⟩
            obtain ⟨b, eM⟩ : ∃ b, szM l f t = b := ⟨_, rfl⟩
            obtain ⟨ml, eU⟩ : ∃ ml, mustL l f t = ml := ⟨_, rfl⟩
            rw [eL, eM] at hab
            have y1 : ((a : Int) != (a : Int)) = false := by simp
            have y2 : ((b : Int) != (b : Int)) = false := by simp
            have hml : ml.length ≤ 4096 := by rw [← eU]; exact Nat.le_trans (must_len L5 f t) (by decide)
            clear hr
            have H5'h := Lib.hid H5
            have L5'h := Lib.hid L5
            have hf'h := Lib.hid hf
            have eL'h := Lib.hid eL
            have eM'h := Lib.hid eM
            have eU'h := Lib.hid eU
            have hsp'h := Lib.hid hsp
            have hk5'h := Lib.hid hk5
            have hml'h := Lib.hid hml
            clear H5 L5 hf eL eM eU hsp hk5 hml
            go_upto_region 15 with (first | guard_target = wpList _ _ _ (Oper.mk _ (.load _ (.tmp 10)) _ _ _ _ :: _) _ _; refine wpList_load_row_w (by kernel_rfl) 43 (.tmp 10) rfl (b10) rfl 43 (tmA f t) (0, 0) _ H5'h.out.rows.1 Try.underlying43 rfl info_tm ?_ | (go_at_call 21; refine (rdSpan_any f t _).mono ?_; rw [hsp'h.out]; rintro e w6 ⟨rfl, hb6⟩))
            have H6 := H5'h.out.next hb6
            have L6 := L5'h.out.below hb6
            clear H5'h L5'h hb6
            have H6'h := Lib.hid H6
            have L6'h := Lib.hid L6
            clear H6 L6
            go_upto_region 16 with (first | guard_target = wpList _ _ _ (Oper.mk _ (.load _ (.tmp 10)) _ _ _ _ :: _) _ _; refine wpList_load_row rfl 43 (.tmp 10) rfl (b10) rfl 43 (tmA f t) (0, 0) _ H6'h.out.rows.1 Try.underlying43 rfl info_tm ?_ | (go_at_call 31; refine (rdMust_ln L6'h.out f t hf'h.out).mono ?_; rw [eU'h.out]; rintro e w8 ⟨s8, c8, rfl, hb8, hrow8⟩))
            have H8 := H6'h.out.next hb8
            have L8 := L6'h.out.below hb8
            have S8 := row_sl hrow8 hml'h.out
            clear H6'h L6'h hb8 hrow8
            have H8'h := Lib.hid H8
            have L8'h := Lib.hid L8
            have S8'h := Lib.hid S8
            clear H8 L8 S8
            go_upto_region 17 with (first | guard_target = wpList _ _ _ (Oper.mk _ (.load _ (.tmp 10)) _ _ _ _ :: _) _ _; refine wpList_load_row rfl 43 (.tmp 10) rfl (b10) rfl 43 (tmA f t) (0, 0) _ H8'h.out.rows.1 Try.underlying43 rfl info_tm ?_ | (go_at_call 32; refine (rdSizes_ln L8'h.out f t hf'h.out).mono ?_; rw [eL'h.out, eM'h.out]; rintro e w7 ⟨rfl, hb7⟩))
            have H7 := H8'h.out.next hb7
            have L7 := L8'h.out.below hb7
            have SM := ((SlK.of_sl S8'h.out).below hb7).sl
            clear H8'h L8'h hb7 S8'h
            have SZ := sizes_ln L7 f t
            rw [eL'h.out, eM'h.out, hf'h.out] at SZ
            have H7'h := Lib.hid H7
            have L7'h := Lib.hid L7
            have SM'h := Lib.hid SM
            have SZ'h := Lib.hid SZ
            clear H7 L7 SM SZ
            go_upto_region 18 with (first | guard_target = wpList _ _ _ (Oper.mk _ (.load _ (.tmp 10)) _ _ _ _ :: _) _ _; refine wpList_load_row rfl 43 (.tmp 10) rfl (b10) rfl 43 (tmA f t) (0, 0) _ H7'h.out.rows.1 Try.underlying43 rfl info_tm ?_ | (go_at_call 25; refine SZ'h.out.mono ?_; rintro e w9 ⟨rfl, hb9⟩))
            have H9 := H7'h.out.next hb9
            have L9 := L7'h.out.below hb9
            have SM9 := ((SlK.of_sl SM'h.out).below hb9).sl
            clear H7'h L7'h SM'h SZ'h hb9
            have H9'h := Lib.hid H9
            have L9'h := Lib.hid L9
            have SM9'h := Lib.hid SM9
            clear H9 L9 SM9
            go_upto_region 20 with (first | guard_target = wpList _ _ _ (Oper.mk _ (.load _ (.tmp 10)) _ _ _ _ :: _) _ _; refine wpList_load_row_w (by kernel_rfl) 43 (.tmp 10) rfl (b10) rfl 43 (tmA f t) (0, 0) _ H9'h.out.rows.1 Try.underlying43 rfl info_tm ?_ | (go_at_call 26; refine (must_ln L9'h.out f t).mono ?_; rw [eU'h.out]; rintro e w11 ⟨s11, c11, rfl, hb11, hrow11⟩; have S11 := (SlK.of_row hrow11 (Nat.le_trans (by first | exact hml'h.out | decide) (by decide : 4096 ≤ maxLen))).sl) | (go_at_call 33; refine (same64 s11 s8 _ c11 c8 ml _ S11 ((SlK.of_sl SM9'h.out).below hb11).sl).mono ?_; rintro e w12 ⟨rfl, d12, rfl⟩))
            have H12 := (H9'h.out.next hb11).drewN d12
            have L12 := (L9'h.out.below hb11).below (below_drewN' _ d12)
            generalize w11.drewN d12 = W12 at H12 L12 ⊢
            clear H9'h L9'h SM9'h hb11 hrow11 S11
            have H12'h := Lib.hid H12
            have L12'h := Lib.hid L12
            clear H12 L12
            go_wp2
            go_loopg [86] 9 (fun q i wr => ∃ j : Nat, j + q = 9 ∧ i = .int .u64 j ∧ Hs w [(b10, tmA f t, 43)] wr ∧ Ln wr sl n cl l)
            case atStart => exact ⟨0, by omega, rfl, H12'h.out, L12'h.out⟩
            case round =>
              obtain ⟨j, hqj, rfl, hH, hL⟩ := hrel
              clear H12'h L12'h
              by_cases hlt : j < 9
              · have hi2 : (j : Int) < 9 := by omega
                have h0j : (0 : Int) ≤ (j : Int) := by omega
                have LN := len_ln hL f t j
                clear hlt
                rw [len_yes hf'h.out, eL'h.out, eM'h.out] at LN
                by_cases q1 : a ≤ j
                · have y3 : (a : Int) ≤ (j : Int) := by omega
                  by_cases q2 : j ≤ b
                  · have y4 : (j : Int) ≤ (b : Int) := by omega
                    rw [decide_eq_true q1, decide_eq_true q2] at LN
                    clear q1 q2
                    have hH'h := Lib.hid hH
                    have hL'h := Lib.hid hL
                    have hqj'h := Lib.hid hqj
                    have LN'h := Lib.hid LN
                    clear hH hL hqj LN
                    go_wp2_with (first | guard_target = wpList _ _ _ (Oper.mk _ (.load _ (.tmp 10)) _ _ _ _ :: _) _ _; refine wpList_load_row rfl 43 (.tmp 10) rfl (b10) rfl 43 (tmA f t) (0, 0) _ hH'h.out.rows.1 Try.underlying43 rfl info_tm ?_ | (go_at_call 34; refine LN'h.out.mono ?_; rintro e w13 ⟨rfl, hb13⟩))
                    go_roundg (gk - 1)
                    case measure => have := hqj'h.out; omega
                    case rel => exact ⟨j + 1, by have := hqj'h.out; omega, by go_num, hH'h.out.next hb13, hL'h.out.below hb13⟩
                  · have y4 : ¬ (j : Int) ≤ (b : Int) := by omega
                    rw [decide_eq_true q1, decide_eq_false q2] at LN
                    clear q1 q2
                    have hH'h := Lib.hid hH
                    have hL'h := Lib.hid hL
                    have hqj'h := Lib.hid hqj
                    have LN'h := Lib.hid LN
                    clear hH hL hqj LN
                    go_wp2_with (first | guard_target = wpList _ _ _ (Oper.mk _ (.load _ (.tmp 10)) _ _ _ _ :: _) _ _; refine wpList_load_row rfl 43 (.tmp 10) rfl (b10) rfl 43 (tmA f t) (0, 0) _ hH'h.out.rows.1 Try.underlying43 rfl info_tm ?_ | (go_at_call 34; refine LN'h.out.mono ?_; rintro e w13 ⟨rfl, hb13⟩))
                    go_roundg (gk - 1)
                    case measure => have := hqj'h.out; omega
                    case rel => exact ⟨j + 1, by have := hqj'h.out; omega, by go_num, hH'h.out.next hb13, hL'h.out.below hb13⟩
                · have y3 : ¬ (a : Int) ≤ (j : Int) := by omega
                  rw [decide_eq_false q1, Bool.false_and] at LN
                  clear q1
                  have hH'h := Lib.hid hH
                  have hL'h := Lib.hid hL
                  have hqj'h := Lib.hid hqj
                  have LN'h := Lib.hid LN
                  clear hH hL hqj LN
                  go_wp2_with (first | guard_target = wpList _ _ _ (Oper.mk _ (.load _ (.tmp 10)) _ _ _ _ :: _) _ _; refine wpList_load_row rfl 43 (.tmp 10) rfl (b10) rfl 43 (tmA f t) (0, 0) _ hH'h.out.rows.1 Try.underlying43 rfl info_tm ?_ | (go_at_call 34; refine LN'h.out.mono ?_; rintro e w13 ⟨rfl, hb13⟩))
                  go_roundg (gk - 1)
                  case measure => have := hqj'h.out; omega
                  case rel => exact ⟨j + 1, by have := hqj'h.out; omega, by go_num, hH'h.out.next hb13, hL'h.out.below hb13⟩
              · have hi2 : ¬ (j : Int) < 9 := by omega
                clear hlt
                have hH'h := Lib.hid hH
                have hL'h := Lib.hid hL
                have hqj'h := Lib.hid hqj
                clear hH hL hqj
                go_wp2
                obtain ⟨g2, rfl⟩ : ∃ g2 : Nat, g2 = gk := ⟨_, rfl⟩
                go_loopg [110] n2 (fun q i wr => ∃ j : Nat, j + q = n2 ∧ j ≤ 6 ∧ i = .int .i64 j ∧ Hs w [(b10, tmA f t, 43)] wr ∧ Ln wr sl n cl l)
                case atStart => exact ⟨0, by omega, by omega, rfl, hH'h.out, hL'h.out⟩
                case round =>
                  obtain ⟨i, hqi, hi6, rfl, hH, hL⟩ := hrel
                  clear hH'h hL'h
                  by_cases hlt : i < n2
                  · have hil : i < zs.length := by have := hlen2'h.out; omega
                    obtain ⟨pb, po, rfl, hcs⟩ := ((SlK.of_sl sl2'h.out).below hH.old).sl.some' (by omega)
                    have c1 : wr.cell? ⟨pb, po + i, none⟩ = some (.int .u64 (nthZ zs i)) := hcs i _ (i64s_at hil)
                    obtain ⟨key, hkey, hk64⟩ := nat_of_u64 (wf2'h.out _ (nthZ_mem hil))
                    rw [hkey] at c1
                    have hi3 : (i : Int) < (n2 : Int) := by omega
                    have h0i : (0 : Int) ≤ (i : Int) := by omega
                    clear hlt hcs hkey
                    by_cases h8 : i = 6
                    · have h8' : ((i : Int) == 6) = true := by rw [h8]; rfl
                      clear h8
                      have hH'h := Lib.hid hH
                      have hL'h := Lib.hid hL
                      have hqi'h := Lib.hid hqi
                      have hi6'h := Lib.hid hi6
                      have hk64'h := Lib.hid hk64
                      have hil'h := Lib.hid hil
                      clear hH hL hqi hi6 hk64 hil
                      go_wp2
                      go_roundg (go - 1)
                      case measure => have := hq'h.out; omega
                      case rel => exact ⟨k + 1, by have := hq'h.out; omega, by have := hk5'h.out; omega, by go_num, hH'h.out.tail, hL'h.out⟩
                    · have h8' : ((i : Int) == 6) = false := by simp; omega
                      have hi5 : i < 6 := by omega
                      clear h8 hi6
                      have hH'h := Lib.hid hH
                      have hL'h := Lib.hid hL
                      have hqi'h := Lib.hid hqi
                      have hi5'h := Lib.hid hi5
                      have hk64'h := Lib.hid hk64
                      have hil'h := Lib.hid hil
                      clear hH hL hqi hi5 hk64 hil
                      obtain ⟨ha, eA⟩ : ∃ ha, hAll l key f t = ha := ⟨_, rfl⟩
                      obtain ⟨hs, eS⟩ : ∃ hs, hSome l key f t = hs := ⟨_, rfl⟩
                      obtain ⟨vl, eV⟩ : ∃ vl, valsL l key f t = vl := ⟨_, rfl⟩
                      have hvl : vl.length ≤ maxLen := by rw [← eV]; exact Nat.le_trans (vals_len hL'h.out key f t) (by decide)
                      have y5 : (ha != ha) = false := by simp
                      have y6 : (hs != hs) = false := by simp
                      have eA'h := Lib.hid eA
                      have eS'h := Lib.hid eS
                      have eV'h := Lib.hid eV
                      have hvl'h := Lib.hid hvl
                      clear eA eS eV hvl
                      go_upto_region 31 with (first | guard_target = wpList _ _ _ (Oper.mk _ (.load _ (.tmp 10)) _ _ _ _ :: _) _ _; refine wpList_load_row rfl 43 (.tmp 10) rfl (b10) rfl 43 (tmA f t) (0, 0) _ hH'h.out.rows.1 Try.underlying43 rfl info_tm ?_ | (go_at_call 29; refine (held_ln hL'h.out key f t).mono ?_; rw [eA'h.out, eS'h.out]; rintro e w13 ⟨rfl, hb13⟩))
                      have H13 := hH'h.out.next hb13
                      have L13 := hL'h.out.below hb13
                      clear hH'h hL'h hb13 c1
                      have H13'h := Lib.hid H13
                      have L13'h := Lib.hid L13
                      clear H13 L13
                      go_upto_region 35 with (first | guard_target = wpList _ _ _ (Oper.mk _ (.load _ (.tmp 10)) _ _ _ _ :: _) _ _; refine wpList_load_row rfl 43 (.tmp 10) rfl (b10) rfl 43 (tmA f t) (0, 0) _ H13'h.out.rows.1 Try.underlying43 rfl info_tm ?_ | (go_at_call 35; refine (rdHeld_ln L13'h.out key f t hf'h.out).mono ?_; rw [eA'h.out, eS'h.out]; rintro e w14 ⟨rfl, hb14⟩))
                      have H14 := H13'h.out.next hb14
                      have L14 := L13'h.out.below hb14
                      clear H13'h L13'h hb14
                      have H14'h := Lib.hid H14
                      have L14'h := Lib.hid L14
                      clear H14 L14
                      go_upto_region 36 with (first | guard_target = wpList _ _ _ (Oper.mk _ (.load _ (.tmp 10)) _ _ _ _ :: _) _ _; refine wpList_load_row rfl 43 (.tmp 10) rfl (b10) rfl 43 (tmA f t) (0, 0) _ H14'h.out.rows.1 Try.underlying43 rfl info_tm ?_ | (go_at_call 36; refine (rdVals_ln L14'h.out key f t hf'h.out).mono ?_; rw [eV'h.out]; rintro e w15 ⟨s15, c15, rfl, hb15, hrow15⟩))
                      have H15 := H14'h.out.next hb15
                      have L15 := L14'h.out.below hb15
                      have S15 := (SlK.of_row hrow15 hvl'h.out).sl
                      clear H14'h L14'h hb15 hrow15
                      have H15'h := Lib.hid H15
                      have L15'h := Lib.hid L15
                      have S15'h := Lib.hid S15
                      clear H15 L15 S15
                      go_wp2_with (first | guard_target = wpList _ _ _ (Oper.mk _ (.load _ (.tmp 10)) _ _ _ _ :: _) _ _; refine wpList_load_row_w (by kernel_rfl) 43 (.tmp 10) rfl (b10) rfl 43 (tmA f t) (0, 0) _ H15'h.out.rows.1 Try.underlying43 rfl info_tm ?_ | (go_at_call 30; refine (vals_ln L15'h.out key f t).mono ?_; rw [eV'h.out]; rintro e w16 ⟨s16, c16, rfl, hb16, hrow16⟩; have S16 := (SlK.of_row hrow16 hvl'h.out).sl) | (go_at_call 33; refine (same64 s16 s15 _ c16 c15 vl _ S16 ((SlK.of_sl S15'h.out).below hb16).sl).mono ?_; rintro e w17 ⟨rfl, d17, rfl⟩))
                      go_roundg (gk - 1)
                      case measure => have := hqi'h.out; omega
                      case rel => exact ⟨i + 1, by have := hqi'h.out; omega, by have := hi5'h.out; omega, by go_num, (H15'h.out.next hb16).drewN d17, (L15'h.out.below hb16).below (below_drewN' _ d17)⟩
                  · have hi3 : ¬ (i : Int) < (n2 : Int) := by omega
                    clear hlt
                    have hH'h := Lib.hid hH
                    have hL'h := Lib.hid hL
                    have hqi'h := Lib.hid hqi
                    have hi6'h := Lib.hid hi6
                    clear hH hL hqi hi6
                    go_wp2
                    go_roundg (go - 1)
                    case measure => have := hq'h.out; omega
                    case rel => exact ⟨k + 1, by have := hq'h.out; omega, by have := hk5'h.out; omega, by go_num, hH'h.out.tail, hL'h.out⟩
    · have hi1 : ¬ (k : Int) < (n1 : Int) := by omega
      clear hlt
      have hq'h := Lib.hid hq
      have hk6'h := Lib.hid hk6
      clear hq hk6
      have hH'h := Lib.hid hH
      have hL'h := Lib.hid hL
      clear hH hL
      go_wp2_with (first | (go_at_call 10; refine (few_ln s0 n0 c0 x _ (in0'h.out.below hH'h.out.old)).mono ?_; rintro e wz ⟨sz, mz, cz, rfl, hbz, Lz⟩) | (go_at_call 19; refine (same_line (hL'h.out.below hbz) (by rw [hl'h.out]; exact Lz)).mono ?_; rintro e wy ⟨rfl, dy, rfl⟩) | (go_at_call 34; refine (len_far ((hL'h.out.below hbz).below (below_drewN' _ dy))).mono ?_; rintro e wx ⟨rfl, hbx⟩))
      go_ret
      exact ⟨rfl, (((hH'h.out.next hbz).drewN dy).next hbx).old⟩
end Go.Proofs.Ythfeiiibedmkiaa
