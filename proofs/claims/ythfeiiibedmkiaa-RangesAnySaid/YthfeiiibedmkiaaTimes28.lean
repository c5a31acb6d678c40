/-
  RangesTimes: a key has a value at just the steps of its times.
-/
import Derived.Test.YthfeiiibedmkiaaHeld28
import Derived.Test.YthfeiiibedmkiaaMaps28
set_option linter.unusedSimpArgs false
set_option linter.unusedVariables false
set_option maxRecDepth 100000
namespace Go.Proofs.Ythfeiiibedmkiaa
open Go.RowKit

theorem get_iff {ps : Ps} {k : Nat} {hb : Bool} {val : Nat} (h1 : hasP ps k = hb) (h2 : (getS ps k).getD 0 = val) (v : Nat) : getS ps k = some v ↔ hb = true ∧ v = val := by
  unfold hasP at h1
  cases hg : getS ps k with
  | none => rw [hg] at h1; simp at h1; subst h1; simp
  | some u => rw [hg] at h1 h2; simp at h1 h2; subst h1 h2; simp; exact eq_comm
theorem mapA_ok {l : List Ch} {s : Int} (h : failE l s s = 0) : mapA l s = mapL l (cntL l s) := by unfold mapA; rw [if_pos h]
theorem numT_one (l : List Ch) (s : Int) : numT l s s = 1 := by unfold numT; omega
theorem held_one {l : List Ch} {s : Int} (h : failE l s s = 0) (key : Nat) : hAll l key s s = hasP (mapA l s) key ∧ hSome l key s s = hasP (mapA l s) key := by
  rw [mapA_ok h]
  unfold hAll hSome
  rw [if_pos h, if_pos h, numT_one]
  constructor
  · rw [allK_succ]; exact Bool.true_and _
  · rw [anyK_succ]; exact Bool.false_or _
theorem cnt_take {s : Int} {st : List (Int × Int)} {i : Nat} (h : i < st.length) : cntIn s (st.take (i + 1)) = cntIn s (st.take i) + if inT s (nthT st i) = true then 1 else 0 := by
  unfold cntIn
  rw [List.take_succ_eq_append_getElem h, List.filter_append, List.length_append, nthT_eq h]
  congr 1
  cases hq : inT s (nthT st i) <;> simp [hq]
theorem cnt_le (s : Int) (st : List (Int × Int)) (i : Nat) : cntIn s (st.take i) ≤ st.length := by
  unfold cntIn
  refine Nat.le_trans (List.length_filter_le _ _) ?_
  rw [List.length_take]; omega
set_option maxHeartbeats 16000000 in
theorem walk_RangesTimes (s0 : Option Addr) (n0 c0 : Nat) (x : List Ch) (kz : Int) (s2 : Option Addr) (n2 c2 : Nat) (zs : List Int) (w : World) (in0 : ChIn w s0 n0 c0 x) (wfk : (Lit.int .u64 kz).wf = true) (nl2 : s2 = none → c2 = 0) (lc2 : n2 ≤ c2) (sl2 : Sl w s2 n2 (zs.map (Value.int .i64))) (wf2 : ∀ z ∈ zs, (Lit.int .i64 z).wf = true) :
    Calls Try.prog 6 #[.slice s0 n0 c0, .int .u64 kz, .slice s2 n2 c2] w fun e w' => e = .returned (.bool true) ∧ Below w.heap.size w w' := by
  obtain ⟨key, rfl, hk64⟩ := nat_of_u64 wfk
  have WK := fun w => wakes28_any w
  have hlen2 : n2 = zs.length := by have := sl2.1; simpa using this
  have hmax2 := sl2.2.1
  unfold maxLen at hmax2
  obtain ⟨i0, hi, hz0, hz1, hz2⟩ := info_parts info_u64V
  clear nl2 lc2 wfk
  have WK'h := Lib.hid WK
  have in0'h := Lib.hid in0
  have sl2'h := Lib.hid sl2
  have hlen2'h := Lib.hid hlen2
  have wf2'h := Lib.hid wf2
  have hk64'h := Lib.hid hk64
  clear WK in0 sl2 hlen2 wf2 hk64
  go_enter Try.func6, Try.ntmps6
  go_upto_region 3 with (first | (go_at_call 9; refine (WK'h.out _).mono ?_; rintro e w1 ⟨rfl, hb1⟩))
  have H1 := (Hs.nil w).next hb1
  clear hb1
  have H1'h := Lib.hid H1
  clear H1
  go_upto_region 4 with (first | (go_at_call 10; refine (few_ln s0 n0 c0 x _ (in0'h.out.below H1'h.out.old)).mono ?_; rintro e w2 ⟨sl, n, cl, rfl, hb2, L2⟩))
  have H2 := H1'h.out.next hb2
  clear hb2
  generalize x.take 24 = l at L2
  cases hr : rightL l with
  | false =>
    have hc : chkE l = 380 := by unfold chkE; rw [if_neg (by rw [hr]; decide)]
    have e0 : stepsL l key 0 = [] := by unfold stepsL; rw [if_neg (by rw [hr]; decide)]
    have H2'h := Lib.hid H2
    have L2'h := Lib.hid L2
    have hr'h := Lib.hid hr
    have hc'h := Lib.hid hc
    have e0'h := Lib.hid e0
    clear H2 L2 hr hc e0
    go_wp2_with (first | (go_at_call 12; refine (check_ln L2'h.out).mono ?_; rw [hc'h.out]; rintro e w4 ⟨rfl, hb4⟩) | (go_at_call 18; refine (steps_ln (L2'h.out.below hb4) key 0).mono ?_; rw [e0'h.out]; rintro e w5 ⟨s5, c5, rfl, hb5, hrow5⟩))
    go_ret
    exact ⟨rfl, ((H2'h.out.next hb4).next hb5).old⟩
  | true =>
    have hc : chkE l = 0 := by unfold chkE; rw [if_pos hr]
    have H2'h := Lib.hid H2
    have L2'h := Lib.hid L2
    have hr'h := Lib.hid hr
    have hc'h := Lib.hid hc
    clear H2 L2 hr hc
    go_upto_region 6 with (first | (go_at_call 12; refine (check_ln L2'h.out).mono ?_; rw [hc'h.out]; rintro e w4 ⟨rfl, hb4⟩))
    have H4 := H2'h.out.next hb4
    have L4 := L2'h.out.below hb4
    clear hb4 H2'h L2'h H1'h
    have H4'h := Lib.hid H4
    have L4'h := Lib.hid L4
    clear H4 L4
    go_wp2
    go_loopg [35] n2 (fun q i wr => ∃ k : Nat, k + q = n2 ∧ k ≤ 12 ∧ i = .int .i64 k ∧ Hs w [] wr ∧ Ln wr sl n cl l)
    case atStart => exact ⟨0, by omega, by omega, rfl, H4'h.out, L4'h.out⟩
    case round =>
      obtain ⟨go, rfl⟩ : ∃ go : Nat, go = gk := ⟨_, rfl⟩
      obtain ⟨k, hq, hk12, rfl, hH, hL⟩ := hrel
      clear H4'h L4'h
      by_cases hlt : k < n2
      · have hkl : k < zs.length := by have := hlen2'h.out; omega
        obtain ⟨rb, ro, rfl, hcs⟩ := ((SlK.of_sl sl2'h.out).below hH.old).sl.some' (by omega)
        have c1 : wr.cell? ⟨rb, ro + k, none⟩ = some (.int .i64 (nthZ zs k)) := hcs k _ (i64s_at hkl)
        have hzw := wf_i64' (wf2'h.out _ (nthZ_mem hkl))
        generalize nthZ zs k = s at c1 hzw
        have hi1 : (k : Int) < (n2 : Int) := by omega
        have h0k : (0 : Int) ≤ (k : Int) := by omega
        clear hlt hcs
        by_cases h8 : k = 12
        · have h8' : ((k : Int) == 12) = true := by rw [h8]; rfl
          clear h8
          have hH'h := Lib.hid hH
          have hL'h := Lib.hid hL
          have hq'h := Lib.hid hq
          have hk12'h := Lib.hid hk12
          have hkl'h := Lib.hid hkl
          have hzw'h := Lib.hid hzw
          clear hH hL hq hk12 hkl hzw
          go_wp2
          go_ret
          exact ⟨rfl, hH'h.out.old⟩
        · have h8' : ((k : Int) == 12) = false := by simp; omega
          have hk11 : k < 12 := by omega
          clear h8 hk12
          by_cases hneg : s < 0
          · have hH'h := Lib.hid hH
            have hL'h := Lib.hid hL
            have hq'h := Lib.hid hq
            have hk11'h := Lib.hid hk11
            have hkl'h := Lib.hid hkl
            have hzw'h := Lib.hid hzw
            clear hH hL hq hk11 hkl hzw
            go_wp2
            go_ret
            exact ⟨rfl, hH'h.out.old⟩
          · have hf : failE l s s = 0 := fail_yes hr'h.out (by omega) (by omega)
            have hmA := mapA_ok hf
            obtain ⟨hb, ehb⟩ : ∃ hb, hasP (mapA l s) key = hb := ⟨_, rfl⟩
            obtain ⟨val, evl⟩ : ∃ val, (getS (mapA l s) key).getD 0 = val := ⟨_, rfl⟩
            have hcnt : ∀ v, cntIn s (stepsL l key v) = if hb = true ∧ v = val then 1 else 0 := fun v => by
              rw [steps_at hr'h.out key v s, ← hmA]
              have := get_iff ehb evl v
              by_cases h : getS (mapA l s) key = some v
              · rw [if_pos h, if_pos (this.1 h)]
              · rw [if_neg h, if_neg (fun e => h (this.2 e))]
            obtain ⟨hAl, hSo⟩ := held_one hf key
            rw [ehb] at hAl hSo
            have y1 : (hb != hb) = false := by simp
            have hml := len_mapA l s
            have hul := up_mapA l s
            have hll := chs_len hL.sl
            have hnn := hL.hn
            have MP := map_ln hL s
            rw [hf] at MP
            have MG : ∀ (s5 : Option Addr) (c5 : Nat) (W : World), SlK W 2 s5 (mapA l s).length (prs (mapA l s)) → Calls Try.prog 28 #[.agg #[.slice s5 (mapA l s).length c5], .int .u64 (key : Int)] W fun e w' => e = .returned (.tuple #[.int .u64 (val : Int), .bool hb]) ∧ Below W.heap.size W w' := fun s5 c5 W hS => by
              have h := mGet_yes s5 (mapA l s).length c5 (mapA l s) key W hS hul (by omega)
              rw [ehb, evl] at h; exact h
            generalize mapA l s = mp at *
            clear evl ehb hmA hll hnn
            have hH'h := Lib.hid hH
            have hL'h := Lib.hid hL
            have hq'h := Lib.hid hq
            have hk11'h := Lib.hid hk11
            have hkl'h := Lib.hid hkl
            have hzw'h := Lib.hid hzw
            have hcnt'h := Lib.hid hcnt
            have hAl'h := Lib.hid hAl
            have hSo'h := Lib.hid hSo
            have hml'h := Lib.hid hml
            have hul'h := Lib.hid hul
            have MP'h := Lib.hid MP
            have MG'h := Lib.hid MG
            have hf'h := Lib.hid hf
            clear hH hL hq hk11 hkl hzw hcnt hAl hSo hml hul MP MG hf
            go_upto_region 11 with (go_at_call 13; refine MP'h.out.mono ?_; rintro e w5 ⟨s5, n5, c5, rfl, hb5, S5, -, -⟩)
            obtain rfl := prs_len S5
            have h5 := hH'h.out.next hb5
            have l5 := hL'h.out.below hb5
            have B6 := (Below.refl w5.heap.size w5).alloc (Nat.le_refl _) (.cells #[.slice s5 mp.length c5] 31)
            have H6 := h5.new #[.slice s5 mp.length c5] 31
            have L6 := l5.below B6
            have S6 := S5.below B6
            change Code.wp _ _ _ _ (w5.alloc (.cells #[.slice s5 mp.length c5] 31))
            generalize w5.alloc _ = W6 at H6 L6 S6 ⊢
            obtain ⟨b10, hb10⟩ : ∃ b10, b10 = w5.heap.size := ⟨_, rfl⟩
            rw [← hb10] at H6 ⊢
            clear hb5 S5 h5 l5 B6 hb10 c1 hH'h hL'h MP'h
            have k1 : W6.cell? ⟨b10, 0, none⟩ = some (.slice s5 mp.length c5) := blk_cell H6.rows.1 rfl
            have H6'h := Lib.hid H6
            have L6'h := Lib.hid L6
            have S6'h := Lib.hid S6
            clear H6 L6 S6
            go_upto_region 14 with (go_at_call 28; refine (MG'h.out s5 c5 _ S6'h.out).mono ?_; rintro e w7 ⟨rfl, hb7⟩)
            have H7 := (H6'h.out.next hb7).tail
            have L7 := L6'h.out.below hb7
            clear hb7 H6'h L6'h S6'h k1 MG'h hul'h hml'h
            have H7'h := Lib.hid H7
            have L7'h := Lib.hid L7
            clear H7 L7
            go_upto_region 17 with (go_at_call 29; refine (held_ln L7'h.out key s s).mono ?_; rw [hAl'h.out, hSo'h.out]; rintro e w8 ⟨rfl, hb8⟩)
            have H8 := H7'h.out.next hb8
            have L8 := L7'h.out.below hb8
            clear hb8 H7'h L7'h hAl'h hSo'h
            obtain ⟨vl, evl⟩ : ∃ vl, valsL l key 0 1099511627776 = vl := ⟨_, rfl⟩
            have hvl : vl.length ≤ 49 := by rw [← evl]; exact vals_len L8 key 0 1099511627776
            have VL : Calls Try.prog 30 #[.slice sl n cl, .int .u64 (key : Int), .agg #[.int .i64 0, .int .i64 1099511627776]] w8 (RowU w8 vl) := by
              have h := vals_ln L8 key 0 1099511627776; rw [evl] at h; exact h
            have hone : ∀ u ∈ ([.int .u64 (val : Int)] : List Value), u.oneCell' = true := by intro u hu; rw [List.mem_singleton.1 hu]; rfl
            clear evl
            have H8'h := Lib.hid H8
            have L8'h := Lib.hid L8
            have VL'h := Lib.hid VL
            have hone'h := Lib.hid hone
            clear H8 L8 VL hone
            go_wp2_with (first | (go_at_call 30; refine VL'h.out.mono ?_; rintro e w9 ⟨s9, c9, rfl, hb9, hrow9⟩) | (at_builtin; refine wpList_append_slk _ rfl (.tmp 80) (.tmp 82) 57 rfl w8.heap.size 36 i0 (.int .u64 0) 1 8 Try.underlying57 hi hz0 hz1 hz2 rfl (by decide) (.slice s9 vl.length c9) vl.length _ rfl (ownsRow_next hrow9 ((Below.refl _ _).alloc (Nat.le_refl _) _)) (some ⟨w9.heap.size, 0, none⟩) 1 1 _ rfl (SlK.of_blk (k := 1) (n := 1) (World.alloc_heap_new w9 (.cells #[.int .u64 (val : Int)] 36)) rfl (by decide)) hone'h.out (by unfold maxLen; omega) (by omega) (by rw [World.size_alloc]; have := hb9.size; omega) ?_; intro v' w10 hown' hgrow hwh; obtain ⟨s10, c10, rfl, -, -, -⟩ := row_form hown'))
            have B10 : Below w8.heap.size w8 w10 := (hb9.alloc hb9.size _).grown hgrow (by rw [World.size_alloc]; have := hb9.size; omega) (fun j hj => And.left <| (ownsRow_next hrow9 ((Below.refl _ _).alloc (Nat.le_refl _) (.cells #[.int .u64 (val : Int)] 36))).lt j hj)
            have H10 := H8'h.out.next B10
            have L10 := L8'h.out.below B10
            have hvv : (u64s vl) ++ [.int .u64 (val : Int)] = u64s (vl ++ [val]) := by unfold u64s; simp
            have S10 : Sl w10 s10 (vl.length + 1) (u64s (vl ++ [val])) := by rw [← hvv]; exact (SlK.of_row hown' (by unfold maxLen; omega)).sl
            obtain ⟨vs, hvs⟩ : ∃ vs, vs = vl ++ [val] := ⟨_, rfl⟩
            obtain ⟨nv, hnv⟩ : ∃ nv, nv = vl.length + 1 := ⟨_, rfl⟩
            have hvsl : nv = vs.length := by rw [hvs, hnv]; simp
            have hnv50 : nv ≤ 50 := by omega
            rw [← hvs, ← hnv] at S10
            try rw [← hnv]
            clear hb9 hrow9 hown' hgrow hwh B10 H8'h L8'h VL'h hone'h hvv hvs
            have H10'h := Lib.hid H10
            have L10'h := Lib.hid L10
            have S10'h := Lib.hid S10
            have hvsl'h := Lib.hid hvsl
            have hvl'h := Lib.hid hvl
            have hnv'h := Lib.hid hnv
            clear H10 L10 S10 hvsl hvl hnv
            go_loopg [85] nv (fun q i wr => ∃ j : Nat, j + q = nv ∧ i = .int .i64 j ∧ Hs w [] wr ∧ Ln wr sl n cl l ∧ Below w10.heap.size w10 wr)
            case atStart => exact ⟨0, by omega, rfl, H10'h.out, L10'h.out, Below.refl _ _⟩
            case round =>
              obtain ⟨g2, rfl⟩ : ∃ g2 : Nat, g2 = gk := ⟨_, rfl⟩
              obtain ⟨j, hqj, rfl, hH, hL, hB⟩ := hrel
              clear H10'h L10'h
              by_cases hlt : j < nv
              · have hjl : j < vs.length := by have := hvsl'h.out; omega
                obtain ⟨pb, po, rfl, hcs⟩ := ((SlK.of_sl S10'h.out).below hB).sl.some' (by omega)
                have c1 : wr.cell? ⟨pb, po + j, none⟩ = some (.int .u64 (nthN vs j : Nat)) := hcs j _ (u64s_at hjl)
                generalize nthN vs j = v at c1
                have hi2 : (j : Int) < (nv : Int) := by omega
                have hi2' : (j : Int) < (vl.length : Int) + 1 := by have := hnv'h.out; omega
                have h0j : (0 : Int) ≤ (j : Int) := by omega
                obtain ⟨st, est⟩ : ∃ st, stepsL l key v = st := ⟨_, rfl⟩
                have hst : st.length ≤ 24 := by rw [← est]; exact steps_len hL key v
                have hcv := hcnt'h.out v
                rw [est] at hcv
                have ST := steps_ln hL key v
                rw [est] at ST
                clear hlt hcs est
                have hH'h := Lib.hid hH
                have hL'h := Lib.hid hL
                have hqj'h := Lib.hid hqj
                have hB'h := Lib.hid hB
                have hjl'h := Lib.hid hjl
                have ST'h := Lib.hid ST
                have hcv'h := Lib.hid hcv
                clear hH hL hqj hB hjl ST hcv
                go_wp2_with (go_at_call 18; refine ST'h.out.mono ?_; rintro e w11 ⟨s11, c11, rfl, hb11, hrow11⟩)
                have H11 := hH'h.out.next hb11
                have L11 := hL'h.out.below hb11
                have B11 := below_next hB'h.out hb11
                have S11 := slk_times hrow11 (Nat.le_trans hst (by decide))
                clear hb11 hrow11 hH'h hL'h hB'h ST'h c1
                obtain ⟨ns, hns⟩ : ∃ ns, ns = st.length := ⟨_, rfl⟩
                rw [← hns] at S11 hst ⊢
                have hw11 := Below.refl w11.heap.size w11
                have H11'h := Lib.hid H11
                have L11'h := Lib.hid L11
                have B11'h := Lib.hid B11
                have S11'h := Lib.hid S11
                have hns'h := Lib.hid hns
                have hw11'h := Lib.hid hw11
                clear H11 L11 B11 S11 hns hw11
                go_loopg [18, 94] ns (fun q c i wr => ∃ a : Nat, a + q = ns ∧ i = .int .i64 a ∧ c = .int .i64 (cntIn s (st.take a) : Nat) ∧ Hs w [] wr ∧ Ln wr sl n cl l ∧ Below w10.heap.size w10 wr ∧ Below w11.heap.size w11 wr)
                case atStart => exact ⟨0, by omega, rfl, rfl, H11'h.out, L11'h.out, B11'h.out, hw11'h.out⟩
                case round =>
                  obtain ⟨a, hqa, rfl, rfl, hH, hL, hB, hB2⟩ := hrel
                  clear H11'h L11'h B11'h
                  by_cases hlt : a < ns
                  · have hal : a < st.length := by have := hns'h.out; omega
                    obtain ⟨tb, tof, rfl⟩ := tms_some S11'h.out (by omega)
                    obtain ⟨d1, d2⟩ := tms_cells (S11'h.out.below hB2) hal
                    have hct := cnt_take (s := s) hal
                    have hc24 : cntIn s (st.take a) ≤ 24 := Nat.le_trans (cnt_le s st a) (by have := hns'h.out; omega)
                    have hi3 : (a : Int) < (ns : Int) := by omega
                    have h0a : (0 : Int) ≤ (a : Int) := by omega
                    generalize cntIn s (st.take a) = cc at *
                    generalize nthT st a = p at d1 d2 hct
                    obtain ⟨F, T⟩ := p
                    unfold inT at hct
                    simp only at d1 d2 hct
                    have H12 := hH.new (tmA F T) 43
                    have B12 := (Below.refl wr.heap.size wr).alloc (Nat.le_refl _) (.cells (tmA F T) 43)
                    have L12 := hL.below B12
                    have B13 := below_next hB B12
                    have B14 := below_next hB2 B12
                    clear hlt
                    have hH'h := Lib.hid hH
                    have hL'h := Lib.hid hL
                    have hqa'h := Lib.hid hqa
                    have hB'h := Lib.hid hB
                    have hB2'h := Lib.hid hB2
                    have H12'h := Lib.hid H12
                    have L12'h := Lib.hid L12
                    have B12'h := Lib.hid B12
                    have B13'h := Lib.hid B13
                    have B14'h := Lib.hid B14
                    have hal'h := Lib.hid hal
                    have hct'h := Lib.hid hct
                    clear hH hL hqa hB hB2 H12 L12 B12 B13 B14 hal hct
                    go_upto_region 24 with fail
                    change Code.wp _ _ _ _ (wr.alloc (.cells (tmA F T) 43))
                    have H12 := H12'h.out
                    clear H12'h B12'h d1 d2 hH'h hL'h hB'h hB2'h
                    have hct := hct'h.out
                    clear hct'h
                    have L12 := L12'h.out
                    have B13 := B13'h.out
                    have B14 := B14'h.out
                    clear L12'h B13'h B14'h
                    generalize wr.alloc _ = W12 at H12 L12 B13 B14 ⊢
                    obtain ⟨b20, hb20⟩ : ∃ b20, b20 = wr.heap.size := ⟨_, rfl⟩
                    rw [← hb20] at H12 ⊢
                    clear hb20
                    have k1 : W12.cell? ⟨b20, 0, none⟩ = some (.int .i64 F) := blk_cell H12.rows.1 rfl
                    have k2 : W12.cell? ⟨b20, 1, none⟩ = some (.int .i64 T) := blk_cell H12.rows.1 rfl
                    by_cases q1 : F ≤ s
                    · by_cases q2 : T < 0
                      · rw [decide_eq_true q1, decide_eq_true q2, Bool.true_or, Bool.true_and, if_pos rfl] at hct
                        have H12'h := Lib.hid H12
                        have L12'h := Lib.hid L12
                        have B13'h := Lib.hid B13
                        have B14'h := Lib.hid B14
                        have hct'h := Lib.hid hct
                        clear H12 L12 B13 B14 hct
                        go_wp2
                        go_roundg (gk - 1)
                        case measure => have := hqa'h.out; omega
                        case rel => exact ⟨a + 1, by have := hqa'h.out; omega, by go_num, by rw [hct'h.out]; first | rfl | go_num, H12'h.out.tail, L12'h.out, B13'h.out, B14'h.out⟩
                      · by_cases q3 : s ≤ T
                        · rw [decide_eq_true q1, decide_eq_false q2, decide_eq_true q3, Bool.or_true, Bool.true_and, if_pos rfl] at hct
                          have H12'h := Lib.hid H12
                          have L12'h := Lib.hid L12
                          have B13'h := Lib.hid B13
                          have B14'h := Lib.hid B14
                          have hct'h := Lib.hid hct
                          clear H12 L12 B13 B14 hct
                          go_wp2
                          go_roundg (gk - 1)
                          case measure => have := hqa'h.out; omega
                          case rel => exact ⟨a + 1, by have := hqa'h.out; omega, by go_num, by rw [hct'h.out]; first | rfl | go_num, H12'h.out.tail, L12'h.out, B13'h.out, B14'h.out⟩
                        · rw [decide_eq_true q1, decide_eq_false q2, decide_eq_false q3, Bool.or_false, Bool.true_and, if_neg (by decide), Nat.add_zero] at hct
                          have H12'h := Lib.hid H12
                          have L12'h := Lib.hid L12
                          have B13'h := Lib.hid B13
                          have B14'h := Lib.hid B14
                          have hct'h := Lib.hid hct
                          clear H12 L12 B13 B14 hct
                          go_wp2
                          go_roundg (gk - 1)
                          case measure => have := hqa'h.out; omega
                          case rel => exact ⟨a + 1, by have := hqa'h.out; omega, by go_num, by rw [hct'h.out]; first | rfl | go_num, H12'h.out.tail, L12'h.out, B13'h.out, B14'h.out⟩
                    · rw [decide_eq_false q1, Bool.false_and, if_neg (by decide), Nat.add_zero] at hct
                      have H12'h := Lib.hid H12
                      have L12'h := Lib.hid L12
                      have B13'h := Lib.hid B13
                      have B14'h := Lib.hid B14
                      have hct'h := Lib.hid hct
                      clear H12 L12 B13 B14 hct
                      go_wp2
                      go_roundg (gk - 1)
                      case measure => have := hqa'h.out; omega
                      case rel => exact ⟨a + 1, by have := hqa'h.out; omega, by go_num, by rw [hct'h.out]; first | rfl | go_num, H12'h.out.tail, L12'h.out, B13'h.out, B14'h.out⟩
                  · have hi3 : ¬ (a : Int) < (ns : Int) := by omega
                    have hall : st.take a = st := List.take_of_length_le (by have := hns'h.out; omega)
                    rw [hall, hcv'h.out]
                    clear hlt hall
                    cases hb with
                    | false =>
                      rw [if_neg (fun h => by cases h.1)]
                      have hH'h := Lib.hid hH
                      have hL'h := Lib.hid hL
                      have hqa'h := Lib.hid hqa
                      have hB'h := Lib.hid hB
                      have hB2'h := Lib.hid hB2
                      clear hH hL hqa hB hB2
                      go_wp2
                      go_roundg (g2 - 1)
                      case measure => have := hqj'h.out; omega
                      case rel => exact ⟨j + 1, by have := hqj'h.out; omega, by go_num, hH'h.out, hL'h.out, hB'h.out⟩
                    | true =>
                      by_cases hvv : v = val
                      · rw [if_pos ⟨rfl, hvv⟩]
                        have z1 : ((v : Int) == (val : Int)) = true := by rw [hvv]; simp
                        clear hvv
                        have hH'h := Lib.hid hH
                        have hL'h := Lib.hid hL
                        have hqa'h := Lib.hid hqa
                        have hB'h := Lib.hid hB
                        have hB2'h := Lib.hid hB2
                        clear hH hL hqa hB hB2
                        go_wp2
                        go_roundg (g2 - 1)
                        case measure => have := hqj'h.out; omega
                        case rel => exact ⟨j + 1, by have := hqj'h.out; omega, by go_num, hH'h.out, hL'h.out, hB'h.out⟩
                      · rw [if_neg (fun h => hvv h.2)]
                        have z1 : ((v : Int) == (val : Int)) = false := by simp; omega
                        clear hvv
                        have hH'h := Lib.hid hH
                        have hL'h := Lib.hid hL
                        have hqa'h := Lib.hid hqa
                        have hB'h := Lib.hid hB
                        have hB2'h := Lib.hid hB2
                        clear hH hL hqa hB hB2
                        go_wp2
                        go_roundg (g2 - 1)
                        case measure => have := hqj'h.out; omega
                        case rel => exact ⟨j + 1, by have := hqj'h.out; omega, by go_num, hH'h.out, hL'h.out, hB'h.out⟩
              · have hi2 : ¬ (j : Int) < (nv : Int) := by omega
                have hi2' : ¬ (j : Int) < (vl.length : Int) + 1 := by have := hnv'h.out; omega
                clear hlt
                have hH'h := Lib.hid hH
                have hL'h := Lib.hid hL
                have hqj'h := Lib.hid hqj
                have hB'h := Lib.hid hB
                clear hH hL hqj hB
                go_wp2
                go_roundg (go - 1)
                case measure => have := hq'h.out; omega
                case rel => exact ⟨k + 1, by have := hq'h.out; omega, by have := hk11'h.out; omega, by go_num, hH'h.out, hL'h.out⟩
      · have hi1 : ¬ (k : Int) < (n2 : Int) := by omega
        clear hlt
        have hH'h := Lib.hid hH
        have hL'h := Lib.hid hL
        have hq'h := Lib.hid hq
        have hk12'h := Lib.hid hk12
        clear hH hL hq hk12
        go_wp2
        go_ret
        exact ⟨rfl, hH'h.out.old⟩
end Go.Proofs.Ythfeiiibedmkiaa
