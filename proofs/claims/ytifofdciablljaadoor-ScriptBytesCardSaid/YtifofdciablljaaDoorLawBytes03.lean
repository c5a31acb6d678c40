/-
  Layer 3 (script): the bytes of numbers and scripts, and the scripts of bytes.
-/
import Derived.Test.YtifofdciablljaaDoorDocK
import Derived.Test.YtifofdciablljaaDoorScrS
import Derived.Test.YtifofdciablljaaDoorLawBack03
set_option linter.unusedSimpArgs false
set_option linter.unusedVariables false
set_option maxRecDepth 100000
namespace Go.Proofs.YtifofdciablljaaDoor
open Go.RowKit

def smZ : Sm := ⟨0, 0, 0, none, 0, 0, [], none, 0, 0, []⟩
theorem smZ_in (W : World) : SmIn W smZ := by
  refine ⟨⟨SlK.nil _ _ _, (fun r hr => by cases hr), (fun r hr => by cases hr), (fun r hr => by cases hr), (fun r hr => by cases hr), Nat.zero_le _, (fun r hr => by cases hr)⟩, Sl.nil _ _, (fun k hk => by cases hk), by decide, by decide, by decide, fun _ => rfl, Nat.le_refl _, fun _ => rfl, Nat.le_refl _, Nat.zero_le _⟩
theorem wf_u64' {z : Int} (h : (Lit.int .u64 z).wf = true) : 0 ≤ z ∧ z < 18446744073709551616 := by
  have h1 : IntKind.u64.min = 0 := rfl
  have h2 : IntKind.u64.max = 18446744073709551615 := rfl
  simp only [Lit.wf, h1, h2, Bool.and_eq_true, decide_eq_true_eq] at h
  omega
set_option maxHeartbeats 16000000 in
theorem bytes_true (xs : Sm) (np : Option Addr) (nn nc : Nat) (ks : List Nat) (mp : Option Addr) (mn mc : Nat) (ms : List Nat) (w : World) (hT : Tks w) (h : SmArg w xs) (hn : Sl w np nn (u64s ks)) (hk64 : W64 ks) (hm : Sl w mp mn (u8s ms)) (hle : mn ≤ mc) (hnil : mp = none → mc = 0) (hb : ∀ b ∈ ms, b < 256) :
    Calls Tryd.prog 4 #[.agg (smA xs), .slice np nn nc, .slice mp mn mc] w fun e w' => e = .returned (.bool true) ∧ Below w.heap.size w w' := by
  obtain ⟨k, hk⟩ : ∃ k : Nat, min (mn : Int) 3000 = (k : Int) := ⟨(min (mn : Int) 3000).toNat, by omega⟩
  have hk3000 : k ≤ 3000 := by omega
  have hkn : k ≤ mn := by omega
  have hkmc : k ≤ mc := by omega
  obtain ⟨M, hM⟩ : ∃ M, M = ms.take k := ⟨_, rfl⟩
  have hMb : ∀ b ∈ M, b < 256 := fun b hbm => hb b (List.mem_of_mem_take (by rw [← hM]; exact hbm))
  have hm0 := hm.take k hkn
  rw [u8s_take, ← hM] at hm0
  have hMl : M.length = k := by have := hm0.1; rw [u8s_length] at this; exact this.symm
  obtain ⟨gx, sbx, seedx, lpx, lnx, lcx, rowsx, ppx, pnx, pcx, psx⟩ := xs
  obtain ⟨xs, hsmx⟩ : ∃ s : Sm, s = ⟨gx, sbx, seedx, lpx, lnx, lcx, rowsx, ppx, pnx, pcx, psx⟩ := ⟨_, rfl⟩
  have hAx : smA xs = #[.int .i64 gx, .int .i64 sbx, .int .u64 (seedx : Int), .slice lpx lnx lcx, .slice ppx pnx pcx] := by rw [hsmx]; rfl
  have hpnx : xs.pn = pnx := by rw [hsmx]
  rw [← hsmx] at h ⊢
  rw [hAx]
  clear hsmx
  have hB0 := (Below.refl w.heap.size w).alloc (Nat.le_refl _) (.cells #[.int .i64 gx, .int .i64 sbx, .int .u64 (seedx : Int), .slice lpx lnx lcx, .slice ppx pnx pcx] 26)
  have hb0 := World.alloc_heap_new w (.cells #[.int .i64 gx, .int .i64 sbx, .int .u64 (seedx : Int), .slice lpx lnx lcx, .slice ppx pnx pcx] 26)
  have W0 := wakes_any _ (hT.next hB0)
  clear hM hm hb
  have hT'h := Lib.hid hT
  have h'h := Lib.hid h
  have hn'h := Lib.hid hn
  have hk64'h := Lib.hid hk64
  have hm0'h := Lib.hid hm0
  have hle'h := Lib.hid hle
  have hnil'h := Lib.hid hnil
  have hk3000'h := Lib.hid hk3000
  have hkn'h := Lib.hid hkn
  have hkmc'h := Lib.hid hkmc
  have hMb'h := Lib.hid hMb
  have hMl'h := Lib.hid hMl
  have hB0'h := Lib.hid hB0
  have hb0'h := Lib.hid hb0
  have W0'h := Lib.hid W0
  have hk'h := Lib.hid hk
  clear hT h hn hk64 hm0 hle hnil hk3000 hkn hkmc hMb hMl hB0 hb0 W0 hk
  go_enter Tryd.func4, Tryd.ntmps4
  go_wp2_with fail
  refine W0'h.out.mono ?_
  rintro e w1 ⟨rfl, hB1⟩
  have hb1 := heap_below hB1 hb0'h.out (lt_of_heap hb0'h.out)
  have hB01 := below_next hB0'h.out hB1
  clear hB1 hb0'h hB0'h W0'h
  have hb1'h := Lib.hid hb1
  have hB01'h := Lib.hid hB01
  clear hb1 hB01
  go_wp2
  go_loopg [25] nn (fun q ix wr => ∃ j : Nat, j + q = nn ∧ ix = .int .i64 (j : Int) ∧ Below w1.heap.size w1 wr)
  case atStart => exact ⟨0, by omega, rfl, Below.refl _ _⟩
  case round =>
    obtain ⟨j, hj, rfl, hB⟩ := hrel
    have hB2 := below_next hB01'h.out hB
    by_cases hlt : j < nn
    · have i1 : (j : Int) < (nn : Int) := by omega
      have i2 : (0 : Int) ≤ (j : Int) := by omega
      have hS := hn'h.out.below hB2
      have hmax := hS.2.1
      unfold maxLen at hmax
      have i3 : (j : Int) + 1 ≤ 9223372036854775807 := by omega
      have hjl : j < ks.length := by have := hS.1; rw [u64s_length] at this; omega
      obtain ⟨b0, o0, rfl, -⟩ := hS.some' (by omega)
      have c1 := nthU_cell hS hjl
      have hx64 := hk64'h.out _ (List.mem_of_getElem? (nthU_at hjl))
      obtain ⟨x, hx⟩ : ∃ x, x = nthU ks j := ⟨_, rfl⟩
      rw [← hx] at c1 hx64
      clear hS hmax hx hjl
      by_cases h10 : j < 10
      · have i4 : (j : Int) < 10 := by omega
        have N1 := number_any x wr hx64
        have hl10 := numB_ten hx64
        have hj'h := Lib.hid hj
        have hB'h := Lib.hid hB
        have hB2'h := Lib.hid hB2
        have hx64'h := Lib.hid hx64
        have N1'h := Lib.hid N1
        have hl10'h := Lib.hid hl10
        clear hj hB hB2 hx64 N1 hl10
        go_wp2_with fail
        refine N1'h.out.mono ?_
        rintro e w3 ⟨v, rfl, hrow3, hB3⟩
        obtain ⟨vp, vc, rfl⟩ := row_slice' hrow3
        have hS3 := Sl.of_row hrow3 (by have := hl10'h.out; unfold maxLen; omega)
        have N2 := dnum_any x hx64'h.out w3
        clear hrow3 N1'h c1
        have hS3'h := Lib.hid hS3
        have hB3'h := Lib.hid hB3
        have N2'h := Lib.hid N2
        clear hS3 hB3 N2
        go_wp2_with fail
        refine N2'h.out.mono ?_
        rintro e w4 ⟨up, uc, rfl, hB4, hrow4⟩
        have hS4 := Sl.of_row hrow4 (by have := hl10'h.out; unfold maxLen; omega)
        have Q := eqB_any vp up (numB x).length (numB x).length vc uc (numB x) (numB x) w4 (hS3'h.out.below hB4) hS4 (numB_byte x) (numB_byte x)
        rw [decide_eq_true rfl] at Q
        have hB5 := below_next hB'h.out (below_next hB3'h.out hB4)
        clear hrow4 hS4 N2'h hS3'h hB3'h hB4 hB'h
        generalize (numB x).length = nl at *
        have Q'h := Lib.hid Q
        have hB5'h := Lib.hid hB5
        clear Q hB5
        go_wp2_with fail
        refine Q'h.out.mono ?_
        rintro e w5 ⟨rfl, hw5⟩
        obtain rfl := hw5.symm
        go_wp2
        go_roundg (gk - 1)
        case measure => have := hj'h.out; omega
        case rel => exact ⟨j + 1, by have := hj'h.out; omega, by go_num, hB5'h.out⟩
      · have i4 : ¬ (j : Int) < 10 := by omega
        have hj'h := Lib.hid hj
        have hB'h := Lib.hid hB
        have hB2'h := Lib.hid hB2
        have hx64'h := Lib.hid hx64
        clear hj hB hB2 hx64
        go_wp2
        go_roundg (gk - 1)
        case measure => have := hj'h.out; omega
        case rel => exact ⟨j + 1, by have := hj'h.out; omega, by go_num, hB'h.out⟩
    · have i1 : ¬ (j : Int) < (nn : Int) := by omega
      have hbx := heap_below hB hb1'h.out (lt_of_heap hb1'h.out)
      have O := own_any xs wr (h'h.out.below hB2)
      rw [hAx] at O
      obtain ⟨x0, x1, x2, x3, x4⟩ := cells5' hbx
      clear hj hB hbx hb1'h hB01'h
      have hB2'h := Lib.hid hB2
      have O'h := Lib.hid O
      clear hB2 O
      go_wp2_with fail
      refine O'h.out.mono ?_
      clear x0 x1 x2 x3 x4
      rintro e w2 ⟨s, rfl, hB3, hIn2, -⟩
      have hB4 := below_next hB2'h.out hB3
      clear hB3 O'h hB2'h
      obtain ⟨gs, sbs, seeds, lps, lns, lcs, rowss, pps, pns, pcs, pss⟩ := s
      obtain ⟨s, hsms⟩ : ∃ s : Sm, s = ⟨gs, sbs, seeds, lps, lns, lcs, rowss, pps, pns, pcs, pss⟩ := ⟨_, rfl⟩
      have hAs : smA s = #[.int .i64 gs, .int .i64 sbs, .int .u64 (seeds : Int), .slice lps lns lcs, .slice pps pns pcs] := by rw [hsms]; rfl
      have hpns : s.pn = pns := by rw [hsms]
      rw [← hsms] at hIn2 ⊢
      rw [hAs]
      clear hsms
      have hB5 := (Below.refl w2.heap.size w2).alloc (Nat.le_refl _) (.cells #[.int .i64 gs, .int .i64 sbs, .int .u64 (seeds : Int), .slice lps lns lcs, .slice pps pns pcs] 26)
      have hbs := World.alloc_heap_new w2 (.cells #[.int .i64 gs, .int .i64 sbs, .int .u64 (seeds : Int), .slice lps lns lcs, .slice pps pns pcs] 26)
      have hB6 := below_next hB4 hB5
      have hIn3 := hIn2.below hB5
      have hT3 := hT'h.out.next hB6
      have EN := encode_no s _ hT3 hIn3
      have EY := encode_yes s _ hT3 hIn3
      rw [hAs] at EN EY
      clear hB5 hB4 hIn2
      cases hr : rightS s.scr with
      | false =>
        have E := EN hr
        clear EN EY
        have E'h := Lib.hid E
        have hT3'h := Lib.hid hT3
        have hB6'h := Lib.hid hB6
        have hbs'h := Lib.hid hbs
        have hIn3'h := Lib.hid hIn3
        have hr'h := Lib.hid hr
        clear E hT3 hB6 hbs hIn3 hr
        go_wp2_with fail
        refine E'h.out.mono ?_
        rintro e w4 ⟨rfl, hB7⟩
        have hbs4 := heap_below hB7 hbs'h.out (lt_of_heap hbs'h.out)
        have hB8 := below_next hB6'h.out hB7
        have D := dright_any s w4 (hIn3'h.out.below hB7)
        rw [hAs, hr'h.out] at D
        obtain ⟨x0, x1, x2, x3, x4⟩ := cells5' hbs4
        clear hB7 hbs4 E'h hT3'h hB6'h hbs'h hIn3'h hr'h
        have hB8'h := Lib.hid hB8
        have D'h := Lib.hid D
        clear hB8 D
        go_wp2_with fail
        refine D'h.out.mono ?_
        rintro e w5 ⟨rfl, hB9⟩
        have hV := below_next hB8'h.out hB9
        have Q := eqB_any none none 0 0 0 0 [] [] w5 (Sl.nil _ _) (Sl.nil _ _) (fun b hb => by cases hb) (fun b hb => by cases hb)
        rw [decide_eq_true rfl] at Q
        clear x0 x1 x2 x3 x4 hB9 hB8'h D'h
        have hV'h := Lib.hid hV
        have Q'h := Lib.hid Q
        clear hV Q
        go_wp2_with fail
        refine Q'h.out.mono ?_
        rintro e w6 ⟨rfl, hw6⟩
        obtain rfl := hw6.symm
        clear Q'h
        have hk := hk'h.out
        have k1 : (k : Int) ≤ (mc : Int) := by have := hkmc'h.out; omega
        have k2 : ¬ (k : Int) < 0 := by omega
        have hm1 := hm0'h.out.below hV'h.out
        have CG := clone8_any mp k mc (u8s M) w5 (by have := hk3000'h.out; omega) (u8s_one _) hnil'h.out hm1
        clear hm1
        have CG'h := Lib.hid CG
        clear CG
        go_wp2_with fail
        refine CG'h.out.mono ?_
        rintro e a1 ⟨bp, bc, rfl, hA1, hrowA⟩
        have hVA := below_next hV'h.out hA1
        have hSA := Sl.of_row hrowA (by have := hk3000'h.out; unfold maxLen; omega)
        have hkb : k ≤ bc := by obtain ⟨_, _, e, h1, -, -⟩ := row_form hrowA; injection e with _ _ e; omega
        have CG := clone8_any bp k bc (u8s M) a1 (by have := hk3000'h.out; omega) (u8s_one _) (row_nil' hrowA) hSA
        clear hA1 hrowA hV'h CG'h k1 k2 hk
        have CG'h := Lib.hid CG
        have hVA'h := Lib.hid hVA
        have hSA'h := Lib.hid hSA
        have hkb'h := Lib.hid hkb
        clear CG hVA hSA hkb
        go_wp2_with fail
        refine CG'h.out.mono ?_
        rintro e a2 ⟨cp, cc, rfl, hA2, hrowB⟩
        have hVB := below_next hVA'h.out hA2
        have hSA2 := hSA'h.out.below hA2
        have hSB := Sl.of_row hrowB (by have := hk3000'h.out; unfold maxLen; omega)
        have D := decode_any bp k bc M a2 (hT'h.out.next hVB) hSA2 hMb'h.out (by have := hk3000'h.out; omega)
        clear hA2 hrowB hVA'h hSA'h CG'h
        have D'h := Lib.hid D
        have hVB'h := Lib.hid hVB
        have hSA2'h := Lib.hid hSA2
        have hSB'h := Lib.hid hSB
        clear D hVB hSA2 hSB
        go_wp2_with fail
        refine D'h.out.mono ?_
        rintro e a3 ⟨hA3, h10⟩
        cases hR : scriptR M with
        | none =>
          rw [hR] at h10
          simp only at h10
          subst h10
          unfold zeroSm
          have hA4 := (Below.refl a3.heap.size a3).alloc (Nat.le_refl _) (.cells #[.int .i64 0, .int .i64 0, .int .u64 0, .slice none 0 0, .slice none 0 0] 26)
          have hbd := World.alloc_heap_new a3 (.cells #[.int .i64 0, .int .i64 0, .int .u64 0, .slice none 0 0, .slice none 0 0] 26)
          have hA34 := below_next hA3 hA4
          have D2 := ddecode_any bp k bc M _ (hSA2'h.out.below hA34) hMb'h.out hkb'h.out
          rw [decD_eq, hR] at D2
          clear hA3 hA4 hR D'h
          have D2'h := Lib.hid D2
          have hbd'h := Lib.hid hbd
          have hA34'h := Lib.hid hA34
          clear D2 hbd hA34
          go_wp2_with fail
          refine D2'h.out.mono ?_
          rintro e a5 ⟨hA5, h11⟩
          simp only at h11
          subst h11
          unfold zeroSm
          have hA6 := (Below.refl a5.heap.size a5).alloc (Nat.le_refl _) (.cells #[.int .i64 0, .int .i64 0, .int .u64 0, .slice none 0 0, .slice none 0 0] 26)
          have hbe := World.alloc_heap_new a5 (.cells #[.int .i64 0, .int .i64 0, .int .u64 0, .slice none 0 0, .slice none 0 0] 26)
          have hA56 := below_next hA5 hA6
          have hbd6 := heap_below hA56 hbd'h.out (lt_of_heap hbd'h.out)
          have hA36 := below_next hA34'h.out hA56
          have SM : Calls Tryd.prog 16 #[.agg #[.int .i64 0, .int .i64 0, .int .u64 0, .slice none 0 0, .slice none 0 0], .agg #[.int .i64 0, .int .i64 0, .int .u64 0, .slice none 0 0, .slice none 0 0]] (a5.alloc (.cells #[.int .i64 0, .int .i64 0, .int .u64 0, .slice none 0 0, .slice none 0 0] 26)) fun e w' => e = .returned (.bool true) ∧ Below (a5.alloc (.cells #[.int .i64 0, .int .i64 0, .int .u64 0, .slice none 0 0, .slice none 0 0] 26)).heap.size (a5.alloc (.cells #[.int .i64 0, .int .i64 0, .int .u64 0, .slice none 0 0, .slice none 0 0] 26)) w' := by
            have := dsame_any smZ smZ (a5.alloc (.cells #[.int .i64 0, .int .i64 0, .int .u64 0, .slice none 0 0, .slice none 0 0] 26)) (smZ_in _) (smZ_in _)
            rw [decide_eq_true rfl] at this
            exact this
          have hfr : ¬ a3.heap.size = a5.heap.size := by have := lt_of_heap hbd'h.out; have := hA5.size; omega
          obtain ⟨x0, x1, x2, x3, x4⟩ := cells5' hbd6
          clear hA5 hA6 hbe hA56 hbd6 hbd'h hA34'h D2'h
          have SM'h := Lib.hid SM
          have hA36'h := Lib.hid hA36
          have hfr'h := Lib.hid hfr
          clear SM hA36 hfr
          go_wp2_with fail
          refine SM'h.out.mono ?_
          rintro e a7 ⟨rfl, hA7⟩
          have hA37 := below_next hA36'h.out hA7
          have Q := eqB_any bp cp k k bc cc M M a7 (hSA2'h.out.below hA37) (hSB'h.out.below hA37) hMb'h.out hMb'h.out
          rw [decide_eq_true rfl] at Q
          have hfin := below_next hVB'h.out hA37
          clear x0 x1 x2 x3 x4 hA7 hA36'h SM'h hA37
          have Q'h := Lib.hid Q
          have hfin'h := Lib.hid hfin
          clear Q hfin
          go_wp2_with fail
          refine Q'h.out.mono ?_
          rintro e a8 ⟨rfl, hw8⟩
          obtain rfl := hw8.symm
          go_wp2
          go_ret
          exact ⟨rfl, hfin'h.out⟩
        | some x =>
          obtain ⟨sd, r⟩ := x
          rw [hR] at h10
          obtain ⟨sm3, h10, hI3, hs3, hrl⟩ := h10
          subst h10
          obtain ⟨nb, hnb⟩ : ∃ nb, nb = k - r.length := ⟨_, rfl⟩
          rw [← hnb]
          obtain ⟨gd, sbd, seedd, lpd, lnd, lcd, rowsd, ppd, pnd, pcd, psd⟩ := sm3
          obtain ⟨sm3, hsmd⟩ : ∃ s : Sm, s = ⟨gd, sbd, seedd, lpd, lnd, lcd, rowsd, ppd, pnd, pcd, psd⟩ := ⟨_, rfl⟩
          have hAd : smA sm3 = #[.int .i64 gd, .int .i64 sbd, .int .u64 (seedd : Int), .slice lpd lnd lcd, .slice ppd pnd pcd] := by rw [hsmd]; rfl
          have hpnd : sm3.pn = pnd := by rw [hsmd]
          rw [← hsmd] at hI3 hs3 ⊢
          rw [hAd]
          clear hsmd
          have hA4 := (Below.refl a3.heap.size a3).alloc (Nat.le_refl _) (.cells #[.int .i64 gd, .int .i64 sbd, .int .u64 (seedd : Int), .slice lpd lnd lcd, .slice ppd pnd pcd] 26)
          have hbd := World.alloc_heap_new a3 (.cells #[.int .i64 gd, .int .i64 sbd, .int .u64 (seedd : Int), .slice lpd lnd lcd, .slice ppd pnd pcd] 26)
          have hA34 := below_next hA3 hA4
          have hI4 := hI3.below hA4
          have D2 := ddecode_any bp k bc M _ (hSA2'h.out.below hA34) hMb'h.out hkb'h.out
          rw [decD_eq, hR] at D2
          clear hA3 hA4 hR D'h hI3
          have D2'h := Lib.hid D2
          have hbd'h := Lib.hid hbd
          have hA34'h := Lib.hid hA34
          have hI4'h := Lib.hid hI4
          have hnb'h := Lib.hid hnb
          have hs3'h := Lib.hid hs3
          have hrl'h := Lib.hid hrl
          clear D2 hbd hA34 hI4 hnb hs3 hrl
          go_wp2_with fail
          refine D2'h.out.mono ?_
          rintro e a5 ⟨hA5, sm5, rfl, hI5, hs5⟩
          rw [show (k : Int) - (r.length : Int) = (nb : Int) by rw [hnb'h.out]; have := hrl'h.out; omega]
          obtain ⟨ge, sbe, seede, lpe, lne, lce, rowse, ppe, pne, pce, pse⟩ := sm5
          obtain ⟨sm5, hsme⟩ : ∃ s : Sm, s = ⟨ge, sbe, seede, lpe, lne, lce, rowse, ppe, pne, pce, pse⟩ := ⟨_, rfl⟩
          have hAe : smA sm5 = #[.int .i64 ge, .int .i64 sbe, .int .u64 (seede : Int), .slice lpe lne lce, .slice ppe pne pce] := by rw [hsme]; rfl
          have hpne : sm5.pn = pne := by rw [hsme]
          rw [← hsme] at hI5 hs5 ⊢
          rw [hAe]
          clear hsme
          have hA6 := (Below.refl a5.heap.size a5).alloc (Nat.le_refl _) (.cells #[.int .i64 ge, .int .i64 sbe, .int .u64 (seede : Int), .slice lpe lne lce, .slice ppe pne pce] 26)
          have hbe := World.alloc_heap_new a5 (.cells #[.int .i64 ge, .int .i64 sbe, .int .u64 (seede : Int), .slice lpe lne lce, .slice ppe pne pce] 26)
          have hA56 := below_next hA5 hA6
          have hbd6 := heap_below hA56 hbd'h.out (lt_of_heap hbd'h.out)
          have hA36 := below_next hA34'h.out hA56
          have SM := dsame_any sm3 sm5 _ (hI4'h.out.below hA56) (hI5.below hA6)
          rw [hs3'h.out, hs5, decide_eq_true rfl, hAd, hAe] at SM
          have hfr : ¬ a3.heap.size = a5.heap.size := by have := lt_of_heap hbd'h.out; have := hA5.size; omega
          obtain ⟨x0, x1, x2, x3, x4⟩ := cells5' hbd6
          clear hA5 hA6 hbe hA56 hbd6 hbd'h hA34'h D2'h hI5 hs5 hI4'h
          have SM'h := Lib.hid SM
          have hA36'h := Lib.hid hA36
          have hfr'h := Lib.hid hfr
          clear SM hA36 hfr
          go_wp2_with fail
          refine SM'h.out.mono ?_
          rintro e a7 ⟨rfl, hA7⟩
          have hA37 := below_next hA36'h.out hA7
          have Q := eqB_any bp cp k k bc cc M M a7 (hSA2'h.out.below hA37) (hSB'h.out.below hA37) hMb'h.out hMb'h.out
          rw [decide_eq_true rfl] at Q
          have hfin := below_next hVB'h.out hA37
          clear x0 x1 x2 x3 x4 hA7 hA36'h SM'h hA37
          have Q'h := Lib.hid Q
          have hfin'h := Lib.hid hfin
          clear Q hfin
          go_wp2_with fail
          refine Q'h.out.mono ?_
          rintro e a8 ⟨rfl, hw8⟩
          obtain rfl := hw8.symm
          go_wp2
          go_ret
          exact ⟨rfl, hfin'h.out⟩
      | true =>
        have E := EY hr
        clear EN EY
        have hl0 := hIn3.bytes hr
        have E'h := Lib.hid E
        have hT3'h := Lib.hid hT3
        have hB6'h := Lib.hid hB6
        have hbs'h := Lib.hid hbs
        have hIn3'h := Lib.hid hIn3
        have hr'h := Lib.hid hr
        have hl0'h := Lib.hid hl0
        clear E hT3 hB6 hbs hIn3 hr hl0
        go_wp2_with fail
        refine E'h.out.mono ?_
        rintro e w4 ⟨v, rfl, hB7, hrow7⟩
        obtain ⟨vp, vc, rfl⟩ := row_slice' hrow7
        have hS7 := Sl.of_row hrow7 (by have := hl0'h.out; unfold maxLen; omega)
        have hbs4 := heap_below hB7 hbs'h.out (lt_of_heap hbs'h.out)
        have hB8 := below_next hB6'h.out hB7
        have hIn4 := hIn3'h.out.below hB7
        have D := dright_any s w4 hIn4
        rw [hAs, hr'h.out] at D
        obtain ⟨x0, x1, x2, x3, x4⟩ := cells5' hbs4
        clear hB7 hrow7 E'h hT3'h hB6'h hbs'h hIn3'h
        have hB8'h := Lib.hid hB8
        have D'h := Lib.hid D
        have hIn4'h := Lib.hid hIn4
        have hS7'h := Lib.hid hS7
        have hbs4'h := Lib.hid hbs4
        clear hB8 D hIn4 hS7 hbs4
        go_wp2_with fail
        refine D'h.out.mono ?_
        rintro e w5 ⟨rfl, hB9⟩
        have hV := below_next hB8'h.out hB9
        have hS8 := hS7'h.out.below hB9
        have hbs5 := heap_below hB9 hbs4'h.out (lt_of_heap hbs4'h.out)
        have C := dencode_any s w5 (hIn4'h.out.below hB9) hr'h.out
        rw [hAs] at C
        clear x0 x1 x2 x3 x4 hB9 hB8'h D'h hIn4'h hS7'h hbs4'h
        obtain ⟨x0, x1, x2, x3, x4⟩ := cells5' hbs5
        clear hbs5
        have hV'h := Lib.hid hV
        have hS8'h := Lib.hid hS8
        have C'h := Lib.hid C
        clear hV hS8 C
        go_wp2_with fail
        refine C'h.out.mono ?_
        rintro e w6 ⟨up, uc, rfl, hB10, hrow10⟩
        have hS10 := Sl.of_row hrow10 (by have := hl0'h.out; unfold maxLen; omega)
        have Q := eqB_any vp up (bytesS s.scr).length (bytesS s.scr).length vc uc (bytesS s.scr) (bytesS s.scr) w6 (hS8'h.out.below hB10) hS10 (bytesS_byte _) (bytesS_byte _)
        rw [decide_eq_true rfl] at Q
        have hV2 := below_next hV'h.out hB10
        clear x0 x1 x2 x3 x4 hB10 hrow10 hS10 hS8'h hV'h C'h hr'h hl0'h
        generalize (bytesS s.scr).length = nl at *
        have hV := hV2
        clear hV2
        have hV'h := Lib.hid hV
        have Q'h := Lib.hid Q
        clear hV Q
        go_wp2_with fail
        refine Q'h.out.mono ?_
        rintro e w7 ⟨rfl, hw7⟩
        obtain rfl := hw7.symm
        clear Q'h
        have hk := hk'h.out
        have k1 : (k : Int) ≤ (mc : Int) := by have := hkmc'h.out; omega
        have k2 : ¬ (k : Int) < 0 := by omega
        have hm1 := hm0'h.out.below hV'h.out
        have CG := clone8_any mp k mc (u8s M) w6 (by have := hk3000'h.out; omega) (u8s_one _) hnil'h.out hm1
        clear hm1
        have CG'h := Lib.hid CG
        clear CG
        go_wp2_with fail
        refine CG'h.out.mono ?_
        rintro e a1 ⟨bp, bc, rfl, hA1, hrowA⟩
        have hVA := below_next hV'h.out hA1
        have hSA := Sl.of_row hrowA (by have := hk3000'h.out; unfold maxLen; omega)
        have hkb : k ≤ bc := by obtain ⟨_, _, e, h1, -, -⟩ := row_form hrowA; injection e with _ _ e; omega
        have CG := clone8_any bp k bc (u8s M) a1 (by have := hk3000'h.out; omega) (u8s_one _) (row_nil' hrowA) hSA
        clear hA1 hrowA hV'h CG'h k1 k2 hk
        have CG'h := Lib.hid CG
        have hVA'h := Lib.hid hVA
        have hSA'h := Lib.hid hSA
        have hkb'h := Lib.hid hkb
        clear CG hVA hSA hkb
        go_wp2_with fail
        refine CG'h.out.mono ?_
        rintro e a2 ⟨cp, cc, rfl, hA2, hrowB⟩
        have hVB := below_next hVA'h.out hA2
        have hSA2 := hSA'h.out.below hA2
        have hSB := Sl.of_row hrowB (by have := hk3000'h.out; unfold maxLen; omega)
        have D := decode_any bp k bc M a2 (hT'h.out.next hVB) hSA2 hMb'h.out (by have := hk3000'h.out; omega)
        clear hA2 hrowB hVA'h hSA'h CG'h
        have D'h := Lib.hid D
        have hVB'h := Lib.hid hVB
        have hSA2'h := Lib.hid hSA2
        have hSB'h := Lib.hid hSB
        clear D hVB hSA2 hSB
        go_wp2_with fail
        refine D'h.out.mono ?_
        rintro e a3 ⟨hA3, h10⟩
        cases hR : scriptR M with
        | none =>
          rw [hR] at h10
          simp only at h10
          subst h10
          unfold zeroSm
          have hA4 := (Below.refl a3.heap.size a3).alloc (Nat.le_refl _) (.cells #[.int .i64 0, .int .i64 0, .int .u64 0, .slice none 0 0, .slice none 0 0] 26)
          have hbd := World.alloc_heap_new a3 (.cells #[.int .i64 0, .int .i64 0, .int .u64 0, .slice none 0 0, .slice none 0 0] 26)
          have hA34 := below_next hA3 hA4
          have D2 := ddecode_any bp k bc M _ (hSA2'h.out.below hA34) hMb'h.out hkb'h.out
          rw [decD_eq, hR] at D2
          clear hA3 hA4 hR D'h
          have D2'h := Lib.hid D2
          have hbd'h := Lib.hid hbd
          have hA34'h := Lib.hid hA34
          clear D2 hbd hA34
          go_wp2_with fail
          refine D2'h.out.mono ?_
          rintro e a5 ⟨hA5, h11⟩
          simp only at h11
          subst h11
          unfold zeroSm
          have hA6 := (Below.refl a5.heap.size a5).alloc (Nat.le_refl _) (.cells #[.int .i64 0, .int .i64 0, .int .u64 0, .slice none 0 0, .slice none 0 0] 26)
          have hbe := World.alloc_heap_new a5 (.cells #[.int .i64 0, .int .i64 0, .int .u64 0, .slice none 0 0, .slice none 0 0] 26)
          have hA56 := below_next hA5 hA6
          have hbd6 := heap_below hA56 hbd'h.out (lt_of_heap hbd'h.out)
          have hA36 := below_next hA34'h.out hA56
          have SM : Calls Tryd.prog 16 #[.agg #[.int .i64 0, .int .i64 0, .int .u64 0, .slice none 0 0, .slice none 0 0], .agg #[.int .i64 0, .int .i64 0, .int .u64 0, .slice none 0 0, .slice none 0 0]] (a5.alloc (.cells #[.int .i64 0, .int .i64 0, .int .u64 0, .slice none 0 0, .slice none 0 0] 26)) fun e w' => e = .returned (.bool true) ∧ Below (a5.alloc (.cells #[.int .i64 0, .int .i64 0, .int .u64 0, .slice none 0 0, .slice none 0 0] 26)).heap.size (a5.alloc (.cells #[.int .i64 0, .int .i64 0, .int .u64 0, .slice none 0 0, .slice none 0 0] 26)) w' := by
            have := dsame_any smZ smZ (a5.alloc (.cells #[.int .i64 0, .int .i64 0, .int .u64 0, .slice none 0 0, .slice none 0 0] 26)) (smZ_in _) (smZ_in _)
            rw [decide_eq_true rfl] at this
            exact this
          have hfr : ¬ a3.heap.size = a5.heap.size := by have := lt_of_heap hbd'h.out; have := hA5.size; omega
          obtain ⟨x0, x1, x2, x3, x4⟩ := cells5' hbd6
          clear hA5 hA6 hbe hA56 hbd6 hbd'h hA34'h D2'h
          have SM'h := Lib.hid SM
          have hA36'h := Lib.hid hA36
          have hfr'h := Lib.hid hfr
          clear SM hA36 hfr
          go_wp2_with fail
          refine SM'h.out.mono ?_
          rintro e a7 ⟨rfl, hA7⟩
          have hA37 := below_next hA36'h.out hA7
          have Q := eqB_any bp cp k k bc cc M M a7 (hSA2'h.out.below hA37) (hSB'h.out.below hA37) hMb'h.out hMb'h.out
          rw [decide_eq_true rfl] at Q
          have hfin := below_next hVB'h.out hA37
          clear x0 x1 x2 x3 x4 hA7 hA36'h SM'h hA37
          have Q'h := Lib.hid Q
          have hfin'h := Lib.hid hfin
          clear Q hfin
          go_wp2_with fail
          refine Q'h.out.mono ?_
          rintro e a8 ⟨rfl, hw8⟩
          obtain rfl := hw8.symm
          go_wp2
          go_ret
          exact ⟨rfl, hfin'h.out⟩
        | some x =>
          obtain ⟨sd, r⟩ := x
          rw [hR] at h10
          obtain ⟨sm3, h10, hI3, hs3, hrl⟩ := h10
          subst h10
          obtain ⟨nb, hnb⟩ : ∃ nb, nb = k - r.length := ⟨_, rfl⟩
          rw [← hnb]
          obtain ⟨gd, sbd, seedd, lpd, lnd, lcd, rowsd, ppd, pnd, pcd, psd⟩ := sm3
          obtain ⟨sm3, hsmd⟩ : ∃ s : Sm, s = ⟨gd, sbd, seedd, lpd, lnd, lcd, rowsd, ppd, pnd, pcd, psd⟩ := ⟨_, rfl⟩
          have hAd : smA sm3 = #[.int .i64 gd, .int .i64 sbd, .int .u64 (seedd : Int), .slice lpd lnd lcd, .slice ppd pnd pcd] := by rw [hsmd]; rfl
          have hpnd : sm3.pn = pnd := by rw [hsmd]
          rw [← hsmd] at hI3 hs3 ⊢
          rw [hAd]
          clear hsmd
          have hA4 := (Below.refl a3.heap.size a3).alloc (Nat.le_refl _) (.cells #[.int .i64 gd, .int .i64 sbd, .int .u64 (seedd : Int), .slice lpd lnd lcd, .slice ppd pnd pcd] 26)
          have hbd := World.alloc_heap_new a3 (.cells #[.int .i64 gd, .int .i64 sbd, .int .u64 (seedd : Int), .slice lpd lnd lcd, .slice ppd pnd pcd] 26)
          have hA34 := below_next hA3 hA4
          have hI4 := hI3.below hA4
          have D2 := ddecode_any bp k bc M _ (hSA2'h.out.below hA34) hMb'h.out hkb'h.out
          rw [decD_eq, hR] at D2
          clear hA3 hA4 hR D'h hI3
          have D2'h := Lib.hid D2
          have hbd'h := Lib.hid hbd
          have hA34'h := Lib.hid hA34
          have hI4'h := Lib.hid hI4
          have hnb'h := Lib.hid hnb
          have hs3'h := Lib.hid hs3
          have hrl'h := Lib.hid hrl
          clear D2 hbd hA34 hI4 hnb hs3 hrl
          go_wp2_with fail
          refine D2'h.out.mono ?_
          rintro e a5 ⟨hA5, sm5, rfl, hI5, hs5⟩
          rw [show (k : Int) - (r.length : Int) = (nb : Int) by rw [hnb'h.out]; have := hrl'h.out; omega]
          obtain ⟨ge, sbe, seede, lpe, lne, lce, rowse, ppe, pne, pce, pse⟩ := sm5
          obtain ⟨sm5, hsme⟩ : ∃ s : Sm, s = ⟨ge, sbe, seede, lpe, lne, lce, rowse, ppe, pne, pce, pse⟩ := ⟨_, rfl⟩
          have hAe : smA sm5 = #[.int .i64 ge, .int .i64 sbe, .int .u64 (seede : Int), .slice lpe lne lce, .slice ppe pne pce] := by rw [hsme]; rfl
          have hpne : sm5.pn = pne := by rw [hsme]
          rw [← hsme] at hI5 hs5 ⊢
          rw [hAe]
          clear hsme
          have hA6 := (Below.refl a5.heap.size a5).alloc (Nat.le_refl _) (.cells #[.int .i64 ge, .int .i64 sbe, .int .u64 (seede : Int), .slice lpe lne lce, .slice ppe pne pce] 26)
          have hbe := World.alloc_heap_new a5 (.cells #[.int .i64 ge, .int .i64 sbe, .int .u64 (seede : Int), .slice lpe lne lce, .slice ppe pne pce] 26)
          have hA56 := below_next hA5 hA6
          have hbd6 := heap_below hA56 hbd'h.out (lt_of_heap hbd'h.out)
          have hA36 := below_next hA34'h.out hA56
          have SM := dsame_any sm3 sm5 _ (hI4'h.out.below hA56) (hI5.below hA6)
          rw [hs3'h.out, hs5, decide_eq_true rfl, hAd, hAe] at SM
          have hfr : ¬ a3.heap.size = a5.heap.size := by have := lt_of_heap hbd'h.out; have := hA5.size; omega
          obtain ⟨x0, x1, x2, x3, x4⟩ := cells5' hbd6
          clear hA5 hA6 hbe hA56 hbd6 hbd'h hA34'h D2'h hI5 hs5 hI4'h
          have SM'h := Lib.hid SM
          have hA36'h := Lib.hid hA36
          have hfr'h := Lib.hid hfr
          clear SM hA36 hfr
          go_wp2_with fail
          refine SM'h.out.mono ?_
          rintro e a7 ⟨rfl, hA7⟩
          have hA37 := below_next hA36'h.out hA7
          have Q := eqB_any bp cp k k bc cc M M a7 (hSA2'h.out.below hA37) (hSB'h.out.below hA37) hMb'h.out hMb'h.out
          rw [decide_eq_true rfl] at Q
          have hfin := below_next hVB'h.out hA37
          clear x0 x1 x2 x3 x4 hA7 hA36'h SM'h hA37
          have Q'h := Lib.hid Q
          have hfin'h := Lib.hid hfin
          clear Q hfin
          go_wp2_with fail
          refine Q'h.out.mono ?_
          rintro e a8 ⟨rfl, hw8⟩
          obtain rfl := hw8.symm
          go_wp2
          go_ret
          exact ⟨rfl, hfin'h.out⟩
theorem walk_ScriptBytes (xs : Sm) (np : Option Addr) (nn nc : Nat) (ns : List Int) (mp : Option Addr) (mn mc : Nat) (zs : List Int) (w : World) (hT : Tks w) (h : SmArg w xs) (hnil1 : np = none → nc = 0) (hle1 : nn ≤ nc) (hn : Sl w np nn (ns.map (Value.int .u64))) (hnz : ∀ z ∈ ns, (Lit.int .u64 z).wf = true)
    (hnil : mp = none → mc = 0) (hle : mn ≤ mc) (hm : Sl w mp mn (zs.map (Value.int .u8))) (hz : ∀ z ∈ zs, (Lit.int .u8 z).wf = true) :
    Calls Tryd.prog 4 #[.agg (smA xs), .slice np nn nc, .slice mp mn mc] w fun e w' => e = .returned (.bool true) ∧ Below w.heap.size w w' := by
  have e1 : ns.map (Value.int .u64) = u64s (nats ns) := by
    unfold u64s nats
    rw [List.map_map]
    refine List.map_congr_left fun z hzm => ?_
    have := wf_u64' (hnz z hzm)
    simp only [Function.comp]
    congr 1
    omega
  have e2 : zs.map (Value.int .u8) = u8s (nats zs) := by
    unfold u8s nats
    rw [List.map_map]
    refine List.map_congr_left fun z hzm => ?_
    have := wf_u8 (hz z hzm)
    simp only [Function.comp]
    congr 1
    omega
  rw [e1] at hn
  rw [e2] at hm
  refine bytes_true xs np nn nc (nats ns) mp mn mc (nats zs) w hT h hn (fun x hx => ?_) hm hle hnil fun b hb => ?_
  · unfold nats at hx
    obtain ⟨z, hzm, rfl⟩ := List.mem_map.1 hx
    have := wf_u64' (hnz z hzm)
    omega
  · unfold nats at hb
    obtain ⟨z, hzm, rfl⟩ := List.mem_map.1 hb
    have := wf_u8 (hz z hzm)
    omega
end Go.Proofs.YtifofdciablljaaDoor
