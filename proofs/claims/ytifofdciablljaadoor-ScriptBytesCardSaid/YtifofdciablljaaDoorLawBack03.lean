/-
  Layer 3 (script): Decode of Encode is the script, Encode of Decode the bytes that were read.
-/
import Derived.Test.YtifofdciablljaaDoorQ5
import Derived.Test.YtifofdciablljaaDoorScrS
set_option linter.unusedSimpArgs false
set_option linter.unusedVariables false
set_option maxRecDepth 100000
namespace Go.Proofs.YtifofdciablljaaDoor
open Go.RowKit

theorem wf_u8 {z : Int} (h : (Lit.int .u8 z).wf = true) : 0 ≤ z ∧ z < 256 := by
  have h1 : IntKind.u8.min = 0 := rfl
  have h2 : IntKind.u8.max = 255 := rfl
  simp only [Lit.wf, h1, h2, Bool.and_eq_true, decide_eq_true_eq] at h
  omega
theorem cells5 {W : World} {b : Nat} {v0 v1 v2 v3 v4 : Value} {t : TypeId} (h : W.heap[b]? = some (.cells #[v0, v1, v2, v3, v4] t (0, 0))) :
    W.cell? ⟨b, 0, none⟩ = some v0 ∧ W.cell? ⟨b, 1, none⟩ = some v1 ∧ W.cell? ⟨b, 2, none⟩ = some v2 ∧ W.cell? ⟨b, 3, none⟩ = some v3 ∧ W.cell? ⟨b, 4, none⟩ = some v4 :=
  ⟨blk_cell (i := 0) h rfl, blk_cell (i := 1) h rfl, blk_cell (i := 2) h rfl, blk_cell (i := 3) h rfl, blk_cell (i := 4) h rfl⟩
theorem u8s_take (l : List Nat) (k : Nat) : (u8s l).take k = u8s (l.take k) := by unfold u8s; rw [List.map_take]
theorem bytesS_byte (s : Scr) : ∀ b ∈ bytesS s, b < 256 := fun b hb => by
  unfold bytesS at hb
  obtain ⟨n, -, hn⟩ := List.mem_flatMap.1 hb
  exact numB_byte n b hn
theorem SmIn.bytes {w : World} {s : Sm} (h : SmIn w s) (hr : rightS s.scr = true) : (bytesS s.scr).length ≤ 44000 := by
  have h1 := flat_numB (encS s.scr) (encS_lt h)
  have h2 := encS_len hr
  unfold bytesS
  omega
theorem SmIn.ok {w : World} {s : Sm} (h : SmIn w s) : ∀ l ∈ s.scr.lists, ∀ c ∈ l, CalOk c := fun l hl c hc => by
  obtain ⟨r, hr, rfl⟩ := List.mem_map.1 (show l ∈ s.rows.map (·.cs) from hl)
  exact h.rows.ok r hr c hc
set_option maxHeartbeats 8000000 in
theorem back_true (xs : Sm) (mp : Option Addr) (mn mc : Nat) (ms : List Nat) (w : World) (hT : Tks w) (h : SmArg w xs) (hm : Sl w mp mn (u8s ms)) (hle : mn ≤ mc) (hnil : mp = none → mc = 0) (hb : ∀ b ∈ ms, b < 256) :
    Calls Tryd.prog 5 #[.agg (smA xs), .slice mp mn mc] w fun e w' => e = .returned (.bool true) ∧ Below w.heap.size w w' := by
  obtain ⟨k, hk⟩ : ∃ k : Nat, min (mn : Int) 2000 = (k : Int) := ⟨(min (mn : Int) 2000).toNat, by omega⟩
  have hk2000 : k ≤ 2000 := by omega
  have hkn : k ≤ mn := by omega
  have hkmc : k ≤ mc := by omega
  have k1 : (k : Int) ≤ (mc : Int) := by omega
  have k2 : ¬ (k : Int) < 0 := by omega
  obtain ⟨M, hM⟩ : ∃ M, M = ms.take k := ⟨_, rfl⟩
  have hMb : ∀ b ∈ M, b < 256 := fun b hbm => hb b (List.mem_of_mem_take (by rw [← hM]; exact hbm))
  have hm0 := hm.take k hkn
  rw [u8s_take, ← hM] at hm0
  have hMl : M.length = k := by have := hm0.1; rw [u8s_length] at this; exact this.symm
  obtain ⟨g, sb, seed, lp, ln, lc, rows, pp, pn, pc, ps⟩ := xs
  obtain ⟨xs, hxs⟩ : ∃ s : Sm, s = ⟨g, sb, seed, lp, ln, lc, rows, pp, pn, pc, ps⟩ := ⟨_, rfl⟩
  have hX : smA xs = #[.int .i64 g, .int .i64 sb, .int .u64 (seed : Int), .slice lp ln lc, .slice pp pn pc] := by rw [hxs]; rfl
  rw [← hxs] at h ⊢
  rw [hX]
  have hB0 := (Below.refl w.heap.size w).alloc (Nat.le_refl _) (.cells #[.int .i64 g, .int .i64 sb, .int .u64 (seed : Int), .slice lp ln lc, .slice pp pn pc] 26)
  have hb0 := World.alloc_heap_new w (.cells #[.int .i64 g, .int .i64 sb, .int .u64 (seed : Int), .slice lp ln lc, .slice pp pn pc] 26)
  have W0 := wakes_any _ (hT.next hB0)
  clear hxs hM hm hb
  have hT'h := Lib.hid hT
  have h'h := Lib.hid h
  have hm0'h := Lib.hid hm0
  have hle'h := Lib.hid hle
  have hnil'h := Lib.hid hnil
  have hk2000'h := Lib.hid hk2000
  have hkn'h := Lib.hid hkn
  have hkmc'h := Lib.hid hkmc
  have hMb'h := Lib.hid hMb
  have hMl'h := Lib.hid hMl
  have hX'h := Lib.hid hX
  have hB0'h := Lib.hid hB0
  have hb0'h := Lib.hid hb0
  have W0'h := Lib.hid W0
  clear hT h hm0 hle hnil hk2000 hkn hkmc hMb hMl hX hB0 hb0 W0
  go_enter Tryd.func5, Tryd.ntmps5
  go_wp2_with fail
  refine W0'h.out.mono ?_
  rintro e w1 ⟨rfl, hB1⟩
  have hb1 := heap_below hB1 hb0'h.out (lt_of_heap hb0'h.out)
  have hB01 := below_next hB0'h.out hB1
  have hT1 := hT'h.out.next hB01
  have hA1 := h'h.out.below hB01
  have hm1 := hm0'h.out.below hB01
  have O := own_any xs w1 hA1
  rw [hX'h.out] at O
  obtain ⟨x0, x1, x2, x3, x4⟩ := cells5 hb1
  clear hB1 hA1 hb0'h hB0'h W0'h hT'h h'h hm0'h
  have hb1'h := Lib.hid hb1
  have hB01'h := Lib.hid hB01
  have hT1'h := Lib.hid hT1
  have hm1'h := Lib.hid hm1
  have O'h := Lib.hid O
  clear hb1 hB01 hT1 hm1 O
  go_wp2_with fail
  refine O'h.out.mono ?_
  clear x0 x1 x2 x3 x4
  rintro e w2 ⟨sm, rfl, hB2, hIn2, hs2⟩
  have hT2 := hT1'h.out.next hB2
  have hm2 := hm1'h.out.below hB2
  have hB02 := below_next hB01'h.out hB2
  clear hB2 O'h hT1'h hm1'h hB01'h hb1'h hs2
  obtain ⟨g2, sb2, seed2, lp2, ln2, lc2, rows2, pp2, pn2, pc2, ps2⟩ := sm
  obtain ⟨sm, hsm⟩ : ∃ s : Sm, s = ⟨g2, sb2, seed2, lp2, ln2, lc2, rows2, pp2, pn2, pc2, ps2⟩ := ⟨_, rfl⟩
  have hA : smA sm = #[.int .i64 g2, .int .i64 sb2, .int .u64 (seed2 : Int), .slice lp2 ln2 lc2, .slice pp2 pn2 pc2] := by rw [hsm]; rfl
  rw [← hsm] at hIn2 ⊢
  rw [hA]
  have hB3 := (Below.refl w2.heap.size w2).alloc (Nat.le_refl _) (.cells #[.int .i64 g2, .int .i64 sb2, .int .u64 (seed2 : Int), .slice lp2 ln2 lc2, .slice pp2 pn2 pc2] 26)
  have hb3 := World.alloc_heap_new w2 (.cells #[.int .i64 g2, .int .i64 sb2, .int .u64 (seed2 : Int), .slice lp2 ln2 lc2, .slice pp2 pn2 pc2] 26)
  have hT3 := hT2.next hB3
  have hm3 := hm2.below hB3
  have hB03 := below_next hB02 hB3
  have hIn3 := hIn2.below hB3
  have EN := encode_no sm _ hT3 hIn3
  have EY := encode_yes sm _ hT3 hIn3
  rw [hA] at EN EY
  clear hB3 hT2 hm2 hB02 hIn2 hsm
  cases hr : rightS sm.scr with
  | false =>
    have E := EN hr
    clear EN EY hb3 hIn3 hr
    have E'h := Lib.hid E
    have hT3'h := Lib.hid hT3
    have hm3'h := Lib.hid hm3
    have hB03'h := Lib.hid hB03
    have hA'h := Lib.hid hA
    clear E hT3 hm3 hB03 hA
    go_wp2_with fail
    refine E'h.out.mono ?_
    rintro e w4 ⟨rfl, hB4⟩
    have hT4 := hT3'h.out.next hB4
    have hm4 := hm3'h.out.below hB4
    have hB04 := below_next hB03'h.out hB4
    clear hB4 E'h hT3'h hm3'h hB03'h hA'h
    have hT4'h := Lib.hid hT4
    have hm4'h := Lib.hid hm4
    have hB04'h := Lib.hid hB04
    clear hT4 hm4 hB04
    have D := decode_any mp k mc M w4 hT4'h.out hm4'h.out hMb'h.out (by have := hk2000'h.out; omega)
    cases hR : scriptR M with
    | none =>
      rw [hR] at D
      have D'h := Lib.hid D
      clear D
      go_wp2_with fail
      refine D'h.out.mono ?_
      rintro e wd ⟨hBd, hd⟩
      simp only at hd
      subst hd
      have hBe := below_next hB04'h.out hBd
      have hBf := below_next hBe ((Below.refl wd.heap.size wd).alloc (Nat.le_refl _) (.cells zeroSm 26))
      clear D'h hBd hBe
      have hBf'h := Lib.hid hBf
      clear hBf
      go_wp2
      go_ret
      exact ⟨rfl, hBf'h.out⟩
    | some x =>
      obtain ⟨sd, rest⟩ := x
      rw [hR] at D
      obtain ⟨hrd, hinv⟩ := scriptR_inv hMb'h.out hR
      have hMl := hMl'h.out
      have hlen : (bytesS sd).length = k - rest.length ∧ rest.length ≤ k := by
        have := congrArg List.length hinv
        rw [List.length_append] at this
        omega
      have htake : M.take (bytesS sd).length = bytesS sd := by rw [hinv, List.take_left']; rfl
      have hne := bytesS_ne sd
      have D'h := Lib.hid D
      have hrd'h := Lib.hid hrd
      have hinv'h := Lib.hid hinv
      have hlen'h := Lib.hid hlen
      have htake'h := Lib.hid htake
      clear D hrd hinv hlen htake
      clear hR
      go_wp2_with fail
      refine D'h.out.mono ?_
      rintro e wd ⟨hBd, smd, rfl, hInd, hsd, -⟩
      have hMd := (hm4'h.out).below hBd
      have hTd := (hT4'h.out).next hBd
      have hBe := below_next hB04'h.out hBd
      clear D'h hBd
      rw [← hlen'h.out.1]
      obtain ⟨nb, hnb⟩ : ∃ nb, nb = (bytesS sd).length := ⟨_, rfl⟩
      rw [← hnb] at hne htake'h ⊢
      have hnk : nb ≤ k := by have := hlen'h.out; omega
      obtain ⟨g3, sb3, seed3, lp3, ln3, lc3, rows3, pp3, pn3, pc3, ps3⟩ := smd
      obtain ⟨smd, hsmd⟩ : ∃ s : Sm, s = ⟨g3, sb3, seed3, lp3, ln3, lc3, rows3, pp3, pn3, pc3, ps3⟩ := ⟨_, rfl⟩
      have hAd : smA smd = #[.int .i64 g3, .int .i64 sb3, .int .u64 (seed3 : Int), .slice lp3 ln3 lc3, .slice pp3 pn3 pc3] := by rw [hsmd]; rfl
      rw [← hsmd] at hInd hsd ⊢
      rw [hAd]
      have hBg := (Below.refl wd.heap.size wd).alloc (Nat.le_refl _) (.cells #[.int .i64 g3, .int .i64 sb3, .int .u64 (seed3 : Int), .slice lp3 ln3 lc3, .slice pp3 pn3 pc3] 26)
      have E := encode_yes smd _ (hTd.next hBg) (hInd.below hBg) (by rw [hsd]; exact hrd'h.out)
      rw [hsd, hAd, ← hnb] at E
      have hMg := hMd.below hBg
      have hBh := below_next hBe hBg
      clear hBg hMd hBe hsmd hAd hInd hTd hsd
      have q1 : ¬ ((nb : Int) = 0) := by omega
      have q2 : (nb : Int) ≤ (k : Int) := by omega
      have q3 : (nb : Int) ≤ (mc : Int) := by have := hkmc'h.out; omega
      have q4 : ¬ (nb : Int) < 0 := by omega
      have hMg'h := Lib.hid hMg
      have hBh'h := Lib.hid hBh
      have E'h := Lib.hid E
      have hnb'h := Lib.hid hnb
      have hne'h := Lib.hid hne
      have hnk'h := Lib.hid hnk
      clear hMg hBh E hnb hne hnk
      go_wp2_with fail
      refine E'h.out.mono ?_
      rintro e wg ⟨v, rfl, hBi, hrow⟩
      obtain ⟨vp, vc, rfl⟩ := row_slice' hrow
      have hSv := Sl.of_row hrow (by have := hnk'h.out; have := hk2000'h.out; unfold maxLen; omega)
      have hMi := (hMg'h.out.below hBi).take nb hnk'h.out
      rw [u8s_take] at hMi
      have hBj := below_next hBh'h.out hBi
      have Q := eqB_any vp mp nb nb vc mc (bytesS sd) (M.take nb) wg hSv hMi (bytesS_byte sd) (fun b hb => hMb'h.out b (List.mem_of_mem_take hb))
      rw [htake'h.out, decide_eq_true rfl] at Q
      clear hrow hSv hMi hBi E'h
      have hBj'h := Lib.hid hBj
      have Q'h := Lib.hid Q
      clear hBj Q
      go_wp2_with (go_at_call 20; refine Q'h.out.mono ?_; rintro e w' ⟨rfl, hw⟩; obtain rfl := hw.symm)
      go_ret
      exact ⟨rfl, hBj'h.out⟩
  | true =>
    have E := EY hr
    have hnb := hIn3.bytes hr
    have hne := bytesS_ne sm.scr
    clear EN EY
    have E'h := Lib.hid E
    have hT3'h := Lib.hid hT3
    have hm3'h := Lib.hid hm3
    have hB03'h := Lib.hid hB03
    have hA'h := Lib.hid hA
    have hIn3'h := Lib.hid hIn3
    have hb3'h := Lib.hid hb3
    have hr'h := Lib.hid hr
    clear E hT3 hm3 hB03 hA hIn3 hb3 hr
    go_wp2_with fail
    refine E'h.out.mono ?_
    rintro e w4 ⟨v, rfl, hB4, hrow4⟩
    obtain ⟨Bs, hBs⟩ : ∃ Bs, Bs = bytesS sm.scr := ⟨_, rfl⟩
    have hBb : ∀ b ∈ Bs, b < 256 := by rw [hBs]; exact bytesS_byte _
    rw [← hBs] at hrow4 hnb hne
    have hfw := fun r => scriptR_num hr'h.out hIn3'h.out.ok hIn3'h.out.seed hIn3'h.out.w64 r
    have hls := scriptR_less hr'h.out hIn3'h.out.ok hIn3'h.out.seed hIn3'h.out.w64 (bytesS_byte _)
    rw [← hBs] at hfw hls
    obtain ⟨bn, hbn⟩ : ∃ bn, bn = Bs.length := ⟨_, rfl⟩
    rw [← hbn] at hrow4 hnb hne hls
    obtain ⟨vp, vc, rfl, hvl, hvn, -⟩ := row_form hrow4
    have hS4 := Sl.of_row hrow4 (by unfold maxLen; omega)
    have hT4 := hT3'h.out.next hB4
    have hm4 := hm3'h.out.below hB4
    have hIn4 := hIn3'h.out.below hB4
    have hb4 := heap_below hB4 hb3'h.out (lt_of_heap hb3'h.out)
    have hB04 := below_next hB03'h.out hB4
    clear hB4 hrow4 E'h hT3'h hm3'h hIn3'h hb3'h hB03'h hBs
    have hS4'h := Lib.hid hS4
    have hT4'h := Lib.hid hT4
    have hm4'h := Lib.hid hm4
    have hIn4'h := Lib.hid hIn4
    have hb4'h := Lib.hid hb4
    have hB04'h := Lib.hid hB04
    have hfw'h := Lib.hid hfw
    have hls'h := Lib.hid hls
    have hbn'h := Lib.hid hbn
    have hnb'h := Lib.hid hnb
    have hne'h := Lib.hid hne
    have hvl'h := Lib.hid hvl
    have hvn'h := Lib.hid hvn
    have hBb'h := Lib.hid hBb
    clear hS4 hT4 hm4 hIn4 hb4 hB04 hfw hls hbn hnb hne hvl hvn hBb
    obtain ⟨i0, hi, hz, hs, hby⟩ := info_parts info_clone8
    go_wp2_with fail
    refine (clone8_any vp bn vc (u8s Bs) w4 (by have := hnb'h.out; omega) (u8s_one _) hvn'h.out hS4'h.out).mono ?_
    rintro e w5 ⟨cp, cc, rfl, hB5, hrow5⟩
    have hm5 := SlK.of_sl (hm4'h.out.below hB5)
    have hb5 := hB5.size
    have hm5'h := Lib.hid hm5
    have hb5'h := Lib.hid hb5
    have hB5'h := Lib.hid hB5
    have hrow5'h := Lib.hid hrow5
    clear hm5 hb5 hB5 hrow5
    go_wp2_with (at_builtin; refine wpList_append_slk _ rfl (.tmp 37) (.tmp 38) 38 rfl w4.heap.size 5 i0 (.int .u8 0) 1 1 Tryd.underlying38 hi hz hs hby rfl (by decide) (.slice cp bn cc) bn (u8s Bs) rfl hrow5'h.out mp k mc (u8s M) rfl hm5'h.out (u8s_one _) (by have := hnb'h.out; have := hk2000'h.out; unfold maxLen; omega) (by have := hnb'h.out; have := hk2000'h.out; omega) hb5'h.out ?_; intro v' w6 hown' hgrow hwh; obtain ⟨dp, dc, hv', -, -, -⟩ := row_form hown'; subst hv'; have hS6 := Sl.of_row hown' (by have := hnb'h.out; have := hk2000'h.out; unfold maxLen; omega); have hB46 := hB5'h.out.trans ((Below.refl w4.heap.size _).grown hgrow hb5'h.out (fun q hq => (hrow5'h.out.lt q hq).1)); clear hown' hgrow hwh; have hS6'h := Lib.hid hS6; have hB46'h := Lib.hid hB46; clear hS6 hB46)
    have hS6 := hS6'h.out
    rw [u8s_app] at hS6
    have hT6 := hT4'h.out.next hB46'h.out
    have D := decode_any dp (bn + k) dc (Bs ++ M) w6 hT6 hS6 (by
      intro b hb
      rcases List.mem_append.1 hb with hb | hb
      · exact hBb'h.out b hb
      · exact hMb'h.out b hb) (by have := hnb'h.out; have := hk2000'h.out; omega)
    rw [hfw'h.out M] at D
    have hm6 := hm4'h.out.below hB46'h.out
    have hS6b := hS4'h.out.below hB46'h.out
    have hIn6 := hIn4'h.out.below hB46'h.out
    have hb6 := heap_below hB46'h.out hb4'h.out (lt_of_heap hb4'h.out)
    have hB06 := below_next hB04'h.out hB46'h.out
    clear hS6 hm5'h hb5'h hB5'h hrow5'h hS6'h hB46'h hT4'h hm4'h hS4'h hIn4'h hb4'h hB04'h hfw'h
    have D'h := Lib.hid D
    have hT6'h := Lib.hid hT6
    have hm6'h := Lib.hid hm6
    have hS6b'h := Lib.hid hS6b
    have hIn6'h := Lib.hid hIn6
    have hb6'h := Lib.hid hb6
    have hB06'h := Lib.hid hB06
    clear D hT6 hm6 hS6b hIn6 hb6 hB06
    refine D'h.out.mono ?_
    rintro e w7 ⟨hB7, sm7, rfl, hIn7, hs7, -⟩
    rw [show bn + k - M.length = bn by rw [hMl'h.out]; omega]
    obtain ⟨g7, sb7, seed7, lp7, ln7, lc7, rows7, pp7, pn7, pc7, ps7⟩ := sm7
    obtain ⟨sm7, hsm7⟩ : ∃ s : Sm, s = ⟨g7, sb7, seed7, lp7, ln7, lc7, rows7, pp7, pn7, pc7, ps7⟩ := ⟨_, rfl⟩
    have hA7 : smA sm7 = #[.int .i64 g7, .int .i64 sb7, .int .u64 (seed7 : Int), .slice lp7 ln7 lc7, .slice pp7 pn7 pc7] := by rw [hsm7]; rfl
    rw [← hsm7] at hIn7 hs7 ⊢
    rw [hA7]
    have hB8 := (Below.refl w7.heap.size w7).alloc (Nat.le_refl _) (.cells #[.int .i64 g7, .int .i64 sb7, .int .u64 (seed7 : Int), .slice lp7 ln7 lc7, .slice pp7 pn7 pc7] 26)
    have hB68 := below_next hB7 hB8
    have hT8 := hT6'h.out.next hB68
    have hm8 := hm6'h.out.below hB68
    have hS8 := hS6b'h.out.below hB68
    have hb8 := heap_below hB68 hb6'h.out (lt_of_heap hb6'h.out)
    have hB08 := below_next hB06'h.out hB68
    have SA := same_any sm7 sm _ (hIn7.below hB8) (hIn6'h.out.below hB68)
    rw [hs7, decide_eq_true rfl, hA7, hA'h.out] at SA
    obtain ⟨x0, x1, x2, x3, x4⟩ := cells5 hb8
    have hfr : ¬ w2.heap.size = w7.heap.size := by
      have h1 := lt_of_heap hb6'h.out
      have h2 := hB7.size
      omega
    have n1 : ¬ ((0 : Int) = 131) := by decide
    clear hB7 hB8 hB68 hIn7 hs7 hsm7 D'h hT6'h hm6'h hS6b'h hIn6'h hb6'h hB06'h hb8
    have hT8'h := Lib.hid hT8
    have hm8'h := Lib.hid hm8
    have hS8'h := Lib.hid hS8
    have hB08'h := Lib.hid hB08
    have SA'h := Lib.hid SA
    have hfr'h := Lib.hid hfr
    clear hT8 hm8 hS8 hB08 SA hfr
    go_wp2_with fail
    refine SA'h.out.mono ?_
    clear x0 x1 x2 x3 x4
    rintro e w9 ⟨rfl, hB9⟩
    have hS9 := (hS8'h.out.below hB9).take (bn - 1) (by omega)
    rw [u8s_take] at hS9
    have hT9 := hT8'h.out.next hB9
    have hm9 := hm8'h.out.below hB9
    have hB09 := below_next hB08'h.out hB9
    have D := decode_any vp (bn - 1) vc (Bs.take (bn - 1)) w9 hT9 hS9 (fun b hb => hBb'h.out b (List.mem_of_mem_take hb)) (by have := hnb'h.out; omega)
    rw [hls'h.out] at D
    obtain ⟨pn1, hp1⟩ : ∃ p, p = bn - 1 := ⟨_, rfl⟩
    rw [← hp1] at D
    have q1 : (bn : Int) - 1 = (pn1 : Int) := by have := hne'h.out; omega
    have q2 : (pn1 : Int) ≤ (vc : Int) := by have := hvl'h.out; omega
    have q3 : ¬ (pn1 : Int) < 0 := by omega
    have q4 : RowKit.wrap64 ((bn : Int) - 1) = (pn1 : Int) := by
      rw [q1]; exact (Go.IntWalk.i64_left _).symm.trans (Go.IntWalk.i64_in _ (by have := hnb'h.out; omega))
    clear hS9 hB9 SA'h hT8'h hm8'h hS8'h hB08'h hls'h hfr'h q1
    have D'h := Lib.hid D
    have hT9'h := Lib.hid hT9
    have hm9'h := Lib.hid hm9
    have hB09'h := Lib.hid hB09
    have hp1'h := Lib.hid hp1
    clear D hT9 hm9 hB09 hp1
    go_wp2_with fail
    refine D'h.out.mono ?_
    rintro e w10 ⟨hB10, h10⟩
    simp only at h10
    subst h10
    have hBx := below_next hB10 ((Below.refl w10.heap.size w10).alloc (Nat.le_refl _) (.cells zeroSm 26))
    have hTx := hT9'h.out.next hBx
    have hmx := hm9'h.out.below hBx
    have hB0x := below_next hB09'h.out hBx
    clear hB10 hBx D'h hT9'h hm9'h hB09'h
    have hTx'h := Lib.hid hTx
    have hmx'h := Lib.hid hmx
    have hB0x'h := Lib.hid hB0x
    clear hTx hmx hB0x
    have D := decode_any mp k mc M (w10.alloc (.cells zeroSm 26)) hTx'h.out hmx'h.out hMb'h.out (by have := hk2000'h.out; omega)
    cases hR : scriptR M with
    | none =>
      rw [hR] at D
      have D'h := Lib.hid D
      clear D
      go_wp2_with fail
      refine D'h.out.mono ?_
      rintro e wd ⟨hBd, hd⟩
      simp only at hd
      subst hd
      have hBe := below_next hB0x'h.out hBd
      have hBf := below_next hBe ((Below.refl wd.heap.size wd).alloc (Nat.le_refl _) (.cells zeroSm 26))
      clear D'h hBd hBe
      have hBf'h := Lib.hid hBf
      clear hBf
      go_wp2
      go_ret
      exact ⟨rfl, hBf'h.out⟩
    | some x =>
      obtain ⟨sd, rest⟩ := x
      rw [hR] at D
      obtain ⟨hrd, hinv⟩ := scriptR_inv hMb'h.out hR
      have hMl := hMl'h.out
      have hlen : (bytesS sd).length = k - rest.length ∧ rest.length ≤ k := by
        have := congrArg List.length hinv
        rw [List.length_append] at this
        omega
      have htake : M.take (bytesS sd).length = bytesS sd := by rw [hinv, List.take_left']; rfl
      have hne := bytesS_ne sd
      have D'h := Lib.hid D
      have hrd'h := Lib.hid hrd
      have hinv'h := Lib.hid hinv
      have hlen'h := Lib.hid hlen
      have htake'h := Lib.hid htake
      clear D hrd hinv hlen htake
      clear hR
      go_wp2_with fail
      refine D'h.out.mono ?_
      rintro e wd ⟨hBd, smd, rfl, hInd, hsd, -⟩
      have hMd := (hmx'h.out).below hBd
      have hTd := (hTx'h.out).next hBd
      have hBe := below_next hB0x'h.out hBd
      clear D'h hBd
      rw [← hlen'h.out.1]
      obtain ⟨nb, hnb⟩ : ∃ nb, nb = (bytesS sd).length := ⟨_, rfl⟩
      rw [← hnb] at hne htake'h ⊢
      have hnk : nb ≤ k := by have := hlen'h.out; omega
      obtain ⟨g3, sb3, seed3, lp3, ln3, lc3, rows3, pp3, pn3, pc3, ps3⟩ := smd
      obtain ⟨smd, hsmd⟩ : ∃ s : Sm, s = ⟨g3, sb3, seed3, lp3, ln3, lc3, rows3, pp3, pn3, pc3, ps3⟩ := ⟨_, rfl⟩
      have hAd : smA smd = #[.int .i64 g3, .int .i64 sb3, .int .u64 (seed3 : Int), .slice lp3 ln3 lc3, .slice pp3 pn3 pc3] := by rw [hsmd]; rfl
      rw [← hsmd] at hInd hsd ⊢
      rw [hAd]
      have hBg := (Below.refl wd.heap.size wd).alloc (Nat.le_refl _) (.cells #[.int .i64 g3, .int .i64 sb3, .int .u64 (seed3 : Int), .slice lp3 ln3 lc3, .slice pp3 pn3 pc3] 26)
      have E := encode_yes smd _ (hTd.next hBg) (hInd.below hBg) (by rw [hsd]; exact hrd'h.out)
      rw [hsd, hAd, ← hnb] at E
      have hMg := hMd.below hBg
      have hBh := below_next hBe hBg
      clear hBg hMd hBe hsmd hAd hInd hTd hsd
      have q1 : ¬ ((nb : Int) = 0) := by omega
      have q2 : (nb : Int) ≤ (k : Int) := by omega
      have q3 : (nb : Int) ≤ (mc : Int) := by have := hkmc'h.out; omega
      have q4 : ¬ (nb : Int) < 0 := by omega
      have hMg'h := Lib.hid hMg
      have hBh'h := Lib.hid hBh
      have E'h := Lib.hid E
      have hnb'h := Lib.hid hnb
      have hne'h := Lib.hid hne
      have hnk'h := Lib.hid hnk
      clear hMg hBh E hnb hne hnk
      go_wp2_with fail
      refine E'h.out.mono ?_
      rintro e wg ⟨v, rfl, hBi, hrow⟩
      obtain ⟨vp, vc, rfl⟩ := row_slice' hrow
      have hSv := Sl.of_row hrow (by have := hnk'h.out; have := hk2000'h.out; unfold maxLen; omega)
      have hMi := (hMg'h.out.below hBi).take nb hnk'h.out
      rw [u8s_take] at hMi
      have hBj := below_next hBh'h.out hBi
      have Q := eqB_any vp mp nb nb vc mc (bytesS sd) (M.take nb) wg hSv hMi (bytesS_byte sd) (fun b hb => hMb'h.out b (List.mem_of_mem_take hb))
      rw [htake'h.out, decide_eq_true rfl] at Q
      clear hrow hSv hMi hBi E'h
      have hBj'h := Lib.hid hBj
      have Q'h := Lib.hid Q
      clear hBj Q
      go_wp2_with (go_at_call 20; refine Q'h.out.mono ?_; rintro e w' ⟨rfl, hw⟩; obtain rfl := hw.symm)
      go_ret
      exact ⟨rfl, hBj'h.out⟩
theorem walk_ScriptBack (xs : Sm) (mp : Option Addr) (mn mc : Nat) (zs : List Int) (w : World) (hT : Tks w) (h : SmArg w xs) (hnil : mp = none → mc = 0) (hle : mn ≤ mc) (hm : Sl w mp mn (zs.map (Value.int .u8))) (hz : ∀ z ∈ zs, (Lit.int .u8 z).wf = true) :
    Calls Tryd.prog 5 #[.agg (smA xs), .slice mp mn mc] w fun e w' => e = .returned (.bool true) ∧ Below w.heap.size w w' := by
  have e : zs.map (Value.int .u8) = u8s (nats zs) := by
    unfold u8s nats
    rw [List.map_map]
    refine List.map_congr_left fun z hzm => ?_
    have := wf_u8 (hz z hzm)
    simp only [Function.comp]
    congr 1
    omega
  rw [e] at hm
  refine back_true xs mp mn mc (nats zs) w hT h hm hle hnil fun b hb => ?_
  unfold nats at hb
  obtain ⟨z, hzm, rfl⟩ := List.mem_map.1 hb
  have := wf_u8 (hz z hzm)
  omega
end Go.Proofs.YtifofdciablljaaDoor
