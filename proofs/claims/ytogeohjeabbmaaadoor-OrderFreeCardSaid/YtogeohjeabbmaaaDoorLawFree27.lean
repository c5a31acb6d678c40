/-
  Layer 27 (order): free ones alone can be turned.
-/
import Derived.Test.YtogeohjeabbmaaaDoorMapPr
import Derived.Deep.CutRange
import Derived.Deep.LoopGhost
set_option linter.unusedSimpArgs false
set_option linter.unusedVariables false
set_option maxRecDepth 100000
namespace Go.Proofs.YtogeohjeabbmaaaDoor
open Go.RowKit

def nthR0 (rs : List Nat) (k : Nat) : Nat := rs.getD k 0
theorem nthR0_eq {rs : List Nat} {k : Nat} (h : k < rs.length) : rs[k] = nthR0 rs k := by
  unfold nthR0
  rw [List.getD_eq_getElem?_getD, List.getElem?_eq_getElem h]; rfl
theorem nthR0_mem {rs : List Nat} {k : Nat} (h : k < rs.length) : nthR0 rs k ∈ rs := by rw [← nthR0_eq h]; exact List.getElem_mem h
theorem cellR {w : World} {b off n : Nat} {rs : List Nat} (h : Sl w (some ⟨b, off, none⟩) n (ints rs)) {k : Nat} (hk : k < rs.length) : w.cell? ⟨b, off + k, none⟩ = some (.int .i64 (nthR0 rs k : Int)) := by
  refine (SlK.of_sl h).cell (j := k) ?_
  unfold ints
  rw [List.getElem?_map, List.getElem?_eq_getElem hk, nthR0_eq hk]
  rfl
theorem splitR {rs : List Nat} {k i : Nat} (hki : k < i) (hi : i < rs.length) : rs = rs.take k ++ nthR0 rs k :: ((rs.drop (k + 1)).take (i - (k + 1)) ++ nthR0 rs i :: (rs.drop (i + 1))) := by
  have h1 : rs.drop k = nthR0 rs k :: rs.drop (k + 1) := by rw [← nthR0_eq (by omega : k < rs.length)]; exact List.drop_eq_getElem_cons (by omega)
  have h2 : rs.drop i = nthR0 rs i :: rs.drop (i + 1) := by rw [← nthR0_eq hi]; exact List.drop_eq_getElem_cons hi
  have h3 : (rs.drop (k + 1)).take (i - (k + 1)) ++ rs.drop i = rs.drop (k + 1) := by
    have := List.take_append_drop (i - (k + 1)) (rs.drop (k + 1))
    rw [List.drop_drop, show k + 1 + (i - (k + 1)) = i by omega] at this
    exact this
  rw [← h2, h3, ← h1, List.take_append_drop]
theorem below_map {b0 : Nat} {w wr w2 : World} {mb : Nat} (h : Below b0 w wr) (hg : wr.grownBy w2 (some mb)) (h0 : b0 ≤ w.heap.size) (hb : b0 ≤ mb) : Below b0 w w2 :=
  h.grown hg (Nat.le_trans h0 h.size) (fun q hq => by injection hq with hq; omega)
theorem takeP {F : List (Nat × Nat)} {j : Nat} (h : j < F.length) : (F.take (j + 1)).reverse = F[j] :: (F.take j).reverse := by
  rw [List.take_add_one, List.getElem?_eq_getElem h, List.reverse_append]
  rfl
theorem free_sml {l : List Mm} {n : Nat} (hn : n = l.length) (h80 : n ≤ 80) : (freeFrom l n 0).length ≤ 6400 ∧ ∀ p ∈ freeFrom l n 0, p.1 ≤ 5000 ∧ p.2 ≤ 5000 ∧ p.2 < n := by
  refine ⟨?_, fun p hp => ?_⟩
  · have h1 := freeFrom_len (l := l) n 0
    have h2 : n * l.length ≤ 80 * 80 := Nat.mul_le_mul h80 (by omega)
    omega
  · have h1 := freeFrom_mem n 0 p hp
    have h2 := freeFrom_lt (l := l) n 0 p hp (by omega)
    omega
set_option maxHeartbeats 16000000 in
theorem walk_OrderFree (xp : Option Addr) (xn xc : Nat) (xs : List Mm) (yp : Option Addr) (yn yc : Nat) (ys : List Int) (w : World) (hT : Tks w) (hx : MsIn w xp xn xs) (hnil : xp = none → xc = 0) (hle : xn ≤ xc) (hfr : ∀ g, xp.map (·.block) = some g → xn ≠ 0 → g < w.heap.size)
    (hynil : yp = none → yc = 0) (hyle : yn ≤ yc) (hy : Sl w yp yn (ys.map (Value.int .i64))) (hwf : ∀ z ∈ ys, (Lit.int .i64 z).wf = true) :
    Calls Tryd.prog 5 #[.slice xp xn xc, .slice yp yn yc] w fun e w' => e = .returned (.bool true) ∧ Below w.heap.size w w' := by
  have WK := wakes27_any w hT
  have hXW := fun W (hb : Below w.heap.size w W) => hx.below hb
  have hylen : yn = ys.length := by have := hy.1; simpa using this
  obtain ⟨m, hm⟩ : ∃ m : Nat, min (yn : Int) 10 = (m : Int) := ⟨(min (yn : Int) 10).toNat, by omega⟩
  have hm10 : m ≤ 10 := by omega
  have hmy : m ≤ yn := by omega
  obtain ⟨os, hos⟩ : ∃ os, os = ys.take m := ⟨_, rfl⟩
  have hY : ∀ W, Below w.heap.size w W → Sl W yp m (os.map (Value.int .i64)) := fun W hb => by
    rw [hos, List.map_take]
    have := (SlK.of_sl (hy.below hb)).take m hmy
    rw [Nat.mul_one] at this
    exact this.sl
  have y1 : (m : Int) ≤ (yc : Int) := by omega
  have y2 : (0 : Int) ≤ (m : Int) := by omega
  have hosl : os.length = m := by rw [hos, List.length_take]; omega
  clear hfr hx hy hwf hylen hos hmy
  have WK'h := Lib.hid WK
  have hT'h := Lib.hid hT
  have hXW'h := Lib.hid hXW
  have hnil'h := Lib.hid hnil
  have hle'h := Lib.hid hle
  have hY'h := Lib.hid hY
  have hynil'h := Lib.hid hynil
  have hyle'h := Lib.hid hyle
  have hm10'h := Lib.hid hm10
  have hosl'h := Lib.hid hosl
  clear WK hT hXW hnil hle hY hynil hyle hm10 hosl
  go_enter Tryd.func5, Tryd.ntmps5
  go_wp2_with fail
  refine WK'h.out.mono ?_
  rintro e w1 ⟨rfl, hB1⟩
  have OW := own27_any xp xn xc xs w1 (hXW'h.out w1 hB1) hnil'h.out hle'h.out
  have hB1'h := Lib.hid hB1
  have OW'h := Lib.hid OW
  clear hB1 OW
  clear WK'h
  go_wp2_with fail
  refine OW'h.out.mono ?_
  rintro e w2 ⟨lp, lc, l, rfl, hb2, hM2, -, -, hlc, -⟩
  obtain ⟨n, hn⟩ : ∃ n, n = l.length := ⟨_, rfl⟩
  rw [← hn] at hM2 hlc ⊢
  have hB2 := below_next hB1'h.out hb2
  have FR := free_any lp n lc l w2 (hT'h.out.next hB2) hM2 hlc
  obtain ⟨F, hF⟩ : ∃ F, F = freeL l := ⟨_, rfl⟩
  rw [← hF] at FR
  clear hb2 hB1'h OW'h
  have hB2'h := Lib.hid hB2
  have hM2'h := Lib.hid hM2
  have hlc'h := Lib.hid hlc
  have hn'h := Lib.hid hn
  have hF'h := Lib.hid hF
  have FR'h := Lib.hid FR
  clear hB2 hM2 hlc hn hF FR
  go_wp2_with fail
  refine FR'h.out.mono ?_
  rintro e w3 ⟨s6, c6, rfl, hb3, hrow⟩
  have hB3 := below_next hB2'h.out hb3
  have hM3 := hM2'h.out.below hb3
  have CK := checkM_any lp n lc l w3 (hT'h.out.next hB3) hM3 hlc'h.out
  obtain ⟨c, hc⟩ : ∃ c, c = checkB l := ⟨_, rfl⟩
  rw [← hc] at CK
  clear hb3 hB2'h hM2'h FR'h
  have hB3'h := Lib.hid hB3
  have hM3'h := Lib.hid hM3
  have CK'h := Lib.hid CK
  have hrow'h := Lib.hid hrow
  have hc'h := Lib.hid hc
  clear hB3 hM3 CK hrow hc
  go_wp2_with fail
  refine CK'h.out.mono ?_
  rintro e w4 ⟨rfl, hb4⟩
  have hB4 := below_next hB3'h.out hb4
  have hM4 := hM3'h.out.below hb4
  clear CK'h
  cases c with
  | false =>
    simp only [Bool.false_eq_true, if_false]
    have hF0 : F.length = 0 := by rw [hF'h.out]; unfold freeL; rw [← hc'h.out]; rfl
    rw [hF0]
    clear hb4 hM4
    have hB4'h := Lib.hid hB4
    clear hB4
    go_wp2
    go_ret
    exact ⟨rfl, hB4'h.out⟩
  | true =>
    simp only [if_true]
    have h80 : n ≤ 80 := by rw [hn'h.out]; exact check_len hc'h.out.symm
    have hF2 : F = freeFrom l n 0 := by rw [hF'h.out]; unfold freeL; rw [← hc'h.out, hn'h.out]; rfl
    have hsm := free_sml hn'h.out h80
    rw [← hF2] at hsm
    obtain ⟨fn, hfn⟩ : ∃ fn, fn = F.length := ⟨_, rfl⟩
    rw [← hfn] at hsm hrow'h ⊢
    have hK4 := (SlK.of_row hrow'h.out (by have := hsm.1; unfold maxLen; omega)).below hb4
    have hMp := MapP.made w4
    have hB5 : Below w4.heap.size w4 (w4.alloc (.map #[] 0)) := (Below.refl _ _).alloc (Nat.le_refl _) _
    clear hb4 hrow'h hF'h hB3'h hM3'h
    have hB4'h := Lib.hid hB4
    have hM4'h := Lib.hid hM4
    have hsm'h := Lib.hid hsm
    have hfn'h := Lib.hid hfn
    have hK4'h := Lib.hid hK4
    have hMp'h := Lib.hid hMp
    have hB5'h := Lib.hid hB5
    have h80'h := Lib.hid h80
    have hF2'h := Lib.hid hF2
    clear hB4 hM4 hsm hfn hK4 hMp hB5 h80 hF2
    have hmm := @run_makeMap Tryd.prog
    go_upto_region 8 with fail
    clear hmm
    generalize w4.alloc _ = W5 at hMp'h hB5'h ⊢
    obtain ⟨mb, hmb⟩ : ∃ mb, mb = w4.heap.size := ⟨_, rfl⟩
    rw [← hmb] at hMp'h ⊢
    have hmb'h := Lib.hid hmb
    clear hmb
    go_wp2
    go_loopg [29] fn (fun q v29 wr => ∃ j : Nat, j + q = fn ∧ v29 = .int .i64 (j : Int) ∧ Below w4.heap.size w4 wr ∧ MapP wr mb (F.take j).reverse)
    case atStart => exact ⟨0, by omega, rfl, hB5'h.out, hMp'h.out⟩
    case round =>
      obtain ⟨j, hj, rfl, hB, hP⟩ := hrel
      by_cases hlt : j < fn
      · have i3 : (j : Int) < (fn : Int) := by omega
        have i4 : (0 : Int) ≤ (j : Int) := by omega
        have i5 : (j : Int) + 1 ≤ 10000 := by have := hsm'h.out.1; omega
        have hjF : j < F.length := by have := hfn'h.out; omega
        have hKr := hK4'h.out.below hB
        have hMr := hM4'h.out.below hB
        obtain ⟨fb, fo, rfl⟩ := slk_some hKr (by omega)
        obtain ⟨c0, c1⟩ := two_cells hKr (List.getElem?_eq_getElem hjF)
        have hmem := List.getElem_mem hjF
        have htk := takeP hjF
        obtain ⟨p, hp⟩ : ∃ p, p = F[j] := ⟨_, rfl⟩
        rw [← hp] at c0 c1 hmem htk
        have hps := hsm'h.out.2 p hmem
        have hfr := freeFrom_ok n 0 p (by rw [← hF2'h.out]; exact hmem)
        clear hp hKr hmem
        obtain ⟨p1, p2⟩ := p
        simp only at c0 c1 hps hfr
        have hp1l : p1 < l.length := by have := hn'h.out; omega
        have hp2l : p2 < l.length := by have := hn'h.out; omega
        obtain ⟨b, off, rfl⟩ := slk_some hMr.sl (by omega)
        obtain ⟨mx, hmx0⟩ : ∃ mx, mx = nthM l p1 := ⟨_, rfl⟩
        obtain ⟨my, hmy0⟩ : ∃ my, my = nthM l p2 := ⟨_, rfl⟩
        have hcl := fun (i : Nat) (v : Value) (hi : i < 13) (hv : (mmL mx)[i]? = some v) => hMr.cells hp1l (i := i) (v := v) hi (by rw [← hmx0]; exact hv)
        have hcm := fun (i : Nat) (v : Value) (hi : i < 13) (hv : (mmL my)[i]? = some v) => hMr.cells hp2l (i := i) (v := v) hi (by rw [← hmy0]; exact hv)
        have AX := fun W => ahead_any mx my W
        have AY := fun W => ahead_any my mx W
        have hfb : aheadM mx.md my.md = false ∧ aheadM my.md mx.md = false := by
          rw [hmx0, hmy0]
          have := hfr.2
          unfold freeB at this
          simpa using this
        rw [hfb.1] at AX
        rw [hfb.2] at AY
        have k0 : p1 < p2 := hfr.1
        have k1 : (p1 : Int) < (p2 : Int) := by omega
        have k2 : (0 : Int) ≤ (p1 : Int) := by omega
        have k3 : (0 : Int) ≤ (p2 : Int) := by omega
        have k4 : (p1 : Int) < (n : Int) := by omega
        have k5 : (p2 : Int) < (n : Int) := by omega
        have hsp : SmallP (p1, p2) := ⟨hps.1, hps.2.1⟩
        clear hmx0 hmy0 hMr hfb hfr hps hp1l hp2l
        obtain ⟨⟨goerx, ⟨opx, kyx, cax, cbx⟩, ⟨errx, valx, donex⟩, prsx, beganx, atx, overx, toldx⟩, ppx, pnx, pcx, tpx, tnx, tcx⟩ := mx
        have e0 := hcl 0 _ (by omega) rfl
        have e1 := hcl 1 _ (by omega) rfl
        have e2 := hcl 2 _ (by omega) rfl
        have e3 := hcl 3 _ (by omega) rfl
        have e4 := hcl 4 _ (by omega) rfl
        have e5 := hcl 5 _ (by omega) rfl
        have e6 := hcl 6 _ (by omega) rfl
        have e7 := hcl 7 _ (by omega) rfl
        have e8 := hcl 8 _ (by omega) rfl
        have e9 := hcl 9 _ (by omega) rfl
        have ea := hcl 10 _ (by omega) rfl
        have eb := hcl 11 _ (by omega) rfl
        have ec := hcl 12 _ (by omega) rfl
        simp only [Nat.add_zero] at e0
        have Cx : ∀ W : World, Below wr.heap.size wr W → W.cell? ⟨b, off + p1 * 13, none⟩ = some (.int .i64 goerx) ∧ W.cell? ⟨b, off + p1 * 13 + 1, none⟩ = some (.int .i64 opx) ∧ W.cell? ⟨b, off + p1 * 13 + 2, none⟩ = some (.int .u64 (kyx : Int)) ∧ W.cell? ⟨b, off + p1 * 13 + 3, none⟩ = some (.int .u64 (cax : Int)) ∧ W.cell? ⟨b, off + p1 * 13 + 4, none⟩ = some (.int .u64 (cbx : Int)) ∧ W.cell? ⟨b, off + p1 * 13 + 5, none⟩ = some (.int .i64 errx) ∧ W.cell? ⟨b, off + p1 * 13 + 6, none⟩ = some (.int .u64 (valx : Int)) ∧ W.cell? ⟨b, off + p1 * 13 + 7, none⟩ = some (.bool donex) ∧ W.cell? ⟨b, off + p1 * 13 + 8, none⟩ = some (.slice ppx pnx pcx) ∧ W.cell? ⟨b, off + p1 * 13 + 9, none⟩ = some (.int .i64 beganx) ∧ W.cell? ⟨b, off + p1 * 13 + 10, none⟩ = some (.int .i64 atx) ∧ W.cell? ⟨b, off + p1 * 13 + 11, none⟩ = some (.int .i64 overx) ∧ W.cell? ⟨b, off + p1 * 13 + 12, none⟩ = some (.slice tpx tnx tcx) :=
          fun W hW => ⟨(hW.cell (lt_of_cell e0)).trans e0, (hW.cell (lt_of_cell e1)).trans e1, (hW.cell (lt_of_cell e2)).trans e2, (hW.cell (lt_of_cell e3)).trans e3, (hW.cell (lt_of_cell e4)).trans e4, (hW.cell (lt_of_cell e5)).trans e5, (hW.cell (lt_of_cell e6)).trans e6, (hW.cell (lt_of_cell e7)).trans e7, (hW.cell (lt_of_cell e8)).trans e8, (hW.cell (lt_of_cell e9)).trans e9, (hW.cell (lt_of_cell ea)).trans ea, (hW.cell (lt_of_cell eb)).trans eb, (hW.cell (lt_of_cell ec)).trans ec⟩
        clear e0 e1 e2 e3 e4 e5 e6 e7 e8 e9 ea eb ec
        obtain ⟨⟨goery, ⟨opy, kyy, cay, cby⟩, ⟨erry, valy, doney⟩, prsy, begany, aty, overy, toldy⟩, ppy, pny, pcy, tpy, tny, tcy⟩ := my
        have e0 := hcm 0 _ (by omega) rfl
        have e1 := hcm 1 _ (by omega) rfl
        have e2 := hcm 2 _ (by omega) rfl
        have e3 := hcm 3 _ (by omega) rfl
        have e4 := hcm 4 _ (by omega) rfl
        have e5 := hcm 5 _ (by omega) rfl
        have e6 := hcm 6 _ (by omega) rfl
        have e7 := hcm 7 _ (by omega) rfl
        have e8 := hcm 8 _ (by omega) rfl
        have e9 := hcm 9 _ (by omega) rfl
        have ea := hcm 10 _ (by omega) rfl
        have eb := hcm 11 _ (by omega) rfl
        have ec := hcm 12 _ (by omega) rfl
        simp only [Nat.add_zero] at e0
        have Cy : ∀ W : World, Below wr.heap.size wr W → W.cell? ⟨b, off + p2 * 13, none⟩ = some (.int .i64 goery) ∧ W.cell? ⟨b, off + p2 * 13 + 1, none⟩ = some (.int .i64 opy) ∧ W.cell? ⟨b, off + p2 * 13 + 2, none⟩ = some (.int .u64 (kyy : Int)) ∧ W.cell? ⟨b, off + p2 * 13 + 3, none⟩ = some (.int .u64 (cay : Int)) ∧ W.cell? ⟨b, off + p2 * 13 + 4, none⟩ = some (.int .u64 (cby : Int)) ∧ W.cell? ⟨b, off + p2 * 13 + 5, none⟩ = some (.int .i64 erry) ∧ W.cell? ⟨b, off + p2 * 13 + 6, none⟩ = some (.int .u64 (valy : Int)) ∧ W.cell? ⟨b, off + p2 * 13 + 7, none⟩ = some (.bool doney) ∧ W.cell? ⟨b, off + p2 * 13 + 8, none⟩ = some (.slice ppy pny pcy) ∧ W.cell? ⟨b, off + p2 * 13 + 9, none⟩ = some (.int .i64 begany) ∧ W.cell? ⟨b, off + p2 * 13 + 10, none⟩ = some (.int .i64 aty) ∧ W.cell? ⟨b, off + p2 * 13 + 11, none⟩ = some (.int .i64 overy) ∧ W.cell? ⟨b, off + p2 * 13 + 12, none⟩ = some (.slice tpy tny tcy) :=
          fun W hW => ⟨(hW.cell (lt_of_cell e0)).trans e0, (hW.cell (lt_of_cell e1)).trans e1, (hW.cell (lt_of_cell e2)).trans e2, (hW.cell (lt_of_cell e3)).trans e3, (hW.cell (lt_of_cell e4)).trans e4, (hW.cell (lt_of_cell e5)).trans e5, (hW.cell (lt_of_cell e6)).trans e6, (hW.cell (lt_of_cell e7)).trans e7, (hW.cell (lt_of_cell e8)).trans e8, (hW.cell (lt_of_cell e9)).trans e9, (hW.cell (lt_of_cell ea)).trans ea, (hW.cell (lt_of_cell eb)).trans eb, (hW.cell (lt_of_cell ec)).trans ec⟩
        clear e0 e1 e2 e3 e4 e5 e6 e7 e8 e9 ea eb ec
        simp only [mmA] at *
        clear hcl hcm
        have hBx := (Below.refl wr.heap.size wr).alloc (Nat.le_refl _) (.cells #[.int .i64 (p1 : Int), .int .i64 (p2 : Int)] 53)
        have hbx := World.alloc_heap_new wr (.cells #[.int .i64 (p1 : Int), .int .i64 (p2 : Int)] 53)
        have hPx := hP.next hBx
        have hj'h := Lib.hid hj
        have hlt'h := Lib.hid hlt
        have hB'h := Lib.hid hB
        have AX'h := Lib.hid AX
        have AY'h := Lib.hid AY
        have Cx'h := Lib.hid Cx
        have Cy'h := Lib.hid Cy
        have hsp'h := Lib.hid hsp
        have htk'h := Lib.hid htk
        have k0'h := Lib.hid k0
        have hBx'h := Lib.hid hBx
        have hbx'h := Lib.hid hbx
        have hPx'h := Lib.hid hPx
        have hjF'h := Lib.hid hjF
        clear hj hlt hB AX AY Cx Cy hsp htk k0 hBx hbx hPx hjF
        clear hP
        go_upto_region 11 with fail
        clear c0 c1
        have hB6 := below_next hB'h.out hBx'h.out
        generalize wr.alloc _ = W6 at hBx'h hbx'h hPx'h hB6 ⊢
        generalize wr.heap.size = pb at hbx'h ⊢
        obtain ⟨wo, rfl⟩ : ∃ wo : World, wo = wr := ⟨_, rfl⟩
        have Dx := fun (W : World) (hW : Below W6.heap.size W6 W) => Cx'h.out W (by have := below_next (show Below wo.heap.size wo W6 from hBx'h.out) hW; exact this)
        have Dy := fun (W : World) (hW : Below W6.heap.size W6 W) => Cy'h.out W (by have := below_next (show Below wo.heap.size wo W6 from hBx'h.out) hW; exact this)
        have D0 := fun (W : World) (hW : Below W6.heap.size W6 W) => (show W.cell? ⟨pb, 0, none⟩ = some (.int .i64 (p1 : Int)) from blk_cell (i := 0) (heap_below hW hbx'h.out (lt_of_heap hbx'h.out)) rfl)
        have D1 := fun (W : World) (hW : Below W6.heap.size W6 W) => (show W.cell? ⟨pb, 1, none⟩ = some (.int .i64 (p2 : Int)) from blk_cell (i := 1) (heap_below hW hbx'h.out (lt_of_heap hbx'h.out)) rfl)
        clear Cx'h Cy'h hBx'h
        have Dx'h := Lib.hid Dx
        have Dy'h := Lib.hid Dy
        have D0'h := Lib.hid D0
        have D1'h := Lib.hid D1
        have hB6'h := Lib.hid hB6
        clear Dx Dy D0 D1 hB6
        refine wp_region_heldF (fun w' => Below W6.heap.size W6 w') 99 (by kernel_rfl) ?_
        have R0 : Below W6.heap.size W6 W6.drew := Below.drew (Below.refl _ _)
        refine wpAnyF_take (i := 0) (v := .pointer (some ⟨pb, 0, none⟩)) rfl (by kernel_rfl) (by kernel_rfl) (by kernel_rfl) (by kernel_rfl) (fun _ _ _ h => h) (Or.inl ⟨by kernel_rfl, fun w hSw => by (try dsimp only at hSw); go_simp⟩) R0 ?_; try simp only [Act.put, List.getElem_toArray, List.getElem_cons_succ, List.getElem_cons_zero, List.setIfInBounds_toArray, List.set_cons_zero, List.set_cons_succ]
        refine wpAnyF_take (i := 1) (v := .int .i64 (p1 : Int)) rfl (by kernel_rfl) (by kernel_rfl) (by kernel_rfl) (by kernel_rfl) (fun _ _ _ h => h) (Or.inl ⟨by kernel_rfl, fun w hSw => by have hcc := D0'h.out w hSw; clear hSw; go_simp⟩) R0 ?_; try simp only [Act.put, List.getElem_toArray, List.getElem_cons_succ, List.getElem_cons_zero, List.setIfInBounds_toArray, List.set_cons_zero, List.set_cons_succ]
        refine wpAnyF_take (i := 2) (v := .pointer (some ⟨pb, 1, none⟩)) rfl (by kernel_rfl) (by kernel_rfl) (by kernel_rfl) (by kernel_rfl) (fun _ _ _ h => h) (Or.inl ⟨by kernel_rfl, fun w hSw => by (try dsimp only at hSw); go_simp⟩) R0 ?_; try simp only [Act.put, List.getElem_toArray, List.getElem_cons_succ, List.getElem_cons_zero, List.setIfInBounds_toArray, List.set_cons_zero, List.set_cons_succ]
        refine wpAnyF_take (i := 3) (v := .int .i64 (p2 : Int)) rfl (by kernel_rfl) (by kernel_rfl) (by kernel_rfl) (by kernel_rfl) (fun _ _ _ h => h) (Or.inl ⟨by kernel_rfl, fun w hSw => by have hcc := D1'h.out w hSw; clear hSw; go_simp⟩) R0 ?_; try simp only [Act.put, List.getElem_toArray, List.getElem_cons_succ, List.getElem_cons_zero, List.setIfInBounds_toArray, List.set_cons_zero, List.set_cons_succ]
        have k0 := k0'h.out
        refine wpAnyF_take (i := 4) (v := .bool false) rfl (by kernel_rfl) (by kernel_rfl) (by kernel_rfl) (by kernel_rfl) (fun _ _ _ h => h) (Or.inl ⟨by kernel_rfl, fun w hSw => by (try dsimp only at hSw); go_simp⟩) R0 ?_; try simp only [Act.put, List.getElem_toArray, List.getElem_cons_succ, List.getElem_cons_zero, List.setIfInBounds_toArray, List.set_cons_zero, List.set_cons_succ]
        clear k0
        refine wpAnyF_take (i := 5) (v := .bool false) rfl (by kernel_rfl) (by kernel_rfl) (by kernel_rfl) (by kernel_rfl) (fun _ _ _ h => h) (Or.inl ⟨by kernel_rfl, fun w hSw => by (try dsimp only at hSw); go_simp⟩) R0 ?_; try simp only [Act.put, List.getElem_toArray, List.getElem_cons_succ, List.getElem_cons_zero, List.setIfInBounds_toArray, List.set_cons_zero, List.set_cons_succ]
        refine wpAnyF_take (i := 6) (v := .slice (some ⟨b, off, none⟩) n lc) rfl (by kernel_rfl) (by kernel_rfl) (by kernel_rfl) (by kernel_rfl) (fun _ _ _ h => h) (Or.inl ⟨by kernel_rfl, fun w hSw => by (try dsimp only at hSw); go_simp⟩) R0 ?_; try simp only [Act.put, List.getElem_toArray, List.getElem_cons_succ, List.getElem_cons_zero, List.setIfInBounds_toArray, List.set_cons_zero, List.set_cons_succ]
        refine wpAnyF_take (i := 7) (v := .pointer (some ⟨pb, 0, none⟩)) rfl (by kernel_rfl) (by kernel_rfl) (by kernel_rfl) (by kernel_rfl) (fun _ _ _ h => h) (Or.inl ⟨by kernel_rfl, fun w hSw => by (try dsimp only at hSw); go_simp⟩) R0 ?_; try simp only [Act.put, List.getElem_toArray, List.getElem_cons_succ, List.getElem_cons_zero, List.setIfInBounds_toArray, List.set_cons_zero, List.set_cons_succ]
        refine wpAnyF_take (i := 8) (v := .int .i64 (p1 : Int)) rfl (by kernel_rfl) (by kernel_rfl) (by kernel_rfl) (by kernel_rfl) (fun _ _ _ h => h) (Or.inl ⟨by kernel_rfl, fun w hSw => by have hcc := D0'h.out w hSw; clear hSw; go_simp⟩) R0 ?_; try simp only [Act.put, List.getElem_toArray, List.getElem_cons_succ, List.getElem_cons_zero, List.setIfInBounds_toArray, List.set_cons_zero, List.set_cons_succ]
        refine wpAnyF_take (i := 9) (v := .pointer (some ⟨b, off + p1 * 13, none⟩)) rfl (by kernel_rfl) (by kernel_rfl) (by kernel_rfl) (by kernel_rfl) (fun _ _ _ h => h) (Or.inl ⟨by kernel_rfl, fun w hSw => by (try dsimp only at hSw); go_simp⟩) R0 ?_; try simp only [Act.put, List.getElem_toArray, List.getElem_cons_succ, List.getElem_cons_zero, List.setIfInBounds_toArray, List.set_cons_zero, List.set_cons_succ]
        refine wpAnyF_take (i := 10) (v := .agg #[.int .i64 goerx, .int .i64 opx, .int .u64 (kyx : Int), .int .u64 (cax : Int), .int .u64 (cbx : Int), .int .i64 errx, .int .u64 (valx : Int), .bool donex, .slice ppx pnx pcx, .int .i64 beganx, .int .i64 atx, .int .i64 overx, .slice tpx tnx tcx]) rfl (by kernel_rfl) (by kernel_rfl) (by kernel_rfl) (by kernel_rfl) (fun _ _ _ h => h) (Or.inl ⟨by kernel_rfl, fun w hSw => by obtain ⟨q0, q1, q2, q3, q4, q5, q6, q7, q8, q9, qa, qb, qc⟩ := Dx'h.out w hSw; clear hSw; go_simp⟩) R0 ?_; try simp only [Act.put, List.getElem_toArray, List.getElem_cons_succ, List.getElem_cons_zero, List.setIfInBounds_toArray, List.set_cons_zero, List.set_cons_succ]
        refine wpAnyF_take (i := 11) (v := .slice (some ⟨b, off, none⟩) n lc) rfl (by kernel_rfl) (by kernel_rfl) (by kernel_rfl) (by kernel_rfl) (fun _ _ _ h => h) (Or.inl ⟨by kernel_rfl, fun w hSw => by (try dsimp only at hSw); go_simp⟩) R0 ?_; try simp only [Act.put, List.getElem_toArray, List.getElem_cons_succ, List.getElem_cons_zero, List.setIfInBounds_toArray, List.set_cons_zero, List.set_cons_succ]
        refine wpAnyF_take (i := 12) (v := .pointer (some ⟨pb, 1, none⟩)) rfl (by kernel_rfl) (by kernel_rfl) (by kernel_rfl) (by kernel_rfl) (fun _ _ _ h => h) (Or.inl ⟨by kernel_rfl, fun w hSw => by (try dsimp only at hSw); go_simp⟩) R0 ?_; try simp only [Act.put, List.getElem_toArray, List.getElem_cons_succ, List.getElem_cons_zero, List.setIfInBounds_toArray, List.set_cons_zero, List.set_cons_succ]
        refine wpAnyF_take (i := 13) (v := .int .i64 (p2 : Int)) rfl (by kernel_rfl) (by kernel_rfl) (by kernel_rfl) (by kernel_rfl) (fun _ _ _ h => h) (Or.inl ⟨by kernel_rfl, fun w hSw => by have hcc := D1'h.out w hSw; clear hSw; go_simp⟩) R0 ?_; try simp only [Act.put, List.getElem_toArray, List.getElem_cons_succ, List.getElem_cons_zero, List.setIfInBounds_toArray, List.set_cons_zero, List.set_cons_succ]
        refine wpAnyF_take (i := 14) (v := .pointer (some ⟨b, off + p2 * 13, none⟩)) rfl (by kernel_rfl) (by kernel_rfl) (by kernel_rfl) (by kernel_rfl) (fun _ _ _ h => h) (Or.inl ⟨by kernel_rfl, fun w hSw => by (try dsimp only at hSw); go_simp⟩) R0 ?_; try simp only [Act.put, List.getElem_toArray, List.getElem_cons_succ, List.getElem_cons_zero, List.setIfInBounds_toArray, List.set_cons_zero, List.set_cons_succ]
        refine wpAnyF_take (i := 15) (v := .agg #[.int .i64 goery, .int .i64 opy, .int .u64 (kyy : Int), .int .u64 (cay : Int), .int .u64 (cby : Int), .int .i64 erry, .int .u64 (valy : Int), .bool doney, .slice ppy pny pcy, .int .i64 begany, .int .i64 aty, .int .i64 overy, .slice tpy tny tcy]) rfl (by kernel_rfl) (by kernel_rfl) (by kernel_rfl) (by kernel_rfl) (fun _ _ _ h => h) (Or.inl ⟨by kernel_rfl, fun w hSw => by obtain ⟨q0, q1, q2, q3, q4, q5, q6, q7, q8, q9, qa, qb, qc⟩ := Dy'h.out w hSw; clear hSw; go_simp⟩) R0 ?_; try simp only [Act.put, List.getElem_toArray, List.getElem_cons_succ, List.getElem_cons_zero, List.setIfInBounds_toArray, List.set_cons_zero, List.set_cons_succ]
        refine wpAnyF_one (i := 16) (by kernel_rfl) rfl (fun K hK => ?_); go_simp
        refine (AX'h.out _).mono ?_
        rintro e w7 ⟨rfl, hb7⟩
        have R1 := below_next R0 hb7
        clear hb7 R0
        refine hK.out _ _ (fun _ => R1) ?_; clear hK K; try simp only [Act.put, List.getElem_toArray, List.getElem_cons_succ, List.getElem_cons_zero, List.setIfInBounds_toArray, List.set_cons_zero, List.set_cons_succ]
        refine wpAnyF_take (i := 17) (v := .bool false) rfl (by kernel_rfl) (by kernel_rfl) (by kernel_rfl) (by kernel_rfl) (fun _ _ _ h => h) (Or.inl ⟨by kernel_rfl, fun w hSw => by (try dsimp only at hSw); go_simp⟩) R1 ?_; try simp only [Act.put, List.getElem_toArray, List.getElem_cons_succ, List.getElem_cons_zero, List.setIfInBounds_toArray, List.set_cons_zero, List.set_cons_succ]
        refine wpAnyF_take (i := 18) (v := .bool false) rfl (by kernel_rfl) (by kernel_rfl) (by kernel_rfl) (by kernel_rfl) (fun _ _ _ h => h) (Or.inl ⟨by kernel_rfl, fun w hSw => by (try dsimp only at hSw); go_simp⟩) R1 ?_; try simp only [Act.put, List.getElem_toArray, List.getElem_cons_succ, List.getElem_cons_zero, List.setIfInBounds_toArray, List.set_cons_zero, List.set_cons_succ]
        refine wpAnyF_take (i := 19) (v := .slice (some ⟨b, off, none⟩) n lc) rfl (by kernel_rfl) (by kernel_rfl) (by kernel_rfl) (by kernel_rfl) (fun _ _ _ h => h) (Or.inl ⟨by kernel_rfl, fun w hSw => by (try dsimp only at hSw); go_simp⟩) R1 ?_; try simp only [Act.put, List.getElem_toArray, List.getElem_cons_succ, List.getElem_cons_zero, List.setIfInBounds_toArray, List.set_cons_zero, List.set_cons_succ]
        refine wpAnyF_take (i := 20) (v := .pointer (some ⟨pb, 1, none⟩)) rfl (by kernel_rfl) (by kernel_rfl) (by kernel_rfl) (by kernel_rfl) (fun _ _ _ h => h) (Or.inl ⟨by kernel_rfl, fun w hSw => by (try dsimp only at hSw); go_simp⟩) R1 ?_; try simp only [Act.put, List.getElem_toArray, List.getElem_cons_succ, List.getElem_cons_zero, List.setIfInBounds_toArray, List.set_cons_zero, List.set_cons_succ]
        refine wpAnyF_take (i := 21) (v := .int .i64 (p2 : Int)) rfl (by kernel_rfl) (by kernel_rfl) (by kernel_rfl) (by kernel_rfl) (fun _ _ _ h => h) (Or.inl ⟨by kernel_rfl, fun w hSw => by have hcc := D1'h.out w hSw; clear hSw; go_simp⟩) R1 ?_; try simp only [Act.put, List.getElem_toArray, List.getElem_cons_succ, List.getElem_cons_zero, List.setIfInBounds_toArray, List.set_cons_zero, List.set_cons_succ]
        refine wpAnyF_take (i := 22) (v := .pointer (some ⟨b, off + p2 * 13, none⟩)) rfl (by kernel_rfl) (by kernel_rfl) (by kernel_rfl) (by kernel_rfl) (fun _ _ _ h => h) (Or.inl ⟨by kernel_rfl, fun w hSw => by (try dsimp only at hSw); go_simp⟩) R1 ?_; try simp only [Act.put, List.getElem_toArray, List.getElem_cons_succ, List.getElem_cons_zero, List.setIfInBounds_toArray, List.set_cons_zero, List.set_cons_succ]
        refine wpAnyF_take (i := 23) (v := .agg #[.int .i64 goery, .int .i64 opy, .int .u64 (kyy : Int), .int .u64 (cay : Int), .int .u64 (cby : Int), .int .i64 erry, .int .u64 (valy : Int), .bool doney, .slice ppy pny pcy, .int .i64 begany, .int .i64 aty, .int .i64 overy, .slice tpy tny tcy]) rfl (by kernel_rfl) (by kernel_rfl) (by kernel_rfl) (by kernel_rfl) (fun _ _ _ h => h) (Or.inl ⟨by kernel_rfl, fun w hSw => by obtain ⟨q0, q1, q2, q3, q4, q5, q6, q7, q8, q9, qa, qb, qc⟩ := Dy'h.out w hSw; clear hSw; go_simp⟩) R1 ?_; try simp only [Act.put, List.getElem_toArray, List.getElem_cons_succ, List.getElem_cons_zero, List.setIfInBounds_toArray, List.set_cons_zero, List.set_cons_succ]
        refine wpAnyF_take (i := 24) (v := .slice (some ⟨b, off, none⟩) n lc) rfl (by kernel_rfl) (by kernel_rfl) (by kernel_rfl) (by kernel_rfl) (fun _ _ _ h => h) (Or.inl ⟨by kernel_rfl, fun w hSw => by (try dsimp only at hSw); go_simp⟩) R1 ?_; try simp only [Act.put, List.getElem_toArray, List.getElem_cons_succ, List.getElem_cons_zero, List.setIfInBounds_toArray, List.set_cons_zero, List.set_cons_succ]
        refine wpAnyF_take (i := 25) (v := .pointer (some ⟨pb, 0, none⟩)) rfl (by kernel_rfl) (by kernel_rfl) (by kernel_rfl) (by kernel_rfl) (fun _ _ _ h => h) (Or.inl ⟨by kernel_rfl, fun w hSw => by (try dsimp only at hSw); go_simp⟩) R1 ?_; try simp only [Act.put, List.getElem_toArray, List.getElem_cons_succ, List.getElem_cons_zero, List.setIfInBounds_toArray, List.set_cons_zero, List.set_cons_succ]
        refine wpAnyF_take (i := 26) (v := .int .i64 (p1 : Int)) rfl (by kernel_rfl) (by kernel_rfl) (by kernel_rfl) (by kernel_rfl) (fun _ _ _ h => h) (Or.inl ⟨by kernel_rfl, fun w hSw => by have hcc := D0'h.out w hSw; clear hSw; go_simp⟩) R1 ?_; try simp only [Act.put, List.getElem_toArray, List.getElem_cons_succ, List.getElem_cons_zero, List.setIfInBounds_toArray, List.set_cons_zero, List.set_cons_succ]
        refine wpAnyF_take (i := 27) (v := .pointer (some ⟨b, off + p1 * 13, none⟩)) rfl (by kernel_rfl) (by kernel_rfl) (by kernel_rfl) (by kernel_rfl) (fun _ _ _ h => h) (Or.inl ⟨by kernel_rfl, fun w hSw => by (try dsimp only at hSw); go_simp⟩) R1 ?_; try simp only [Act.put, List.getElem_toArray, List.getElem_cons_succ, List.getElem_cons_zero, List.setIfInBounds_toArray, List.set_cons_zero, List.set_cons_succ]
        refine wpAnyF_take (i := 28) (v := .agg #[.int .i64 goerx, .int .i64 opx, .int .u64 (kyx : Int), .int .u64 (cax : Int), .int .u64 (cbx : Int), .int .i64 errx, .int .u64 (valx : Int), .bool donex, .slice ppx pnx pcx, .int .i64 beganx, .int .i64 atx, .int .i64 overx, .slice tpx tnx tcx]) rfl (by kernel_rfl) (by kernel_rfl) (by kernel_rfl) (by kernel_rfl) (fun _ _ _ h => h) (Or.inl ⟨by kernel_rfl, fun w hSw => by obtain ⟨q0, q1, q2, q3, q4, q5, q6, q7, q8, q9, qa, qb, qc⟩ := Dx'h.out w hSw; clear hSw; go_simp⟩) R1 ?_; try simp only [Act.put, List.getElem_toArray, List.getElem_cons_succ, List.getElem_cons_zero, List.setIfInBounds_toArray, List.set_cons_zero, List.set_cons_succ]
        refine wpAnyF_one (i := 29) (by kernel_rfl) rfl (fun K hK => ?_); go_simp
        refine (AY'h.out _).mono ?_
        rintro e w8 ⟨rfl, hb8⟩
        have R2 := below_next R1 hb8
        clear hb8 R1
        refine hK.out _ _ (fun _ => R2) ?_; clear hK K; try simp only [Act.put, List.getElem_toArray, List.getElem_cons_succ, List.getElem_cons_zero, List.setIfInBounds_toArray, List.set_cons_zero, List.set_cons_succ]
        refine wpAnyF_take (i := 30) (v := .bool false) rfl (by kernel_rfl) (by kernel_rfl) (by kernel_rfl) (by kernel_rfl) (fun _ _ _ h => h) (Or.inl ⟨by kernel_rfl, fun w hSw => by (try dsimp only at hSw); go_simp⟩) R2 ?_; try simp only [Act.put, List.getElem_toArray, List.getElem_cons_succ, List.getElem_cons_zero, List.setIfInBounds_toArray, List.set_cons_zero, List.set_cons_succ]
        refine wpAnyF_done (by kernel_rfl) ?_ _
        have hB8 := below_next hB6'h.out R2
        have hP8 := hPx'h.out.next R2
        have d0 := D0'h.out w8 R2
        have d1 := D1'h.out w8 R2
        obtain ⟨w9, hput, hP9, hg9⟩ := hP8.put hsp'h.out (by rw [List.length_reverse, List.length_take]; have := hsm'h.out.1; have := hlt'h.out; unfold maxLen; omega)
        rw [← htk'h.out] at hP9
        simp only at hput
        have hB9 := below_map hB8 hg9 (Nat.le_refl _) (by have := hmb'h.out; omega)
        clear R2 hP8 hg9 hB8 hB6'h Dx'h Dy'h D0'h D1'h hPx'h hbx'h AX'h AY'h
        have hP9'h := Lib.hid hP9
        have hB9'h := Lib.hid hB9
        clear hP9 hB9
        go_wp2
        go_roundg (gk - 1)
        case measure => have := hj'h.out; have := hlt'h.out; omega
        case rel => exact ⟨j + 1, by have := hj'h.out; have := hlt'h.out; omega, by go_num, hB9'h.out, hP9'h.out⟩
      · have i3 : ¬ (j : Int) < (fn : Int) := by omega
        obtain rfl : j = fn := by omega
        rw [hfn'h.out, List.take_length] at hP
        have hMr := hM4'h.out.below hB
        have hBr := below_next hB4'h.out hB
        have hYr := hY'h.out wr hBr
        have BR := bears_any lp n lc l yp m yc os wr (hT'h.out.next hBr) hMr hlc'h.out hYr (by have := hm10'h.out; omega)
        obtain ⟨br, hbr⟩ : ∃ br, br = decide ((behindL l os).1 = 0) := ⟨_, rfl⟩
        rw [← hbr] at BR
        clear hj hlt hB
        have hP'h := Lib.hid hP
        have hMr'h := Lib.hid hMr
        have hBr'h := Lib.hid hBr
        have hYr'h := Lib.hid hYr
        have BR'h := Lib.hid BR
        have hbr'h := Lib.hid hbr
        clear hP hMr hBr hYr BR hbr
        go_wp2_with fail
        refine BR'h.out.mono ?_
        rintro e w7 ⟨rfl, hb7⟩
        have hB7 := below_next hBr'h.out hb7
        clear BR'h
        cases br with
        | false =>
          clear hb7
          have hB7'h := Lib.hid hB7
          clear hB7
          go_wp2
          go_ret
          exact ⟨rfl, hB7'h.out⟩
        | true =>
          have hbe : (behindL l os).1 = 0 := of_decide_eq_true hbr'h.out.symm
          have hok := (behind_zero.1 hbe).2.1
          have hbk := intsZ_bk hok
          have hltn := mapNat_l hok
          obtain ⟨rs, hrs⟩ : ∃ rs, rs = os.map Int.toNat := ⟨_, rfl⟩
          rw [← hrs] at hbk hltn
          have hrl : rs.length = m := by rw [hrs, List.length_map]; exact hosl'h.out
          have hMr7 := hMr'h.out.below hb7
          have hYr7 := hYr'h.out.below hb7
          have hP7 := hP'h.out.next hb7
          rw [hbk] at hbe hYr7
          rw [← ints_Z] at hYr7
          clear hb7 hok hrs hbk hMr'h hYr'h hP'h hBr'h
          have hbe'h := Lib.hid hbe
          have hltn'h := Lib.hid hltn
          have hrl'h := Lib.hid hrl
          have hMr7'h := Lib.hid hMr7
          have hYr7'h := Lib.hid hYr7
          have hP7'h := Lib.hid hP7
          have hB7'h := Lib.hid hB7
          clear hbe hltn hrl hMr7 hYr7 hP7 hB7
          have hPf : ∀ W, Below w7.heap.size w7 W → MapP W mb F.reverse := fun W hW => hP7'h.out.next hW
          have hMf : ∀ W, Below w7.heap.size w7 W → MsIn W lp n l := fun W hW => hMr7'h.out.below hW
          have hYf : ∀ W, Below w7.heap.size w7 W → Sl W yp m (ints rs) := fun W hW => hYr7'h.out.below hW
          clear hP7'h hMr7'h hYr7'h
          have hPf'h := Lib.hid hPf
          have hMf'h := Lib.hid hMf
          have hYf'h := Lib.hid hYf
          clear hPf hMf hYf
          go_wp2
          go_loopg [78] m (fun q v78 wr => ∃ i : Nat, i + q = m ∧ v78 = .int .i64 (i : Int) ∧ Below w7.heap.size w7 wr)
          case atStart => exact ⟨0, by omega, rfl, Below.refl _ _⟩
          case round =>
            obtain ⟨i, hi, rfl, hB⟩ := hrel
            obtain ⟨go, rfl⟩ : ∃ go : Nat, go = gk := ⟨_, rfl⟩
            by_cases hlt : i < m
            · have i3 : (i : Int) < (m : Int) := by omega
              have i4 : (0 : Int) ≤ (i : Int) := by omega
              have i5 : (i : Int) + 1 ≤ 10000 := by have := hm10'h.out; omega
              have hi'h := Lib.hid hi
              have hlt'h := Lib.hid hlt
              have hB'h := Lib.hid hB
              clear hi hlt hB
              go_wp2
              go_loopg [82] i (fun q v82 wr => ∃ k : Nat, k + q = i ∧ v82 = .int .i64 (k : Int) ∧ Below w7.heap.size w7 wr)
              case atStart => exact ⟨0, by omega, rfl, hB'h.out⟩
              case round =>
                obtain ⟨k, hk, rfl, hB⟩ := hrel
                by_cases hlt2 : k < i
                · have j1 : (k : Int) < (i : Int) := by omega
                  have j2 : (0 : Int) ≤ (k : Int) := by omega
                  have j3 : (k : Int) + 1 ≤ 10000 := by omega
                  have j4 : (k : Int) < (m : Int) := by have := hlt'h.out; omega
                  have hir : i < rs.length := by have := hrl'h.out; have := hlt'h.out; omega
                  have hkr : k < rs.length := by omega
                  have hYr := hYf'h.out wr hB
                  obtain ⟨yb, yo, rfl, -⟩ := hYr.some' (by omega)
                  have d1 := cellR hYr hir
                  have d2 := cellR hYr hkr
                  have hxl := hltn'h.out _ (nthR0_mem hir)
                  have hyl := hltn'h.out _ (nthR0_mem hkr)
                  have hbf := bears_free hbe'h.out (splitR hlt2 hir) (by exact hyl) (by exact hxl)
                  obtain ⟨x, hx⟩ : ∃ x, x = nthR0 rs i := ⟨_, rfl⟩
                  obtain ⟨y, hy⟩ : ∃ y, y = nthR0 rs k := ⟨_, rfl⟩
                  rw [← hx] at d1 hxl hbf
                  rw [← hy] at d2 hyl hbf
                  rw [← hn'h.out, ← hF2'h.out] at hbf
                  have hMr := hMf'h.out wr hB
                  obtain ⟨b, off, rfl⟩ := slk_some hMr.sl (by have := hn'h.out; omega)
                  obtain ⟨mx, hmx0⟩ : ∃ mx, mx = nthM l x := ⟨_, rfl⟩
                  obtain ⟨my, hmy0⟩ : ∃ my, my = nthM l y := ⟨_, rfl⟩
                  have hcl := fun (i : Nat) (v : Value) (hi : i < 13) (hv : (mmL mx)[i]? = some v) => hMr.cells hxl (i := i) (v := v) hi (by rw [← hmx0]; exact hv)
                  have hcm := fun (i : Nat) (v : Value) (hi : i < 13) (hv : (mmL my)[i]? = some v) => hMr.cells hyl (i := i) (v := v) hi (by rw [← hmy0]; exact hv)
                  have AX := fun W => ahead_any my mx W
                  rw [← hmx0, ← hmy0] at hbf
                  obtain ⟨ah, hah⟩ : ∃ ah, ah = aheadM my.md mx.md := ⟨_, rfl⟩
                  rw [← hah] at AX hbf
                  obtain ⟨lo, hlo⟩ : ∃ lo, lo = min y x := ⟨_, rfl⟩
                  obtain ⟨hi2, hhi⟩ : ∃ hi2, hi2 = max y x := ⟨_, rfl⟩
                  rw [← hlo, ← hhi] at hbf
                  have hsp : SmallP (lo, hi2) := by
                    have := hn'h.out
                    have := h80'h.out
                    refine ⟨?_, ?_⟩ <;> simp only <;> omega
                  have g1 : min (x : Int) (y : Int) = (lo : Int) := by omega
                  have g2 : max (x : Int) (y : Int) = (hi2 : Int) := by omega
                  have hLK := fun (W : World) (hW : Below wr.heap.size wr W) => (hPf'h.out W (below_next hB hW)).look hsp
                  obtain ⟨fr, hfr⟩ : ∃ fr : Int, fr = if (lo, hi2) ∈ F.reverse then 1 else 0 := ⟨_, rfl⟩
                  simp only at hLK
                  rw [← hfr] at hLK
                  have hcase : (fr = 1) ∨ (fr = 0 ∧ ah = true) := by
                    by_cases hin : (lo, hi2) ∈ F.reverse
                    · rw [if_pos hin] at hfr; exact .inl hfr
                    · rw [if_neg hin] at hfr
                      exact .inr ⟨hfr, hbf (fun h => hin (List.mem_reverse.2 h))⟩
                  have k1 : (x : Int) < (n : Int) := by have := hn'h.out; omega
                  have k2 : (0 : Int) ≤ (x : Int) := by omega
                  have k3 : (y : Int) < (n : Int) := by have := hn'h.out; omega
                  have k4 : (0 : Int) ≤ (y : Int) := by omega
                  clear hmx0 hmy0 hMr hbf hah hlo hhi hsp hfr hx hy hYr
                  obtain ⟨⟨goerx, ⟨opx, kyx, cax, cbx⟩, ⟨errx, valx, donex⟩, prsx, beganx, atx, overx, toldx⟩, ppx, pnx, pcx, tpx, tnx, tcx⟩ := mx
                  have e0 := hcl 0 _ (by omega) rfl
                  have e1 := hcl 1 _ (by omega) rfl
                  have e2 := hcl 2 _ (by omega) rfl
                  have e3 := hcl 3 _ (by omega) rfl
                  have e4 := hcl 4 _ (by omega) rfl
                  have e5 := hcl 5 _ (by omega) rfl
                  have e6 := hcl 6 _ (by omega) rfl
                  have e7 := hcl 7 _ (by omega) rfl
                  have e8 := hcl 8 _ (by omega) rfl
                  have e9 := hcl 9 _ (by omega) rfl
                  have ea := hcl 10 _ (by omega) rfl
                  have eb := hcl 11 _ (by omega) rfl
                  have ec := hcl 12 _ (by omega) rfl
                  simp only [Nat.add_zero] at e0
                  have Cx : ∀ W : World, Below wr.heap.size wr W → W.cell? ⟨b, off + x * 13, none⟩ = some (.int .i64 goerx) ∧ W.cell? ⟨b, off + x * 13 + 1, none⟩ = some (.int .i64 opx) ∧ W.cell? ⟨b, off + x * 13 + 2, none⟩ = some (.int .u64 (kyx : Int)) ∧ W.cell? ⟨b, off + x * 13 + 3, none⟩ = some (.int .u64 (cax : Int)) ∧ W.cell? ⟨b, off + x * 13 + 4, none⟩ = some (.int .u64 (cbx : Int)) ∧ W.cell? ⟨b, off + x * 13 + 5, none⟩ = some (.int .i64 errx) ∧ W.cell? ⟨b, off + x * 13 + 6, none⟩ = some (.int .u64 (valx : Int)) ∧ W.cell? ⟨b, off + x * 13 + 7, none⟩ = some (.bool donex) ∧ W.cell? ⟨b, off + x * 13 + 8, none⟩ = some (.slice ppx pnx pcx) ∧ W.cell? ⟨b, off + x * 13 + 9, none⟩ = some (.int .i64 beganx) ∧ W.cell? ⟨b, off + x * 13 + 10, none⟩ = some (.int .i64 atx) ∧ W.cell? ⟨b, off + x * 13 + 11, none⟩ = some (.int .i64 overx) ∧ W.cell? ⟨b, off + x * 13 + 12, none⟩ = some (.slice tpx tnx tcx) :=
                    fun W hW => ⟨(hW.cell (lt_of_cell e0)).trans e0, (hW.cell (lt_of_cell e1)).trans e1, (hW.cell (lt_of_cell e2)).trans e2, (hW.cell (lt_of_cell e3)).trans e3, (hW.cell (lt_of_cell e4)).trans e4, (hW.cell (lt_of_cell e5)).trans e5, (hW.cell (lt_of_cell e6)).trans e6, (hW.cell (lt_of_cell e7)).trans e7, (hW.cell (lt_of_cell e8)).trans e8, (hW.cell (lt_of_cell e9)).trans e9, (hW.cell (lt_of_cell ea)).trans ea, (hW.cell (lt_of_cell eb)).trans eb, (hW.cell (lt_of_cell ec)).trans ec⟩
                  clear e0 e1 e2 e3 e4 e5 e6 e7 e8 e9 ea eb ec
                  obtain ⟨⟨goery, ⟨opy, kyy, cay, cby⟩, ⟨erry, valy, doney⟩, prsy, begany, aty, overy, toldy⟩, ppy, pny, pcy, tpy, tny, tcy⟩ := my
                  have e0 := hcm 0 _ (by omega) rfl
                  have e1 := hcm 1 _ (by omega) rfl
                  have e2 := hcm 2 _ (by omega) rfl
                  have e3 := hcm 3 _ (by omega) rfl
                  have e4 := hcm 4 _ (by omega) rfl
                  have e5 := hcm 5 _ (by omega) rfl
                  have e6 := hcm 6 _ (by omega) rfl
                  have e7 := hcm 7 _ (by omega) rfl
                  have e8 := hcm 8 _ (by omega) rfl
                  have e9 := hcm 9 _ (by omega) rfl
                  have ea := hcm 10 _ (by omega) rfl
                  have eb := hcm 11 _ (by omega) rfl
                  have ec := hcm 12 _ (by omega) rfl
                  simp only [Nat.add_zero] at e0
                  have Cy : ∀ W : World, Below wr.heap.size wr W → W.cell? ⟨b, off + y * 13, none⟩ = some (.int .i64 goery) ∧ W.cell? ⟨b, off + y * 13 + 1, none⟩ = some (.int .i64 opy) ∧ W.cell? ⟨b, off + y * 13 + 2, none⟩ = some (.int .u64 (kyy : Int)) ∧ W.cell? ⟨b, off + y * 13 + 3, none⟩ = some (.int .u64 (cay : Int)) ∧ W.cell? ⟨b, off + y * 13 + 4, none⟩ = some (.int .u64 (cby : Int)) ∧ W.cell? ⟨b, off + y * 13 + 5, none⟩ = some (.int .i64 erry) ∧ W.cell? ⟨b, off + y * 13 + 6, none⟩ = some (.int .u64 (valy : Int)) ∧ W.cell? ⟨b, off + y * 13 + 7, none⟩ = some (.bool doney) ∧ W.cell? ⟨b, off + y * 13 + 8, none⟩ = some (.slice ppy pny pcy) ∧ W.cell? ⟨b, off + y * 13 + 9, none⟩ = some (.int .i64 begany) ∧ W.cell? ⟨b, off + y * 13 + 10, none⟩ = some (.int .i64 aty) ∧ W.cell? ⟨b, off + y * 13 + 11, none⟩ = some (.int .i64 overy) ∧ W.cell? ⟨b, off + y * 13 + 12, none⟩ = some (.slice tpy tny tcy) :=
                    fun W hW => ⟨(hW.cell (lt_of_cell e0)).trans e0, (hW.cell (lt_of_cell e1)).trans e1, (hW.cell (lt_of_cell e2)).trans e2, (hW.cell (lt_of_cell e3)).trans e3, (hW.cell (lt_of_cell e4)).trans e4, (hW.cell (lt_of_cell e5)).trans e5, (hW.cell (lt_of_cell e6)).trans e6, (hW.cell (lt_of_cell e7)).trans e7, (hW.cell (lt_of_cell e8)).trans e8, (hW.cell (lt_of_cell e9)).trans e9, (hW.cell (lt_of_cell ea)).trans ea, (hW.cell (lt_of_cell eb)).trans eb, (hW.cell (lt_of_cell ec)).trans ec⟩
                  clear e0 e1 e2 e3 e4 e5 e6 e7 e8 e9 ea eb ec
                  simp only [mmA] at *
                  clear hcl hcm
                  have hd1 := fun (W : World) (hW : Below wr.heap.size wr W) => (hW.cell (p := ⟨yb, yo + i, none⟩) (lt_of_cell d1)).trans d1
                  have hd2 := fun (W : World) (hW : Below wr.heap.size wr W) => (hW.cell (p := ⟨yb, yo + k, none⟩) (lt_of_cell d2)).trans d2
                  clear d1 d2
                  have hk'h := Lib.hid hk
                  have hlt2'h := Lib.hid hlt2
                  have hB'h := Lib.hid hB
                  have AX'h := Lib.hid AX
                  have Cx'h := Lib.hid Cx
                  have Cy'h := Lib.hid Cy
                  have hLK'h := Lib.hid hLK
                  have hcase'h := Lib.hid hcase
                  have hd1'h := Lib.hid hd1
                  have hd2'h := Lib.hid hd2
                  have hir'h := Lib.hid hir
                  have hkr'h := Lib.hid hkr
                  have hxl'h := Lib.hid hxl
                  have hyl'h := Lib.hid hyl
                  clear hk hlt2 hB AX Cx Cy hLK hcase hd1 hd2 hir hkr hxl hyl
                  go_upto_region 24 with fail
                  refine wp_region_heldF (fun w' => Below wr.heap.size wr w') 99 (by kernel_rfl) ?_
                  have R0 : Below wr.heap.size wr wr.drew := Below.drew (Below.refl _ _)
                  obtain ⟨wo, rfl⟩ : ∃ wo : World, wo = wr := ⟨_, rfl⟩
                  generalize wo.drew = V0 at R0 ⊢
                  refine wpAnyF_take (i := 0) (v := .slice (some ⟨yb, yo, none⟩) m yc) rfl (by kernel_rfl) (by kernel_rfl) (by kernel_rfl) (by kernel_rfl) (fun _ _ _ h => h) (Or.inl ⟨by kernel_rfl, fun w hSw => by (try dsimp only at hSw); go_simp⟩) R0 ?_; try simp only [Act.put, List.getElem_toArray, List.getElem_cons_succ, List.getElem_cons_zero, List.setIfInBounds_toArray, List.set_cons_zero, List.set_cons_succ]
                  refine wpAnyF_take (i := 1) (v := .int .i64 (i : Int)) rfl (by kernel_rfl) (by kernel_rfl) (by kernel_rfl) (by kernel_rfl) (fun _ _ _ h => h) (Or.inl ⟨by kernel_rfl, fun w hSw => by (try dsimp only at hSw); go_simp⟩) R0 ?_; try simp only [Act.put, List.getElem_toArray, List.getElem_cons_succ, List.getElem_cons_zero, List.setIfInBounds_toArray, List.set_cons_zero, List.set_cons_succ]
                  refine wpAnyF_take (i := 2) (v := .pointer (some ⟨yb, yo + i, none⟩)) rfl (by kernel_rfl) (by kernel_rfl) (by kernel_rfl) (by kernel_rfl) (fun _ _ _ h => h) (Or.inl ⟨by kernel_rfl, fun w hSw => by (try dsimp only at hSw); go_simp⟩) R0 ?_; try simp only [Act.put, List.getElem_toArray, List.getElem_cons_succ, List.getElem_cons_zero, List.setIfInBounds_toArray, List.set_cons_zero, List.set_cons_succ]
                  refine wpAnyF_take (i := 3) (v := .int .i64 (x : Int)) rfl (by kernel_rfl) (by kernel_rfl) (by kernel_rfl) (by kernel_rfl) (fun _ _ _ h => h) (Or.inl ⟨by kernel_rfl, fun w hSw => by have hcc := hd1'h.out w hSw; clear hSw; go_simp⟩) R0 ?_; try simp only [Act.put, List.getElem_toArray, List.getElem_cons_succ, List.getElem_cons_zero, List.setIfInBounds_toArray, List.set_cons_zero, List.set_cons_succ]
                  refine wpAnyF_take (i := 4) (v := .slice (some ⟨yb, yo, none⟩) m yc) rfl (by kernel_rfl) (by kernel_rfl) (by kernel_rfl) (by kernel_rfl) (fun _ _ _ h => h) (Or.inl ⟨by kernel_rfl, fun w hSw => by (try dsimp only at hSw); go_simp⟩) R0 ?_; try simp only [Act.put, List.getElem_toArray, List.getElem_cons_succ, List.getElem_cons_zero, List.setIfInBounds_toArray, List.set_cons_zero, List.set_cons_succ]
                  refine wpAnyF_take (i := 5) (v := .int .i64 (k : Int)) rfl (by kernel_rfl) (by kernel_rfl) (by kernel_rfl) (by kernel_rfl) (fun _ _ _ h => h) (Or.inl ⟨by kernel_rfl, fun w hSw => by (try dsimp only at hSw); go_simp⟩) R0 ?_; try simp only [Act.put, List.getElem_toArray, List.getElem_cons_succ, List.getElem_cons_zero, List.setIfInBounds_toArray, List.set_cons_zero, List.set_cons_succ]
                  refine wpAnyF_take (i := 6) (v := .pointer (some ⟨yb, yo + k, none⟩)) rfl (by kernel_rfl) (by kernel_rfl) (by kernel_rfl) (by kernel_rfl) (fun _ _ _ h => h) (Or.inl ⟨by kernel_rfl, fun w hSw => by (try dsimp only at hSw); go_simp⟩) R0 ?_; try simp only [Act.put, List.getElem_toArray, List.getElem_cons_succ, List.getElem_cons_zero, List.setIfInBounds_toArray, List.set_cons_zero, List.set_cons_succ]
                  refine wpAnyF_take (i := 7) (v := .int .i64 (y : Int)) rfl (by kernel_rfl) (by kernel_rfl) (by kernel_rfl) (by kernel_rfl) (fun _ _ _ h => h) (Or.inl ⟨by kernel_rfl, fun w hSw => by have hcc := hd2'h.out w hSw; clear hSw; go_simp⟩) R0 ?_; try simp only [Act.put, List.getElem_toArray, List.getElem_cons_succ, List.getElem_cons_zero, List.setIfInBounds_toArray, List.set_cons_zero, List.set_cons_succ]
                  refine wpAnyF_take (i := 8) (v := .int .i64 (lo : Int)) rfl (by kernel_rfl) (by kernel_rfl) (by kernel_rfl) (by kernel_rfl) (fun _ _ _ h => h) (Or.inl ⟨by kernel_rfl, fun w hSw => by (try dsimp only at hSw); go_simp⟩) R0 ?_; try simp only [Act.put, List.getElem_toArray, List.getElem_cons_succ, List.getElem_cons_zero, List.setIfInBounds_toArray, List.set_cons_zero, List.set_cons_succ]
                  refine wpAnyF_take (i := 9) (v := .slice (some ⟨yb, yo, none⟩) m yc) rfl (by kernel_rfl) (by kernel_rfl) (by kernel_rfl) (by kernel_rfl) (fun _ _ _ h => h) (Or.inl ⟨by kernel_rfl, fun w hSw => by (try dsimp only at hSw); go_simp⟩) R0 ?_; try simp only [Act.put, List.getElem_toArray, List.getElem_cons_succ, List.getElem_cons_zero, List.setIfInBounds_toArray, List.set_cons_zero, List.set_cons_succ]
                  refine wpAnyF_take (i := 10) (v := .int .i64 (i : Int)) rfl (by kernel_rfl) (by kernel_rfl) (by kernel_rfl) (by kernel_rfl) (fun _ _ _ h => h) (Or.inl ⟨by kernel_rfl, fun w hSw => by (try dsimp only at hSw); go_simp⟩) R0 ?_; try simp only [Act.put, List.getElem_toArray, List.getElem_cons_succ, List.getElem_cons_zero, List.setIfInBounds_toArray, List.set_cons_zero, List.set_cons_succ]
                  refine wpAnyF_take (i := 11) (v := .pointer (some ⟨yb, yo + i, none⟩)) rfl (by kernel_rfl) (by kernel_rfl) (by kernel_rfl) (by kernel_rfl) (fun _ _ _ h => h) (Or.inl ⟨by kernel_rfl, fun w hSw => by (try dsimp only at hSw); go_simp⟩) R0 ?_; try simp only [Act.put, List.getElem_toArray, List.getElem_cons_succ, List.getElem_cons_zero, List.setIfInBounds_toArray, List.set_cons_zero, List.set_cons_succ]
                  refine wpAnyF_take (i := 12) (v := .int .i64 (x : Int)) rfl (by kernel_rfl) (by kernel_rfl) (by kernel_rfl) (by kernel_rfl) (fun _ _ _ h => h) (Or.inl ⟨by kernel_rfl, fun w hSw => by have hcc := hd1'h.out w hSw; clear hSw; go_simp⟩) R0 ?_; try simp only [Act.put, List.getElem_toArray, List.getElem_cons_succ, List.getElem_cons_zero, List.setIfInBounds_toArray, List.set_cons_zero, List.set_cons_succ]
                  refine wpAnyF_take (i := 13) (v := .slice (some ⟨yb, yo, none⟩) m yc) rfl (by kernel_rfl) (by kernel_rfl) (by kernel_rfl) (by kernel_rfl) (fun _ _ _ h => h) (Or.inl ⟨by kernel_rfl, fun w hSw => by (try dsimp only at hSw); go_simp⟩) R0 ?_; try simp only [Act.put, List.getElem_toArray, List.getElem_cons_succ, List.getElem_cons_zero, List.setIfInBounds_toArray, List.set_cons_zero, List.set_cons_succ]
                  refine wpAnyF_take (i := 14) (v := .int .i64 (k : Int)) rfl (by kernel_rfl) (by kernel_rfl) (by kernel_rfl) (by kernel_rfl) (fun _ _ _ h => h) (Or.inl ⟨by kernel_rfl, fun w hSw => by (try dsimp only at hSw); go_simp⟩) R0 ?_; try simp only [Act.put, List.getElem_toArray, List.getElem_cons_succ, List.getElem_cons_zero, List.setIfInBounds_toArray, List.set_cons_zero, List.set_cons_succ]
                  refine wpAnyF_take (i := 15) (v := .pointer (some ⟨yb, yo + k, none⟩)) rfl (by kernel_rfl) (by kernel_rfl) (by kernel_rfl) (by kernel_rfl) (fun _ _ _ h => h) (Or.inl ⟨by kernel_rfl, fun w hSw => by (try dsimp only at hSw); go_simp⟩) R0 ?_; try simp only [Act.put, List.getElem_toArray, List.getElem_cons_succ, List.getElem_cons_zero, List.setIfInBounds_toArray, List.set_cons_zero, List.set_cons_succ]
                  refine wpAnyF_take (i := 16) (v := .int .i64 (y : Int)) rfl (by kernel_rfl) (by kernel_rfl) (by kernel_rfl) (by kernel_rfl) (fun _ _ _ h => h) (Or.inl ⟨by kernel_rfl, fun w hSw => by have hcc := hd2'h.out w hSw; clear hSw; go_simp⟩) R0 ?_; try simp only [Act.put, List.getElem_toArray, List.getElem_cons_succ, List.getElem_cons_zero, List.setIfInBounds_toArray, List.set_cons_zero, List.set_cons_succ]
                  refine wpAnyF_take (i := 17) (v := .int .i64 (hi2 : Int)) rfl (by kernel_rfl) (by kernel_rfl) (by kernel_rfl) (by kernel_rfl) (fun _ _ _ h => h) (Or.inl ⟨by kernel_rfl, fun w hSw => by (try dsimp only at hSw); go_simp⟩) R0 ?_; try simp only [Act.put, List.getElem_toArray, List.getElem_cons_succ, List.getElem_cons_zero, List.setIfInBounds_toArray, List.set_cons_zero, List.set_cons_succ]
                  refine wpAnyF_take (i := 18) (v := .int .i64 (lo : Int)) rfl (by kernel_rfl) (by kernel_rfl) (by kernel_rfl) (by kernel_rfl) (fun _ _ _ h => h) (Or.inl ⟨by kernel_rfl, fun w hSw => by (try dsimp only at hSw); go_simp⟩) R0 ?_; try simp only [Act.put, List.getElem_toArray, List.getElem_cons_succ, List.getElem_cons_zero, List.setIfInBounds_toArray, List.set_cons_zero, List.set_cons_succ]
                  refine wpAnyF_take (i := 19) (v := .int .i64 (hi2 : Int)) rfl (by kernel_rfl) (by kernel_rfl) (by kernel_rfl) (by kernel_rfl) (fun _ _ _ h => h) (Or.inl ⟨by kernel_rfl, fun w hSw => by (try dsimp only at hSw); go_simp⟩) R0 ?_; try simp only [Act.put, List.getElem_toArray, List.getElem_cons_succ, List.getElem_cons_zero, List.setIfInBounds_toArray, List.set_cons_zero, List.set_cons_succ]
                  refine wpAnyF_done (by kernel_rfl) ?_ _
                  have R0'h := Lib.hid R0
                  clear R0
                  go_upto_region 25 with fail
                  refine wp_region_heldF (fun w' => Below wo.heap.size wo w') 99 (by kernel_rfl) ?_
                  have R1 : Below wo.heap.size wo V0.drew := Below.drew R0'h.out
                  clear R0'h
                  generalize V0.drew = V1 at R1 ⊢
                  refine wpAnyF_take (i := 0) (v := .map (some mb)) rfl (by kernel_rfl) (by kernel_rfl) (by kernel_rfl) (by kernel_rfl) (fun _ _ _ h => h) (Or.inl ⟨by kernel_rfl, fun w hSw => by (try dsimp only at hSw); go_simp⟩) R1 ?_; try simp only [Act.put, List.getElem_toArray, List.getElem_cons_succ, List.getElem_cons_zero, List.setIfInBounds_toArray, List.set_cons_zero, List.set_cons_succ]
                  refine wpAnyF_take (i := 1) (v := .int .i64 (lo : Int)) rfl (by kernel_rfl) (by kernel_rfl) (by kernel_rfl) (by kernel_rfl) (fun _ _ _ h => h) (Or.inl ⟨by kernel_rfl, fun w hSw => by (try dsimp only at hSw); go_simp⟩) R1 ?_; try simp only [Act.put, List.getElem_toArray, List.getElem_cons_succ, List.getElem_cons_zero, List.setIfInBounds_toArray, List.set_cons_zero, List.set_cons_succ]
                  refine wpAnyF_take (i := 2) (v := .int .i64 (hi2 : Int)) rfl (by kernel_rfl) (by kernel_rfl) (by kernel_rfl) (by kernel_rfl) (fun _ _ _ h => h) (Or.inl ⟨by kernel_rfl, fun w hSw => by (try dsimp only at hSw); go_simp⟩) R1 ?_; try simp only [Act.put, List.getElem_toArray, List.getElem_cons_succ, List.getElem_cons_zero, List.setIfInBounds_toArray, List.set_cons_zero, List.set_cons_succ]
                  refine wpAnyF_take (i := 3) (v := .agg #[.int .i64 (lo : Int), .int .i64 (hi2 : Int)]) rfl (by kernel_rfl) (by kernel_rfl) (by kernel_rfl) (by kernel_rfl) (fun _ _ _ h => h) (Or.inl ⟨by kernel_rfl, fun w hSw => by (try dsimp only at hSw); go_simp⟩) R1 ?_; try simp only [Act.put, List.getElem_toArray, List.getElem_cons_succ, List.getElem_cons_zero, List.setIfInBounds_toArray, List.set_cons_zero, List.set_cons_succ]
                  refine wpAnyF_take (i := 4) (v := .int .i64 fr) rfl (by kernel_rfl) (by kernel_rfl) (by kernel_rfl) (by kernel_rfl) (fun _ _ _ h => h) (Or.inl ⟨by kernel_rfl, fun w hSw => by have hcc := hLK'h.out w hSw; clear hSw; go_simp⟩) R1 ?_; try simp only [Act.put, List.getElem_toArray, List.getElem_cons_succ, List.getElem_cons_zero, List.setIfInBounds_toArray, List.set_cons_zero, List.set_cons_succ]
                  rcases hcase'h.out with rfl | ⟨rfl, rfl⟩
                  · refine wpAnyF_take (i := 5) (v := .bool false) rfl (by kernel_rfl) (by kernel_rfl) (by kernel_rfl) (by kernel_rfl) (fun _ _ _ h => h) (Or.inl ⟨by kernel_rfl, fun w hSw => by (try dsimp only at hSw); go_simp⟩) R1 ?_; try simp only [Act.put, List.getElem_toArray, List.getElem_cons_succ, List.getElem_cons_zero, List.setIfInBounds_toArray, List.set_cons_zero, List.set_cons_succ]
                    refine wpAnyF_take (i := 6) (v := .bool false) rfl (by kernel_rfl) (by kernel_rfl) (by kernel_rfl) (by kernel_rfl) (fun _ _ _ h => h) (Or.inl ⟨by kernel_rfl, fun w hSw => by (try dsimp only at hSw); go_simp⟩) R1 ?_; try simp only [Act.put, List.getElem_toArray, List.getElem_cons_succ, List.getElem_cons_zero, List.setIfInBounds_toArray, List.set_cons_zero, List.set_cons_succ]
                    refine wpAnyF_take (i := 7) (v := undef) rfl (by kernel_rfl) (by kernel_rfl) (by kernel_rfl) (by kernel_rfl) (fun _ _ _ h => h) (Or.inr ⟨by kernel_rfl, rfl⟩) R1 ?_; try simp only [Act.put, List.getElem_toArray, List.getElem_cons_succ, List.getElem_cons_zero, List.setIfInBounds_toArray, List.set_cons_zero, List.set_cons_succ]
                    refine wpAnyF_take (i := 8) (v := undef) rfl (by kernel_rfl) (by kernel_rfl) (by kernel_rfl) (by kernel_rfl) (fun _ _ _ h => h) (Or.inr ⟨by kernel_rfl, rfl⟩) R1 ?_; try simp only [Act.put, List.getElem_toArray, List.getElem_cons_succ, List.getElem_cons_zero, List.setIfInBounds_toArray, List.set_cons_zero, List.set_cons_succ]
                    refine wpAnyF_take (i := 9) (v := undef) rfl (by kernel_rfl) (by kernel_rfl) (by kernel_rfl) (by kernel_rfl) (fun _ _ _ h => h) (Or.inr ⟨by kernel_rfl, rfl⟩) R1 ?_; try simp only [Act.put, List.getElem_toArray, List.getElem_cons_succ, List.getElem_cons_zero, List.setIfInBounds_toArray, List.set_cons_zero, List.set_cons_succ]
                    refine wpAnyF_take (i := 10) (v := undef) rfl (by kernel_rfl) (by kernel_rfl) (by kernel_rfl) (by kernel_rfl) (fun _ _ _ h => h) (Or.inr ⟨by kernel_rfl, rfl⟩) R1 ?_; try simp only [Act.put, List.getElem_toArray, List.getElem_cons_succ, List.getElem_cons_zero, List.setIfInBounds_toArray, List.set_cons_zero, List.set_cons_succ]
                    refine wpAnyF_take (i := 11) (v := undef) rfl (by kernel_rfl) (by kernel_rfl) (by kernel_rfl) (by kernel_rfl) (fun _ _ _ h => h) (Or.inr ⟨by kernel_rfl, rfl⟩) R1 ?_; try simp only [Act.put, List.getElem_toArray, List.getElem_cons_succ, List.getElem_cons_zero, List.setIfInBounds_toArray, List.set_cons_zero, List.set_cons_succ]
                    refine wpAnyF_take (i := 12) (v := undef) rfl (by kernel_rfl) (by kernel_rfl) (by kernel_rfl) (by kernel_rfl) (fun _ _ _ h => h) (Or.inr ⟨by kernel_rfl, rfl⟩) R1 ?_; try simp only [Act.put, List.getElem_toArray, List.getElem_cons_succ, List.getElem_cons_zero, List.setIfInBounds_toArray, List.set_cons_zero, List.set_cons_succ]
                    refine wpAnyF_take (i := 13) (v := undef) rfl (by kernel_rfl) (by kernel_rfl) (by kernel_rfl) (by kernel_rfl) (fun _ _ _ h => h) (Or.inr ⟨by kernel_rfl, rfl⟩) R1 ?_; try simp only [Act.put, List.getElem_toArray, List.getElem_cons_succ, List.getElem_cons_zero, List.setIfInBounds_toArray, List.set_cons_zero, List.set_cons_succ]
                    refine wpAnyF_take (i := 14) (v := undef) rfl (by kernel_rfl) (by kernel_rfl) (by kernel_rfl) (by kernel_rfl) (fun _ _ _ h => h) (Or.inr ⟨by kernel_rfl, rfl⟩) R1 ?_; try simp only [Act.put, List.getElem_toArray, List.getElem_cons_succ, List.getElem_cons_zero, List.setIfInBounds_toArray, List.set_cons_zero, List.set_cons_succ]
                    refine wpAnyF_take (i := 15) (v := undef) rfl (by kernel_rfl) (by kernel_rfl) (by kernel_rfl) (by kernel_rfl) (fun _ _ _ h => h) (Or.inr ⟨by kernel_rfl, rfl⟩) R1 ?_; try simp only [Act.put, List.getElem_toArray, List.getElem_cons_succ, List.getElem_cons_zero, List.setIfInBounds_toArray, List.set_cons_zero, List.set_cons_succ]
                    refine wpAnyF_take (i := 16) (v := undef) rfl (by kernel_rfl) (by kernel_rfl) (by kernel_rfl) (by kernel_rfl) (fun _ _ _ h => h) (Or.inr ⟨by kernel_rfl, rfl⟩) R1 ?_; try simp only [Act.put, List.getElem_toArray, List.getElem_cons_succ, List.getElem_cons_zero, List.setIfInBounds_toArray, List.set_cons_zero, List.set_cons_succ]
                    refine wpAnyF_take (i := 17) (v := undef) rfl (by kernel_rfl) (by kernel_rfl) (by kernel_rfl) (by kernel_rfl) (fun _ _ _ h => h) (Or.inr ⟨by kernel_rfl, rfl⟩) R1 ?_; try simp only [Act.put, List.getElem_toArray, List.getElem_cons_succ, List.getElem_cons_zero, List.setIfInBounds_toArray, List.set_cons_zero, List.set_cons_succ]
                    refine wpAnyF_take (i := 18) (v := undef) rfl (by kernel_rfl) (by kernel_rfl) (by kernel_rfl) (by kernel_rfl) (fun _ _ _ h => h) (Or.inr ⟨by kernel_rfl, rfl⟩) R1 ?_; try simp only [Act.put, List.getElem_toArray, List.getElem_cons_succ, List.getElem_cons_zero, List.setIfInBounds_toArray, List.set_cons_zero, List.set_cons_succ]
                    refine wpAnyF_take (i := 19) (v := undef) rfl (by kernel_rfl) (by kernel_rfl) (by kernel_rfl) (by kernel_rfl) (fun _ _ _ h => h) (Or.inr ⟨by kernel_rfl, rfl⟩) R1 ?_; try simp only [Act.put, List.getElem_toArray, List.getElem_cons_succ, List.getElem_cons_zero, List.setIfInBounds_toArray, List.set_cons_zero, List.set_cons_succ]
                    refine wpAnyF_take (i := 20) (v := undef) rfl (by kernel_rfl) (by kernel_rfl) (by kernel_rfl) (by kernel_rfl) (fun _ _ _ h => h) (Or.inr ⟨by kernel_rfl, rfl⟩) R1 ?_; try simp only [Act.put, List.getElem_toArray, List.getElem_cons_succ, List.getElem_cons_zero, List.setIfInBounds_toArray, List.set_cons_zero, List.set_cons_succ]
                    refine wpAnyF_take (i := 21) (v := undef) rfl (by kernel_rfl) (by kernel_rfl) (by kernel_rfl) (by kernel_rfl) (fun _ _ _ h => h) (Or.inr ⟨by kernel_rfl, rfl⟩) R1 ?_; try simp only [Act.put, List.getElem_toArray, List.getElem_cons_succ, List.getElem_cons_zero, List.setIfInBounds_toArray, List.set_cons_zero, List.set_cons_succ]
                    refine wpAnyF_take (i := 22) (v := undef) rfl (by kernel_rfl) (by kernel_rfl) (by kernel_rfl) (by kernel_rfl) (fun _ _ _ h => h) (Or.inr ⟨by kernel_rfl, rfl⟩) R1 ?_; try simp only [Act.put, List.getElem_toArray, List.getElem_cons_succ, List.getElem_cons_zero, List.setIfInBounds_toArray, List.set_cons_zero, List.set_cons_succ]
                    refine wpAnyF_take (i := 23) (v := .bool false) rfl (by kernel_rfl) (by kernel_rfl) (by kernel_rfl) (by kernel_rfl) (fun _ _ _ h => h) (Or.inl ⟨by kernel_rfl, fun w hSw => by (try dsimp only at hSw); go_simp⟩) R1 ?_; try simp only [Act.put, List.getElem_toArray, List.getElem_cons_succ, List.getElem_cons_zero, List.setIfInBounds_toArray, List.set_cons_zero, List.set_cons_succ]
                    refine wpAnyF_done (by kernel_rfl) ?_ _
                    have hB9 := below_next hB'h.out R1
                    clear R1
                    have hB9'h := Lib.hid hB9
                    clear hB9
                    go_wp2
                    go_roundg (gk - 1)
                    case measure => have := hk'h.out; have := hlt2'h.out; omega
                    case rel => exact ⟨k + 1, by have := hk'h.out; have := hlt2'h.out; omega, by go_num, hB9'h.out⟩
                  · refine wpAnyF_take (i := 5) (v := .bool true) rfl (by kernel_rfl) (by kernel_rfl) (by kernel_rfl) (by kernel_rfl) (fun _ _ _ h => h) (Or.inl ⟨by kernel_rfl, fun w hSw => by (try dsimp only at hSw); go_simp⟩) R1 ?_; try simp only [Act.put, List.getElem_toArray, List.getElem_cons_succ, List.getElem_cons_zero, List.setIfInBounds_toArray, List.set_cons_zero, List.set_cons_succ]
                    refine wpAnyF_take (i := 6) (v := .bool true) rfl (by kernel_rfl) (by kernel_rfl) (by kernel_rfl) (by kernel_rfl) (fun _ _ _ h => h) (Or.inl ⟨by kernel_rfl, fun w hSw => by (try dsimp only at hSw); go_simp⟩) R1 ?_; try simp only [Act.put, List.getElem_toArray, List.getElem_cons_succ, List.getElem_cons_zero, List.setIfInBounds_toArray, List.set_cons_zero, List.set_cons_succ]
                    refine wpAnyF_take (i := 7) (v := .slice (some ⟨b, off, none⟩) n lc) rfl (by kernel_rfl) (by kernel_rfl) (by kernel_rfl) (by kernel_rfl) (fun _ _ _ h => h) (Or.inl ⟨by kernel_rfl, fun w hSw => by (try dsimp only at hSw); go_simp⟩) R1 ?_; try simp only [Act.put, List.getElem_toArray, List.getElem_cons_succ, List.getElem_cons_zero, List.setIfInBounds_toArray, List.set_cons_zero, List.set_cons_succ]
                    refine wpAnyF_take (i := 8) (v := .slice (some ⟨yb, yo, none⟩) m yc) rfl (by kernel_rfl) (by kernel_rfl) (by kernel_rfl) (by kernel_rfl) (fun _ _ _ h => h) (Or.inl ⟨by kernel_rfl, fun w hSw => by (try dsimp only at hSw); go_simp⟩) R1 ?_; try simp only [Act.put, List.getElem_toArray, List.getElem_cons_succ, List.getElem_cons_zero, List.setIfInBounds_toArray, List.set_cons_zero, List.set_cons_succ]
                    refine wpAnyF_take (i := 9) (v := .int .i64 (k : Int)) rfl (by kernel_rfl) (by kernel_rfl) (by kernel_rfl) (by kernel_rfl) (fun _ _ _ h => h) (Or.inl ⟨by kernel_rfl, fun w hSw => by (try dsimp only at hSw); go_simp⟩) R1 ?_; try simp only [Act.put, List.getElem_toArray, List.getElem_cons_succ, List.getElem_cons_zero, List.setIfInBounds_toArray, List.set_cons_zero, List.set_cons_succ]
                    refine wpAnyF_take (i := 10) (v := .pointer (some ⟨yb, yo + k, none⟩)) rfl (by kernel_rfl) (by kernel_rfl) (by kernel_rfl) (by kernel_rfl) (fun _ _ _ h => h) (Or.inl ⟨by kernel_rfl, fun w hSw => by (try dsimp only at hSw); go_simp⟩) R1 ?_; try simp only [Act.put, List.getElem_toArray, List.getElem_cons_succ, List.getElem_cons_zero, List.setIfInBounds_toArray, List.set_cons_zero, List.set_cons_succ]
                    refine wpAnyF_take (i := 11) (v := .int .i64 (y : Int)) rfl (by kernel_rfl) (by kernel_rfl) (by kernel_rfl) (by kernel_rfl) (fun _ _ _ h => h) (Or.inl ⟨by kernel_rfl, fun w hSw => by have hcc := hd2'h.out w hSw; clear hSw; go_simp⟩) R1 ?_; try simp only [Act.put, List.getElem_toArray, List.getElem_cons_succ, List.getElem_cons_zero, List.setIfInBounds_toArray, List.set_cons_zero, List.set_cons_succ]
                    refine wpAnyF_take (i := 12) (v := .pointer (some ⟨b, off + y * 13, none⟩)) rfl (by kernel_rfl) (by kernel_rfl) (by kernel_rfl) (by kernel_rfl) (fun _ _ _ h => h) (Or.inl ⟨by kernel_rfl, fun w hSw => by (try dsimp only at hSw); go_simp⟩) R1 ?_; try simp only [Act.put, List.getElem_toArray, List.getElem_cons_succ, List.getElem_cons_zero, List.setIfInBounds_toArray, List.set_cons_zero, List.set_cons_succ]
                    refine wpAnyF_take (i := 13) (v := .agg #[.int .i64 goery, .int .i64 opy, .int .u64 (kyy : Int), .int .u64 (cay : Int), .int .u64 (cby : Int), .int .i64 erry, .int .u64 (valy : Int), .bool doney, .slice ppy pny pcy, .int .i64 begany, .int .i64 aty, .int .i64 overy, .slice tpy tny tcy]) rfl (by kernel_rfl) (by kernel_rfl) (by kernel_rfl) (by kernel_rfl) (fun _ _ _ h => h) (Or.inl ⟨by kernel_rfl, fun w hSw => by obtain ⟨q0, q1, q2, q3, q4, q5, q6, q7, q8, q9, qa, qb, qc⟩ := Cy'h.out w hSw; clear hSw; go_simp⟩) R1 ?_; try simp only [Act.put, List.getElem_toArray, List.getElem_cons_succ, List.getElem_cons_zero, List.setIfInBounds_toArray, List.set_cons_zero, List.set_cons_succ]
                    refine wpAnyF_take (i := 14) (v := .slice (some ⟨b, off, none⟩) n lc) rfl (by kernel_rfl) (by kernel_rfl) (by kernel_rfl) (by kernel_rfl) (fun _ _ _ h => h) (Or.inl ⟨by kernel_rfl, fun w hSw => by (try dsimp only at hSw); go_simp⟩) R1 ?_; try simp only [Act.put, List.getElem_toArray, List.getElem_cons_succ, List.getElem_cons_zero, List.setIfInBounds_toArray, List.set_cons_zero, List.set_cons_succ]
                    refine wpAnyF_take (i := 15) (v := .slice (some ⟨yb, yo, none⟩) m yc) rfl (by kernel_rfl) (by kernel_rfl) (by kernel_rfl) (by kernel_rfl) (fun _ _ _ h => h) (Or.inl ⟨by kernel_rfl, fun w hSw => by (try dsimp only at hSw); go_simp⟩) R1 ?_; try simp only [Act.put, List.getElem_toArray, List.getElem_cons_succ, List.getElem_cons_zero, List.setIfInBounds_toArray, List.set_cons_zero, List.set_cons_succ]
                    refine wpAnyF_take (i := 16) (v := .int .i64 (i : Int)) rfl (by kernel_rfl) (by kernel_rfl) (by kernel_rfl) (by kernel_rfl) (fun _ _ _ h => h) (Or.inl ⟨by kernel_rfl, fun w hSw => by (try dsimp only at hSw); go_simp⟩) R1 ?_; try simp only [Act.put, List.getElem_toArray, List.getElem_cons_succ, List.getElem_cons_zero, List.setIfInBounds_toArray, List.set_cons_zero, List.set_cons_succ]
                    refine wpAnyF_take (i := 17) (v := .pointer (some ⟨yb, yo + i, none⟩)) rfl (by kernel_rfl) (by kernel_rfl) (by kernel_rfl) (by kernel_rfl) (fun _ _ _ h => h) (Or.inl ⟨by kernel_rfl, fun w hSw => by (try dsimp only at hSw); go_simp⟩) R1 ?_; try simp only [Act.put, List.getElem_toArray, List.getElem_cons_succ, List.getElem_cons_zero, List.setIfInBounds_toArray, List.set_cons_zero, List.set_cons_succ]
                    refine wpAnyF_take (i := 18) (v := .int .i64 (x : Int)) rfl (by kernel_rfl) (by kernel_rfl) (by kernel_rfl) (by kernel_rfl) (fun _ _ _ h => h) (Or.inl ⟨by kernel_rfl, fun w hSw => by have hcc := hd1'h.out w hSw; clear hSw; go_simp⟩) R1 ?_; try simp only [Act.put, List.getElem_toArray, List.getElem_cons_succ, List.getElem_cons_zero, List.setIfInBounds_toArray, List.set_cons_zero, List.set_cons_succ]
                    refine wpAnyF_take (i := 19) (v := .pointer (some ⟨b, off + x * 13, none⟩)) rfl (by kernel_rfl) (by kernel_rfl) (by kernel_rfl) (by kernel_rfl) (fun _ _ _ h => h) (Or.inl ⟨by kernel_rfl, fun w hSw => by (try dsimp only at hSw); go_simp⟩) R1 ?_; try simp only [Act.put, List.getElem_toArray, List.getElem_cons_succ, List.getElem_cons_zero, List.setIfInBounds_toArray, List.set_cons_zero, List.set_cons_succ]
                    refine wpAnyF_take (i := 20) (v := .agg #[.int .i64 goerx, .int .i64 opx, .int .u64 (kyx : Int), .int .u64 (cax : Int), .int .u64 (cbx : Int), .int .i64 errx, .int .u64 (valx : Int), .bool donex, .slice ppx pnx pcx, .int .i64 beganx, .int .i64 atx, .int .i64 overx, .slice tpx tnx tcx]) rfl (by kernel_rfl) (by kernel_rfl) (by kernel_rfl) (by kernel_rfl) (fun _ _ _ h => h) (Or.inl ⟨by kernel_rfl, fun w hSw => by obtain ⟨q0, q1, q2, q3, q4, q5, q6, q7, q8, q9, qa, qb, qc⟩ := Cx'h.out w hSw; clear hSw; go_simp⟩) R1 ?_; try simp only [Act.put, List.getElem_toArray, List.getElem_cons_succ, List.getElem_cons_zero, List.setIfInBounds_toArray, List.set_cons_zero, List.set_cons_succ]
                    refine wpAnyF_one (i := 21) (by kernel_rfl) rfl (fun K hK => ?_); go_simp
                    refine (AX'h.out _).mono ?_
                    rintro e w8 ⟨rfl, hb8⟩
                    have R2 := below_next R1 hb8
                    clear hb8 R1
                    refine hK.out _ _ (fun _ => R2) ?_; clear hK K; try simp only [Act.put, List.getElem_toArray, List.getElem_cons_succ, List.getElem_cons_zero, List.setIfInBounds_toArray, List.set_cons_zero, List.set_cons_succ]
                    refine wpAnyF_take (i := 22) (v := .bool false) rfl (by kernel_rfl) (by kernel_rfl) (by kernel_rfl) (by kernel_rfl) (fun _ _ _ h => h) (Or.inl ⟨by kernel_rfl, fun w hSw => by (try dsimp only at hSw); go_simp⟩) R2 ?_; try simp only [Act.put, List.getElem_toArray, List.getElem_cons_succ, List.getElem_cons_zero, List.setIfInBounds_toArray, List.set_cons_zero, List.set_cons_succ]
                    refine wpAnyF_take (i := 23) (v := .bool false) rfl (by kernel_rfl) (by kernel_rfl) (by kernel_rfl) (by kernel_rfl) (fun _ _ _ h => h) (Or.inl ⟨by kernel_rfl, fun w hSw => by (try dsimp only at hSw); go_simp⟩) R2 ?_; try simp only [Act.put, List.getElem_toArray, List.getElem_cons_succ, List.getElem_cons_zero, List.setIfInBounds_toArray, List.set_cons_zero, List.set_cons_succ]
                    refine wpAnyF_done (by kernel_rfl) ?_ _
                    have hB9 := below_next hB'h.out R2
                    clear R2
                    have hB9'h := Lib.hid hB9
                    clear hB9
                    go_wp2
                    go_roundg (gk - 1)
                    case measure => have := hk'h.out; have := hlt2'h.out; omega
                    case rel => exact ⟨k + 1, by have := hk'h.out; have := hlt2'h.out; omega, by go_num, hB9'h.out⟩
                · have j1 : ¬ (k : Int) < (i : Int) := by omega
                  clear hk hlt2
                  have hB'h := Lib.hid hB
                  clear hB
                  go_wp2
                  go_roundg (go - 1)
                  case measure => have := hi'h.out; have := hlt'h.out; omega
                  case rel => exact ⟨i + 1, by have := hi'h.out; have := hlt'h.out; omega, by go_num, hB'h.out⟩
            · have i3 : ¬ (i : Int) < (m : Int) := by omega
              have hfin := below_next hB7'h.out hB
              clear hi hlt hB
              have hfin'h := Lib.hid hfin
              clear hfin
              go_wp2
              go_ret
              exact ⟨rfl, hfin'h.out⟩
end Go.Proofs.YtogeohjeabbmaaaDoor
