/-
  Several texts of mine in one: OrdD OrdE OrdF.
-/
import Derived.Test.YtogeohjeabbmaaaDoorY9
/-
  Layer 27 (order): may calls be?
-/
set_option linter.unusedSimpArgs false
set_option linter.unusedVariables false
set_option maxRecDepth 100000
namespace Go.Proofs.YtogeohjeabbmaaaDoor
open Go.RowKit

theorem chk1_any (x y : Mm) (g0 : Nat) (w : World) (hg : w.heap[g0]? = some (.cells (mmA x) 39 (0, 0))) :
    Calls Tryd.prog 30 #[.agg (mmA y), .pointer (some ⟨g0, 0, none⟩)] w fun e w' => e = .returned (.bool (apartM x.md y.md)) ∧ Below w.heap.size w w' := by
  have hB : Below w.heap.size w (w.alloc (.cells (mmA y) 39)) := (Below.refl _ _).alloc (Nat.le_refl _) _
  have hg1 := heap_below hB hg (lt_of_heap hg)
  have hb1 := World.alloc_heap_new w (.cells (mmA y) 39)
  have A1 := fun W => ahead_any x y W
  have A2 := fun W => ahead_any y x W
  obtain ⟨p, hp⟩ : ∃ p, p = aheadM x.md y.md := ⟨_, rfl⟩
  obtain ⟨q, hq⟩ : ∃ q, q = aheadM y.md x.md := ⟨_, rfl⟩
  rw [← hp] at A1
  rw [← hq] at A2
  have e : apartM x.md y.md = (decide (x.md.goer ≠ y.md.goer) || p || q) := by rw [hp, hq]; rfl
  rw [e]
  clear hp hq e hg
  obtain ⟨⟨goerx, ⟨opx, kyx, cax, cbx⟩, ⟨errx, valx, donex⟩, prsx, beganx, atx, overx, toldx⟩, ppx, pnx, pcx, tpx, tnx, tcx⟩ := x
  obtain ⟨⟨goery, ⟨opy, kyy, cay, cby⟩, ⟨erry, valy, doney⟩, prsy, begany, aty, overy, toldy⟩, ppy, pny, pcy, tpy, tny, tcy⟩ := y
  simp only [mmA] at *
  obtain ⟨a0, a1, a2, a3, a4, a5, a6, a7, a8, a9, aa, ab, ac⟩ := cells13 hg1
  obtain ⟨b0, b1, b2, b3, b4, b5, b6, b7, b8, b9, ba, bb, bc⟩ := cells13 hb1
  by_cases h : goerx = goery
  · have i1 : (goerx != goery) = false := by simp [h]
    have hd : decide (goerx ≠ goery) = false := by simp [h]
    rw [hd]
    clear hd h
    cases p with
    | true =>
      have A1'h := Lib.hid A1
      have A2'h := Lib.hid A2
      have hB'h := Lib.hid hB
      have hg1'h := Lib.hid hg1
      have hb1'h := Lib.hid hb1
      clear A1 A2 hB hg1 hb1
      go_enter Tryd.func30, Tryd.ntmps30
      go_wp2_with fail
      refine (A1'h.out _).mono ?_
      rintro e w2 ⟨rfl, hB2⟩
      have hfin := below_next hB'h.out hB2
      clear hB2 a0 a1 a2 a3 a4 a5 a6 a7 a8 a9 aa ab ac b0 b1 b2 b3 b4 b5 b6 b7 b8 b9 ba bb bc
      have hfin'h := Lib.hid hfin
      clear hfin
      go_wp2
      go_ret
      exact ⟨rfl, hfin'h.out⟩
    | false =>
      have A1'h := Lib.hid A1
      have A2'h := Lib.hid A2
      have hB'h := Lib.hid hB
      have hg1'h := Lib.hid hg1
      have hb1'h := Lib.hid hb1
      clear A1 A2 hB hg1 hb1
      go_enter Tryd.func30, Tryd.ntmps30
      go_wp2_with fail
      refine (A1'h.out _).mono ?_
      rintro e w2 ⟨rfl, hB2⟩
      have hB3 := below_next hB'h.out hB2
      have hg2 := heap_below hB2 hg1'h.out (lt_of_heap hg1'h.out)
      have hb2 := heap_below hB2 hb1'h.out (lt_of_heap hb1'h.out)
      clear hB2 a0 a1 a2 a3 a4 a5 a6 a7 a8 a9 aa ab ac b0 b1 b2 b3 b4 b5 b6 b7 b8 b9 ba bb bc
      obtain ⟨a0, a1, a2, a3, a4, a5, a6, a7, a8, a9, aa, ab, ac⟩ := cells13 hg2
      obtain ⟨b0, b1, b2, b3, b4, b5, b6, b7, b8, b9, ba, bb, bc⟩ := cells13 hb2
      clear hg2 hb2
      have hB3'h := Lib.hid hB3
      clear hB3
      go_wp2_with fail
      refine (A2'h.out _).mono ?_
      rintro e w4 ⟨rfl, hB4⟩
      have hfin := below_next hB3'h.out hB4
      clear hB4 a0 a1 a2 a3 a4 a5 a6 a7 a8 a9 aa ab ac b0 b1 b2 b3 b4 b5 b6 b7 b8 b9 ba bb bc
      have hfin'h := Lib.hid hfin
      clear hfin
      go_wp2
      go_ret
      exact ⟨ret_bool (by simp), hfin'h.out⟩
  · have i1 : (goerx != goery) = true := by simp [h]
    have hd : decide (goerx ≠ goery) = true := by simp [h]
    rw [hd]
    clear hd h A1 A2 hg1 hb1
    have hB'h := Lib.hid hB
    clear hB
    go_enter Tryd.func30, Tryd.ntmps30
    go_wp2
    go_ret
    exact ⟨ret_bool (by simp), hB'h.out⟩
/-- Is each call apart from those ahead of it in the row? -/
def apartsM (l : List Mm) (i : Nat) : Bool := (l.take i).all fun b => apartM (nthM l i).md b.md
def checkB (l : List Mm) : Bool := decide (l.length ≤ 80) && l.all (fun m => rightM m.md) && (List.range l.length).all (apartsM l)
theorem mms_take (l : List Mm) (k : Nat) : (mms l).take (k * 13) = mms (l.take k) := flat_take mmL_len l k
theorem MsIn.take {w : World} {sp : Option Addr} {n : Nat} {l : List Mm} (h : MsIn w sp n l) {k : Nat} (hk : k ≤ n) : MsIn w sp k (l.take k) :=
  ⟨by rw [← mms_take]; exact h.sl.take k hk, fun m hm => h.each m (List.mem_of_mem_take hm)⟩
set_option maxHeartbeats 4000000 in
theorem checkM_any (sp : Option Addr) (n cap : Nat) (l : List Mm) (w : World) (hT : Tks w) (h : MsIn w sp n l) (hle : n ≤ cap) :
    Calls Tryd.prog 9 #[.slice sp n cap] w fun e w' => e = .returned (.int .i64 (if checkB l = true then 0 else 370)) ∧ Below w.heap.size w w' := by
  have hlen := h.len
  have hmax := h.sl.2.1
  unfold maxLen at hmax
  obtain ⟨R, hR⟩ : ∃ R, R = checkB l := ⟨_, rfl⟩
  rw [← hR]
  unfold checkB at hR
  rw [← hlen] at hR
  have A := allR_any sp n cap l (fun m => rightM m.md) w h (fun x hx W hW => rightM_any x W (hT.next hW) ((h.each x hx).below hW))
  by_cases h80 : n ≤ 80
  · have i1 : ¬ (n : Int) > 80 := by omega
    rw [decide_eq_true h80, Bool.true_and] at hR
    generalize hal : l.all (fun m => rightM m.md) = al at A hR
    cases al with
    | false =>
      obtain rfl : R = false := by rw [hR]; rfl
      have A'h := Lib.hid A
      have hR'h := Lib.hid hR
      have h80'h := Lib.hid h80
      have hlen'h := Lib.hid hlen
      clear A hR h80 hlen
      go_enter Tryd.func9, Tryd.ntmps9
      go_wp2_with fail
      refine A'h.out.mono ?_
      rintro e w2 ⟨rfl, hB2⟩
      have hB2'h := Lib.hid hB2
      clear hB2
      go_wp2
      go_ret
      exact ⟨rfl, hB2'h.out⟩
    | true =>
      rw [Bool.true_and] at hR
      have A'h := Lib.hid A
      have hR'h := Lib.hid hR
      have h80'h := Lib.hid h80
      have hlen'h := Lib.hid hlen
      have hT'h := Lib.hid hT
      have h'h := Lib.hid h
      have hle'h := Lib.hid hle
      have hmax'h := Lib.hid hmax
      have hal'h := Lib.hid hal
      clear A hR h80 hlen hT h hle hmax hal
      go_enter Tryd.func9, Tryd.ntmps9
      go_wp2_with fail
      refine A'h.out.mono ?_
      rintro e w2 ⟨rfl, hB2⟩
      have hB2'h := Lib.hid hB2
      clear hB2
      go_wp2
      go_loopg [16] n (fun q ix wr => ∃ j : Nat, j + q = n ∧ ix = .int .i64 (j : Int) ∧ (∀ i, i < j → apartsM l i = true) ∧ Below w.heap.size w wr)
      case atStart => exact ⟨0, by omega, rfl, fun i hi => by omega, hB2'h.out⟩
      case round =>
        obtain ⟨j, hj, rfl, hall, hB⟩ := hrel
        by_cases hlt : j < n
        · have i3 : (j : Int) < (n : Int) := by omega
          have i4 : (0 : Int) ≤ (j : Int) := by omega
          have i5 : (j : Int) + 1 ≤ 9223372036854775807 := by have := hmax'h.out; omega
          have i6 : (j : Int) ≤ (cap : Int) := by have := hle'h.out; omega
          have i7 : ¬ (j : Int) < 0 := by omega
          have hjl : j < l.length := by have := hlen'h.out; omega
          have hS := h'h.out.below hB
          obtain ⟨b, off, rfl⟩ := slk_some hS.sl (by omega)
          obtain ⟨c, hc⟩ : ∃ c, c = nthM l j := ⟨_, rfl⟩
          have hcl := fun (i : Nat) (v : Value) (hi : i < 13) (hv : (mmL c)[i]? = some v) => hS.cells hjl (i := i) (v := v) hi (by rw [← hc]; exact hv)
          have hap : apartsM l j = (l.take j).all fun b => apartM c.md b.md := by rw [hc]; rfl
          have hB3 := hB.alloc hB.size (.cells (mmA c) 39)
          have hBc := (Below.refl wr.heap.size wr).alloc (Nat.le_refl _) (.cells (mmA c) 39)
          have hbc := World.alloc_heap_new wr (.cells (mmA c) 39)
          have AK := allK_any (some ⟨b, off, none⟩) j cap (l.take j) (fun y => apartM c.md y.md) wr.heap.size (wr.alloc (.cells (mmA c) 39)) ((hS.below hBc).take (by omega)) (fun y hy W hW => chk1_any c y wr.heap.size W (heap_below hW hbc (lt_of_heap hbc)))
          rw [← hap] at AK
          obtain ⟨⟨goerc, ⟨opc, kyc, cac, cbc⟩, ⟨errc, valc, donec⟩, prsc, beganc, atc, overc, toldc⟩, ppc, pnc, pcc, tpc, tnc, tcc⟩ := c
          have e0 := hcl 0 _ (by omega) rfl
          have e1 := hcl 1 _ (by omega) rfl
          have e2 := hcl 2 _ (by omega) rfl
          have e3 := hcl 3 _ (by omega) rfl
          have e4 := hcl 4 _ (by omega) rfl
          have e5 := hcl 5 _ (by omega) rfl
          have e6 := hcl 6 _ (by omega) rfl
          have e7 := hcl 7 _ (by omega) rfl
          have e8 := hcl 8 _ (by omega) rfl
          have e9 := hcl 9 _ (by omega) rfl
          have ea := hcl 10 _ (by omega) rfl
          have eb := hcl 11 _ (by omega) rfl
          have ec := hcl 12 _ (by omega) rfl
          simp only [mmA] at *
          simp only [Nat.add_zero] at e0
          obtain ⟨v, hv⟩ : ∃ v, v = apartsM l j := ⟨_, rfl⟩
          rw [← hv] at AK
          clear hcl hap hS hBc hbc hc
          cases v with
          | false =>
            obtain rfl : R = false := by
              rw [hR'h.out, List.all_eq_false]
              exact ⟨j, List.mem_range.2 hlt, by rw [← hv]; simp⟩
            have hj'h := Lib.hid hj
            have hall'h := Lib.hid hall
            have hB3'h := Lib.hid hB3
            have hB'h := Lib.hid hB
            have AK'h := Lib.hid AK
            have hv'h := Lib.hid hv
            clear hj hall hB3 hB AK hv
            go_wp2_with fail
            refine AK'h.out.mono ?_
            rintro e w5 ⟨rfl, hB5⟩
            have hfin := below_next hB3'h.out hB5
            clear hB5 hB3'h AK'h hB'h e0 e1 e2 e3 e4 e5 e6 e7 e8 e9 ea eb ec
            have hfin'h := Lib.hid hfin
            clear hfin
            clear i3 i4 i5 i6 i7 hlt hjl i1
            go_wp2
            go_ret
            exact ⟨rfl, hfin'h.out⟩
          | true =>
            have hall2 : ∀ i, i < j + 1 → apartsM l i = true := fun i hi => by
              by_cases e : i = j
              · rw [e, ← hv]
              · exact hall i (by omega)
            have hj'h := Lib.hid hj
            have hall2'h := Lib.hid hall2
            have hB3'h := Lib.hid hB3
            have hB'h := Lib.hid hB
            have AK'h := Lib.hid AK
            have hv'h := Lib.hid hv
            have hall'h := Lib.hid hall
            clear hj hall2 hB3 hB AK hv hall
            go_wp2_with fail
            refine AK'h.out.mono ?_
            rintro e w5 ⟨rfl, hB5⟩
            have hfin := below_next hB3'h.out hB5
            clear hB5 hB3'h AK'h hB'h e0 e1 e2 e3 e4 e5 e6 e7 e8 e9 ea eb ec
            have hfin'h := Lib.hid hfin
            clear hfin
            go_wp2
            go_roundg (gk - 1)
            case measure => have := hj'h.out; omega
            case rel => exact ⟨j + 1, by have := hj'h.out; omega, by go_num, hall2'h.out, hfin'h.out⟩
        · have i3 : ¬ (j : Int) < (n : Int) := by omega
          obtain rfl : R = true := by
            rw [hR'h.out, List.all_eq_true]
            intro i hi
            exact hall i (by have := List.mem_range.1 hi; omega)
          clear hall hj
          have hB'h := Lib.hid hB
          clear hB
          go_wp2
          go_ret
          exact ⟨rfl, hB'h.out⟩
  · have i1 : (n : Int) > 80 := by omega
    obtain rfl : R = false := by rw [hR, decide_eq_false h80]; rfl
    clear hR A h80 hlen hmax
    go_enter Tryd.func9, Tryd.ntmps9
    go_wp2
    go_ret
    exact ⟨rfl, Below.refl _ _⟩
end Go.Proofs.YtogeohjeabbmaaaDoor

/-
  Layer 27 (order): the line that calls go along: may a call stand next, is it whole?
-/
set_option linter.unusedSimpArgs false
set_option linter.unusedVariables false
set_option maxRecDepth 100000
namespace Go.Proofs.YtogeohjeabbmaaaDoor
open Go.RowKit

/-- A line in memory: its map, its calls, which of them were met. -/
def lnL (mp : Option Addr) (mn mc : Nat) (sp : Option Addr) (n cap : Nat) (met : Nat → Bool) : List Value := .slice mp mn mc :: .slice sp n cap :: (List.range 80).map fun i => .bool (met i)
def LnAt (W : World) (lb : Nat) (mp : Option Addr) (mn mc : Nat) (sp : Option Addr) (n cap : Nat) (met : Nat → Bool) : Prop := W.heap[lb]? = some (.cells (lnL mp mn mc sp n cap met).toArray 78 (0, 0))
section
variable {W W' : World} {lb : Nat} {mp : Option Addr} {mn mc : Nat} {sp : Option Addr} {n cap : Nat} {met : Nat → Bool}
theorem LnAt.below (h : LnAt W lb mp mn mc sp n cap met) (hb : Below W.heap.size W W') : LnAt W' lb mp mn mc sp n cap met := heap_below hb h (lt_of_heap h)
theorem LnAt.c0 (h : LnAt W lb mp mn mc sp n cap met) : W.cell? ⟨lb, 0, none⟩ = some (.slice mp mn mc) := blk_cell (i := 0) h rfl
theorem LnAt.c1 (h : LnAt W lb mp mn mc sp n cap met) : W.cell? ⟨lb, 1, none⟩ = some (.slice sp n cap) := blk_cell (i := 1) h rfl
theorem lnL_met {i : Nat} (hi : i < 80) : (lnL mp mn mc sp n cap met).toArray[2 + i]? = some (.bool (met i)) := by
  rw [List.getElem?_toArray, Nat.add_comm]
  show (((List.range 80).map fun i => Value.bool (met i))[i]?) = _
  rw [List.getElem?_map, List.getElem?_range hi]
  rfl
theorem LnAt.was (h : LnAt W lb mp mn mc sp n cap met) {i : Nat} (hi : i < 80) : W.cell? ⟨lb, 2 + i, none⟩ = some (.bool (met i)) := blk_cell h (lnL_met hi)
end
def blockB (l : List Mm) (met : Nat → Bool) (k i : Nat) : Bool := !met i && decide (i ≠ k) && !rangesM (nthM l i).md && aheadM (nthM l i).md (nthM l k).md
def mayB (l : List Mm) (met : Nat → Bool) (k : Nat) : Bool := (List.range l.length).all (fun i => !blockB l met k i) && !met k && !rangesM (nthM l k).md
def wholeB (l : List Mm) (met : Nat → Bool) : Bool := (List.range l.length).all fun i => !(decide ((nthM l i).md.over ≠ 0) && !rangesM (nthM l i).md && !met i)
set_option maxHeartbeats 8000000 in
theorem may_any (lb : Nat) (mp : Option Addr) (mn mc : Nat) (sp : Option Addr) (n cap : Nat) (l : List Mm) (met : Nat → Bool) (k : Nat) (w : World) (hL : LnAt w lb mp mn mc sp n cap met) (h : MsIn w sp n l) (hk : k < n) (h80 : n ≤ 80) :
    Calls Tryd.prog 60 #[.pointer (some ⟨lb, 0, none⟩), .int .i64 (k : Int)] w fun e w' => e = .returned (.bool (mayB l met k)) ∧ Below w.heap.size w w' := by
  have hlen := h.len
  obtain ⟨R, hR⟩ : ∃ R, R = mayB l met k := ⟨_, rfl⟩
  rw [← hR]
  unfold mayB at hR
  rw [← hlen] at hR
  have hkl : k < l.length := by omega
  obtain ⟨b, off, rfl⟩ := slk_some h.sl (by omega)
  obtain ⟨m, hm⟩ : ∃ m, m = nthM l k := ⟨_, rfl⟩
  rw [← hm] at hR
  have hcl := fun (i : Nat) (v : Value) (hi : i < 13) (hv : (mmL m)[i]? = some v) => h.cells hkl (i := i) (v := v) hi (by rw [← hm]; exact hv)
  have hB1 := (Below.refl w.heap.size w).alloc (Nat.le_refl _) (.cells (mmA m) 39)
  have hb1 := World.alloc_heap_new w (.cells (mmA m) 39)
  have RG := fun W => ranges_any m W
  have AH := fun x W => ahead_any x m W
  have hbl : ∀ i, blockB l met k i = (!met i && decide (i ≠ k) && !rangesM (nthM l i).md && aheadM (nthM l i).md m.md) := fun i => by rw [hm]; rfl
  clear hm
  obtain ⟨rg, hrg⟩ : ∃ rg, rg = rangesM m.md := ⟨_, rfl⟩
  obtain ⟨mk, hmk⟩ : ∃ mk, mk = met k := ⟨_, rfl⟩
  rw [← hrg] at RG hR
  rw [← hmk] at hR
  obtain ⟨md, hmd⟩ : ∃ md, md = m.md := ⟨_, rfl⟩
  rw [← hmd] at AH hbl
  clear hrg hmd
  obtain ⟨⟨goerm, ⟨opm, kym, cam, cbm⟩, ⟨errm, valm, donem⟩, prsm, beganm, atm, overm, toldm⟩, ppm, pnm, pcm, tpm, tnm, tcm⟩ := m
  have e0 := hcl 0 _ (by omega) rfl
  have e1 := hcl 1 _ (by omega) rfl
  have e2 := hcl 2 _ (by omega) rfl
  have e3 := hcl 3 _ (by omega) rfl
  have e4 := hcl 4 _ (by omega) rfl
  have e5 := hcl 5 _ (by omega) rfl
  have e6 := hcl 6 _ (by omega) rfl
  have e7 := hcl 7 _ (by omega) rfl
  have e8 := hcl 8 _ (by omega) rfl
  have e9 := hcl 9 _ (by omega) rfl
  have ea := hcl 10 _ (by omega) rfl
  have eb := hcl 11 _ (by omega) rfl
  have ec := hcl 12 _ (by omega) rfl
  simp only [Nat.add_zero] at e0
  simp only [mmA] at *
  have y1 := hL.c1
  have i1 : (k : Int) < (n : Int) := by omega
  have i2 : (0 : Int) ≤ (k : Int) := by omega
  clear hcl
  obtain ⟨W1, hW1⟩ : ∃ W1, W1 = w.alloc (.cells #[.int .i64 goerm, .int .i64 opm, .int .u64 (kym : Int), .int .u64 (cam : Int), .int .u64 (cbm : Int), .int .i64 errm, .int .u64 (valm : Int), .bool donem, .slice ppm pnm pcm, .int .i64 beganm, .int .i64 atm, .int .i64 overm, .slice tpm tnm tcm] 39) := ⟨_, rfl⟩
  rw [← hW1] at hB1 hb1
  have hR'h := Lib.hid hR
  have hB1'h := Lib.hid hB1
  have hb1'h := Lib.hid hb1
  have RG'h := Lib.hid RG
  have AH'h := Lib.hid AH
  have hL'h := Lib.hid hL
  have h'h := Lib.hid h
  have hlen'h := Lib.hid hlen
  have h80'h := Lib.hid h80
  have hk'h := Lib.hid hk
  have hkl'h := Lib.hid hkl
  have hbl'h := Lib.hid hbl
  have hmk'h := Lib.hid hmk
  clear hR hB1 hb1 RG AH hL h hlen h80 hk hkl hbl hmk
  go_enter Tryd.func60, Tryd.ntmps60
  go_upto_region 2 with fail
  rw [← hW1]
  clear hW1 e0 e1 e2 e3 e4 e5 e6 e7 e8 e9 ea eb ec y1 i1 i2
  have y1 := (hL'h.out.below hB1'h.out).c1
  go_wp2
  clear y1
  go_loopg [20] n (fun q ix wr => ∃ j : Nat, j + q = n ∧ ix = .int .i64 (j : Int) ∧ (∀ i, i < j → blockB l met k i = false) ∧ Below W1.heap.size W1 wr)
  case atStart => exact ⟨0, by omega, rfl, fun i hi => by omega, Below.refl _ _⟩
  case round =>
    obtain ⟨j, hj, rfl, hall, hB⟩ := hrel
    have hB01 := below_next hB1'h.out hB
    have hLr := hL'h.out.below hB01
    have hbr := heap_below hB hb1'h.out (lt_of_heap hb1'h.out)
    by_cases hlt : j < n
    · have i3 : (j : Int) < (n : Int) := by omega
      have i4 : (0 : Int) ≤ (j : Int) := by omega
      have i5 : (j : Int) < 80 := by have := h80'h.out; omega
      have hj80 : j < 80 := by have := h80'h.out; omega
      have hS := h'h.out.below hB01
      have hjl : j < l.length := by have := hlen'h.out; omega
      obtain ⟨x, hx⟩ : ∃ x, x = nthM l j := ⟨_, rfl⟩
      have hcl := fun (i : Nat) (v : Value) (hi : i < 13) (hv : (mmL x)[i]? = some v) => hS.cells hjl (i := i) (v := v) hi (by rw [← hx]; exact hv)
      have hbj := hbl'h.out j
      rw [← hx] at hbj
      have RX := fun W => ranges_any x W
      have AX := fun W => AH'h.out x W
      obtain ⟨rx, hrx⟩ : ∃ rx, rx = rangesM x.md := ⟨_, rfl⟩
      obtain ⟨ax, hax⟩ : ∃ ax, ax = aheadM x.md md := ⟨_, rfl⟩
      rw [← hrx] at RX hbj
      rw [← hax] at AX hbj
      have c9 := LnAt.was hLr hj80
      have hB2 := (Below.refl wr.heap.size wr).alloc (Nat.le_refl _) (.cells (mmA x) 39)
      have hb2 := World.alloc_heap_new wr (.cells (mmA x) 39)
      have hLr2 := hLr.below hB2
      have hbr2 := heap_below hB2 hbr (lt_of_heap hbr)
      clear hrx hax hx hS hB01
      obtain ⟨⟨goerx, ⟨opx, kyx, cax, cbx⟩, ⟨errx, valx, donex⟩, prsx, beganx, atx, overx, toldx⟩, ppx, pnx, pcx, tpx, tnx, tcx⟩ := x
      have e0 := hcl 0 _ (by omega) rfl
      have e1 := hcl 1 _ (by omega) rfl
      have e2 := hcl 2 _ (by omega) rfl
      have e3 := hcl 3 _ (by omega) rfl
      have e4 := hcl 4 _ (by omega) rfl
      have e5 := hcl 5 _ (by omega) rfl
      have e6 := hcl 6 _ (by omega) rfl
      have e7 := hcl 7 _ (by omega) rfl
      have e8 := hcl 8 _ (by omega) rfl
      have e9 := hcl 9 _ (by omega) rfl
      have ea := hcl 10 _ (by omega) rfl
      have eb := hcl 11 _ (by omega) rfl
      have ec := hcl 12 _ (by omega) rfl
      simp only [Nat.add_zero] at e0
      simp only [mmA] at *
      clear hcl
      obtain ⟨W2, hW2⟩ : ∃ W2, W2 = wr.alloc (.cells #[.int .i64 goerx, .int .i64 opx, .int .u64 (kyx : Int), .int .u64 (cax : Int), .int .u64 (cbx : Int), .int .i64 errx, .int .u64 (valx : Int), .bool donex, .slice ppx pnx pcx, .int .i64 beganx, .int .i64 atx, .int .i64 overx, .slice tpx tnx tcx] 39) := ⟨_, rfl⟩
      rw [← hW2] at hB2 hb2 hLr2 hbr2
      have hBw := below_next hB hB2
      have hj'h := Lib.hid hj
      have hall'h := Lib.hid hall
      have hbj'h := Lib.hid hbj
      have RX'h := Lib.hid RX
      have AX'h := Lib.hid AX
      have hb2'h := Lib.hid hb2
      have hbr2'h := Lib.hid hbr2
      have hLr2'h := Lib.hid hLr2
      have hBw'h := Lib.hid hBw
      have hj80'h := Lib.hid hj80
      have hjl'h := Lib.hid hjl
      clear hj hall hbj RX AX hb2 hbr2 hLr2 hBw hj80 hjl
      clear hB2 hB hLr hbr hlt
      go_upto_region 5 with fail
      rw [← hW2]
      clear hW2 e0 e1 e2 e3 e4 e5 e6 e7 e8 e9 ea eb ec c9
      have c9 := LnAt.was hLr2'h.out hj80'h.out
      obtain ⟨a0, a1, a2, a3, a4, a5, a6, a7, a8, a9, aa, ab, ac⟩ := cells13 hb2'h.out
      obtain ⟨b0, b1, b2, b3, b4, b5, b6, b7, b8, b9, ba, bb, bc⟩ := cells13 hbr2'h.out
      cases hmj : met j with
      | true =>
        rw [hmj] at c9
        have hbf : blockB l met k j = false := by rw [hbj'h.out, hmj]; rfl
        clear hmj
        have hbf'h := Lib.hid hbf
        clear hbf
        have hall2 : ∀ i, i < j + 1 → blockB l met k i = false := fun i hi => by
          by_cases e : i = j
          · rw [e]; exact hbf'h.out
          · exact hall'h.out i (by omega)
        have i8 : (j : Int) + 1 ≤ 1000 := by omega
        have hall2'h := Lib.hid hall2
        clear hall2
        go_wp2
        go_roundg (gk - 1)
        case measure => have := hj'h.out; have := hjl'h.out; have := hlen'h.out; omega
        case rel => exact ⟨j + 1, by have := hj'h.out; have := hjl'h.out; have := hlen'h.out; omega, by go_num, hall2'h.out, hBw'h.out⟩
      | false =>
        rw [hmj] at c9
        by_cases hjk : j = k
        · have i6 : ((j : Int) != (k : Int)) = false := by simp [hjk]
          have hbf : blockB l met k j = false := by rw [hbj'h.out]; simp [hjk]
          clear hmj hjk
          have hbf'h := Lib.hid hbf
          clear hbf
          have hall2 : ∀ i, i < j + 1 → blockB l met k i = false := fun i hi => by
            by_cases e : i = j
            · rw [e]; exact hbf'h.out
            · exact hall'h.out i (by omega)
          have i8 : (j : Int) + 1 ≤ 1000 := by omega
          have hall2'h := Lib.hid hall2
          clear hall2
          go_wp2
          go_roundg (gk - 1)
          case measure => have := hj'h.out; have := hjl'h.out; have := hlen'h.out; omega
          case rel => exact ⟨j + 1, by have := hj'h.out; have := hjl'h.out; have := hlen'h.out; omega, by go_num, hall2'h.out, hBw'h.out⟩
        · have i6 : ((j : Int) != (k : Int)) = true := by simp; omega
          go_wp2_with fail
          refine (RX'h.out _).mono ?_
          rintro e w5 ⟨rfl, hB5⟩
          have hBw5 := below_next hBw'h.out hB5
          have hb5 := heap_below hB5 hb2'h.out (lt_of_heap hb2'h.out)
          have hbr5 := heap_below hB5 hbr2'h.out (lt_of_heap hbr2'h.out)
          clear hB5 a0 a1 a2 a3 a4 a5 a6 a7 a8 a9 aa ab ac b0 b1 b2 b3 b4 b5 b6 b7 b8 b9 ba bb bc c9
          cases rx with
          | true =>
            have hbf : blockB l met k j = false := by rw [hbj'h.out]; simp
            clear hmj hjk hb5 hbr5
            have hbf'h := Lib.hid hbf
            have hBw5'h := Lib.hid hBw5
            clear hbf hBw5
            have hall2 : ∀ i, i < j + 1 → blockB l met k i = false := fun i hi => by
              by_cases e : i = j
              · rw [e]; exact hbf'h.out
              · exact hall'h.out i (by omega)
            have i8 : (j : Int) + 1 ≤ 1000 := by omega
            have hall2'h := Lib.hid hall2
            clear hall2
            go_wp2
            go_roundg (gk - 1)
            case measure => have := hj'h.out; have := hjl'h.out; have := hlen'h.out; omega
            case rel => exact ⟨j + 1, by have := hj'h.out; have := hjl'h.out; have := hlen'h.out; omega, by go_num, hall2'h.out, hBw5'h.out⟩
          | false =>
            obtain ⟨a0, a1, a2, a3, a4, a5, a6, a7, a8, a9, aa, ab, ac⟩ := cells13 hb5
            obtain ⟨b0, b1, b2, b3, b4, b5, b6, b7, b8, b9, ba, bb, bc⟩ := cells13 hbr5
            clear hb5 hbr5
            have hbv : blockB l met k j = ax := by rw [hbj'h.out, hmj]; simp [hjk]
            clear hmj hjk
            have hBw5'h := Lib.hid hBw5
            have hbv'h := Lib.hid hbv
            clear hBw5 hbv
            go_wp2_with fail
            refine (AX'h.out _).mono ?_
            rintro e w6 ⟨rfl, hB6⟩
            have hBw6 := below_next hBw5'h.out hB6
            clear hB6 a0 a1 a2 a3 a4 a5 a6 a7 a8 a9 aa ab ac b0 b1 b2 b3 b4 b5 b6 b7 b8 b9 ba bb bc
            cases ax with
            | true =>
              obtain rfl : R = false := by
                rw [hR'h.out]
                have : (List.range n).all (fun i => !blockB l met k i) = false := by
                  rw [List.all_eq_false]
                  exact ⟨j, List.mem_range.2 (by omega), by rw [hbv'h.out]; simp⟩
                rw [this]; rfl
              have hfin := below_next hB1'h.out hBw6
              clear hBw6
              have hfin'h := Lib.hid hfin
              clear hfin
              go_wp2
              go_ret
              exact ⟨rfl, hfin'h.out⟩
            | false =>
              have hbf := hbv'h.out
              have hbf'h := Lib.hid hbf
              have hBw6'h := Lib.hid hBw6
              clear hbf hBw6
              have hall2 : ∀ i, i < j + 1 → blockB l met k i = false := fun i hi => by
                by_cases e : i = j
                · rw [e]; exact hbf'h.out
                · exact hall'h.out i (by omega)
              have i8 : (j : Int) + 1 ≤ 1000 := by omega
              have hall2'h := Lib.hid hall2
              clear hall2
              go_wp2
              go_roundg (gk - 1)
              case measure => have := hj'h.out; have := hjl'h.out; have := hlen'h.out; omega
              case rel => exact ⟨j + 1, by have := hj'h.out; have := hjl'h.out; have := hlen'h.out; omega, by go_num, hall2'h.out, hBw6'h.out⟩
    · have i3 : ¬ (j : Int) < (n : Int) := by omega
      have hjn : (List.range n).all (fun i => !blockB l met k i) = true := by
        rw [List.all_eq_true]
        intro i hi
        rw [hall i (by have := List.mem_range.1 hi; omega)]; rfl
      have hR2 : R = (!mk && !rg) := by rw [hR'h.out, hjn]; rfl
      have c9 := LnAt.was hLr (i := k) (by have := h80'h.out; have := hk'h.out; omega)
      rw [← hmk'h.out] at c9
      have i5 : (k : Int) < 80 := by have := h80'h.out; have := hk'h.out; omega
      have i4 : (0 : Int) ≤ (k : Int) := by omega
      obtain ⟨b0, b1, b2, b3, b4, b5, b6, b7, b8, b9, ba, bb, bc⟩ := cells13 hbr
      clear hall hj hjn hLr hbr hB
      have hB01'h := Lib.hid hB01
      have hR2'h := Lib.hid hR2
      clear hB01 hR2
      cases mk with
      | true =>
        obtain rfl : R = false := hR2'h.out
        go_wp2
        go_ret
        exact ⟨rfl, hB01'h.out⟩
      | false =>
        go_wp2_with fail
        refine (RG'h.out _).mono ?_
        rintro e w5 ⟨rfl, hB5⟩
        have hfin := below_next hB01'h.out hB5
        clear hB5 c9 b0 b1 b2 b3 b4 b5 b6 b7 b8 b9 ba bb bc
        have hfin'h := Lib.hid hfin
        clear hfin
        go_wp2
        go_ret
        exact ⟨ret_bool (by rw [hR2'h.out]; rfl), hfin'h.out⟩
end Go.Proofs.YtogeohjeabbmaaaDoor

/-
  Layer 27 (order): is the line whole?
-/
set_option linter.unusedSimpArgs false
set_option linter.unusedVariables false
set_option maxRecDepth 100000
namespace Go.Proofs.YtogeohjeabbmaaaDoor
open Go.RowKit

def outB (l : List Mm) (met : Nat → Bool) (i : Nat) : Bool := decide ((nthM l i).md.over ≠ 0) && !rangesM (nthM l i).md && !met i
set_option maxHeartbeats 8000000 in
theorem whole_any (lb : Nat) (mp : Option Addr) (mn mc : Nat) (sp : Option Addr) (n cap : Nat) (l : List Mm) (met : Nat → Bool) (w : World) (hL : LnAt w lb mp mn mc sp n cap met) (h : MsIn w sp n l) (h80 : n ≤ 80) :
    Calls Tryd.prog 62 #[.pointer (some ⟨lb, 0, none⟩)] w fun e w' => e = .returned (.bool (wholeB l met)) ∧ Below w.heap.size w w' := by
  have hlen := h.len
  obtain ⟨R, hR⟩ : ∃ R, R = wholeB l met := ⟨_, rfl⟩
  rw [← hR]
  replace hR : R = (List.range n).all (fun i => !outB l met i) := by rw [hR, hlen]; rfl
  have y1 := hL.c1
  have hR'h := Lib.hid hR
  have hL'h := Lib.hid hL
  have h'h := Lib.hid h
  have hlen'h := Lib.hid hlen
  have h80'h := Lib.hid h80
  clear hR hL h hlen h80
  go_enter Tryd.func62, Tryd.ntmps62
  go_wp2
  clear y1
  go_loopg [10] n (fun q ix wr => ∃ j : Nat, j + q = n ∧ ix = .int .i64 (j : Int) ∧ (∀ i, i < j → outB l met i = false) ∧ Below w.heap.size w wr)
  case atStart => exact ⟨0, by omega, rfl, fun i hi => by omega, Below.refl _ _⟩
  case round =>
    obtain ⟨j, hj, rfl, hall, hB⟩ := hrel
    by_cases hlt : j < n
    · have hLr := hL'h.out.below hB
      have i3 : (j : Int) < (n : Int) := by omega
      have i4 : (0 : Int) ≤ (j : Int) := by omega
      have i5 : (j : Int) < 80 := by have := h80'h.out; omega
      have hj80 : j < 80 := by have := h80'h.out; omega
      have hS := h'h.out.below hB
      have hjl : j < l.length := by have := hlen'h.out; omega
      obtain ⟨b, off, rfl⟩ := slk_some hS.sl (by omega)
      obtain ⟨x, hx⟩ : ∃ x, x = nthM l j := ⟨_, rfl⟩
      have hcl := fun (i : Nat) (v : Value) (hi : i < 13) (hv : (mmL x)[i]? = some v) => hS.cells hjl (i := i) (v := v) hi (by rw [← hx]; exact hv)
      have hbj : outB l met j = (decide (x.md.over ≠ 0) && !rangesM x.md && !met j) := by rw [hx]; rfl
      have RX := fun W => ranges_any x W
      obtain ⟨rx, hrx⟩ : ∃ rx, rx = rangesM x.md := ⟨_, rfl⟩
      rw [← hrx] at RX hbj
      have hB2 := (Below.refl wr.heap.size wr).alloc (Nat.le_refl _) (.cells (mmA x) 39)
      have hb2 := World.alloc_heap_new wr (.cells (mmA x) 39)
      have hLr2 := hLr.below hB2
      have hBw := below_next hB hB2
      clear hrx hx hS hLr
      obtain ⟨⟨goerx, ⟨opx, kyx, cax, cbx⟩, ⟨errx, valx, donex⟩, prsx, beganx, atx, overx, toldx⟩, ppx, pnx, pcx, tpx, tnx, tcx⟩ := x
      have e0 := hcl 0 _ (by omega) rfl
      have e1 := hcl 1 _ (by omega) rfl
      have e2 := hcl 2 _ (by omega) rfl
      have e3 := hcl 3 _ (by omega) rfl
      have e4 := hcl 4 _ (by omega) rfl
      have e5 := hcl 5 _ (by omega) rfl
      have e6 := hcl 6 _ (by omega) rfl
      have e7 := hcl 7 _ (by omega) rfl
      have e8 := hcl 8 _ (by omega) rfl
      have e9 := hcl 9 _ (by omega) rfl
      have ea := hcl 10 _ (by omega) rfl
      have eb := hcl 11 _ (by omega) rfl
      have ec := hcl 12 _ (by omega) rfl
      simp only [Nat.add_zero] at e0
      simp only [mmA] at *
      clear hcl
      obtain ⟨W2, hW2⟩ : ∃ W2, W2 = wr.alloc (.cells #[.int .i64 goerx, .int .i64 opx, .int .u64 (kyx : Int), .int .u64 (cax : Int), .int .u64 (cbx : Int), .int .i64 errx, .int .u64 (valx : Int), .bool donex, .slice ppx pnx pcx, .int .i64 beganx, .int .i64 atx, .int .i64 overx, .slice tpx tnx tcx] 39) := ⟨_, rfl⟩
      rw [← hW2] at hb2 hLr2 hBw
      have hj'h := Lib.hid hj
      have hall'h := Lib.hid hall
      have hbj'h := Lib.hid hbj
      have RX'h := Lib.hid RX
      have hb2'h := Lib.hid hb2
      have hLr2'h := Lib.hid hLr2
      have hBw'h := Lib.hid hBw
      have hj80'h := Lib.hid hj80
      have hjl'h := Lib.hid hjl
      clear hj hall hbj RX hb2 hLr2 hBw hj80 hjl
      clear hB2 hB hlt
      go_upto_region 4 with fail
      rw [← hW2]
      clear hW2 e0 e1 e2 e3 e4 e5 e6 e7 e8 e9 ea eb ec
      obtain ⟨a0, a1, a2, a3, a4, a5, a6, a7, a8, a9, aa, ab, ac⟩ := cells13 hb2'h.out
      by_cases ho : overx = 0
      · have i6 : (overx != 0) = false := by simp [ho]
        have hbf : outB l met j = false := by rw [hbj'h.out]; simp [ho]
        clear ho
        have hbf'h := Lib.hid hbf
        clear hbf
        have hall2 : ∀ i, i < j + 1 → outB l met i = false := fun i hi => by
          by_cases e : i = j
          · rw [e]; exact hbf'h.out
          · exact hall'h.out i (by omega)
        have i8 : (j : Int) + 1 ≤ 1000 := by omega
        have hall2'h := Lib.hid hall2
        clear hall2
        go_wp2
        go_roundg (gk - 1)
        case measure => have := hj'h.out; have := hjl'h.out; have := hlen'h.out; omega
        case rel => exact ⟨j + 1, by have := hj'h.out; have := hjl'h.out; have := hlen'h.out; omega, by go_num, hall2'h.out, hBw'h.out⟩
      · have i6 : (overx != 0) = true := by simp [ho]
        go_wp2_with fail
        refine (RX'h.out _).mono ?_
        rintro e w5 ⟨rfl, hB5⟩
        have hBw5 := below_next hBw'h.out hB5
        have c9 := (hLr2'h.out.below hB5).was hj80'h.out
        clear hB5 a0 a1 a2 a3 a4 a5 a6 a7 a8 a9 aa ab ac
        cases rx with
        | true =>
          have hbf : outB l met j = false := by rw [hbj'h.out]; simp
          clear c9 ho
          have hbf'h := Lib.hid hbf
          have hBw5'h := Lib.hid hBw5
          clear hbf hBw5
          have hall2 : ∀ i, i < j + 1 → outB l met i = false := fun i hi => by
            by_cases e : i = j
            · rw [e]; exact hbf'h.out
            · exact hall'h.out i (by omega)
          have i8 : (j : Int) + 1 ≤ 1000 := by omega
          have hall2'h := Lib.hid hall2
          clear hall2
          go_wp2
          go_roundg (gk - 1)
          case measure => have := hj'h.out; have := hjl'h.out; have := hlen'h.out; omega
          case rel => exact ⟨j + 1, by have := hj'h.out; have := hjl'h.out; have := hlen'h.out; omega, by go_num, hall2'h.out, hBw5'h.out⟩
        | false =>
          cases hmj : met j with
          | true =>
            rw [hmj] at c9
            have hbf : outB l met j = false := by rw [hbj'h.out, hmj]; simp
            clear hmj ho
            have hbf'h := Lib.hid hbf
            have hBw5'h := Lib.hid hBw5
            clear hbf hBw5
            have hall2 : ∀ i, i < j + 1 → outB l met i = false := fun i hi => by
              by_cases e : i = j
              · rw [e]; exact hbf'h.out
              · exact hall'h.out i (by omega)
            have i8 : (j : Int) + 1 ≤ 1000 := by omega
            have hall2'h := Lib.hid hall2
            clear hall2
            go_wp2
            go_roundg (gk - 1)
            case measure => have := hj'h.out; have := hjl'h.out; have := hlen'h.out; omega
            case rel => exact ⟨j + 1, by have := hj'h.out; have := hjl'h.out; have := hlen'h.out; omega, by go_num, hall2'h.out, hBw5'h.out⟩
          | false =>
            rw [hmj] at c9
            have hbv : outB l met j = true := by rw [hbj'h.out, hmj]; simp [ho]
            obtain rfl : R = false := by
              rw [hR'h.out, List.all_eq_false]
              exact ⟨j, List.mem_range.2 (by omega), by rw [hbv]; simp⟩
            clear hmj ho hbv
            have hBw5'h := Lib.hid hBw5
            clear hBw5
            go_wp2
            go_ret
            exact ⟨rfl, hBw5'h.out⟩
    · have i3 : ¬ (j : Int) < (n : Int) := by omega
      obtain rfl : R = true := by
        rw [hR'h.out, List.all_eq_true]
        intro i hi
        rw [hall i (by have := List.mem_range.1 hi; omega)]; rfl
      clear hall hj hlt
      have hB'h := Lib.hid hB
      clear hB
      go_wp2
      go_ret
      exact ⟨rfl, hB'h.out⟩
end Go.Proofs.YtogeohjeabbmaaaDoor

