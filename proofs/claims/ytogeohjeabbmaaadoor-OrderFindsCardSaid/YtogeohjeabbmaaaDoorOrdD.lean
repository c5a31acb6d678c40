/-
  Layer 27 (order): may calls be?
-/
import Derived.Test.YtogeohjeabbmaaaDoorOrdC
set_option linter.unusedSimpArgs false
set_option linter.unusedVariables false
set_option maxRecDepth 100000
namespace Go.Proofs.YtogeohjeabbmaaaDoor
open Go.RowKit

theorem chk1_any (x y : Mm) (g0 : Nat) (w : World) (hg : w.heap[g0]? = some (.cells (mmA x) 39 (0, 0))) :
    Calls Tryd.prog 30 #[.agg (mmA y), .pointer (some ⟨g0, 0, none⟩)] w fun e w' => e = .returned (.bool (apartM x.md y.md)) ∧ Below w.heap.size w w' := by
  have hB : Below w.heap.size w (w.alloc (.cells (mmA y) 39)) := (Below.refl _ _).alloc (Nat.le_refl _) _
  have hg1 := heap_below hB hg (lt_of_heap hg)
  have hb1 := World.alloc_heap_new w (.cells (mmA y) 39)
  have A1 := fun W => ahead_any x y W
  have A2 := fun W => ahead_any y x W
  obtain ⟨p, hp⟩ : ∃ p, p = aheadM x.md y.md := ⟨_, rfl⟩
  obtain ⟨q, hq⟩ : ∃ q, q = aheadM y.md x.md := ⟨_, rfl⟩
  rw [← hp] at A1
  rw [← hq] at A2
  have e : apartM x.md y.md = (decide (x.md.goer ≠ y.md.goer) || p || q) := by rw [hp, hq]; rfl
  rw [e]
  clear hp hq e hg
  obtain ⟨⟨goerx, ⟨opx, kyx, cax, cbx⟩, ⟨errx, valx, donex⟩, prsx, beganx, atx, overx, toldx⟩, ppx, pnx, pcx, tpx, tnx, tcx⟩ := x
  obtain ⟨⟨goery, ⟨opy, kyy, cay, cby⟩, ⟨erry, valy, doney⟩, prsy, begany, aty, overy, toldy⟩, ppy, pny, pcy, tpy, tny, tcy⟩ := y
  simp only [mmA] at *
  obtain ⟨a0, a1, a2, a3, a4, a5, a6, a7, a8, a9, aa, ab, ac⟩ := cells13 hg1
  obtain ⟨b0, b1, b2, b3, b4, b5, b6, b7, b8, b9, ba, bb, bc⟩ := cells13 hb1
  by_cases h : goerx = goery
  · have i1 : (goerx != goery) = false := by simp [h]
    have hd : decide (goerx ≠ goery) = false := by simp [h]
    rw [hd]
    clear hd h
    cases p with
    | true =>
      have A1'h := Lib.hid A1
      have A2'h := Lib.hid A2
      have hB'h := Lib.hid hB
      have hg1'h := Lib.hid hg1
      have hb1'h := Lib.hid hb1
      clear A1 A2 hB hg1 hb1
      go_enter Tryd.func30, Tryd.ntmps30
      go_wp2_with fail
      refine (A1'h.out _).mono ?_
      rintro e w2 ⟨rfl, hB2⟩
      have hfin := below_next hB'h.out hB2
      clear hB2 a0 a1 a2 a3 a4 a5 a6 a7 a8 a9 aa ab ac b0 b1 b2 b3 b4 b5 b6 b7 b8 b9 ba bb bc
      have hfin'h := Lib.hid hfin
      clear hfin
      go_wp2
      go_ret
      exact ⟨rfl, hfin'h.out⟩
    | false =>
      have A1'h := Lib.hid A1
      have A2'h := Lib.hid A2
      have hB'h := Lib.hid hB
      have hg1'h := Lib.hid hg1
      have hb1'h := Lib.hid hb1
      clear A1 A2 hB hg1 hb1
      go_enter Tryd.func30, Tryd.ntmps30
      go_wp2_with fail
      refine (A1'h.out _).mono ?_
      rintro e w2 ⟨rfl, hB2⟩
      have hB3 := below_next hB'h.out hB2
      have hg2 := heap_below hB2 hg1'h.out (lt_of_heap hg1'h.out)
      have hb2 := heap_below hB2 hb1'h.out (lt_of_heap hb1'h.out)
      clear hB2 a0 a1 a2 a3 a4 a5 a6 a7 a8 a9 aa ab ac b0 b1 b2 b3 b4 b5 b6 b7 b8 b9 ba bb bc
      obtain ⟨a0, a1, a2, a3, a4, a5, a6, a7, a8, a9, aa, ab, ac⟩ := cells13 hg2
      obtain ⟨b0, b1, b2, b3, b4, b5, b6, b7, b8, b9, ba, bb, bc⟩ := cells13 hb2
      clear hg2 hb2
      have hB3'h := Lib.hid hB3
      clear hB3
      go_wp2_with fail
      refine (A2'h.out _).mono ?_
      rintro e w4 ⟨rfl, hB4⟩
      have hfin := below_next hB3'h.out hB4
      clear hB4 a0 a1 a2 a3 a4 a5 a6 a7 a8 a9 aa ab ac b0 b1 b2 b3 b4 b5 b6 b7 b8 b9 ba bb bc
      have hfin'h := Lib.hid hfin
      clear hfin
      go_wp2
      go_ret
      exact ⟨ret_bool (by simp), hfin'h.out⟩
  · have i1 : (goerx != goery) = true := by simp [h]
    have hd : decide (goerx ≠ goery) = true := by simp [h]
    rw [hd]
    clear hd h A1 A2 hg1 hb1
    have hB'h := Lib.hid hB
    clear hB
    go_enter Tryd.func30, Tryd.ntmps30
    go_wp2
    go_ret
    exact ⟨ret_bool (by simp), hB'h.out⟩
/-- Is each call apart from those ahead of it in the row? -/
def apartsM (l : List Mm) (i : Nat) : Bool := (l.take i).all fun b => apartM (nthM l i).md b.md
def checkB (l : List Mm) : Bool := decide (l.length ≤ 80) && l.all (fun m => rightM m.md) && (List.range l.length).all (apartsM l)
theorem mms_take (l : List Mm) (k : Nat) : (mms l).take (k * 13) = mms (l.take k) := flat_take mmL_len l k
theorem MsIn.take {w : World} {sp : Option Addr} {n : Nat} {l : List Mm} (h : MsIn w sp n l) {k : Nat} (hk : k ≤ n) : MsIn w sp k (l.take k) :=
  ⟨by rw [← mms_take]; exact h.sl.take k hk, fun m hm => h.each m (List.mem_of_mem_take hm)⟩
set_option maxHeartbeats 4000000 in
theorem checkM_any (sp : Option Addr) (n cap : Nat) (l : List Mm) (w : World) (hT : Tks w) (h : MsIn w sp n l) (hle : n ≤ cap) :
    Calls Tryd.prog 9 #[.slice sp n cap] w fun e w' => e = .returned (.int .i64 (if checkB l = true then 0 else 370)) ∧ Below w.heap.size w w' := by
  have hlen := h.len
  have hmax := h.sl.2.1
  unfold maxLen at hmax
  obtain ⟨R, hR⟩ : ∃ R, R = checkB l := ⟨_, rfl⟩
  rw [← hR]
  unfold checkB at hR
  rw [← hlen] at hR
  have A := allR_any sp n cap l (fun m => rightM m.md) w h (fun x hx W hW => rightM_any x W (hT.next hW) ((h.each x hx).below hW))
  by_cases h80 : n ≤ 80
  · have i1 : ¬ (n : Int) > 80 := by omega
    rw [decide_eq_true h80, Bool.true_and] at hR
    generalize hal : l.all (fun m => rightM m.md) = al at A hR
    cases al with
    | false =>
      obtain rfl : R = false := by rw [hR]; rfl
      have A'h := Lib.hid A
      have hR'h := Lib.hid hR
      have h80'h := Lib.hid h80
      have hlen'h := Lib.hid hlen
      clear A hR h80 hlen
      go_enter Tryd.func9, Tryd.ntmps9
      go_wp2_with fail
      refine A'h.out.mono ?_
      rintro e w2 ⟨rfl, hB2⟩
      have hB2'h := Lib.hid hB2
      clear hB2
      go_wp2
      go_ret
      exact ⟨rfl, hB2'h.out⟩
    | true =>
      rw [Bool.true_and] at hR
      have A'h := Lib.hid A
      have hR'h := Lib.hid hR
      have h80'h := Lib.hid h80
      have hlen'h := Lib.hid hlen
      have hT'h := Lib.hid hT
      have h'h := Lib.hid h
      have hle'h := Lib.hid hle
      have hmax'h := Lib.hid hmax
      have hal'h := Lib.hid hal
      clear A hR h80 hlen hT h hle hmax hal
      go_enter Tryd.func9, Tryd.ntmps9
      go_wp2_with fail
      refine A'h.out.mono ?_
      rintro e w2 ⟨rfl, hB2⟩
      have hB2'h := Lib.hid hB2
      clear hB2
      go_wp2
      go_loopg [16] n (fun q ix wr => ∃ j : Nat, j + q = n ∧ ix = .int .i64 (j : Int) ∧ (∀ i, i < j → apartsM l i = true) ∧ Below w.heap.size w wr)
      case atStart => exact ⟨0, by omega, rfl, fun i hi => by omega, hB2'h.out⟩
      case round =>
        obtain ⟨j, hj, rfl, hall, hB⟩ := hrel
        by_cases hlt : j < n
        · have i3 : (j : Int) < (n : Int) := by omega
          have i4 : (0 : Int) ≤ (j : Int) := by omega
          have i5 : (j : Int) + 1 ≤ 9223372036854775807 := by have := hmax'h.out; omega
          have i6 : (j : Int) ≤ (cap : Int) := by have := hle'h.out; omega
          have i7 : ¬ (j : Int) < 0 := by omega
          have hjl : j < l.length := by have := hlen'h.out; omega
          have hS := h'h.out.below hB
          obtain ⟨b, off, rfl⟩ := slk_some hS.sl (by omega)
          obtain ⟨c, hc⟩ : ∃ c, c = nthM l j := ⟨_, rfl⟩
          have hcl := fun (i : Nat) (v : Value) (hi : i < 13) (hv : (mmL c)[i]? = some v) => hS.cells hjl (i := i) (v := v) hi (by rw [← hc]; exact hv)
          have hap : apartsM l j = (l.take j).all fun b => apartM c.md b.md := by rw [hc]; rfl
          have hB3 := hB.alloc hB.size (.cells (mmA c) 39)
          have hBc := (Below.refl wr.heap.size wr).alloc (Nat.le_refl _) (.cells (mmA c) 39)
          have hbc := World.alloc_heap_new wr (.cells (mmA c) 39)
          have AK := allK_any (some ⟨b, off, none⟩) j cap (l.take j) (fun y => apartM c.md y.md) wr.heap.size (wr.alloc (.cells (mmA c) 39)) ((hS.below hBc).take (by omega)) (fun y hy W hW => chk1_any c y wr.heap.size W (heap_below hW hbc (lt_of_heap hbc)))
          rw [← hap] at AK
          obtain ⟨⟨goerc, ⟨opc, kyc, cac, cbc⟩, ⟨errc, valc, donec⟩, prsc, beganc, atc, overc, toldc⟩, ppc, pnc, pcc, tpc, tnc, tcc⟩ := c
          have e0 := hcl 0 _ (by omega) rfl
          have e1 := hcl 1 _ (by omega) rfl
          have e2 := hcl 2 _ (by omega) rfl
          have e3 := hcl 3 _ (by omega) rfl
          have e4 := hcl 4 _ (by omega) rfl
          have e5 := hcl 5 _ (by omega) rfl
          have e6 := hcl 6 _ (by omega) rfl
          have e7 := hcl 7 _ (by omega) rfl
          have e8 := hcl 8 _ (by omega) rfl
          have e9 := hcl 9 _ (by omega) rfl
          have ea := hcl 10 _ (by omega) rfl
          have eb := hcl 11 _ (by omega) rfl
          have ec := hcl 12 _ (by omega) rfl
          simp only [mmA] at *
          simp only [Nat.add_zero] at e0
          obtain ⟨v, hv⟩ : ∃ v, v = apartsM l j := ⟨_, rfl⟩
          rw [← hv] at AK
          clear hcl hap hS hBc hbc hc
          cases v with
          | false =>
            obtain rfl : R = false := by
              rw [hR'h.out, List.all_eq_false]
              exact ⟨j, List.mem_range.2 hlt, by rw [← hv]; simp⟩
            have hj'h := Lib.hid hj
            have hall'h := Lib.hid hall
            have hB3'h := Lib.hid hB3
            have hB'h := Lib.hid hB
            have AK'h := Lib.hid AK
            have hv'h := Lib.hid hv
            clear hj hall hB3 hB AK hv
            go_wp2_with fail
            refine AK'h.out.mono ?_
            rintro e w5 ⟨rfl, hB5⟩
            have hfin := below_next hB3'h.out hB5
            clear hB5 hB3'h AK'h hB'h e0 e1 e2 e3 e4 e5 e6 e7 e8 e9 ea eb ec
            have hfin'h := Lib.hid hfin
            clear hfin
            clear i3 i4 i5 i6 i7 hlt hjl i1
            go_wp2
            go_ret
            exact ⟨rfl, hfin'h.out⟩
          | true =>
            have hall2 : ∀ i, i < j + 1 → apartsM l i = true := fun i hi => by
              by_cases e : i = j
              · rw [e, ← hv]
              · exact hall i (by omega)
            have hj'h := Lib.hid hj
            have hall2'h := Lib.hid hall2
            have hB3'h := Lib.hid hB3
            have hB'h := Lib.hid hB
            have AK'h := Lib.hid AK
            have hv'h := Lib.hid hv
            have hall'h := Lib.hid hall
            clear hj hall2 hB3 hB AK hv hall
            go_wp2_with fail
            refine AK'h.out.mono ?_
            rintro e w5 ⟨rfl, hB5⟩
            have hfin := below_next hB3'h.out hB5
            clear hB5 hB3'h AK'h hB'h e0 e1 e2 e3 e4 e5 e6 e7 e8 e9 ea eb ec
            have hfin'h := Lib.hid hfin
            clear hfin
            go_wp2
            go_roundg (gk - 1)
            case measure => have := hj'h.out; omega
            case rel => exact ⟨j + 1, by have := hj'h.out; omega, by go_num, hall2'h.out, hfin'h.out⟩
        · have i3 : ¬ (j : Int) < (n : Int) := by omega
          obtain rfl : R = true := by
            rw [hR'h.out, List.all_eq_true]
            intro i hi
            exact hall i (by have := List.mem_range.1 hi; omega)
          clear hall hj
          have hB'h := Lib.hid hB
          clear hB
          go_wp2
          go_ret
          exact ⟨rfl, hB'h.out⟩
  · have i1 : (n : Int) > 80 := by omega
    obtain rfl : R = false := by rw [hR, decide_eq_false h80]; rfl
    clear hR A h80 hlen hmax
    go_enter Tryd.func9, Tryd.ntmps9
    go_wp2
    go_ret
    exact ⟨rfl, Below.refl _ _⟩
end Go.Proofs.YtogeohjeabbmaaaDoor
