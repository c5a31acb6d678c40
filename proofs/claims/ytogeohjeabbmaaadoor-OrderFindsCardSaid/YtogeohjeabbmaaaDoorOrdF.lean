/-
  Layer 27 (order): is the line whole?
-/
import Derived.Test.YtogeohjeabbmaaaDoorOrdE
set_option linter.unusedSimpArgs false
set_option linter.unusedVariables false
set_option maxRecDepth 100000
namespace Go.Proofs.YtogeohjeabbmaaaDoor
open Go.RowKit

def outB (l : List Mm) (met : Nat → Bool) (i : Nat) : Bool := decide ((nthM l i).md.over ≠ 0) && !rangesM (nthM l i).md && !met i
set_option maxHeartbeats 8000000 in
theorem whole_any (lb : Nat) (mp : Option Addr) (mn mc : Nat) (sp : Option Addr) (n cap : Nat) (l : List Mm) (met : Nat → Bool) (w : World) (hL : LnAt w lb mp mn mc sp n cap met) (h : MsIn w sp n l) (h80 : n ≤ 80) :
    Calls Tryd.prog 62 #[.pointer (some ⟨lb, 0, none⟩)] w fun e w' => e = .returned (.bool (wholeB l met)) ∧ Below w.heap.size w w' := by
  have hlen := h.len
  obtain ⟨R, hR⟩ : ∃ R, R = wholeB l met := ⟨_, rfl⟩
  rw [← hR]
  replace hR : R = (List.range n).all (fun i => !outB l met i) := by rw [hR, hlen]; rfl
  have y1 := hL.c1
  have hR'h := Lib.hid hR
  have hL'h := Lib.hid hL
  have h'h := Lib.hid h
  have hlen'h := Lib.hid hlen
  have h80'h := Lib.hid h80
  clear hR hL h hlen h80
  go_enter Tryd.func62, Tryd.ntmps62
  go_wp2
  clear y1
  go_loopg [10] n (fun q ix wr => ∃ j : Nat, j + q = n ∧ ix = .int .i64 (j : Int) ∧ (∀ i, i < j → outB l met i = false) ∧ Below w.heap.size w wr)
  case atStart => exact ⟨0, by omega, rfl, fun i hi => by omega, Below.refl _ _⟩
  case round =>
    obtain ⟨j, hj, rfl, hall, hB⟩ := hrel
    by_cases hlt : j < n
    · have hLr := hL'h.out.below hB
      have i3 : (j : Int) < (n : Int) := by omega
      have i4 : (0 : Int) ≤ (j : Int) := by omega
      have i5 : (j : Int) < 80 := by have := h80'h.out; omega
      have hj80 : j < 80 := by have := h80'h.out; omega
      have hS := h'h.out.below hB
      have hjl : j < l.length := by have := hlen'h.out; omega
      obtain ⟨b, off, rfl⟩ := slk_some hS.sl (by omega)
      obtain ⟨x, hx⟩ : ∃ x, x = nthM l j := ⟨_, rfl⟩
      have hcl := fun (i : Nat) (v : Value) (hi : i < 13) (hv : (mmL x)[i]? = some v) => hS.cells hjl (i := i) (v := v) hi (by rw [← hx]; exact hv)
      have hbj : outB l met j = (decide (x.md.over ≠ 0) && !rangesM x.md && !met j) := by rw [hx]; rfl
      have RX := fun W => ranges_any x W
      obtain ⟨rx, hrx⟩ : ∃ rx, rx = rangesM x.md := ⟨_, rfl⟩
      rw [← hrx] at RX hbj
      have hB2 := (Below.refl wr.heap.size wr).alloc (Nat.le_refl _) (.cells (mmA x) 39)
      have hb2 := World.alloc_heap_new wr (.cells (mmA x) 39)
      have hLr2 := hLr.below hB2
      have hBw := below_next hB hB2
      clear hrx hx hS hLr
      obtain ⟨⟨goerx, ⟨opx, kyx, cax, cbx⟩, ⟨errx, valx, donex⟩, prsx, beganx, atx, overx, toldx⟩, ppx, pnx, pcx, tpx, tnx, tcx⟩ := x
      have e0 := hcl 0 _ (by omega) rfl
      have e1 := hcl 1 _ (by omega) rfl
      have e2 := hcl 2 _ (by omega) rfl
      have e3 := hcl 3 _ (by omega) rfl
      have e4 := hcl 4 _ (by omega) rfl
      have e5 := hcl 5 _ (by omega) rfl
      have e6 := hcl 6 _ (by omega) rfl
      have e7 := hcl 7 _ (by omega) rfl
      have e8 := hcl 8 _ (by omega) rfl
      have e9 := hcl 9 _ (by omega) rfl
      have ea := hcl 10 _ (by omega) rfl
      have eb := hcl 11 _ (by omega) rfl
      have ec := hcl 12 _ (by omega) rfl
      simp only [Nat.add_zero] at e0
      simp only [mmA] at *
      clear hcl
      obtain ⟨W2, hW2⟩ : ∃ W2, W2 = wr.alloc (.cells #[.int .i64 goerx, .int .i64 opx, .int .u64 (kyx : Int), .int .u64 (cax : Int), .int .u64 (cbx : Int), .int .i64 errx, .int .u64 (valx : Int), .bool donex, .slice ppx pnx pcx, .int .i64 beganx, .int .i64 atx, .int .i64 overx, .slice tpx tnx tcx] 39) := ⟨_, rfl⟩
      rw [← hW2] at hb2 hLr2 hBw
      have hj'h := Lib.hid hj
      have hall'h := Lib.hid hall
      have hbj'h := Lib.hid hbj
      have RX'h := Lib.hid RX
      have hb2'h := Lib.hid hb2
      have hLr2'h := Lib.hid hLr2
      have hBw'h := Lib.hid hBw
      have hj80'h := Lib.hid hj80
      have hjl'h := Lib.hid hjl
      clear hj hall hbj RX hb2 hLr2 hBw hj80 hjl
      clear hB2 hB hlt
      go_upto_region 4 with fail
      rw [← hW2]
      clear hW2 e0 e1 e2 e3 e4 e5 e6 e7 e8 e9 ea eb ec
      obtain ⟨a0, a1, a2, a3, a4, a5, a6, a7, a8, a9, aa, ab, ac⟩ := cells13 hb2'h.out
      by_cases ho : overx = 0
      · have i6 : (overx != 0) = false := by simp [ho]
        have hbf : outB l met j = false := by rw [hbj'h.out]; simp [ho]
        clear ho
        have hbf'h := Lib.hid hbf
        clear hbf
        have hall2 : ∀ i, i < j + 1 → outB l met i = false := fun i hi => by
          by_cases e : i = j
          · rw [e]; exact hbf'h.out
          · exact hall'h.out i (by omega)
        have i8 : (j : Int) + 1 ≤ 1000 := by omega
        have hall2'h := Lib.hid hall2
        clear hall2
        go_wp2
        go_roundg (gk - 1)
        case measure => have := hj'h.out; have := hjl'h.out; have := hlen'h.out; omega
        case rel => exact ⟨j + 1, by have := hj'h.out; have := hjl'h.out; have := hlen'h.out; omega, by go_num, hall2'h.out, hBw'h.out⟩
      · have i6 : (overx != 0) = true := by simp [ho]
        go_wp2_with fail
        refine (RX'h.out _).mono ?_
        rintro e w5 ⟨rfl, hB5⟩
        have hBw5 := below_next hBw'h.out hB5
        have c9 := (hLr2'h.out.below hB5).was hj80'h.out
        clear hB5 a0 a1 a2 a3 a4 a5 a6 a7 a8 a9 aa ab ac
        cases rx with
        | true =>
          have hbf : outB l met j = false := by rw [hbj'h.out]; simp
          clear c9 ho
          have hbf'h := Lib.hid hbf
          have hBw5'h := Lib.hid hBw5
          clear hbf hBw5
          have hall2 : ∀ i, i < j + 1 → outB l met i = false := fun i hi => by
            by_cases e : i = j
            · rw [e]; exact hbf'h.out
            · exact hall'h.out i (by omega)
          have i8 : (j : Int) + 1 ≤ 1000 := by omega
          have hall2'h := Lib.hid hall2
          clear hall2
          go_wp2
          go_roundg (gk - 1)
          case measure => have := hj'h.out; have := hjl'h.out; have := hlen'h.out; omega
          case rel => exact ⟨j + 1, by have := hj'h.out; have := hjl'h.out; have := hlen'h.out; omega, by go_num, hall2'h.out, hBw5'h.out⟩
        | false =>
          cases hmj : met j with
          | true =>
            rw [hmj] at c9
            have hbf : outB l met j = false := by rw [hbj'h.out, hmj]; simp
            clear hmj ho
            have hbf'h := Lib.hid hbf
            have hBw5'h := Lib.hid hBw5
            clear hbf hBw5
            have hall2 : ∀ i, i < j + 1 → outB l met i = false := fun i hi => by
              by_cases e : i = j
              · rw [e]; exact hbf'h.out
              · exact hall'h.out i (by omega)
            have i8 : (j : Int) + 1 ≤ 1000 := by omega
            have hall2'h := Lib.hid hall2
            clear hall2
            go_wp2
            go_roundg (gk - 1)
            case measure => have := hj'h.out; have := hjl'h.out; have := hlen'h.out; omega
            case rel => exact ⟨j + 1, by have := hj'h.out; have := hjl'h.out; have := hlen'h.out; omega, by go_num, hall2'h.out, hBw5'h.out⟩
          | false =>
            rw [hmj] at c9
            have hbv : outB l met j = true := by rw [hbj'h.out, hmj]; simp [ho]
            obtain rfl : R = false := by
              rw [hR'h.out, List.all_eq_false]
              exact ⟨j, List.mem_range.2 (by omega), by rw [hbv]; simp⟩
            clear hmj ho hbv
            have hBw5'h := Lib.hid hBw5
            clear hBw5
            go_wp2
            go_ret
            exact ⟨rfl, hBw5'h.out⟩
    · have i3 : ¬ (j : Int) < (n : Int) := by omega
      obtain rfl : R = true := by
        rw [hR'h.out, List.all_eq_true]
        intro i hi
        rw [hall i (by have := List.mem_range.1 hi; omega)]; rfl
      clear hall hj hlt
      have hB'h := Lib.hid hB
      clear hB
      go_wp2
      go_ret
      exact ⟨rfl, hB'h.out⟩
end Go.Proofs.YtogeohjeabbmaaaDoor
