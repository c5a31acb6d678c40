/-
  Layer 27 (order): does something hold of all calls of a row?
-/
import Derived.Test.YtogeohjeabbmaaaDoorOrdB
import Derived.Deep.LoopGhost
set_option linter.unusedSimpArgs false
set_option linter.unusedVariables false
set_option maxRecDepth 100000
namespace Go.Proofs.YtogeohjeabbmaaaDoor
open Go.RowKit

theorem allR_one (x : Mm) (q : Bool) (g : Nat) (w : World) (hF : ∀ W, Below w.heap.size w W → Calls Tryd.prog 29 #[.agg (mmA x)] W fun e w' => e = .returned (.bool q) ∧ Below W.heap.size W w') (hg : w.cell? ⟨g, 0, none⟩ = some (.func (.func 29) #[] #[])) :
    Calls Tryd.prog 53 #[.agg (mmA x), .pointer (some ⟨g, 0, none⟩)] w fun e w' => e = .returned (.bool (!q)) ∧ Below w.heap.size w w' := by
  have hB1 : Below w.heap.size w (w.alloc (.cells (mmA x) 39)) := (Below.refl _ _).alloc (Nat.le_refl _) _
  have C := hF _ hB1
  have hg1 := (hB1.cell (p := ⟨g, 0, none⟩) (lt_of_cell hg)).trans hg
  clear hg hF
  obtain ⟨⟨goerx, ⟨opx, kyx, cax, cbx⟩, ⟨errx, valx, donex⟩, prsx, beganx, atx, overx, toldx⟩, ppx, pnx, pcx, tpx, tnx, tcx⟩ := x
  simp only [mmA] at *
  have C'h := Lib.hid C
  have hB1'h := Lib.hid hB1
  clear C hB1
  go_enter Tryd.func53, Tryd.ntmps53
  go_wp2_with fail
  refine C'h.out.mono ?_
  rintro e w2 ⟨rfl, hB2⟩
  have hBw2 := below_next hB1'h.out hB2
  clear hB2 C'h hB1'h hg1
  have hBw2'h := Lib.hid hBw2
  clear hBw2
  go_wp2
  go_ret
  exact ⟨ret_bool rfl, hBw2'h.out⟩
theorem allR_idx (sp : Option Addr) (n cap : Nat) (l : List Mm) (q : Mm → Bool) (g : Nat) (w : World) (h : MsIn w sp n l) (hF : ∀ x ∈ l, ∀ W, Below w.heap.size w W → Calls Tryd.prog 29 #[.agg (mmA x)] W fun e w' => e = .returned (.bool (q x)) ∧ Below W.heap.size W w') (hg : w.cell? ⟨g, 0, none⟩ = some (.func (.func 29) #[] #[])) :
    Calls Tryd.prog 71 #[.slice sp n cap, .func (.func 53) #[] #[.pointer (some ⟨g, 0, none⟩)]] w fun e w' => e = .returned (.int .i64 (idxG (fun x => !q x) l)) ∧ Below w.heap.size w w' := by
  have hlen := h.len
  have hmax := h.sl.2.1
  unfold maxLen at hmax
  have hlen'h := Lib.hid hlen
  have h'h := Lib.hid h
  have hg'h := Lib.hid hg
  have hF'h := Lib.hid hF
  have hmax'h := Lib.hid hmax
  clear hlen h hg hF hmax
  go_enter Tryd.func71, Tryd.ntmps71
  go_wp2
  go_loopg [8] n (fun k' i wr => ∃ k : Nat, k + k' = n ∧ i = .int .i64 k ∧ (∀ j, (h : j < k) → (h' : j < l.length) → (!q (l[j]'h')) = false) ∧ Below w.heap.size w wr)
  case atStart => exact ⟨0, by omega, rfl, fun j hj => by omega, Below.refl _ _⟩
  case round =>
    obtain ⟨k, hk, rfl, hall, hbr⟩ := hrel
    by_cases hlt : k < n
    · have hkl : k < l.length := by have := hlen'h.out; omega
      have hS := h'h.out.below hbr
      obtain ⟨b, off, rfl⟩ := slk_some hS.sl (by omega)
      obtain ⟨c, hc⟩ : ∃ c, c = nthM l k := ⟨_, rfl⟩
      have e0 : wr.cell? ⟨b, off + k * 13, none⟩ = some (.int .i64 c.md.goer) := hS.cells hkl (i := 0) (by omega) (by rw [← hc]; rfl)
      have e1 : wr.cell? ⟨b, off + k * 13 + 1, none⟩ = some (.int .i64 c.md.call.op) := hS.cells hkl (i := 1) (by omega) (by rw [← hc]; rfl)
      have e2 : wr.cell? ⟨b, off + k * 13 + 2, none⟩ = some (.int .u64 (c.md.call.key : Int)) := hS.cells hkl (i := 2) (by omega) (by rw [← hc]; rfl)
      have e3 : wr.cell? ⟨b, off + k * 13 + 3, none⟩ = some (.int .u64 (c.md.call.a : Int)) := hS.cells hkl (i := 3) (by omega) (by rw [← hc]; rfl)
      have e4 : wr.cell? ⟨b, off + k * 13 + 4, none⟩ = some (.int .u64 (c.md.call.b : Int)) := hS.cells hkl (i := 4) (by omega) (by rw [← hc]; rfl)
      have e5 : wr.cell? ⟨b, off + k * 13 + 5, none⟩ = some (.int .i64 c.md.ans.err) := hS.cells hkl (i := 5) (by omega) (by rw [← hc]; rfl)
      have e6 : wr.cell? ⟨b, off + k * 13 + 6, none⟩ = some (.int .u64 (c.md.ans.val : Int)) := hS.cells hkl (i := 6) (by omega) (by rw [← hc]; rfl)
      have e7 : wr.cell? ⟨b, off + k * 13 + 7, none⟩ = some (.bool c.md.ans.done) := hS.cells hkl (i := 7) (by omega) (by rw [← hc]; rfl)
      have e8 : wr.cell? ⟨b, off + k * 13 + 8, none⟩ = some (.slice c.pp c.pn c.pc) := hS.cells hkl (i := 8) (by omega) (by rw [← hc]; rfl)
      have e9 : wr.cell? ⟨b, off + k * 13 + 9, none⟩ = some (.int .i64 c.md.began) := hS.cells hkl (i := 9) (by omega) (by rw [← hc]; rfl)
      have ea : wr.cell? ⟨b, off + k * 13 + 10, none⟩ = some (.int .i64 c.md.at') := hS.cells hkl (i := 10) (by omega) (by rw [← hc]; rfl)
      have eb : wr.cell? ⟨b, off + k * 13 + 11, none⟩ = some (.int .i64 c.md.over) := hS.cells hkl (i := 11) (by omega) (by rw [← hc]; rfl)
      have ec : wr.cell? ⟨b, off + k * 13 + 12, none⟩ = some (.slice c.tp c.tn c.tc) := hS.cells hkl (i := 12) (by omega) (by rw [← hc]; rfl)
      have hck : l[k] = c := by rw [hc]; exact nthM_eq hkl
      have C := allR_one c (q c) g wr (fun W hW => hF'h.out c (by rw [hc]; exact nthM_mem hkl) W (below_next hbr hW)) ((hbr.cell (p := ⟨g, 0, none⟩) (lt_of_cell hg'h.out)).trans hg'h.out)
      have i1 : (k : Int) < (n : Int) := by omega
      have i2 : (0 : Int) ≤ (k : Int) := by omega
      have i3 : (k : Int) + 1 ≤ 9223372036854775807 := by have := hmax'h.out; omega
      have hnx : q c = true → ∀ j, (h : j < k + 1) → (h' : j < l.length) → (!q (l[j]'h')) = false := fun hz j hj h' => by
        by_cases e : j = k
        · subst e; rw [hck, hz]; rfl
        · exact hall j (by omega) h'
      have hit : q c = false → idxG (fun x => !q x) l = (k : Int) := fun hz => idxG_hit (p := fun x => !q x) hkl (fun j hj => hall j hj (by omega)) (by rw [hck, hz]; rfl)
      clear hc hall hS hck
      generalize q c = v at *
      obtain ⟨⟨goerc, ⟨opc, kyc, cac, cbc⟩, ⟨errc, valc, donec⟩, prsc, beganc, atc, overc, toldc⟩, ppc, pnc, pcc, tpc, tnc, tcc⟩ := c
      simp only [mmA] at *
      cases v with
      | false =>
        have hr := hit rfl
        have hk'h := Lib.hid hk
        have C'h := Lib.hid C
        have hr'h := Lib.hid hr
        have hbr'h := Lib.hid hbr
        have hnx'h := Lib.hid hnx
        clear hk C hr hbr hnx
        clear hit
        go_wp2_with fail
        refine C'h.out.mono ?_
        rintro e w2 ⟨rfl, hB2⟩
        have hfin := below_next hbr'h.out hB2
        clear hB2 C'h hbr'h
        have hfin'h := Lib.hid hfin
        clear hfin
        go_wp2
        go_ret
        exact ⟨ret_i64 hr'h.out.symm, hfin'h.out⟩
      | true =>
        have hnx := hnx rfl
        have hk'h := Lib.hid hk
        have C'h := Lib.hid C
        have hbr'h := Lib.hid hbr
        have hnx'h := Lib.hid hnx
        clear hk C hbr hnx
        clear hit
        go_wp2_with fail
        refine C'h.out.mono ?_
        rintro e w2 ⟨rfl, hB2⟩
        have hfin := below_next hbr'h.out hB2
        clear hB2 C'h hbr'h
        have hfin'h := Lib.hid hfin
        clear hfin
        go_wp2
        go_roundg (gk - 1)
        case measure => have := hk'h.out; omega
        case rel => exact ⟨k + 1, by have := hk'h.out; omega, by go_num, hnx'h.out, hfin'h.out⟩
    · have hr := idxG_none (l := l) (p := fun x => !q x) (fun j hj => hall j (by have := hlen'h.out; omega) hj)
      have hd : ¬ ((k : Int) < (n : Int)) := by omega
      have hk'h := Lib.hid hk
      have hall'h := Lib.hid hall
      have hr'h := Lib.hid hr
      have hbr'h := Lib.hid hbr
      clear hk hall hr hbr
      go_wp2
      go_ret
      exact ⟨ret_i64 hr'h.out.symm, hbr'h.out⟩
theorem allR_any (sp : Option Addr) (n cap : Nat) (l : List Mm) (q : Mm → Bool) (w : World) (h : MsIn w sp n l) (hF : ∀ x ∈ l, ∀ W, Below w.heap.size w W → Calls Tryd.prog 29 #[.agg (mmA x)] W fun e w' => e = .returned (.bool (q x)) ∧ Below W.heap.size W w') :
    Calls Tryd.prog 28 #[.slice sp n cap, .func (.func 29) #[] #[]] w fun e w' => e = .returned (.bool (l.all q)) ∧ Below w.heap.size w w' := by
  have hB : Below w.heap.size w (w.alloc (.cells #[.func (.func 29) #[] #[]] 68)) := (Below.refl _ _).alloc (Nat.le_refl _) _
  have hg : (w.alloc (.cells #[.func (.func 29) #[] #[]] 68)).cell? ⟨w.heap.size, 0, none⟩ = some (.func (.func 29) #[] #[]) := blk_cell (World.alloc_heap_new _ _) rfl
  have I := allR_idx sp n cap l q w.heap.size _ (h.below hB) (fun x hx W hW => hF x hx W (below_next hB hW)) hg
  have e : (!decide (0 ≤ idxG (fun x => !q x) l)) = l.all q := by
    rw [idxG_any, ← List.not_all_eq_any_not]; simp
  obtain ⟨W1, hW1⟩ : ∃ W1, W1 = w.alloc (.cells #[.func (.func 29) #[] #[]] 68) := ⟨_, rfl⟩
  rw [← hW1] at I hB
  have H : Calls Tryd.prog 52 #[.slice sp n cap, .func (.func 53) #[] #[.pointer (some ⟨w.heap.size, 0, none⟩)]] W1 fun e w' => e = .returned (.bool (decide (0 ≤ idxG (fun x => !q x) l))) ∧ Below W1.heap.size W1 w' := by
    clear e hB hg h hF hW1
    generalize idxG (fun x => !q x) l = i at *
    generalize w.heap.size = g at *
    have I'h := Lib.hid I
    clear I
    by_cases hi : 0 ≤ i
    · go_enter Tryd.func52, Tryd.ntmps52
      go_wp2_with fail
      refine I'h.out.mono ?_
      rintro e w2 ⟨rfl, hB2⟩
      have hB2'h := Lib.hid hB2
      clear hB2
      go_wp2
      go_ret
      exact ⟨ret_bool (by simp [hi]), hB2'h.out⟩
    · go_enter Tryd.func52, Tryd.ntmps52
      go_wp2_with fail
      refine I'h.out.mono ?_
      rintro e w2 ⟨rfl, hB2⟩
      have hB2'h := Lib.hid hB2
      clear hB2
      go_wp2
      go_ret
      exact ⟨ret_bool (by simp [hi]), hB2'h.out⟩
  generalize decide (0 ≤ idxG (fun x => !q x) l) = v at *
  clear I hg h hF
  rw [hW1] at H hB
  clear hW1
  have H'h := Lib.hid H
  have hB'h := Lib.hid hB
  have e'h := Lib.hid e
  clear H hB e
  go_enter Tryd.func28, Tryd.ntmps28
  go_wp2_with fail
  refine H'h.out.mono ?_
  rintro ee w2 ⟨rfl, hB2⟩
  have hfin := below_next hB'h.out hB2
  clear hB2 H'h hB'h
  have hfin'h := Lib.hid hfin
  clear hfin
  go_wp2
  go_ret
  exact ⟨ret_bool e'h.out, hfin'h.out⟩
theorem allK_one (x : Mm) (q : Bool) (g g0 : Nat) (w : World) (hF : ∀ W, Below w.heap.size w W → Calls Tryd.prog 30 #[.agg (mmA x), .pointer (some ⟨g0, 0, none⟩)] W fun e w' => e = .returned (.bool q) ∧ Below W.heap.size W w') (hg : w.cell? ⟨g, 0, none⟩ = some (.func (.func 30) #[] #[.pointer (some ⟨g0, 0, none⟩)])) :
    Calls Tryd.prog 53 #[.agg (mmA x), .pointer (some ⟨g, 0, none⟩)] w fun e w' => e = .returned (.bool (!q)) ∧ Below w.heap.size w w' := by
  have hB1 : Below w.heap.size w (w.alloc (.cells (mmA x) 39)) := (Below.refl _ _).alloc (Nat.le_refl _) _
  have C := hF _ hB1
  have hg1 := (hB1.cell (p := ⟨g, 0, none⟩) (lt_of_cell hg)).trans hg
  clear hg hF
  obtain ⟨⟨goerx, ⟨opx, kyx, cax, cbx⟩, ⟨errx, valx, donex⟩, prsx, beganx, atx, overx, toldx⟩, ppx, pnx, pcx, tpx, tnx, tcx⟩ := x
  simp only [mmA] at *
  have C'h := Lib.hid C
  have hB1'h := Lib.hid hB1
  clear C hB1
  go_enter Tryd.func53, Tryd.ntmps53
  go_wp2_with fail
  refine C'h.out.mono ?_
  rintro e w2 ⟨rfl, hB2⟩
  have hBw2 := below_next hB1'h.out hB2
  clear hB2 C'h hB1'h hg1
  have hBw2'h := Lib.hid hBw2
  clear hBw2
  go_wp2
  go_ret
  exact ⟨ret_bool rfl, hBw2'h.out⟩
theorem allK_idx (sp : Option Addr) (n cap : Nat) (l : List Mm) (q : Mm → Bool) (g g0 : Nat) (w : World) (h : MsIn w sp n l) (hF : ∀ x ∈ l, ∀ W, Below w.heap.size w W → Calls Tryd.prog 30 #[.agg (mmA x), .pointer (some ⟨g0, 0, none⟩)] W fun e w' => e = .returned (.bool (q x)) ∧ Below W.heap.size W w') (hg : w.cell? ⟨g, 0, none⟩ = some (.func (.func 30) #[] #[.pointer (some ⟨g0, 0, none⟩)])) :
    Calls Tryd.prog 71 #[.slice sp n cap, .func (.func 53) #[] #[.pointer (some ⟨g, 0, none⟩)]] w fun e w' => e = .returned (.int .i64 (idxG (fun x => !q x) l)) ∧ Below w.heap.size w w' := by
  have hlen := h.len
  have hmax := h.sl.2.1
  unfold maxLen at hmax
  have hlen'h := Lib.hid hlen
  have h'h := Lib.hid h
  have hg'h := Lib.hid hg
  have hF'h := Lib.hid hF
  have hmax'h := Lib.hid hmax
  clear hlen h hg hF hmax
  go_enter Tryd.func71, Tryd.ntmps71
  go_wp2
  go_loopg [8] n (fun k' i wr => ∃ k : Nat, k + k' = n ∧ i = .int .i64 k ∧ (∀ j, (h : j < k) → (h' : j < l.length) → (!q (l[j]'h')) = false) ∧ Below w.heap.size w wr)
  case atStart => exact ⟨0, by omega, rfl, fun j hj => by omega, Below.refl _ _⟩
  case round =>
    obtain ⟨k, hk, rfl, hall, hbr⟩ := hrel
    by_cases hlt : k < n
    · have hkl : k < l.length := by have := hlen'h.out; omega
      have hS := h'h.out.below hbr
      obtain ⟨b, off, rfl⟩ := slk_some hS.sl (by omega)
      obtain ⟨c, hc⟩ : ∃ c, c = nthM l k := ⟨_, rfl⟩
      have e0 : wr.cell? ⟨b, off + k * 13, none⟩ = some (.int .i64 c.md.goer) := hS.cells hkl (i := 0) (by omega) (by rw [← hc]; rfl)
      have e1 : wr.cell? ⟨b, off + k * 13 + 1, none⟩ = some (.int .i64 c.md.call.op) := hS.cells hkl (i := 1) (by omega) (by rw [← hc]; rfl)
      have e2 : wr.cell? ⟨b, off + k * 13 + 2, none⟩ = some (.int .u64 (c.md.call.key : Int)) := hS.cells hkl (i := 2) (by omega) (by rw [← hc]; rfl)
      have e3 : wr.cell? ⟨b, off + k * 13 + 3, none⟩ = some (.int .u64 (c.md.call.a : Int)) := hS.cells hkl (i := 3) (by omega) (by rw [← hc]; rfl)
      have e4 : wr.cell? ⟨b, off + k * 13 + 4, none⟩ = some (.int .u64 (c.md.call.b : Int)) := hS.cells hkl (i := 4) (by omega) (by rw [← hc]; rfl)
      have e5 : wr.cell? ⟨b, off + k * 13 + 5, none⟩ = some (.int .i64 c.md.ans.err) := hS.cells hkl (i := 5) (by omega) (by rw [← hc]; rfl)
      have e6 : wr.cell? ⟨b, off + k * 13 + 6, none⟩ = some (.int .u64 (c.md.ans.val : Int)) := hS.cells hkl (i := 6) (by omega) (by rw [← hc]; rfl)
      have e7 : wr.cell? ⟨b, off + k * 13 + 7, none⟩ = some (.bool c.md.ans.done) := hS.cells hkl (i := 7) (by omega) (by rw [← hc]; rfl)
      have e8 : wr.cell? ⟨b, off + k * 13 + 8, none⟩ = some (.slice c.pp c.pn c.pc) := hS.cells hkl (i := 8) (by omega) (by rw [← hc]; rfl)
      have e9 : wr.cell? ⟨b, off + k * 13 + 9, none⟩ = some (.int .i64 c.md.began) := hS.cells hkl (i := 9) (by omega) (by rw [← hc]; rfl)
      have ea : wr.cell? ⟨b, off + k * 13 + 10, none⟩ = some (.int .i64 c.md.at') := hS.cells hkl (i := 10) (by omega) (by rw [← hc]; rfl)
      have eb : wr.cell? ⟨b, off + k * 13 + 11, none⟩ = some (.int .i64 c.md.over) := hS.cells hkl (i := 11) (by omega) (by rw [← hc]; rfl)
      have ec : wr.cell? ⟨b, off + k * 13 + 12, none⟩ = some (.slice c.tp c.tn c.tc) := hS.cells hkl (i := 12) (by omega) (by rw [← hc]; rfl)
      have hck : l[k] = c := by rw [hc]; exact nthM_eq hkl
      have C := allK_one c (q c) g g0 wr (fun W hW => hF'h.out c (by rw [hc]; exact nthM_mem hkl) W (below_next hbr hW)) ((hbr.cell (p := ⟨g, 0, none⟩) (lt_of_cell hg'h.out)).trans hg'h.out)
      have i1 : (k : Int) < (n : Int) := by omega
      have i2 : (0 : Int) ≤ (k : Int) := by omega
      have i3 : (k : Int) + 1 ≤ 9223372036854775807 := by have := hmax'h.out; omega
      have hnx : q c = true → ∀ j, (h : j < k + 1) → (h' : j < l.length) → (!q (l[j]'h')) = false := fun hz j hj h' => by
        by_cases e : j = k
        · subst e; rw [hck, hz]; rfl
        · exact hall j (by omega) h'
      have hit : q c = false → idxG (fun x => !q x) l = (k : Int) := fun hz => idxG_hit (p := fun x => !q x) hkl (fun j hj => hall j hj (by omega)) (by rw [hck, hz]; rfl)
      clear hc hall hS hck
      generalize q c = v at *
      obtain ⟨⟨goerc, ⟨opc, kyc, cac, cbc⟩, ⟨errc, valc, donec⟩, prsc, beganc, atc, overc, toldc⟩, ppc, pnc, pcc, tpc, tnc, tcc⟩ := c
      simp only [mmA] at *
      cases v with
      | false =>
        have hr := hit rfl
        have hk'h := Lib.hid hk
        have C'h := Lib.hid C
        have hr'h := Lib.hid hr
        have hbr'h := Lib.hid hbr
        have hnx'h := Lib.hid hnx
        clear hk C hr hbr hnx
        clear hit
        go_wp2_with fail
        refine C'h.out.mono ?_
        rintro e w2 ⟨rfl, hB2⟩
        have hfin := below_next hbr'h.out hB2
        clear hB2 C'h hbr'h
        have hfin'h := Lib.hid hfin
        clear hfin
        go_wp2
        go_ret
        exact ⟨ret_i64 hr'h.out.symm, hfin'h.out⟩
      | true =>
        have hnx := hnx rfl
        have hk'h := Lib.hid hk
        have C'h := Lib.hid C
        have hbr'h := Lib.hid hbr
        have hnx'h := Lib.hid hnx
        clear hk C hbr hnx
        clear hit
        go_wp2_with fail
        refine C'h.out.mono ?_
        rintro e w2 ⟨rfl, hB2⟩
        have hfin := below_next hbr'h.out hB2
        clear hB2 C'h hbr'h
        have hfin'h := Lib.hid hfin
        clear hfin
        go_wp2
        go_roundg (gk - 1)
        case measure => have := hk'h.out; omega
        case rel => exact ⟨k + 1, by have := hk'h.out; omega, by go_num, hnx'h.out, hfin'h.out⟩
    · have hr := idxG_none (l := l) (p := fun x => !q x) (fun j hj => hall j (by have := hlen'h.out; omega) hj)
      have hd : ¬ ((k : Int) < (n : Int)) := by omega
      have hk'h := Lib.hid hk
      have hall'h := Lib.hid hall
      have hr'h := Lib.hid hr
      have hbr'h := Lib.hid hbr
      clear hk hall hr hbr
      go_wp2
      go_ret
      exact ⟨ret_i64 hr'h.out.symm, hbr'h.out⟩
theorem allK_any (sp : Option Addr) (n cap : Nat) (l : List Mm) (q : Mm → Bool) (g0 : Nat) (w : World) (h : MsIn w sp n l) (hF : ∀ x ∈ l, ∀ W, Below w.heap.size w W → Calls Tryd.prog 30 #[.agg (mmA x), .pointer (some ⟨g0, 0, none⟩)] W fun e w' => e = .returned (.bool (q x)) ∧ Below W.heap.size W w') :
    Calls Tryd.prog 28 #[.slice sp n cap, .func (.func 30) #[] #[.pointer (some ⟨g0, 0, none⟩)]] w fun e w' => e = .returned (.bool (l.all q)) ∧ Below w.heap.size w w' := by
  have hB : Below w.heap.size w (w.alloc (.cells #[.func (.func 30) #[] #[.pointer (some ⟨g0, 0, none⟩)]] 68)) := (Below.refl _ _).alloc (Nat.le_refl _) _
  have hg : (w.alloc (.cells #[.func (.func 30) #[] #[.pointer (some ⟨g0, 0, none⟩)]] 68)).cell? ⟨w.heap.size, 0, none⟩ = some (.func (.func 30) #[] #[.pointer (some ⟨g0, 0, none⟩)]) := blk_cell (World.alloc_heap_new _ _) rfl
  have I := allK_idx sp n cap l q w.heap.size g0 _ (h.below hB) (fun x hx W hW => hF x hx W (below_next hB hW)) hg
  have e : (!decide (0 ≤ idxG (fun x => !q x) l)) = l.all q := by
    rw [idxG_any, ← List.not_all_eq_any_not]; simp
  obtain ⟨W1, hW1⟩ : ∃ W1, W1 = w.alloc (.cells #[.func (.func 30) #[] #[.pointer (some ⟨g0, 0, none⟩)]] 68) := ⟨_, rfl⟩
  rw [← hW1] at I hB
  have H : Calls Tryd.prog 52 #[.slice sp n cap, .func (.func 53) #[] #[.pointer (some ⟨w.heap.size, 0, none⟩)]] W1 fun e w' => e = .returned (.bool (decide (0 ≤ idxG (fun x => !q x) l))) ∧ Below W1.heap.size W1 w' := by
    clear e hB hg h hF hW1
    generalize idxG (fun x => !q x) l = i at *
    generalize w.heap.size = g at *
    have I'h := Lib.hid I
    clear I
    by_cases hi : 0 ≤ i
    · go_enter Tryd.func52, Tryd.ntmps52
      go_wp2_with fail
      refine I'h.out.mono ?_
      rintro e w2 ⟨rfl, hB2⟩
      have hB2'h := Lib.hid hB2
      clear hB2
      go_wp2
      go_ret
      exact ⟨ret_bool (by simp [hi]), hB2'h.out⟩
    · go_enter Tryd.func52, Tryd.ntmps52
      go_wp2_with fail
      refine I'h.out.mono ?_
      rintro e w2 ⟨rfl, hB2⟩
      have hB2'h := Lib.hid hB2
      clear hB2
      go_wp2
      go_ret
      exact ⟨ret_bool (by simp [hi]), hB2'h.out⟩
  generalize decide (0 ≤ idxG (fun x => !q x) l) = v at *
  clear I hg h hF
  rw [hW1] at H hB
  clear hW1
  have H'h := Lib.hid H
  have hB'h := Lib.hid hB
  have e'h := Lib.hid e
  clear H hB e
  go_enter Tryd.func28, Tryd.ntmps28
  go_wp2_with fail
  refine H'h.out.mono ?_
  rintro ee w2 ⟨rfl, hB2⟩
  have hfin := below_next hB'h.out hB2
  clear hB2 H'h hB'h
  have hfin'h := Lib.hid hfin
  clear hfin
  go_wp2
  go_ret
  exact ⟨ret_bool e'h.out, hfin'h.out⟩
end Go.Proofs.YtogeohjeabbmaaaDoor
