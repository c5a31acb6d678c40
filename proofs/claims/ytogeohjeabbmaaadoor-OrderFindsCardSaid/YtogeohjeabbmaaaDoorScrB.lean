/-
  Layer 3 (script): does something hold of all calls of a row?
-/
import Derived.Test.YtogeohjeabbmaaaDoorScrA
set_option linter.unusedSimpArgs false
set_option linter.unusedVariables false
set_option maxRecDepth 100000
namespace Go.Proofs.YtogeohjeabbmaaaDoor
open Go.RowKit

theorem info_cal : (Tryd.prog.info? 31).map (·.size) = some 4 := by kernel_rfl
theorem calA_one (c : Cal) : (calA c).all (·.oneCell') = true := by simp [calA, Value.oneCell', Value.cells]
theorem allC1_any (c : Cal) (g : Nat) (w : World) (hT : Tks w) (hg : w.cell? ⟨g, 0, none⟩ = some (.func (.func 74) #[] #[])) :
    Calls Tryd.prog 87 #[.agg (calA c), .pointer (some ⟨g, 0, none⟩)] w fun e w' => e = .returned (.bool (!rightC c)) ∧ Below w.heap.size w w' := by
  have hB1 : Below w.heap.size w (w.alloc (.cells (calA c) 31)) := (Below.refl _ _).alloc (Nat.le_refl _) _
  have C := right_any c _ (hT.next hB1)
  have hg1 := (hB1.cell (p := ⟨g, 0, none⟩) (lt_of_cell hg)).trans hg
  clear hg hT
  generalize rightC c = v at *
  obtain ⟨op, key, a, b⟩ := c
  unfold calA at *
  have C'h := Lib.hid C
  have hB1'h := Lib.hid hB1
  clear C hB1
  go_enter Tryd.func87, Tryd.ntmps87
  go_wp2_with fail
  refine C'h.out.mono ?_
  rintro e w2 ⟨rfl, hB2⟩
  have hBw2 := hB1'h.out.trans (hB2.mono hB1'h.out.size)
  have hBw2'h := Lib.hid hBw2
  clear hBw2
  clear hB2 C'h hB1'h hg1
  go_wp2
  go_ret
  exact ⟨ret_bool rfl, hBw2'h.out⟩
theorem idxC_any (sp : Option Addr) (n cap : Nat) (l : List Cal) (g : Nat) (w : World) (hT : Tks w) (h : SlK w 4 sp n (cals l)) (hg : w.cell? ⟨g, 0, none⟩ = some (.func (.func 74) #[] #[])) :
    Calls Tryd.prog 96 #[.slice sp n cap, .func (.func 87) #[] #[.pointer (some ⟨g, 0, none⟩)]] w fun e w' =>
      e = .returned (.int .i64 (idxG (fun x => !rightC x) l)) ∧ Below w.heap.size w w' := by
  have hlen : n = l.length := slk_len calL_len (by decide) h
  have hmax := h.2.1
  unfold maxLen at hmax
  have hlen'h := Lib.hid hlen
  have h'h := Lib.hid h
  have hg'h := Lib.hid hg
  have hT'h := Lib.hid hT
  clear hlen h hg hT
  go_enter Tryd.func96, Tryd.ntmps96
  go_wp2
  go_loopg [8] n (fun q i wr => ∃ k : Nat, k + q = n ∧ i = .int .i64 k ∧ (∀ j, (h : j < k) → (h' : j < l.length) → (!rightC (l[j]'h')) = false) ∧ Below w.heap.size w wr)
  case atStart => exact ⟨0, by omega, rfl, fun j hj => by omega, Below.refl _ _⟩
  case round =>
    obtain ⟨k, hk, rfl, hall, hbr⟩ := hrel
    have hkn : k ≤ n := by omega
    by_cases hlt : k < n
    · have hkl : k < l.length := by have := hlen'h.out; omega
      have hS := h'h.out.below hbr
      obtain ⟨b, off, rfl⟩ := slk_some hS (by omega)
      obtain ⟨c, hc⟩ : ∃ c, c = l[k] := ⟨_, rfl⟩
      have hlk : l[k]? = some c := by rw [hc]; exact List.getElem?_eq_getElem hkl
      have e0 : wr.cell? ⟨b, off + k * 4, none⟩ = some (.int .i64 c.op) := slk_cell calL_len hS (i := 0) hlk (by omega) rfl
      have e1 : wr.cell? ⟨b, off + k * 4 + 1, none⟩ = some (.int .u64 (c.key : Int)) := slk_cell calL_len hS (i := 1) hlk (by omega) rfl
      have e2 : wr.cell? ⟨b, off + k * 4 + 2, none⟩ = some (.int .u64 (c.a : Int)) := slk_cell calL_len hS (i := 2) hlk (by omega) rfl
      have e3 : wr.cell? ⟨b, off + k * 4 + 3, none⟩ = some (.int .u64 (c.b : Int)) := slk_cell calL_len hS (i := 3) hlk (by omega) rfl
      have C := allC1_any c g wr (hT'h.out.next (hbr.mono (Nat.le_refl _))) ((hbr.cell (p := ⟨g, 0, none⟩) (lt_of_cell hg'h.out)).trans hg'h.out)
      have hnx : ∀ j, (h : j < k + 1) → (h' : j < l.length) → rightC c = true → (!rightC (l[j]'h')) = false := fun j hj h' hz => by
        by_cases e : j = k
        · subst e; rw [← hc, hz]; rfl
        · exact hall j (by omega) h'
      have hit : rightC c = false → idxG (fun x => !rightC x) l = (k : Int) := fun hz => idxG_hit (p := fun x => !rightC x) hkl (fun j hj => hall j hj (by omega)) (by rw [← hc, hz]; rfl)
      have C := C
      clear hc hlk hall hS
      generalize rightC c = v at *
      obtain ⟨op, key, a, d⟩ := c
      unfold calA at C
      simp only at e0 e1 e2 e3
      cases v with
      | false =>
        have hr := hit rfl
        have hk'h := Lib.hid hk
        have C'h := Lib.hid C
        have hr'h := Lib.hid hr
        have hbr'h := Lib.hid hbr
        have hnx'h := Lib.hid hnx
        clear hk C hr hbr hnx
        clear hit
        go_wp2_with fail
        refine C'h.out.mono ?_
        rintro e w2 ⟨rfl, hB2⟩
        have hB2'h := Lib.hid hB2
        clear hB2
        go_wp2
        go_ret
        exact ⟨ret_i64 hr'h.out.symm, hbr'h.out.trans (hB2'h.out.mono hbr'h.out.size)⟩
      | true =>
        have hk'h := Lib.hid hk
        have C'h := Lib.hid C
        have hbr'h := Lib.hid hbr
        have hnx'h := Lib.hid hnx
        clear hk C hbr hnx
        clear hit
        go_wp2_with fail
        refine C'h.out.mono ?_
        rintro e w2 ⟨rfl, hB2⟩
        have hB2'h := Lib.hid hB2
        clear hB2
        go_wp2
        go_roundg (gk - 1)
        case measure => have := hk'h.out; omega
        case rel => exact ⟨k + 1, by have := hk'h.out; omega, by go_num, fun j hj h' => hnx'h.out j hj h' trivial, hbr'h.out.trans (hB2'h.out.mono hbr'h.out.size)⟩
    · have hr := idxG_none (l := l) (p := fun x => !rightC x) (fun j hj => hall j (by have := hlen'h.out; omega) hj)
      have hd : ¬ ((k : Int) < (n : Int)) := by omega
      have hk'h := Lib.hid hk
      have hall'h := Lib.hid hall
      have hr'h := Lib.hid hr
      have hbr'h := Lib.hid hbr
      clear hk hall hr hbr
      go_wp2
      go_ret
      exact ⟨ret_i64 hr'h.out.symm, hbr'h.out⟩
theorem hasC_any (sp : Option Addr) (n cap : Nat) (l : List Cal) (g : Nat) (w : World) (hT : Tks w) (h : SlK w 4 sp n (cals l)) (hg : w.cell? ⟨g, 0, none⟩ = some (.func (.func 74) #[] #[])) :
    Calls Tryd.prog 86 #[.slice sp n cap, .func (.func 87) #[] #[.pointer (some ⟨g, 0, none⟩)]] w fun e w' =>
      e = .returned (.bool (l.any fun x => !rightC x)) ∧ Below w.heap.size w w' := by
  have I := idxC_any sp n cap l g w hT h hg
  rw [← idxG_any]
  generalize idxG (fun x => !rightC x) l = i at *
  have I'h := Lib.hid I
  clear I
  clear hg hT h
  go_enter Tryd.func86, Tryd.ntmps86
  go_wp2_with fail
  refine I'h.out.mono ?_
  rintro e w2 ⟨rfl, hB2⟩
  have hB2'h := Lib.hid hB2
  clear hB2
  by_cases hi : 0 ≤ i
  · go_wp2
    go_ret
    exact ⟨ret_bool (by simp [hi]), hB2'h.out⟩
  · go_wp2
    go_ret
    exact ⟨ret_bool (by simp [hi]), hB2'h.out⟩
theorem allC_any (sp : Option Addr) (n cap : Nat) (l : List Cal) (w : World) (hT : Tks w) (h : SlK w 4 sp n (cals l)) :
    Calls Tryd.prog 73 #[.slice sp n cap, .func (.func 74) #[] #[]] w fun e w' => e = .returned (.bool (l.all rightC)) ∧ Below w.heap.size w w' := by
  have hb : Below w.heap.size w (w.alloc (.cells #[.func (.func 74) #[] #[]] 101)) := (Below.refl _ _).alloc (Nat.le_refl _) _
  have hg : (w.alloc (.cells #[.func (.func 74) #[] #[]] 101)).cell? ⟨w.heap.size, 0, none⟩ = some (.func (.func 74) #[] #[]) := blk_cell (World.alloc_heap_new _ _) rfl
  have C := hasC_any sp n cap l w.heap.size _ (hT.next hb) (h.below hb) hg
  have e : (!l.any fun x => !rightC x) = l.all rightC := by
    rw [← List.not_all_eq_any_not]; simp
  generalize (l.any fun x => !rightC x) = v at *
  have C'h := Lib.hid C
  have hb'h := Lib.hid hb
  have e'h := Lib.hid e
  clear C hb e
  clear hT h hg
  go_enter Tryd.func73, Tryd.ntmps73
  go_wp2_with fail
  refine C'h.out.mono ?_
  rintro ee w2 ⟨rfl, hB2⟩
  have hB2'h := Lib.hid hB2
  clear hB2
  go_wp2
  go_ret
  exact ⟨ret_bool e'h.out, hb'h.out.trans (hB2'h.out.mono hb'h.out.size)⟩
end Go.Proofs.YtogeohjeabbmaaaDoor
