/-
  Several texts of mine in one: OrdA OrdB OrdC.
-/
import Derived.Test.YtogeohjeabbmaaaDoorY6
import Derived.Test.YtogeohjeabbmaaaDoorY1
import Derived.Deep.Cut
import Derived.Deep.CutRange
import Derived.Deep.LoopGhost
/-
  Layer 27 (order): is a call ahead, an answer empty, a call of all?
-/
set_option linter.unusedSimpArgs false
set_option linter.unusedVariables false
set_option maxRecDepth 100000
namespace Go.Proofs.YtogeohjeabbmaaaDoor
open Go.RowKit

theorem int_zero_or (x : Int) : (x = 0 ∧ (x == 0) = true ∧ (x != 0) = false) ∨ (¬ x = 0 ∧ (x == 0) = false ∧ (x != 0) = true) := by
  by_cases h : x = 0
  · exact .inl ⟨h, by simp [h], by simp [h]⟩
  · exact .inr ⟨h, by simp [h], by simp [h]⟩
theorem ahead_any (x y : Mm) (w : World) : Calls Tryd.prog 17 #[.agg (mmA x), .agg (mmA y)] w fun e w' => e = .returned (.bool (aheadM x.md y.md)) ∧ Below w.heap.size w w' := by
  have hB : Below w.heap.size w ((w.alloc (.cells (mmA x) 39)).alloc (.cells (mmA y) 39)) := ((Below.refl _ _).alloc (Nat.le_refl _) _).alloc (by simp) _
  obtain ⟨r, hr⟩ : ∃ r, r = aheadM x.md y.md := ⟨_, rfl⟩
  rw [← hr]
  unfold aheadM at hr
  obtain ⟨⟨goerx, ⟨opx, kyx, cax, cbx⟩, ⟨errx, valx, donex⟩, prsx, beganx, atx, overx, toldx⟩, ppx, pnx, pcx, tpx, tnx, tcx⟩ := x
  obtain ⟨⟨goery, ⟨opy, kyy, cay, cby⟩, ⟨erry, valy, doney⟩, prsy, begany, aty, overy, toldy⟩, ppy, pny, pcy, tpy, tny, tcy⟩ := y
  simp only [mmA] at *
  rcases int_zero_or overx with ⟨h0, h1, h2⟩ | ⟨h0, h1, h2⟩
  · obtain rfl : r = false := by rw [hr]; simp [h0]
    subst h0
    clear hr h1 h2
    have hB'h := Lib.hid hB
    clear hB
    go_enter Tryd.func17, Tryd.ntmps17
    go_wp2
    go_ret
    exact ⟨rfl, hB'h.out⟩
  · by_cases hl : overx < begany
    · obtain rfl : r = true := by rw [hr]; simp [h0, hl]
      clear hr
      have hB'h := Lib.hid hB
      clear hB
      go_enter Tryd.func17, Tryd.ntmps17
      go_wp2
      go_ret
      exact ⟨rfl, hB'h.out⟩
    · obtain rfl : r = false := by rw [hr]; simp [hl]
      clear hr
      have hB'h := Lib.hid hB
      clear hB
      go_enter Tryd.func17, Tryd.ntmps17
      go_wp2
      go_ret
      exact ⟨rfl, hB'h.out⟩
def anL (m : Mm) : Array Value := #[.int .i64 m.md.ans.err, .int .u64 (m.md.ans.val : Int), .bool m.md.ans.done, .slice m.pp m.pn m.pc]
theorem empty_any (x : Mm) (w : World) (hx : x.pn = x.md.prs.length) : Calls Tryd.prog 57 #[.agg (anL x)] w fun e w' => e = .returned (.bool (emptyM x.md)) ∧ Below w.heap.size w w' := by
  have hB : Below w.heap.size w (w.alloc (.cells (anL x) 34)) := (Below.refl _ _).alloc (Nat.le_refl _) _
  obtain ⟨r, hr⟩ : ∃ r, r = emptyM x.md := ⟨_, rfl⟩
  rw [← hr]
  unfold emptyM at hr
  rw [← hx] at hr
  clear hx
  obtain ⟨⟨goerx, ⟨opx, kyx, cax, cbx⟩, ⟨errx, valx, donex⟩, prsx, beganx, atx, overx, toldx⟩, ppx, pnx, pcx, tpx, tnx, tcx⟩ := x
  simp only [anL] at *
  rcases int_zero_or errx with ⟨h0, h1, h2⟩ | ⟨h0, h1, h2⟩
  · subst h0
    clear h1 h2
    rcases zero_or valx with rfl | ⟨h1, h2, h3⟩
    · cases donex with
      | true =>
        obtain rfl : r = false := by rw [hr]; simp
        clear hr
        have hB'h := Lib.hid hB
        clear hB
        go_enter Tryd.func57, Tryd.ntmps57
        go_wp2
        go_ret
        exact ⟨rfl, hB'h.out⟩
      | false =>
        rcases zero_or pnx with rfl | ⟨h1, h2, h3⟩
        · obtain rfl : r = true := by rw [hr]; simp
          clear hr
          have hB'h := Lib.hid hB
          clear hB
          go_enter Tryd.func57, Tryd.ntmps57
          go_wp2
          go_ret
          exact ⟨rfl, hB'h.out⟩
        · obtain rfl : r = false := by rw [hr]; simp [h3]
          clear hr h3
          have hB'h := Lib.hid hB
          clear hB
          go_enter Tryd.func57, Tryd.ntmps57
          go_wp2
          go_ret
          exact ⟨rfl, hB'h.out⟩
    · obtain rfl : r = false := by rw [hr]; simp [h3]
      clear hr h3
      have hB'h := Lib.hid hB
      clear hB
      go_enter Tryd.func57, Tryd.ntmps57
      go_wp2
      go_ret
      exact ⟨rfl, hB'h.out⟩
  · obtain rfl : r = false := by rw [hr]; simp [h0]
    clear hr
    have hB'h := Lib.hid hB
    clear hB
    go_enter Tryd.func57, Tryd.ntmps57
    go_wp2
    go_ret
    exact ⟨rfl, hB'h.out⟩
theorem ranges_any (x : Mm) (w : World) : Calls Tryd.prog 33 #[.agg (mmA x)] w fun e w' => e = .returned (.bool (rangesM x.md)) ∧ Below w.heap.size w w' := by
  have hB : Below w.heap.size w (w.alloc (.cells (mmA x) 39)) := (Below.refl _ _).alloc (Nat.le_refl _) _
  obtain ⟨r, hr⟩ : ∃ r, r = rangesM x.md := ⟨_, rfl⟩
  rw [← hr]
  unfold rangesM at hr
  obtain ⟨⟨goerx, ⟨opx, kyx, cax, cbx⟩, ⟨errx, valx, donex⟩, prsx, beganx, atx, overx, toldx⟩, ppx, pnx, pcx, tpx, tnx, tcx⟩ := x
  simp only [mmA] at *
  have h6 : (opx == 6) = r := by rw [hr]; rfl
  clear hr
  have hB'h := Lib.hid hB
  clear hB
  go_enter Tryd.func33, Tryd.ntmps33
  go_wp2
  go_ret
  exact ⟨rfl, hB'h.out⟩
/-! ### Told within -/
def withinB (began last x : Int) : Bool := decide (x ≥ began) && decide (x ≤ last)
theorem right1_told (b l : Nat) (began last x : Int) (w : World) (hb : w.cell? ⟨b, 9, none⟩ = some (.int .i64 began)) (hl : w.cell? ⟨l, 0, none⟩ = some (.int .i64 last)) :
    Calls Tryd.prog 56 #[.int .i64 x, .pointer (some ⟨b, 0, none⟩), .pointer (some ⟨l, 0, none⟩)] w fun e w' => e = .returned (.bool (withinB began last x)) ∧ w' = w := by
  obtain ⟨r, hr⟩ : ∃ r, r = withinB began last x := ⟨_, rfl⟩
  rw [← hr]
  unfold withinB at hr
  by_cases h1 : x ≥ began
  · by_cases h2 : x ≤ last
    · obtain rfl : r = true := by rw [hr]; simp [h1, h2]
      clear hr
      go_enter Tryd.func56, Tryd.ntmps56
      go_wp2
      go_ret
      exact ⟨rfl, rfl⟩
    · obtain rfl : r = false := by rw [hr]; simp [h2]
      clear hr
      go_enter Tryd.func56, Tryd.ntmps56
      go_wp2
      go_ret
      exact ⟨rfl, rfl⟩
  · obtain rfl : r = false := by rw [hr]; simp [h1]
    clear hr
    go_enter Tryd.func56, Tryd.ntmps56
    go_wp2
    go_ret
    exact ⟨rfl, rfl⟩
theorem allI1_any (g b l : Nat) (began last x : Int) (w : World) (hb : w.cell? ⟨b, 9, none⟩ = some (.int .i64 began)) (hl : w.cell? ⟨l, 0, none⟩ = some (.int .i64 last)) (hg : w.cell? ⟨g, 0, none⟩ = some (.func (.func 56) #[] #[.pointer (some ⟨b, 0, none⟩), .pointer (some ⟨l, 0, none⟩)])) :
    Calls Tryd.prog 76 #[.int .i64 x, .pointer (some ⟨g, 0, none⟩)] w fun e w' => e = .returned (.bool (!withinB began last x)) ∧ w' = w := by
  have C := right1_told b l began last x w hb hl
  generalize withinB began last x = v at *
  clear hb hl
  have C'h := Lib.hid C
  clear C
  go_enter Tryd.func76, Tryd.ntmps76
  go_wp2_with fail
  refine (C'h.out).mono ?_
  rintro e w' ⟨rfl, rfl⟩
  go_wp2
  go_ret
  exact ⟨ret_bool rfl, rfl⟩
theorem idxI_any (sp : Option Addr) (n cap : Nat) (ks : List Int) (g b l : Nat) (began last : Int) (w : World) (h : Sl w sp n (ks.map (Value.int .i64))) (hb : w.cell? ⟨b, 9, none⟩ = some (.int .i64 began)) (hl : w.cell? ⟨l, 0, none⟩ = some (.int .i64 last)) (hg : w.cell? ⟨g, 0, none⟩ = some (.func (.func 56) #[] #[.pointer (some ⟨b, 0, none⟩), .pointer (some ⟨l, 0, none⟩)])) :
    Calls Tryd.prog 92 #[.slice sp n cap, .func (.func 76) #[] #[.pointer (some ⟨g, 0, none⟩)]] w fun e w' => e = .returned (.int .i64 (idxG (fun x => !withinB began last x) ks)) ∧ w' = w := by
  have hlen : n = ks.length := by have := h.1; simpa using this
  have hmax := h.2.1
  unfold maxLen at hmax
  obtain ⟨z, hz⟩ : ∃ z, z = idxG (fun x => !withinB began last x) ks := ⟨_, rfl⟩
  rw [← hz]
  have C := fun x => allI1_any g b l began last x w hb hl hg
  clear hb hl hg
  have hlen'h := Lib.hid hlen
  have h'h := Lib.hid h
  have hz'h := Lib.hid hz
  have C'h := Lib.hid C
  have hmax'h := Lib.hid hmax
  clear hlen h hz C hmax
  go_enter Tryd.func92, Tryd.ntmps92
  go_wp2
  go_loopg [8] n (fun q i wr => ∃ k : Nat, k + q = n ∧ i = .int .i64 k ∧ (∀ j, (hj : j < k) → (hl : j < ks.length) → (!withinB began last (ks[j]'hl)) = false) ∧ wr = w)
  case atStart => exact ⟨0, by omega, rfl, fun j hj => by omega, rfl⟩
  case round =>
    obtain ⟨k, hk, rfl, hall, rfl⟩ := hrel
    by_cases hlt : k < n
    · have hkl : k < ks.length := by have := hlen'h.out; omega
      obtain ⟨b1, off, rfl, hcs⟩ := h'h.out.some' (by omega)
      obtain ⟨x, hx⟩ : ∃ x, ks[k]? = some x := ⟨_, List.getElem?_eq_getElem hkl⟩
      have hxk : ks[k] = x := by rw [List.getElem?_eq_getElem hkl] at hx; injection hx
      have c1 : wr.cell? ⟨b1, off + k, none⟩ = some (.int .i64 x) := hcs k _ (by rw [List.getElem?_map, hx]; rfl)
      have i1 : (k : Int) < (n : Int) := by omega
      have i2 : (0 : Int) ≤ (k : Int) := by omega
      have i3 : (k : Int) + 1 ≤ 9223372036854775807 := by have := hmax'h.out; omega
      have D := C'h.out x
      clear hcs hx
      cases hv : !withinB began last x with
      | true =>
        have hr : z = (k : Int) := by rw [hz'h.out]; exact idxG_hit (p := fun x => !withinB began last x) hkl (fun j hj => hall j hj (by omega)) (by rw [hxk]; exact hv)
        rw [hv] at D
        clear hxk hv
        have hk'h := Lib.hid hk
        have hall'h := Lib.hid hall
        have hr'h := Lib.hid hr
        have hkl'h := Lib.hid hkl
        have D'h := Lib.hid D
        clear hk hall hr hkl D
        go_wp2_with fail
        refine (D'h.out).mono ?_
        rintro e w' ⟨rfl, rfl⟩
        go_wp2
        go_ret
        exact ⟨ret_i64 hr'h.out.symm, rfl⟩
      | false =>
        have hall' : ∀ j, (hj : j < k + 1) → (hl : j < ks.length) → (!withinB began last (ks[j]'hl)) = false := fun j hj hl => by
          by_cases e : j = k
          · subst e; rw [hxk]; exact hv
          · exact hall j (by omega) hl
        rw [hv] at D
        clear hxk hv
        have hk'h := Lib.hid hk
        have hall'h := Lib.hid hall
        have hkl'h := Lib.hid hkl
        have hall''h := Lib.hid hall'
        have D'h := Lib.hid D
        clear hk hall hkl hall' D
        go_wp2_with fail
        refine (D'h.out).mono ?_
        rintro e w' ⟨rfl, rfl⟩
        go_wp2
        go_roundg (gk - 1)
        case measure => have := hk'h.out; omega
        case rel => exact ⟨k + 1, by have := hk'h.out; omega, by go_num, hall''h.out, rfl⟩
    · have hr : z = -1 := by rw [hz'h.out]; exact idxG_none (p := fun x => !withinB began last x) (fun j hj => hall j (by have := hlen'h.out; omega) hj)
      have hd : ¬ ((k : Int) < (n : Int)) := by omega
      have hk'h := Lib.hid hk
      have hall'h := Lib.hid hall
      have hr'h := Lib.hid hr
      clear hk hall hr
      go_wp2
      go_ret
      exact ⟨ret_i64 hr'h.out.symm, rfl⟩
theorem allI_any (sp : Option Addr) (n cap : Nat) (ks : List Int) (b l : Nat) (began last : Int) (w : World) (h : Sl w sp n (ks.map (Value.int .i64))) (hb : w.cell? ⟨b, 9, none⟩ = some (.int .i64 began)) (hl : w.cell? ⟨l, 0, none⟩ = some (.int .i64 last)) :
    Calls Tryd.prog 55 #[.slice sp n cap, .func (.func 56) #[] #[.pointer (some ⟨b, 0, none⟩), .pointer (some ⟨l, 0, none⟩)]] w fun e w' => e = .returned (.bool (ks.all (withinB began last))) ∧ Below w.heap.size w w' := by
  have hB : Below w.heap.size w (w.alloc (.cells #[.func (.func 56) #[] #[.pointer (some ⟨b, 0, none⟩), .pointer (some ⟨l, 0, none⟩)]] 95)) := (Below.refl _ _).alloc (Nat.le_refl _) _
  have hg : (w.alloc (.cells #[.func (.func 56) #[] #[.pointer (some ⟨b, 0, none⟩), .pointer (some ⟨l, 0, none⟩)]] 95)).cell? ⟨w.heap.size, 0, none⟩ = some (.func (.func 56) #[] #[.pointer (some ⟨b, 0, none⟩), .pointer (some ⟨l, 0, none⟩)]) := blk_cell (World.alloc_heap_new _ _) rfl
  have I := idxI_any sp n cap ks w.heap.size b l began last _ (h.below hB) ((hB.cell (p := ⟨b, 9, none⟩) (lt_of_cell hb)).trans hb) ((hB.cell (p := ⟨l, 0, none⟩) (lt_of_cell hl)).trans hl) hg
  have e : (!decide (0 ≤ idxG (fun x => !withinB began last x) ks)) = ks.all (withinB began last) := by
    rw [idxG_any, ← List.not_all_eq_any_not]; simp
  have H : Calls Tryd.prog 75 #[.slice sp n cap, .func (.func 76) #[] #[.pointer (some ⟨w.heap.size, 0, none⟩)]] (w.alloc (.cells #[.func (.func 56) #[] #[.pointer (some ⟨b, 0, none⟩), .pointer (some ⟨l, 0, none⟩)]] 95)) fun e w' => e = .returned (.bool (decide (0 ≤ idxG (fun x => !withinB began last x) ks))) ∧ w' = (w.alloc (.cells #[.func (.func 56) #[] #[.pointer (some ⟨b, 0, none⟩), .pointer (some ⟨l, 0, none⟩)]] 95)) := by
    clear e hB hg h hb hl
    generalize idxG (fun x => !withinB began last x) ks = i at *
    generalize w.alloc _ = W at *
    generalize w.heap.size = g at *
    have I'h := Lib.hid I
    clear I
    by_cases hi : 0 ≤ i
    · go_enter Tryd.func75, Tryd.ntmps75
      go_wp2_with fail
      refine (I'h.out).mono ?_
      rintro e w' ⟨rfl, rfl⟩
      go_wp2
      go_ret
      exact ⟨ret_bool (by simp [hi]), rfl⟩
    · go_enter Tryd.func75, Tryd.ntmps75
      go_wp2_with fail
      refine (I'h.out).mono ?_
      rintro e w' ⟨rfl, rfl⟩
      go_wp2
      go_ret
      exact ⟨ret_bool (by simp [hi]), rfl⟩
  generalize decide (0 ≤ idxG (fun x => !withinB began last x) ks) = v at *
  clear I hg h hb hl
  have H'h := Lib.hid H
  have hB'h := Lib.hid hB
  have e'h := Lib.hid e
  clear H hB e
  go_enter Tryd.func55, Tryd.ntmps55
  go_wp2_with fail
  refine H'h.out.mono ?_
  rintro ee w2 ⟨rfl, hw2⟩
  rw [hw2]
  clear hw2
  go_wp2
  go_ret
  exact ⟨ret_bool e'h.out, hB'h.out⟩
end Go.Proofs.YtogeohjeabbmaaaDoor

/-
  Layer 27 (order): may a call be, by itself?
-/
set_option linter.unusedSimpArgs false
set_option linter.unusedVariables false
set_option maxRecDepth 100000
namespace Go.Proofs.YtogeohjeabbmaaaDoor
open Go.RowKit

/-- The script of one call. -/
def oneS (c : Cal) : Scr := ⟨1, 2, 0, [[c]], []⟩
theorem oneS_right (c : Cal) : rightS (oneS c) = rightC c := by
  unfold rightS headS sizesS oneS
  simp
/-- While a call is looked at: the box of its last step. -/
structure RtI (W4 : World) (b4 : Nat) (la : Int) (wr : World) : Prop where
  low : Below W4.heap.size W4 wr
  last : wr.heap[b4]? = some (.cells #[.int .i64 la] 3 (0, 0))
theorem RtI.next {W4 : World} {b4 : Nat} {la : Int} {wr wr' : World} (h : RtI W4 b4 la wr) (hb : Below wr.heap.size wr wr') : RtI W4 b4 la wr' :=
  ⟨below_next h.low hb, heap_below hb h.last (lt_of_heap h.last)⟩
theorem cells13 {W : World} {b : Nat} {v0 v1 v2 v3 v4 v5 v6 v7 v8 v9 va vb vc : Value} {t : TypeId} (h : W.heap[b]? = some (.cells #[v0, v1, v2, v3, v4, v5, v6, v7, v8, v9, va, vb, vc] t (0, 0))) :
    W.cell? ⟨b, 0, none⟩ = some v0 ∧ W.cell? ⟨b, 1, none⟩ = some v1 ∧ W.cell? ⟨b, 2, none⟩ = some v2 ∧ W.cell? ⟨b, 3, none⟩ = some v3 ∧ W.cell? ⟨b, 4, none⟩ = some v4 ∧ W.cell? ⟨b, 5, none⟩ = some v5 ∧ W.cell? ⟨b, 6, none⟩ = some v6 ∧ W.cell? ⟨b, 7, none⟩ = some v7 ∧ W.cell? ⟨b, 8, none⟩ = some v8 ∧ W.cell? ⟨b, 9, none⟩ = some v9 ∧ W.cell? ⟨b, 10, none⟩ = some va ∧ W.cell? ⟨b, 11, none⟩ = some vb ∧ W.cell? ⟨b, 12, none⟩ = some vc :=
  ⟨blk_cell (i := 0) h rfl, blk_cell (i := 1) h rfl, blk_cell (i := 2) h rfl, blk_cell (i := 3) h rfl, blk_cell (i := 4) h rfl, blk_cell (i := 5) h rfl, blk_cell (i := 6) h rfl, blk_cell (i := 7) h rfl, blk_cell (i := 8) h rfl, blk_cell (i := 9) h rfl, blk_cell (i := 10) h rfl, blk_cell (i := 11) h rfl, blk_cell (i := 12) h rfl⟩
theorem cells5o {W : World} {b : Nat} {v0 v1 v2 v3 v4 : Value} {t : TypeId} (h : W.heap[b]? = some (.cells #[v0, v1, v2, v3, v4] t (0, 0))) :
    W.cell? ⟨b, 0, none⟩ = some v0 ∧ W.cell? ⟨b, 1, none⟩ = some v1 ∧ W.cell? ⟨b, 2, none⟩ = some v2 ∧ W.cell? ⟨b, 3, none⟩ = some v3 ∧ W.cell? ⟨b, 4, none⟩ = some v4 :=
  ⟨blk_cell (i := 0) h rfl, blk_cell (i := 1) h rfl, blk_cell (i := 2) h rfl, blk_cell (i := 3) h rfl, blk_cell (i := 4) h rfl⟩
set_option maxHeartbeats 8000000 in
theorem rightM_any (m : Mm) (w : World) (hT : Tks w) (h : MmIn w m) :
    Calls Tryd.prog 29 #[.agg (mmA m)] w fun e w' => e = .returned (.bool (rightM m.md)) ∧ Below w.heap.size w w' := by
  have hpn := h.pn
  have htn := h.tn
  have hok := h.ok
  obtain ⟨R, hR⟩ : ∃ R, R = rightM m.md := ⟨_, rfl⟩
  rw [← hR]
  obtain ⟨fl, hfl⟩ : ∃ fl, fl = flatM m.md := ⟨_, rfl⟩
  obtain ⟨st, hst⟩ : ∃ st, st = stepsM m.md := ⟨_, rfl⟩
  obtain ⟨wi, hwi⟩ : ∃ wi, wi = withinM m.md := ⟨_, rfl⟩
  obtain ⟨td, htd⟩ : ∃ td, td = toldM m.md := ⟨_, rfl⟩
  obtain ⟨em, hem⟩ : ∃ em, em = emptyM m.md := ⟨_, rfl⟩
  obtain ⟨la, hla⟩ : ∃ la, la = lastM m.md := ⟨_, rfl⟩
  unfold rightM at hR
  rw [← hfl, ← hst, ← hwi, ← htd, ← hem] at hR
  have hwi2 : wi = m.md.told.all (withinB m.md.began la) := by rw [hwi, hla]; rfl
  unfold flatM at hfl
  unfold stepsM at hst
  unfold toldM at htd
  rw [← htn, ← hpn] at htd
  rw [← hla] at hst
  have E := fun W => empty_any m W hpn
  rw [← hem] at E
  have hH := ((((Hs.nil w).new (mmA m) 39).new (calA m.md.call) 31).new #[.slice (some ⟨w.heap.size + 1, 0, none⟩) 1 1] 22).new #[.int .i64 1, .int .i64 2, .int .u64 0, .slice (some ⟨w.heap.size + 1 + 1, 0, none⟩) 1 1, .slice none 0 0] 92
  simp only [World.size_alloc] at hH
  obtain ⟨W4, hW4⟩ : ∃ W4, W4 = (((w.alloc (.cells (mmA m) 39)).alloc (.cells (calA m.md.call) 31)).alloc (.cells #[.slice (some ⟨w.heap.size + 1, 0, none⟩) 1 1] 22)).alloc (.cells #[.int .i64 1, .int .i64 2, .int .u64 0, .slice (some ⟨w.heap.size + 1 + 1, 0, none⟩) 1 1, .slice none 0 0] 92) := ⟨_, rfl⟩
  have hW4s : w.heap.size + 1 + 1 + 1 + 1 = W4.heap.size := by rw [hW4]; simp
  rw [← hW4] at hH
  have hlow4 : Below w.heap.size w W4 := hH.old
  have hscr : W4.heap[w.heap.size + 1 + 1 + 1]? = some (.cells #[.int .i64 1, .int .i64 2, .int .u64 0, .slice (some ⟨w.heap.size + 1 + 1, 0, none⟩) 1 1, .slice none 0 0] 92 (0, 0)) := hH.rows.1
  have hls : W4.heap[w.heap.size + 1 + 1]? = some (.cells #[.slice (some ⟨w.heap.size + 1, 0, none⟩) 1 1] 22 (0, 0)) := hH.rows.2.1
  have hcl : W4.heap[w.heap.size + 1]? = some (.cells (calA m.md.call) 31 (0, 0)) := hH.rows.2.2.1
  have hbox : W4.heap[w.heap.size]? = some (.cells (mmA m) 39 (0, 0)) := hH.rows.2.2.2.1
  have hSm : SmIn W4 ⟨1, 2, 0, some ⟨w.heap.size + 1 + 1, 0, none⟩, 1, 1, [⟨some ⟨w.heap.size + 1, 0, none⟩, 1, 1, [m.md.call]⟩], none, 0, 0, []⟩ := by
    refine ⟨⟨SlK.of_blk (k := 1) (n := 1) hls rfl (by decide), (fun r hr => ?_), (fun r hr => ?_), (fun r hr => ?_), (fun r hr => ?_), by simp, (fun r hr => ?_)⟩, Sl.nil _ _, (fun k hk => by cases hk), (by show (0 : Nat) < 2 ^ 64; decide), (by show (-9223372036854775808 : Int) ≤ 1 ∧ (1 : Int) ≤ 9223372036854775807; decide), (by show (-9223372036854775808 : Int) ≤ 2 ∧ (2 : Int) ≤ 9223372036854775807; decide), (fun h => by cases h), Nat.le_refl _, fun _ => rfl, Nat.le_refl _, Nat.zero_le _⟩
    all_goals
      obtain rfl := List.mem_singleton.1 hr
    · exact SlK.of_blk (k := 4) (n := 1) hcl rfl (by decide)
    · intro h; cases h
    · exact Nat.le_refl _
    · intro c hc
      obtain rfl := List.mem_singleton.1 hc
      exact hok.call
    · simp
  have hCK : ∀ W, Below W4.heap.size W4 W → Calls Tryd.prog 54 #[.agg #[.int .i64 1, .int .i64 2, .int .u64 0, .slice (some ⟨w.heap.size + 1 + 1, 0, none⟩) 1 1, .slice none 0 0]] W fun e w' => e = .returned (.int .i64 (if rightC m.md.call = true then 0 else 130)) ∧ Below W.heap.size W w' := fun W hW => by
    have := check_any ⟨1, 2, 0, some ⟨w.heap.size + 1 + 1, 0, none⟩, 1, 1, [⟨some ⟨w.heap.size + 1, 0, none⟩, 1, 1, [m.md.call]⟩], none, 0, 0, []⟩ W (hT.next (below_next hlow4 hW)) (hSm.below hW)
    have e : chkS (Sm.scr ⟨1, 2, 0, some ⟨w.heap.size + 1 + 1, 0, none⟩, 1, 1, [⟨some ⟨w.heap.size + 1, 0, none⟩, 1, 1, [m.md.call]⟩], none, 0, 0, []⟩) = if rightC m.md.call = true then 0 else 130 := by
      unfold chkS
      rw [show Sm.scr ⟨1, 2, 0, some ⟨w.heap.size + 1 + 1, 0, none⟩, 1, 1, [⟨some ⟨w.heap.size + 1, 0, none⟩, 1, 1, [m.md.call]⟩], none, 0, 0, []⟩ = oneS m.md.call from rfl, oneS_right]
    rw [e] at this
    exact this
  have hTD := fun W (hW : Below w.heap.size w W) => h.told.below hW
  obtain ⟨rc, hrc⟩ : ∃ rc, rc = rightC m.md.call := ⟨_, rfl⟩
  rw [← hrc] at hCK hfl
  have hI0 : RtI W4 (w.heap.size + 1 + 1 + 1 + 1) m.md.over (W4.alloc (.cells #[.int .i64 m.md.over] 3)) := ⟨(Below.refl _ _).alloc (Nat.le_refl _) _, by rw [hW4s]; exact World.alloc_heap_new _ _⟩
  unfold lastM at hla
  clear hpn htn hok hwi hem hrc hSm hls hcl hH hT h
  obtain ⟨M, hM⟩ : ∃ M, M = m.md := ⟨_, rfl⟩
  clear hM M
  obtain ⟨⟨goerq, ⟨opq, kyq, caq, cbq⟩, ⟨errq, valq, doneq⟩, prsq, beganq, atq, overq, toldq⟩, ppq, pnq, pcq, tpq, tnq, tcq⟩ := m
  simp only [mmA, calA, anL] at *
  have hR'h := Lib.hid hR
  have hfl'h := Lib.hid hfl
  have hst'h := Lib.hid hst
  have hwi2'h := Lib.hid hwi2
  have htd'h := Lib.hid htd
  have hla'h := Lib.hid hla
  have E'h := Lib.hid E
  have hscr'h := Lib.hid hscr
  have hbox'h := Lib.hid hbox
  have hCK'h := Lib.hid hCK
  have hTD'h := Lib.hid hTD
  have hlow4'h := Lib.hid hlow4
  have hI0'h := Lib.hid hI0
  have hW4s'h := Lib.hid hW4s
  clear hR hfl hst hwi2 htd hla E hscr hbox hCK hTD hlow4 hI0 hW4s
  go_enter Tryd.func29, Tryd.ntmps29
  go_upto_region 3 with fail
  change Code.wp _ _ _ _ ((((((w.alloc (.cells #[.int .i64 goerq, .int .i64 opq, .int .u64 (kyq : Int), .int .u64 (caq : Int), .int .u64 (cbq : Int), .int .i64 errq, .int .u64 (valq : Int), .bool doneq, .slice ppq pnq pcq, .int .i64 beganq, .int .i64 atq, .int .i64 overq, .slice tpq tnq tcq] 39)).alloc (.cells #[.int .i64 opq, .int .u64 (kyq : Int), .int .u64 (caq : Int), .int .u64 (cbq : Int)] 31)).alloc (.cells #[.slice (some ⟨w.heap.size + 1, 0, none⟩) 1 1] 22)).alloc (.cells #[.int .i64 1, .int .i64 2, .int .u64 0, .slice (some ⟨w.heap.size + 1 + 1, 0, none⟩) 1 1, .slice none 0 0] 92)).alloc (.cells #[.int .i64 overq] 3)))
  rw [← hW4]
  clear hW4
  generalize w.heap.size + 1 + 1 + 1 + 1 = b4 at hI0'h hW4s'h ⊢
  generalize W4.alloc _ = W5 at hI0'h ⊢
  rcases int_zero_or overq with ⟨h0, h1, h2⟩ | ⟨h0, h1, h2⟩
  · have hI := hI0'h.out
    have y0 : W5.cell? ⟨b4, 0, none⟩ = some (.int .i64 overq) := blk_cell (i := 0) hI.last rfl
    have f0 := blk_free 0 hI.last
    have hIs : RtI W4 b4 la (W5.setCell ⟨b4, 0, none⟩ (.int .i64 1073741824)) := ⟨hI.low.setCell (by rw [← hW4s'h.out]; exact Nat.le_refl _) _, by rw [hla'h.out, if_pos h0]; exact blk_set (i := 0) _ hI.last⟩
    clear hI h2
    have hIs'h := Lib.hid hIs
    have h0'h := Lib.hid h0
    clear hIs h0
    go_upto_region 5 with fail
    clear y0 f0 h1
    generalize World.setCell _ _ _ = W6 at hIs'h ⊢
    obtain ⟨a0, a1, a2, a3, a4, a5, a6, a7, a8, a9, aa, ab, ac⟩ := cells13 (heap_below hIs'h.out.low hbox'h.out (lt_of_heap hbox'h.out))
    go_cut [5] from 18 (fun v wr => v = .bool fl ∧ RtI W4 b4 la wr)
    case first =>
      have hIs := hIs'h.out
      obtain ⟨s0, s1, s2, s3, s4⟩ := cells5o (heap_below hIs.low hscr'h.out (lt_of_heap hscr'h.out))
      have CK := hCK'h.out _ hIs.low
      by_cases c1 : 0 ≤ goerq
      · have i1 : goerq ≥ 0 := c1
        by_cases c2 : goerq < 8
        · cases rc with
          | true =>
            rw [if_pos rfl] at CK
            by_cases c3 : 1 ≤ beganq
            · have i3 : beganq ≥ 1 := c3
              by_cases c4 : beganq ≤ 1073741824
              · obtain rfl : fl = true := by rw [hfl'h.out]; simp [c1, c2, c3, c4]
                have hIs'h := Lib.hid hIs
                have CK'h := Lib.hid CK
                clear hIs CK
                go_wp2_with fail
                refine CK'h.out.mono ?_
                rintro e w7 ⟨rfl, hB7⟩
                obtain ⟨a0, a1, a2, a3, a4, a5, a6, a7, a8, a9, aa, ab, ac⟩ := cells13 (heap_below (hIs'h.out.next hB7).low hbox'h.out (lt_of_heap hbox'h.out))
                have hI7 := hIs'h.out.next hB7
                clear hB7
                have hI7'h := Lib.hid hI7
                clear hI7
                go_wp2
                go_meet
                exact ⟨by first | rfl | exact congrArg Value.bool (decide_eq_false (by omega)), hI7'h.out⟩
              · obtain rfl : fl = false := by rw [hfl'h.out]; simp [c4]
                have hIs'h := Lib.hid hIs
                have CK'h := Lib.hid CK
                clear hIs CK
                go_wp2_with fail
                refine CK'h.out.mono ?_
                rintro e w7 ⟨rfl, hB7⟩
                obtain ⟨a0, a1, a2, a3, a4, a5, a6, a7, a8, a9, aa, ab, ac⟩ := cells13 (heap_below (hIs'h.out.next hB7).low hbox'h.out (lt_of_heap hbox'h.out))
                have hI7 := hIs'h.out.next hB7
                clear hB7
                have hI7'h := Lib.hid hI7
                clear hI7
                go_wp2
                go_meet
                exact ⟨by first | rfl | exact congrArg Value.bool (decide_eq_false (by omega)), hI7'h.out⟩
            · have i3 : ¬ beganq ≥ 1 := c3
              obtain rfl : fl = false := by rw [hfl'h.out]; simp [c3]
              have hIs'h := Lib.hid hIs
              have CK'h := Lib.hid CK
              clear hIs CK
              go_wp2_with fail
              refine CK'h.out.mono ?_
              rintro e w7 ⟨rfl, hB7⟩
              obtain ⟨a0, a1, a2, a3, a4, a5, a6, a7, a8, a9, aa, ab, ac⟩ := cells13 (heap_below (hIs'h.out.next hB7).low hbox'h.out (lt_of_heap hbox'h.out))
              have hI7 := hIs'h.out.next hB7
              clear hB7
              have hI7'h := Lib.hid hI7
              clear hI7
              go_wp2
              go_meet
              exact ⟨by first | rfl | exact congrArg Value.bool (decide_eq_false (by omega)), hI7'h.out⟩
          | false =>
            rw [if_neg (by simp)] at CK
            obtain rfl : fl = false := by rw [hfl'h.out]; simp
            have hIs'h := Lib.hid hIs
            have CK'h := Lib.hid CK
            clear hIs CK
            go_wp2_with fail
            refine CK'h.out.mono ?_
            rintro e w7 ⟨rfl, hB7⟩
            obtain ⟨a0, a1, a2, a3, a4, a5, a6, a7, a8, a9, aa, ab, ac⟩ := cells13 (heap_below (hIs'h.out.next hB7).low hbox'h.out (lt_of_heap hbox'h.out))
            have hI7 := hIs'h.out.next hB7
            clear hB7
            have hI7'h := Lib.hid hI7
            clear hI7
            go_wp2
            go_meet
            exact ⟨by first | rfl | exact congrArg Value.bool (decide_eq_false (by omega)), hI7'h.out⟩
        · obtain rfl : fl = false := by rw [hfl'h.out]; simp [c2]
          clear CK
          have hIs'h := Lib.hid hIs
          clear hIs
          go_wp2
          go_meet
          exact ⟨rfl, hIs'h.out⟩
      · have i1 : ¬ goerq ≥ 0 := c1
        obtain rfl : fl = false := by rw [hfl'h.out]; simp [c1]
        clear CK
        have hIs'h := Lib.hid hIs
        clear hIs
        go_wp2
        go_meet
        exact ⟨rfl, hIs'h.out⟩
    case rest =>
      obtain ⟨rfl, hI6⟩ := hcut
      clear a0 a1 a2 a3 a4 a5 a6 a7 a8 a9 aa ab ac hIs'h
      obtain ⟨a0, a1, a2, a3, a4, a5, a6, a7, a8, a9, aa, ab, ac⟩ := cells13 (heap_below hI6.low hbox'h.out (lt_of_heap hbox'h.out))
      have y0 : wc.cell? ⟨b4, 0, none⟩ = some (.int .i64 la) := blk_cell (i := 0) hI6.last rfl
      have hI6'h := Lib.hid hI6
      clear hI6
      go_upto_region 6 with fail
      go_cut [6] from 41 (fun v wr => v = .bool st ∧ wr = wc)
      case first =>
        by_cases d1 : overq ≤ 1073741824
        · by_cases d2 : la ≥ beganq
          · rcases int_zero_or atq with ⟨d3, d3a, d3b⟩ | ⟨d3, d3a, d3b⟩
            · obtain rfl : st = true := by rw [hst'h.out]; simp [d1, d2, d3]
              subst d3
              go_wp2
              go_meet
              exact ⟨by first | rfl | (simp; omega) | simp [*], rfl⟩
            · by_cases d4 : atq ≥ beganq
              · rcases int_zero_or overq with ⟨d5, d5a, d5b⟩ | ⟨d5, d5a, d5b⟩
                · obtain rfl : st = true := by rw [hst'h.out]; simp [d1, d2, d4, d5]
                  clear d3b d5b d5
                  go_wp2
                  go_meet
                  exact ⟨by first | rfl | (simp; omega) | simp [*], rfl⟩
                · by_cases d6 : atq ≤ overq
                  · obtain rfl : st = true := by rw [hst'h.out]; simp [d1, d2, d4, d6]
                    clear d3b d5b
                    go_wp2
                    go_meet
                    exact ⟨by first | rfl | (simp; omega) | simp [*], rfl⟩
                  · obtain rfl : st = false := by rw [hst'h.out]; simp [d3, d5, d6]
                    clear d3b d5b
                    go_wp2
                    go_meet
                    exact ⟨by first | rfl | (simp; omega) | simp [*], rfl⟩
              · obtain rfl : st = false := by rw [hst'h.out]; simp [d3, d4]
                clear d3b
                go_wp2
                go_meet
                exact ⟨by first | rfl | (simp; omega) | simp [*], rfl⟩
          · obtain rfl : st = false := by rw [hst'h.out]; simp [d2]
            go_wp2
            go_meet
            exact ⟨by first | rfl | (simp; omega) | simp [*], rfl⟩
        · obtain rfl : st = false := by rw [hst'h.out]; simp [d1]
          go_wp2
          go_meet
          exact ⟨by first | rfl | (simp; omega) | simp [*], rfl⟩
      case rest =>
        obtain ⟨rfl, hw9⟩ := hcut
        obtain rfl := hw9.symm
        have AL := allI_any tpq tnq tcq toldq w.heap.size b4 beganq la wc (hTD'h.out _ (below_next hlow4'h.out hI6'h.out.low)) a9 y0
        rw [← hwi2'h.out] at AL
        have AL'h := Lib.hid AL
        clear AL
        go_wp2_with fail
        refine AL'h.out.mono ?_
        rintro e w7 ⟨rfl, hB7⟩
        have hI7 := hI6'h.out.next hB7
        clear a0 a1 a2 a3 a4 a5 a6 a7 a8 a9 aa ab ac y0 hB7 AL'h hI6'h
        obtain ⟨a0, a1, a2, a3, a4, a5, a6, a7, a8, a9, aa, ab, ac⟩ := cells13 (heap_below hI7.low hbox'h.out (lt_of_heap hbox'h.out))
        have hI7'h := Lib.hid hI7
        clear hI7
        go_upto_region 8 with fail
        go_cut [8] from 78 (fun v wr => v = .bool td ∧ wr = w7)
        case first =>
          by_cases e1 : tnq = pnq
          · have j1 : ((tnq : Int) == (pnq : Int)) = true := by simp; omega
            rcases zero_or tnq with e2 | ⟨e2, e3, e4⟩
            · obtain rfl : td = true := by rw [htd'h.out]; simp [← e1, e2]
              have j2 : ((tnq : Int) == 0) = true := by simp; omega
              clear e1 e2
              go_wp2
              go_meet
              exact ⟨by first | rfl | (simp; omega) | simp [*], rfl⟩
            · by_cases e5 : opq = 6
              · obtain rfl : td = true := by rw [htd'h.out]; simp [e1, e5]
                have j3 : (opq == 6) = true := by simp [e5]
                clear e1 e3 e4 e5
                go_wp2
                go_meet
                exact ⟨by first | rfl | (simp; omega) | simp [*], rfl⟩
              · obtain rfl : td = false := by rw [htd'h.out]; rw [e4]; simp [e5]
                have j3 : (opq == 6) = false := by simp [e5]
                clear e1 e3 e4 e5
                go_wp2
                go_meet
                exact ⟨by first | rfl | (simp; omega) | simp [*], rfl⟩
          · have j1 : ((tnq : Int) == (pnq : Int)) = false := by simp; omega
            obtain rfl : td = false := by rw [htd'h.out]; simp [e1]
            clear e1
            go_wp2
            go_meet
            exact ⟨by first | rfl | (simp; omega) | simp [*], rfl⟩
        case rest =>
          obtain ⟨rfl, hw9⟩ := hcut
          obtain rfl := hw9.symm
          have hlow := below_next hlow4'h.out hI7'h.out.low
          cases fl with
          | false =>
            obtain rfl : R = false := by rw [hR'h.out]; rfl
            clear a0 a1 a2 a3 a4 a5 a6 a7 a8 a9 aa ab ac
            have hlow'h := Lib.hid hlow
            clear hlow
            go_wp2
            go_ret
            exact ⟨rfl, hlow'h.out⟩
          | true =>
            cases st with
            | false =>
              obtain rfl : R = false := by rw [hR'h.out]; rfl
              clear a0 a1 a2 a3 a4 a5 a6 a7 a8 a9 aa ab ac
              have hlow'h := Lib.hid hlow
              clear hlow
              go_wp2
              go_ret
              exact ⟨rfl, hlow'h.out⟩
            | true =>
              cases wi with
              | false =>
                obtain rfl : R = false := by rw [hR'h.out]; rfl
                clear a0 a1 a2 a3 a4 a5 a6 a7 a8 a9 aa ab ac
                have hlow'h := Lib.hid hlow
                clear hlow
                go_wp2
                go_ret
                exact ⟨rfl, hlow'h.out⟩
              | true =>
                cases td with
                | false =>
                  obtain rfl : R = false := by rw [hR'h.out]; rfl
                  clear a0 a1 a2 a3 a4 a5 a6 a7 a8 a9 aa ab ac
                  have hlow'h := Lib.hid hlow
                  clear hlow
                  go_wp2
                  go_ret
                  exact ⟨rfl, hlow'h.out⟩
                | true =>
                  rcases int_zero_or overq with ⟨d5, d5a, d5b⟩ | ⟨d5, d5a, d5b⟩
                  · have hRe : R = em := by rw [hR'h.out]; simp [d5]
                    have EE := E'h.out w7
                    clear d5 d5a hR'h
                    have hlow'h := Lib.hid hlow
                    have EE'h := Lib.hid EE
                    have hRe'h := Lib.hid hRe
                    clear hlow EE hRe
                    go_wp2_with fail
                    refine EE'h.out.mono ?_
                    rintro e w8 ⟨rfl, hB8⟩
                    have hfin := below_next hlow'h.out hB8
                    clear hB8 a0 a1 a2 a3 a4 a5 a6 a7 a8 a9 aa ab ac hlow'h EE'h
                    have hfin'h := Lib.hid hfin
                    clear hfin
                    go_wp2
                    go_ret
                    exact ⟨ret_bool hRe'h.out.symm, hfin'h.out⟩
                  · obtain rfl : R = true := by rw [hR'h.out]; simp [d5]
                    clear d5 d5a
                    have hlow'h := Lib.hid hlow
                    clear hlow
                    go_wp2
                    go_ret
                    exact ⟨rfl, hlow'h.out⟩
  · have hI := hI0'h.out
    have y0 : W5.cell? ⟨b4, 0, none⟩ = some (.int .i64 overq) := blk_cell (i := 0) hI.last rfl
    have hIs : RtI W4 b4 la W5 := ⟨hI.low, by rw [hla'h.out, if_neg h0]; exact hI.last⟩
    clear hI h2
    have hIs'h := Lib.hid hIs
    have h0'h := Lib.hid h0
    clear hIs h0
    go_upto_region 5 with fail
    clear y0 h1
    obtain ⟨a0, a1, a2, a3, a4, a5, a6, a7, a8, a9, aa, ab, ac⟩ := cells13 (heap_below hIs'h.out.low hbox'h.out (lt_of_heap hbox'h.out))
    go_cut [5] from 18 (fun v wr => v = .bool fl ∧ RtI W4 b4 la wr)
    case first =>
      have hIs := hIs'h.out
      obtain ⟨s0, s1, s2, s3, s4⟩ := cells5o (heap_below hIs.low hscr'h.out (lt_of_heap hscr'h.out))
      have CK := hCK'h.out _ hIs.low
      by_cases c1 : 0 ≤ goerq
      · have i1 : goerq ≥ 0 := c1
        by_cases c2 : goerq < 8
        · cases rc with
          | true =>
            rw [if_pos rfl] at CK
            by_cases c3 : 1 ≤ beganq
            · have i3 : beganq ≥ 1 := c3
              by_cases c4 : beganq ≤ 1073741824
              · obtain rfl : fl = true := by rw [hfl'h.out]; simp [c1, c2, c3, c4]
                have hIs'h := Lib.hid hIs
                have CK'h := Lib.hid CK
                clear hIs CK
                go_wp2_with fail
                refine CK'h.out.mono ?_
                rintro e w7 ⟨rfl, hB7⟩
                obtain ⟨a0, a1, a2, a3, a4, a5, a6, a7, a8, a9, aa, ab, ac⟩ := cells13 (heap_below (hIs'h.out.next hB7).low hbox'h.out (lt_of_heap hbox'h.out))
                have hI7 := hIs'h.out.next hB7
                clear hB7
                have hI7'h := Lib.hid hI7
                clear hI7
                go_wp2
                go_meet
                exact ⟨by first | rfl | exact congrArg Value.bool (decide_eq_false (by omega)), hI7'h.out⟩
              · obtain rfl : fl = false := by rw [hfl'h.out]; simp [c4]
                have hIs'h := Lib.hid hIs
                have CK'h := Lib.hid CK
                clear hIs CK
                go_wp2_with fail
                refine CK'h.out.mono ?_
                rintro e w7 ⟨rfl, hB7⟩
                obtain ⟨a0, a1, a2, a3, a4, a5, a6, a7, a8, a9, aa, ab, ac⟩ := cells13 (heap_below (hIs'h.out.next hB7).low hbox'h.out (lt_of_heap hbox'h.out))
                have hI7 := hIs'h.out.next hB7
                clear hB7
                have hI7'h := Lib.hid hI7
                clear hI7
                go_wp2
                go_meet
                exact ⟨by first | rfl | exact congrArg Value.bool (decide_eq_false (by omega)), hI7'h.out⟩
            · have i3 : ¬ beganq ≥ 1 := c3
              obtain rfl : fl = false := by rw [hfl'h.out]; simp [c3]
              have hIs'h := Lib.hid hIs
              have CK'h := Lib.hid CK
              clear hIs CK
              go_wp2_with fail
              refine CK'h.out.mono ?_
              rintro e w7 ⟨rfl, hB7⟩
              obtain ⟨a0, a1, a2, a3, a4, a5, a6, a7, a8, a9, aa, ab, ac⟩ := cells13 (heap_below (hIs'h.out.next hB7).low hbox'h.out (lt_of_heap hbox'h.out))
              have hI7 := hIs'h.out.next hB7
              clear hB7
              have hI7'h := Lib.hid hI7
              clear hI7
              go_wp2
              go_meet
              exact ⟨by first | rfl | exact congrArg Value.bool (decide_eq_false (by omega)), hI7'h.out⟩
          | false =>
            rw [if_neg (by simp)] at CK
            obtain rfl : fl = false := by rw [hfl'h.out]; simp
            have hIs'h := Lib.hid hIs
            have CK'h := Lib.hid CK
            clear hIs CK
            go_wp2_with fail
            refine CK'h.out.mono ?_
            rintro e w7 ⟨rfl, hB7⟩
            obtain ⟨a0, a1, a2, a3, a4, a5, a6, a7, a8, a9, aa, ab, ac⟩ := cells13 (heap_below (hIs'h.out.next hB7).low hbox'h.out (lt_of_heap hbox'h.out))
            have hI7 := hIs'h.out.next hB7
            clear hB7
            have hI7'h := Lib.hid hI7
            clear hI7
            go_wp2
            go_meet
            exact ⟨by first | rfl | exact congrArg Value.bool (decide_eq_false (by omega)), hI7'h.out⟩
        · obtain rfl : fl = false := by rw [hfl'h.out]; simp [c2]
          clear CK
          have hIs'h := Lib.hid hIs
          clear hIs
          go_wp2
          go_meet
          exact ⟨rfl, hIs'h.out⟩
      · have i1 : ¬ goerq ≥ 0 := c1
        obtain rfl : fl = false := by rw [hfl'h.out]; simp [c1]
        clear CK
        have hIs'h := Lib.hid hIs
        clear hIs
        go_wp2
        go_meet
        exact ⟨rfl, hIs'h.out⟩
    case rest =>
      obtain ⟨rfl, hI6⟩ := hcut
      clear a0 a1 a2 a3 a4 a5 a6 a7 a8 a9 aa ab ac hIs'h
      obtain ⟨a0, a1, a2, a3, a4, a5, a6, a7, a8, a9, aa, ab, ac⟩ := cells13 (heap_below hI6.low hbox'h.out (lt_of_heap hbox'h.out))
      have y0 : wc.cell? ⟨b4, 0, none⟩ = some (.int .i64 la) := blk_cell (i := 0) hI6.last rfl
      have hI6'h := Lib.hid hI6
      clear hI6
      go_upto_region 6 with fail
      go_cut [6] from 41 (fun v wr => v = .bool st ∧ wr = wc)
      case first =>
        by_cases d1 : overq ≤ 1073741824
        · by_cases d2 : la ≥ beganq
          · rcases int_zero_or atq with ⟨d3, d3a, d3b⟩ | ⟨d3, d3a, d3b⟩
            · obtain rfl : st = true := by rw [hst'h.out]; simp [d1, d2, d3]
              subst d3
              go_wp2
              go_meet
              exact ⟨by first | rfl | (simp; omega) | simp [*], rfl⟩
            · by_cases d4 : atq ≥ beganq
              · rcases int_zero_or overq with ⟨d5, d5a, d5b⟩ | ⟨d5, d5a, d5b⟩
                · obtain rfl : st = true := by rw [hst'h.out]; simp [d1, d2, d4, d5]
                  clear d3b d5b d5
                  go_wp2
                  go_meet
                  exact ⟨by first | rfl | (simp; omega) | simp [*], rfl⟩
                · by_cases d6 : atq ≤ overq
                  · obtain rfl : st = true := by rw [hst'h.out]; simp [d1, d2, d4, d6]
                    clear d3b d5b
                    go_wp2
                    go_meet
                    exact ⟨by first | rfl | (simp; omega) | simp [*], rfl⟩
                  · obtain rfl : st = false := by rw [hst'h.out]; simp [d3, d5, d6]
                    clear d3b d5b
                    go_wp2
                    go_meet
                    exact ⟨by first | rfl | (simp; omega) | simp [*], rfl⟩
              · obtain rfl : st = false := by rw [hst'h.out]; simp [d3, d4]
                clear d3b
                go_wp2
                go_meet
                exact ⟨by first | rfl | (simp; omega) | simp [*], rfl⟩
          · obtain rfl : st = false := by rw [hst'h.out]; simp [d2]
            go_wp2
            go_meet
            exact ⟨by first | rfl | (simp; omega) | simp [*], rfl⟩
        · obtain rfl : st = false := by rw [hst'h.out]; simp [d1]
          go_wp2
          go_meet
          exact ⟨by first | rfl | (simp; omega) | simp [*], rfl⟩
      case rest =>
        obtain ⟨rfl, hw9⟩ := hcut
        obtain rfl := hw9.symm
        have AL := allI_any tpq tnq tcq toldq w.heap.size b4 beganq la wc (hTD'h.out _ (below_next hlow4'h.out hI6'h.out.low)) a9 y0
        rw [← hwi2'h.out] at AL
        have AL'h := Lib.hid AL
        clear AL
        go_wp2_with fail
        refine AL'h.out.mono ?_
        rintro e w7 ⟨rfl, hB7⟩
        have hI7 := hI6'h.out.next hB7
        clear a0 a1 a2 a3 a4 a5 a6 a7 a8 a9 aa ab ac y0 hB7 AL'h hI6'h
        obtain ⟨a0, a1, a2, a3, a4, a5, a6, a7, a8, a9, aa, ab, ac⟩ := cells13 (heap_below hI7.low hbox'h.out (lt_of_heap hbox'h.out))
        have hI7'h := Lib.hid hI7
        clear hI7
        go_upto_region 8 with fail
        go_cut [8] from 78 (fun v wr => v = .bool td ∧ wr = w7)
        case first =>
          by_cases e1 : tnq = pnq
          · have j1 : ((tnq : Int) == (pnq : Int)) = true := by simp; omega
            rcases zero_or tnq with e2 | ⟨e2, e3, e4⟩
            · obtain rfl : td = true := by rw [htd'h.out]; simp [← e1, e2]
              have j2 : ((tnq : Int) == 0) = true := by simp; omega
              clear e1 e2
              go_wp2
              go_meet
              exact ⟨by first | rfl | (simp; omega) | simp [*], rfl⟩
            · by_cases e5 : opq = 6
              · obtain rfl : td = true := by rw [htd'h.out]; simp [e1, e5]
                have j3 : (opq == 6) = true := by simp [e5]
                clear e1 e3 e4 e5
                go_wp2
                go_meet
                exact ⟨by first | rfl | (simp; omega) | simp [*], rfl⟩
              · obtain rfl : td = false := by rw [htd'h.out]; rw [e4]; simp [e5]
                have j3 : (opq == 6) = false := by simp [e5]
                clear e1 e3 e4 e5
                go_wp2
                go_meet
                exact ⟨by first | rfl | (simp; omega) | simp [*], rfl⟩
          · have j1 : ((tnq : Int) == (pnq : Int)) = false := by simp; omega
            obtain rfl : td = false := by rw [htd'h.out]; simp [e1]
            clear e1
            go_wp2
            go_meet
            exact ⟨by first | rfl | (simp; omega) | simp [*], rfl⟩
        case rest =>
          obtain ⟨rfl, hw9⟩ := hcut
          obtain rfl := hw9.symm
          have hlow := below_next hlow4'h.out hI7'h.out.low
          cases fl with
          | false =>
            obtain rfl : R = false := by rw [hR'h.out]; rfl
            clear a0 a1 a2 a3 a4 a5 a6 a7 a8 a9 aa ab ac
            have hlow'h := Lib.hid hlow
            clear hlow
            go_wp2
            go_ret
            exact ⟨rfl, hlow'h.out⟩
          | true =>
            cases st with
            | false =>
              obtain rfl : R = false := by rw [hR'h.out]; rfl
              clear a0 a1 a2 a3 a4 a5 a6 a7 a8 a9 aa ab ac
              have hlow'h := Lib.hid hlow
              clear hlow
              go_wp2
              go_ret
              exact ⟨rfl, hlow'h.out⟩
            | true =>
              cases wi with
              | false =>
                obtain rfl : R = false := by rw [hR'h.out]; rfl
                clear a0 a1 a2 a3 a4 a5 a6 a7 a8 a9 aa ab ac
                have hlow'h := Lib.hid hlow
                clear hlow
                go_wp2
                go_ret
                exact ⟨rfl, hlow'h.out⟩
              | true =>
                cases td with
                | false =>
                  obtain rfl : R = false := by rw [hR'h.out]; rfl
                  clear a0 a1 a2 a3 a4 a5 a6 a7 a8 a9 aa ab ac
                  have hlow'h := Lib.hid hlow
                  clear hlow
                  go_wp2
                  go_ret
                  exact ⟨rfl, hlow'h.out⟩
                | true =>
                  rcases int_zero_or overq with ⟨d5, d5a, d5b⟩ | ⟨d5, d5a, d5b⟩
                  · have hRe : R = em := by rw [hR'h.out]; simp [d5]
                    have EE := E'h.out w7
                    clear d5 d5a hR'h
                    have hlow'h := Lib.hid hlow
                    have EE'h := Lib.hid EE
                    have hRe'h := Lib.hid hRe
                    clear hlow EE hRe
                    go_wp2_with fail
                    refine EE'h.out.mono ?_
                    rintro e w8 ⟨rfl, hB8⟩
                    have hfin := below_next hlow'h.out hB8
                    clear hB8 a0 a1 a2 a3 a4 a5 a6 a7 a8 a9 aa ab ac hlow'h EE'h
                    have hfin'h := Lib.hid hfin
                    clear hfin
                    go_wp2
                    go_ret
                    exact ⟨ret_bool hRe'h.out.symm, hfin'h.out⟩
                  · obtain rfl : R = true := by rw [hR'h.out]; simp [d5]
                    clear d5 d5a
                    have hlow'h := Lib.hid hlow
                    clear hlow
                    go_wp2
                    go_ret
                    exact ⟨rfl, hlow'h.out⟩
end Go.Proofs.YtogeohjeabbmaaaDoor

/-
  Layer 27 (order): does something hold of all calls of a row?
-/
set_option linter.unusedSimpArgs false
set_option linter.unusedVariables false
set_option maxRecDepth 100000
namespace Go.Proofs.YtogeohjeabbmaaaDoor
open Go.RowKit

theorem allR_one (x : Mm) (q : Bool) (g : Nat) (w : World) (hF : ∀ W, Below w.heap.size w W → Calls Tryd.prog 29 #[.agg (mmA x)] W fun e w' => e = .returned (.bool q) ∧ Below W.heap.size W w') (hg : w.cell? ⟨g, 0, none⟩ = some (.func (.func 29) #[] #[])) :
    Calls Tryd.prog 53 #[.agg (mmA x), .pointer (some ⟨g, 0, none⟩)] w fun e w' => e = .returned (.bool (!q)) ∧ Below w.heap.size w w' := by
  have hB1 : Below w.heap.size w (w.alloc (.cells (mmA x) 39)) := (Below.refl _ _).alloc (Nat.le_refl _) _
  have C := hF _ hB1
  have hg1 := (hB1.cell (p := ⟨g, 0, none⟩) (lt_of_cell hg)).trans hg
  clear hg hF
  obtain ⟨⟨goerx, ⟨opx, kyx, cax, cbx⟩, ⟨errx, valx, donex⟩, prsx, beganx, atx, overx, toldx⟩, ppx, pnx, pcx, tpx, tnx, tcx⟩ := x
  simp only [mmA] at *
  have C'h := Lib.hid C
  have hB1'h := Lib.hid hB1
  clear C hB1
  go_enter Tryd.func53, Tryd.ntmps53
  go_wp2_with fail
  refine C'h.out.mono ?_
  rintro e w2 ⟨rfl, hB2⟩
  have hBw2 := below_next hB1'h.out hB2
  clear hB2 C'h hB1'h hg1
  have hBw2'h := Lib.hid hBw2
  clear hBw2
  go_wp2
  go_ret
  exact ⟨ret_bool rfl, hBw2'h.out⟩
theorem allR_idx (sp : Option Addr) (n cap : Nat) (l : List Mm) (q : Mm → Bool) (g : Nat) (w : World) (h : MsIn w sp n l) (hF : ∀ x ∈ l, ∀ W, Below w.heap.size w W → Calls Tryd.prog 29 #[.agg (mmA x)] W fun e w' => e = .returned (.bool (q x)) ∧ Below W.heap.size W w') (hg : w.cell? ⟨g, 0, none⟩ = some (.func (.func 29) #[] #[])) :
    Calls Tryd.prog 71 #[.slice sp n cap, .func (.func 53) #[] #[.pointer (some ⟨g, 0, none⟩)]] w fun e w' => e = .returned (.int .i64 (idxG (fun x => !q x) l)) ∧ Below w.heap.size w w' := by
  have hlen := h.len
  have hmax := h.sl.2.1
  unfold maxLen at hmax
  have hlen'h := Lib.hid hlen
  have h'h := Lib.hid h
  have hg'h := Lib.hid hg
  have hF'h := Lib.hid hF
  have hmax'h := Lib.hid hmax
  clear hlen h hg hF hmax
  go_enter Tryd.func71, Tryd.ntmps71
  go_wp2
  go_loopg [8] n (fun k' i wr => ∃ k : Nat, k + k' = n ∧ i = .int .i64 k ∧ (∀ j, (h : j < k) → (h' : j < l.length) → (!q (l[j]'h')) = false) ∧ Below w.heap.size w wr)
  case atStart => exact ⟨0, by omega, rfl, fun j hj => by omega, Below.refl _ _⟩
  case round =>
    obtain ⟨k, hk, rfl, hall, hbr⟩ := hrel
    by_cases hlt : k < n
    · have hkl : k < l.length := by have := hlen'h.out; omega
      have hS := h'h.out.below hbr
      obtain ⟨b, off, rfl⟩ := slk_some hS.sl (by omega)
      obtain ⟨c, hc⟩ : ∃ c, c = nthM l k := ⟨_, rfl⟩
      have e0 : wr.cell? ⟨b, off + k * 13, none⟩ = some (.int .i64 c.md.goer) := hS.cells hkl (i := 0) (by omega) (by rw [← hc]; rfl)
      have e1 : wr.cell? ⟨b, off + k * 13 + 1, none⟩ = some (.int .i64 c.md.call.op) := hS.cells hkl (i := 1) (by omega) (by rw [← hc]; rfl)
      have e2 : wr.cell? ⟨b, off + k * 13 + 2, none⟩ = some (.int .u64 (c.md.call.key : Int)) := hS.cells hkl (i := 2) (by omega) (by rw [← hc]; rfl)
      have e3 : wr.cell? ⟨b, off + k * 13 + 3, none⟩ = some (.int .u64 (c.md.call.a : Int)) := hS.cells hkl (i := 3) (by omega) (by rw [← hc]; rfl)
      have e4 : wr.cell? ⟨b, off + k * 13 + 4, none⟩ = some (.int .u64 (c.md.call.b : Int)) := hS.cells hkl (i := 4) (by omega) (by rw [← hc]; rfl)
      have e5 : wr.cell? ⟨b, off + k * 13 + 5, none⟩ = some (.int .i64 c.md.ans.err) := hS.cells hkl (i := 5) (by omega) (by rw [← hc]; rfl)
      have e6 : wr.cell? ⟨b, off + k * 13 + 6, none⟩ = some (.int .u64 (c.md.ans.val : Int)) := hS.cells hkl (i := 6) (by omega) (by rw [← hc]; rfl)
      have e7 : wr.cell? ⟨b, off + k * 13 + 7, none⟩ = some (.bool c.md.ans.done) := hS.cells hkl (i := 7) (by omega) (by rw [← hc]; rfl)
      have e8 : wr.cell? ⟨b, off + k * 13 + 8, none⟩ = some (.slice c.pp c.pn c.pc) := hS.cells hkl (i := 8) (by omega) (by rw [← hc]; rfl)
      have e9 : wr.cell? ⟨b, off + k * 13 + 9, none⟩ = some (.int .i64 c.md.began) := hS.cells hkl (i := 9) (by omega) (by rw [← hc]; rfl)
      have ea : wr.cell? ⟨b, off + k * 13 + 10, none⟩ = some (.int .i64 c.md.at') := hS.cells hkl (i := 10) (by omega) (by rw [← hc]; rfl)
      have eb : wr.cell? ⟨b, off + k * 13 + 11, none⟩ = some (.int .i64 c.md.over) := hS.cells hkl (i := 11) (by omega) (by rw [← hc]; rfl)
      have ec : wr.cell? ⟨b, off + k * 13 + 12, none⟩ = some (.slice c.tp c.tn c.tc) := hS.cells hkl (i := 12) (by omega) (by rw [← hc]; rfl)
      have hck : l[k] = c := by rw [hc]; exact nthM_eq hkl
      have C := allR_one c (q c) g wr (fun W hW => hF'h.out c (by rw [hc]; exact nthM_mem hkl) W (below_next hbr hW)) ((hbr.cell (p := ⟨g, 0, none⟩) (lt_of_cell hg'h.out)).trans hg'h.out)
      have i1 : (k : Int) < (n : Int) := by omega
      have i2 : (0 : Int) ≤ (k : Int) := by omega
      have i3 : (k : Int) + 1 ≤ 9223372036854775807 := by have := hmax'h.out; omega
      have hnx : q c = true → ∀ j, (h : j < k + 1) → (h' : j < l.length) → (!q (l[j]'h')) = false := fun hz j hj h' => by
        by_cases e : j = k
        · subst e; rw [hck, hz]; rfl
        · exact hall j (by omega) h'
      have hit : q c = false → idxG (fun x => !q x) l = (k : Int) := fun hz => idxG_hit (p := fun x => !q x) hkl (fun j hj => hall j hj (by omega)) (by rw [hck, hz]; rfl)
      clear hc hall hS hck
      generalize q c = v at *
      obtain ⟨⟨goerc, ⟨opc, kyc, cac, cbc⟩, ⟨errc, valc, donec⟩, prsc, beganc, atc, overc, toldc⟩, ppc, pnc, pcc, tpc, tnc, tcc⟩ := c
      simp only [mmA] at *
      cases v with
      | false =>
        have hr := hit rfl
        have hk'h := Lib.hid hk
        have C'h := Lib.hid C
        have hr'h := Lib.hid hr
        have hbr'h := Lib.hid hbr
        have hnx'h := Lib.hid hnx
        clear hk C hr hbr hnx
        clear hit
        go_wp2_with fail
        refine C'h.out.mono ?_
        rintro e w2 ⟨rfl, hB2⟩
        have hfin := below_next hbr'h.out hB2
        clear hB2 C'h hbr'h
        have hfin'h := Lib.hid hfin
        clear hfin
        go_wp2
        go_ret
        exact ⟨ret_i64 hr'h.out.symm, hfin'h.out⟩
      | true =>
        have hnx := hnx rfl
        have hk'h := Lib.hid hk
        have C'h := Lib.hid C
        have hbr'h := Lib.hid hbr
        have hnx'h := Lib.hid hnx
        clear hk C hbr hnx
        clear hit
        go_wp2_with fail
        refine C'h.out.mono ?_
        rintro e w2 ⟨rfl, hB2⟩
        have hfin := below_next hbr'h.out hB2
        clear hB2 C'h hbr'h
        have hfin'h := Lib.hid hfin
        clear hfin
        go_wp2
        go_roundg (gk - 1)
        case measure => have := hk'h.out; omega
        case rel => exact ⟨k + 1, by have := hk'h.out; omega, by go_num, hnx'h.out, hfin'h.out⟩
    · have hr := idxG_none (l := l) (p := fun x => !q x) (fun j hj => hall j (by have := hlen'h.out; omega) hj)
      have hd : ¬ ((k : Int) < (n : Int)) := by omega
      have hk'h := Lib.hid hk
      have hall'h := Lib.hid hall
      have hr'h := Lib.hid hr
      have hbr'h := Lib.hid hbr
      clear hk hall hr hbr
      go_wp2
      go_ret
      exact ⟨ret_i64 hr'h.out.symm, hbr'h.out⟩
theorem allR_any (sp : Option Addr) (n cap : Nat) (l : List Mm) (q : Mm → Bool) (w : World) (h : MsIn w sp n l) (hF : ∀ x ∈ l, ∀ W, Below w.heap.size w W → Calls Tryd.prog 29 #[.agg (mmA x)] W fun e w' => e = .returned (.bool (q x)) ∧ Below W.heap.size W w') :
    Calls Tryd.prog 28 #[.slice sp n cap, .func (.func 29) #[] #[]] w fun e w' => e = .returned (.bool (l.all q)) ∧ Below w.heap.size w w' := by
  have hB : Below w.heap.size w (w.alloc (.cells #[.func (.func 29) #[] #[]] 68)) := (Below.refl _ _).alloc (Nat.le_refl _) _
  have hg : (w.alloc (.cells #[.func (.func 29) #[] #[]] 68)).cell? ⟨w.heap.size, 0, none⟩ = some (.func (.func 29) #[] #[]) := blk_cell (World.alloc_heap_new _ _) rfl
  have I := allR_idx sp n cap l q w.heap.size _ (h.below hB) (fun x hx W hW => hF x hx W (below_next hB hW)) hg
  have e : (!decide (0 ≤ idxG (fun x => !q x) l)) = l.all q := by
    rw [idxG_any, ← List.not_all_eq_any_not]; simp
  obtain ⟨W1, hW1⟩ : ∃ W1, W1 = w.alloc (.cells #[.func (.func 29) #[] #[]] 68) := ⟨_, rfl⟩
  rw [← hW1] at I hB
  have H : Calls Tryd.prog 52 #[.slice sp n cap, .func (.func 53) #[] #[.pointer (some ⟨w.heap.size, 0, none⟩)]] W1 fun e w' => e = .returned (.bool (decide (0 ≤ idxG (fun x => !q x) l))) ∧ Below W1.heap.size W1 w' := by
    clear e hB hg h hF hW1
    generalize idxG (fun x => !q x) l = i at *
    generalize w.heap.size = g at *
    have I'h := Lib.hid I
    clear I
    by_cases hi : 0 ≤ i
    · go_enter Tryd.func52, Tryd.ntmps52
      go_wp2_with fail
      refine I'h.out.mono ?_
      rintro e w2 ⟨rfl, hB2⟩
      have hB2'h := Lib.hid hB2
      clear hB2
      go_wp2
      go_ret
      exact ⟨ret_bool (by simp [hi]), hB2'h.out⟩
    · go_enter Tryd.func52, Tryd.ntmps52
      go_wp2_with fail
      refine I'h.out.mono ?_
      rintro e w2 ⟨rfl, hB2⟩
      have hB2'h := Lib.hid hB2
      clear hB2
      go_wp2
      go_ret
      exact ⟨ret_bool (by simp [hi]), hB2'h.out⟩
  generalize decide (0 ≤ idxG (fun x => !q x) l) = v at *
  clear I hg h hF
  rw [hW1] at H hB
  clear hW1
  have H'h := Lib.hid H
  have hB'h := Lib.hid hB
  have e'h := Lib.hid e
  clear H hB e
  go_enter Tryd.func28, Tryd.ntmps28
  go_wp2_with fail
  refine H'h.out.mono ?_
  rintro ee w2 ⟨rfl, hB2⟩
  have hfin := below_next hB'h.out hB2
  clear hB2 H'h hB'h
  have hfin'h := Lib.hid hfin
  clear hfin
  go_wp2
  go_ret
  exact ⟨ret_bool e'h.out, hfin'h.out⟩
theorem allK_one (x : Mm) (q : Bool) (g g0 : Nat) (w : World) (hF : ∀ W, Below w.heap.size w W → Calls Tryd.prog 30 #[.agg (mmA x), .pointer (some ⟨g0, 0, none⟩)] W fun e w' => e = .returned (.bool q) ∧ Below W.heap.size W w') (hg : w.cell? ⟨g, 0, none⟩ = some (.func (.func 30) #[] #[.pointer (some ⟨g0, 0, none⟩)])) :
    Calls Tryd.prog 53 #[.agg (mmA x), .pointer (some ⟨g, 0, none⟩)] w fun e w' => e = .returned (.bool (!q)) ∧ Below w.heap.size w w' := by
  have hB1 : Below w.heap.size w (w.alloc (.cells (mmA x) 39)) := (Below.refl _ _).alloc (Nat.le_refl _) _
  have C := hF _ hB1
  have hg1 := (hB1.cell (p := ⟨g, 0, none⟩) (lt_of_cell hg)).trans hg
  clear hg hF
  obtain ⟨⟨goerx, ⟨opx, kyx, cax, cbx⟩, ⟨errx, valx, donex⟩, prsx, beganx, atx, overx, toldx⟩, ppx, pnx, pcx, tpx, tnx, tcx⟩ := x
  simp only [mmA] at *
  have C'h := Lib.hid C
  have hB1'h := Lib.hid hB1
  clear C hB1
  go_enter Tryd.func53, Tryd.ntmps53
  go_wp2_with fail
  refine C'h.out.mono ?_
  rintro e w2 ⟨rfl, hB2⟩
  have hBw2 := below_next hB1'h.out hB2
  clear hB2 C'h hB1'h hg1
  have hBw2'h := Lib.hid hBw2
  clear hBw2
  go_wp2
  go_ret
  exact ⟨ret_bool rfl, hBw2'h.out⟩
theorem allK_idx (sp : Option Addr) (n cap : Nat) (l : List Mm) (q : Mm → Bool) (g g0 : Nat) (w : World) (h : MsIn w sp n l) (hF : ∀ x ∈ l, ∀ W, Below w.heap.size w W → Calls Tryd.prog 30 #[.agg (mmA x), .pointer (some ⟨g0, 0, none⟩)] W fun e w' => e = .returned (.bool (q x)) ∧ Below W.heap.size W w') (hg : w.cell? ⟨g, 0, none⟩ = some (.func (.func 30) #[] #[.pointer (some ⟨g0, 0, none⟩)])) :
    Calls Tryd.prog 71 #[.slice sp n cap, .func (.func 53) #[] #[.pointer (some ⟨g, 0, none⟩)]] w fun e w' => e = .returned (.int .i64 (idxG (fun x => !q x) l)) ∧ Below w.heap.size w w' := by
  have hlen := h.len
  have hmax := h.sl.2.1
  unfold maxLen at hmax
  have hlen'h := Lib.hid hlen
  have h'h := Lib.hid h
  have hg'h := Lib.hid hg
  have hF'h := Lib.hid hF
  have hmax'h := Lib.hid hmax
  clear hlen h hg hF hmax
  go_enter Tryd.func71, Tryd.ntmps71
  go_wp2
  go_loopg [8] n (fun k' i wr => ∃ k : Nat, k + k' = n ∧ i = .int .i64 k ∧ (∀ j, (h : j < k) → (h' : j < l.length) → (!q (l[j]'h')) = false) ∧ Below w.heap.size w wr)
  case atStart => exact ⟨0, by omega, rfl, fun j hj => by omega, Below.refl _ _⟩
  case round =>
    obtain ⟨k, hk, rfl, hall, hbr⟩ := hrel
    by_cases hlt : k < n
    · have hkl : k < l.length := by have := hlen'h.out; omega
      have hS := h'h.out.below hbr
      obtain ⟨b, off, rfl⟩ := slk_some hS.sl (by omega)
      obtain ⟨c, hc⟩ : ∃ c, c = nthM l k := ⟨_, rfl⟩
      have e0 : wr.cell? ⟨b, off + k * 13, none⟩ = some (.int .i64 c.md.goer) := hS.cells hkl (i := 0) (by omega) (by rw [← hc]; rfl)
      have e1 : wr.cell? ⟨b, off + k * 13 + 1, none⟩ = some (.int .i64 c.md.call.op) := hS.cells hkl (i := 1) (by omega) (by rw [← hc]; rfl)
      have e2 : wr.cell? ⟨b, off + k * 13 + 2, none⟩ = some (.int .u64 (c.md.call.key : Int)) := hS.cells hkl (i := 2) (by omega) (by rw [← hc]; rfl)
      have e3 : wr.cell? ⟨b, off + k * 13 + 3, none⟩ = some (.int .u64 (c.md.call.a : Int)) := hS.cells hkl (i := 3) (by omega) (by rw [← hc]; rfl)
      have e4 : wr.cell? ⟨b, off + k * 13 + 4, none⟩ = some (.int .u64 (c.md.call.b : Int)) := hS.cells hkl (i := 4) (by omega) (by rw [← hc]; rfl)
      have e5 : wr.cell? ⟨b, off + k * 13 + 5, none⟩ = some (.int .i64 c.md.ans.err) := hS.cells hkl (i := 5) (by omega) (by rw [← hc]; rfl)
      have e6 : wr.cell? ⟨b, off + k * 13 + 6, none⟩ = some (.int .u64 (c.md.ans.val : Int)) := hS.cells hkl (i := 6) (by omega) (by rw [← hc]; rfl)
      have e7 : wr.cell? ⟨b, off + k * 13 + 7, none⟩ = some (.bool c.md.ans.done) := hS.cells hkl (i := 7) (by omega) (by rw [← hc]; rfl)
      have e8 : wr.cell? ⟨b, off + k * 13 + 8, none⟩ = some (.slice c.pp c.pn c.pc) := hS.cells hkl (i := 8) (by omega) (by rw [← hc]; rfl)
      have e9 : wr.cell? ⟨b, off + k * 13 + 9, none⟩ = some (.int .i64 c.md.began) := hS.cells hkl (i := 9) (by omega) (by rw [← hc]; rfl)
      have ea : wr.cell? ⟨b, off + k * 13 + 10, none⟩ = some (.int .i64 c.md.at') := hS.cells hkl (i := 10) (by omega) (by rw [← hc]; rfl)
      have eb : wr.cell? ⟨b, off + k * 13 + 11, none⟩ = some (.int .i64 c.md.over) := hS.cells hkl (i := 11) (by omega) (by rw [← hc]; rfl)
      have ec : wr.cell? ⟨b, off + k * 13 + 12, none⟩ = some (.slice c.tp c.tn c.tc) := hS.cells hkl (i := 12) (by omega) (by rw [← hc]; rfl)
      have hck : l[k] = c := by rw [hc]; exact nthM_eq hkl
      have C := allK_one c (q c) g g0 wr (fun W hW => hF'h.out c (by rw [hc]; exact nthM_mem hkl) W (below_next hbr hW)) ((hbr.cell (p := ⟨g, 0, none⟩) (lt_of_cell hg'h.out)).trans hg'h.out)
      have i1 : (k : Int) < (n : Int) := by omega
      have i2 : (0 : Int) ≤ (k : Int) := by omega
      have i3 : (k : Int) + 1 ≤ 9223372036854775807 := by have := hmax'h.out; omega
      have hnx : q c = true → ∀ j, (h : j < k + 1) → (h' : j < l.length) → (!q (l[j]'h')) = false := fun hz j hj h' => by
        by_cases e : j = k
        · subst e; rw [hck, hz]; rfl
        · exact hall j (by omega) h'
      have hit : q c = false → idxG (fun x => !q x) l = (k : Int) := fun hz => idxG_hit (p := fun x => !q x) hkl (fun j hj => hall j hj (by omega)) (by rw [hck, hz]; rfl)
      clear hc hall hS hck
      generalize q c = v at *
      obtain ⟨⟨goerc, ⟨opc, kyc, cac, cbc⟩, ⟨errc, valc, donec⟩, prsc, beganc, atc, overc, toldc⟩, ppc, pnc, pcc, tpc, tnc, tcc⟩ := c
      simp only [mmA] at *
      cases v with
      | false =>
        have hr := hit rfl
        have hk'h := Lib.hid hk
        have C'h := Lib.hid C
        have hr'h := Lib.hid hr
        have hbr'h := Lib.hid hbr
        have hnx'h := Lib.hid hnx
        clear hk C hr hbr hnx
        clear hit
        go_wp2_with fail
        refine C'h.out.mono ?_
        rintro e w2 ⟨rfl, hB2⟩
        have hfin := below_next hbr'h.out hB2
        clear hB2 C'h hbr'h
        have hfin'h := Lib.hid hfin
        clear hfin
        go_wp2
        go_ret
        exact ⟨ret_i64 hr'h.out.symm, hfin'h.out⟩
      | true =>
        have hnx := hnx rfl
        have hk'h := Lib.hid hk
        have C'h := Lib.hid C
        have hbr'h := Lib.hid hbr
        have hnx'h := Lib.hid hnx
        clear hk C hbr hnx
        clear hit
        go_wp2_with fail
        refine C'h.out.mono ?_
        rintro e w2 ⟨rfl, hB2⟩
        have hfin := below_next hbr'h.out hB2
        clear hB2 C'h hbr'h
        have hfin'h := Lib.hid hfin
        clear hfin
        go_wp2
        go_roundg (gk - 1)
        case measure => have := hk'h.out; omega
        case rel => exact ⟨k + 1, by have := hk'h.out; omega, by go_num, hnx'h.out, hfin'h.out⟩
    · have hr := idxG_none (l := l) (p := fun x => !q x) (fun j hj => hall j (by have := hlen'h.out; omega) hj)
      have hd : ¬ ((k : Int) < (n : Int)) := by omega
      have hk'h := Lib.hid hk
      have hall'h := Lib.hid hall
      have hr'h := Lib.hid hr
      have hbr'h := Lib.hid hbr
      clear hk hall hr hbr
      go_wp2
      go_ret
      exact ⟨ret_i64 hr'h.out.symm, hbr'h.out⟩
theorem allK_any (sp : Option Addr) (n cap : Nat) (l : List Mm) (q : Mm → Bool) (g0 : Nat) (w : World) (h : MsIn w sp n l) (hF : ∀ x ∈ l, ∀ W, Below w.heap.size w W → Calls Tryd.prog 30 #[.agg (mmA x), .pointer (some ⟨g0, 0, none⟩)] W fun e w' => e = .returned (.bool (q x)) ∧ Below W.heap.size W w') :
    Calls Tryd.prog 28 #[.slice sp n cap, .func (.func 30) #[] #[.pointer (some ⟨g0, 0, none⟩)]] w fun e w' => e = .returned (.bool (l.all q)) ∧ Below w.heap.size w w' := by
  have hB : Below w.heap.size w (w.alloc (.cells #[.func (.func 30) #[] #[.pointer (some ⟨g0, 0, none⟩)]] 68)) := (Below.refl _ _).alloc (Nat.le_refl _) _
  have hg : (w.alloc (.cells #[.func (.func 30) #[] #[.pointer (some ⟨g0, 0, none⟩)]] 68)).cell? ⟨w.heap.size, 0, none⟩ = some (.func (.func 30) #[] #[.pointer (some ⟨g0, 0, none⟩)]) := blk_cell (World.alloc_heap_new _ _) rfl
  have I := allK_idx sp n cap l q w.heap.size g0 _ (h.below hB) (fun x hx W hW => hF x hx W (below_next hB hW)) hg
  have e : (!decide (0 ≤ idxG (fun x => !q x) l)) = l.all q := by
    rw [idxG_any, ← List.not_all_eq_any_not]; simp
  obtain ⟨W1, hW1⟩ : ∃ W1, W1 = w.alloc (.cells #[.func (.func 30) #[] #[.pointer (some ⟨g0, 0, none⟩)]] 68) := ⟨_, rfl⟩
  rw [← hW1] at I hB
  have H : Calls Tryd.prog 52 #[.slice sp n cap, .func (.func 53) #[] #[.pointer (some ⟨w.heap.size, 0, none⟩)]] W1 fun e w' => e = .returned (.bool (decide (0 ≤ idxG (fun x => !q x) l))) ∧ Below W1.heap.size W1 w' := by
    clear e hB hg h hF hW1
    generalize idxG (fun x => !q x) l = i at *
    generalize w.heap.size = g at *
    have I'h := Lib.hid I
    clear I
    by_cases hi : 0 ≤ i
    · go_enter Tryd.func52, Tryd.ntmps52
      go_wp2_with fail
      refine I'h.out.mono ?_
      rintro e w2 ⟨rfl, hB2⟩
      have hB2'h := Lib.hid hB2
      clear hB2
      go_wp2
      go_ret
      exact ⟨ret_bool (by simp [hi]), hB2'h.out⟩
    · go_enter Tryd.func52, Tryd.ntmps52
      go_wp2_with fail
      refine I'h.out.mono ?_
      rintro e w2 ⟨rfl, hB2⟩
      have hB2'h := Lib.hid hB2
      clear hB2
      go_wp2
      go_ret
      exact ⟨ret_bool (by simp [hi]), hB2'h.out⟩
  generalize decide (0 ≤ idxG (fun x => !q x) l) = v at *
  clear I hg h hF
  rw [hW1] at H hB
  clear hW1
  have H'h := Lib.hid H
  have hB'h := Lib.hid hB
  have e'h := Lib.hid e
  clear H hB e
  go_enter Tryd.func28, Tryd.ntmps28
  go_wp2_with fail
  refine H'h.out.mono ?_
  rintro ee w2 ⟨rfl, hB2⟩
  have hfin := below_next hB'h.out hB2
  clear hB2 H'h hB'h
  have hfin'h := Lib.hid hfin
  clear hfin
  go_wp2
  go_ret
  exact ⟨ret_bool e'h.out, hfin'h.out⟩
end Go.Proofs.YtogeohjeabbmaaaDoor

