/-
  Layer 27 (order): is a call ahead, an answer empty, a call of all?
-/
import Derived.Test.YtogeohjeabbmaaaDoorOrdPure
import Derived.Test.YtogeohjeabbmaaaDoorY1
import Derived.Test.YtogeohjeabbmaaaDoorDocA
set_option linter.unusedSimpArgs false
set_option linter.unusedVariables false
set_option maxRecDepth 100000
namespace Go.Proofs.YtogeohjeabbmaaaDoor
open Go.RowKit

theorem int_zero_or (x : Int) : (x = 0 ∧ (x == 0) = true ∧ (x != 0) = false) ∨ (¬ x = 0 ∧ (x == 0) = false ∧ (x != 0) = true) := by
  by_cases h : x = 0
  · exact .inl ⟨h, by simp [h], by simp [h]⟩
  · exact .inr ⟨h, by simp [h], by simp [h]⟩
theorem ahead_any (x y : Mm) (w : World) : Calls Tryd.prog 17 #[.agg (mmA x), .agg (mmA y)] w fun e w' => e = .returned (.bool (aheadM x.md y.md)) ∧ Below w.heap.size w w' := by
  have hB : Below w.heap.size w ((w.alloc (.cells (mmA x) 39)).alloc (.cells (mmA y) 39)) := ((Below.refl _ _).alloc (Nat.le_refl _) _).alloc (by simp) _
  obtain ⟨r, hr⟩ : ∃ r, r = aheadM x.md y.md := ⟨_, rfl⟩
  rw [← hr]
  unfold aheadM at hr
  obtain ⟨⟨goerx, ⟨opx, kyx, cax, cbx⟩, ⟨errx, valx, donex⟩, prsx, beganx, atx, overx, toldx⟩, ppx, pnx, pcx, tpx, tnx, tcx⟩ := x
  obtain ⟨⟨goery, ⟨opy, kyy, cay, cby⟩, ⟨erry, valy, doney⟩, prsy, begany, aty, overy, toldy⟩, ppy, pny, pcy, tpy, tny, tcy⟩ := y
  simp only [mmA] at *
  rcases int_zero_or overx with ⟨h0, h1, h2⟩ | ⟨h0, h1, h2⟩
  · obtain rfl : r = false := by rw [hr]; simp [h0]
    subst h0
    clear hr h1 h2
    have hB'h := Lib.hid hB
    clear hB
    go_enter Tryd.func17, Tryd.ntmps17
    go_wp2
    go_ret
    exact ⟨rfl, hB'h.out⟩
  · by_cases hl : overx < begany
    · obtain rfl : r = true := by rw [hr]; simp [h0, hl]
      clear hr
      have hB'h := Lib.hid hB
      clear hB
      go_enter Tryd.func17, Tryd.ntmps17
      go_wp2
      go_ret
      exact ⟨rfl, hB'h.out⟩
    · obtain rfl : r = false := by rw [hr]; simp [hl]
      clear hr
      have hB'h := Lib.hid hB
      clear hB
      go_enter Tryd.func17, Tryd.ntmps17
      go_wp2
      go_ret
      exact ⟨rfl, hB'h.out⟩
def anL (m : Mm) : Array Value := #[.int .i64 m.md.ans.err, .int .u64 (m.md.ans.val : Int), .bool m.md.ans.done, .slice m.pp m.pn m.pc]
theorem empty_any (x : Mm) (w : World) (hx : x.pn = x.md.prs.length) : Calls Tryd.prog 57 #[.agg (anL x)] w fun e w' => e = .returned (.bool (emptyM x.md)) ∧ Below w.heap.size w w' := by
  have hB : Below w.heap.size w (w.alloc (.cells (anL x) 34)) := (Below.refl _ _).alloc (Nat.le_refl _) _
  obtain ⟨r, hr⟩ : ∃ r, r = emptyM x.md := ⟨_, rfl⟩
  rw [← hr]
  unfold emptyM at hr
  rw [← hx] at hr
  clear hx
  obtain ⟨⟨goerx, ⟨opx, kyx, cax, cbx⟩, ⟨errx, valx, donex⟩, prsx, beganx, atx, overx, toldx⟩, ppx, pnx, pcx, tpx, tnx, tcx⟩ := x
  simp only [anL] at *
  rcases int_zero_or errx with ⟨h0, h1, h2⟩ | ⟨h0, h1, h2⟩
  · subst h0
    clear h1 h2
    rcases zero_or valx with rfl | ⟨h1, h2, h3⟩
    · cases donex with
      | true =>
        obtain rfl : r = false := by rw [hr]; simp
        clear hr
        have hB'h := Lib.hid hB
        clear hB
        go_enter Tryd.func57, Tryd.ntmps57
        go_wp2
        go_ret
        exact ⟨rfl, hB'h.out⟩
      | false =>
        rcases zero_or pnx with rfl | ⟨h1, h2, h3⟩
        · obtain rfl : r = true := by rw [hr]; simp
          clear hr
          have hB'h := Lib.hid hB
          clear hB
          go_enter Tryd.func57, Tryd.ntmps57
          go_wp2
          go_ret
          exact ⟨rfl, hB'h.out⟩
        · obtain rfl : r = false := by rw [hr]; simp [h3]
          clear hr h3
          have hB'h := Lib.hid hB
          clear hB
          go_enter Tryd.func57, Tryd.ntmps57
          go_wp2
          go_ret
          exact ⟨rfl, hB'h.out⟩
    · obtain rfl : r = false := by rw [hr]; simp [h3]
      clear hr h3
      have hB'h := Lib.hid hB
      clear hB
      go_enter Tryd.func57, Tryd.ntmps57
      go_wp2
      go_ret
      exact ⟨rfl, hB'h.out⟩
  · obtain rfl : r = false := by rw [hr]; simp [h0]
    clear hr
    have hB'h := Lib.hid hB
    clear hB
    go_enter Tryd.func57, Tryd.ntmps57
    go_wp2
    go_ret
    exact ⟨rfl, hB'h.out⟩
theorem ranges_any (x : Mm) (w : World) : Calls Tryd.prog 33 #[.agg (mmA x)] w fun e w' => e = .returned (.bool (rangesM x.md)) ∧ Below w.heap.size w w' := by
  have hB : Below w.heap.size w (w.alloc (.cells (mmA x) 39)) := (Below.refl _ _).alloc (Nat.le_refl _) _
  obtain ⟨r, hr⟩ : ∃ r, r = rangesM x.md := ⟨_, rfl⟩
  rw [← hr]
  unfold rangesM at hr
  obtain ⟨⟨goerx, ⟨opx, kyx, cax, cbx⟩, ⟨errx, valx, donex⟩, prsx, beganx, atx, overx, toldx⟩, ppx, pnx, pcx, tpx, tnx, tcx⟩ := x
  simp only [mmA] at *
  have h6 : (opx == 6) = r := by rw [hr]; rfl
  clear hr
  have hB'h := Lib.hid hB
  clear hB
  go_enter Tryd.func33, Tryd.ntmps33
  go_wp2
  go_ret
  exact ⟨rfl, hB'h.out⟩
/-! ### Told within -/
def withinB (began last x : Int) : Bool := decide (x ≥ began) && decide (x ≤ last)
theorem right1_told (b l : Nat) (began last x : Int) (w : World) (hb : w.cell? ⟨b, 9, none⟩ = some (.int .i64 began)) (hl : w.cell? ⟨l, 0, none⟩ = some (.int .i64 last)) :
    Calls Tryd.prog 56 #[.int .i64 x, .pointer (some ⟨b, 0, none⟩), .pointer (some ⟨l, 0, none⟩)] w fun e w' => e = .returned (.bool (withinB began last x)) ∧ w' = w := by
  obtain ⟨r, hr⟩ : ∃ r, r = withinB began last x := ⟨_, rfl⟩
  rw [← hr]
  unfold withinB at hr
  by_cases h1 : x ≥ began
  · by_cases h2 : x ≤ last
    · obtain rfl : r = true := by rw [hr]; simp [h1, h2]
      clear hr
      go_enter Tryd.func56, Tryd.ntmps56
      go_wp2
      go_ret
      exact ⟨rfl, rfl⟩
    · obtain rfl : r = false := by rw [hr]; simp [h2]
      clear hr
      go_enter Tryd.func56, Tryd.ntmps56
      go_wp2
      go_ret
      exact ⟨rfl, rfl⟩
  · obtain rfl : r = false := by rw [hr]; simp [h1]
    clear hr
    go_enter Tryd.func56, Tryd.ntmps56
    go_wp2
    go_ret
    exact ⟨rfl, rfl⟩
theorem allI1_any (g b l : Nat) (began last x : Int) (w : World) (hb : w.cell? ⟨b, 9, none⟩ = some (.int .i64 began)) (hl : w.cell? ⟨l, 0, none⟩ = some (.int .i64 last)) (hg : w.cell? ⟨g, 0, none⟩ = some (.func (.func 56) #[] #[.pointer (some ⟨b, 0, none⟩), .pointer (some ⟨l, 0, none⟩)])) :
    Calls Tryd.prog 76 #[.int .i64 x, .pointer (some ⟨g, 0, none⟩)] w fun e w' => e = .returned (.bool (!withinB began last x)) ∧ w' = w := by
  have C := right1_told b l began last x w hb hl
  generalize withinB began last x = v at *
  clear hb hl
  have C'h := Lib.hid C
  clear C
  go_enter Tryd.func76, Tryd.ntmps76
  go_wp2_with fail
  refine (C'h.out).mono ?_
  rintro e w' ⟨rfl, rfl⟩
  go_wp2
  go_ret
  exact ⟨ret_bool rfl, rfl⟩
theorem idxI_any (sp : Option Addr) (n cap : Nat) (ks : List Int) (g b l : Nat) (began last : Int) (w : World) (h : Sl w sp n (ks.map (Value.int .i64))) (hb : w.cell? ⟨b, 9, none⟩ = some (.int .i64 began)) (hl : w.cell? ⟨l, 0, none⟩ = some (.int .i64 last)) (hg : w.cell? ⟨g, 0, none⟩ = some (.func (.func 56) #[] #[.pointer (some ⟨b, 0, none⟩), .pointer (some ⟨l, 0, none⟩)])) :
    Calls Tryd.prog 92 #[.slice sp n cap, .func (.func 76) #[] #[.pointer (some ⟨g, 0, none⟩)]] w fun e w' => e = .returned (.int .i64 (idxG (fun x => !withinB began last x) ks)) ∧ w' = w := by
  have hlen : n = ks.length := by have := h.1; simpa using this
  have hmax := h.2.1
  unfold maxLen at hmax
  obtain ⟨z, hz⟩ : ∃ z, z = idxG (fun x => !withinB began last x) ks := ⟨_, rfl⟩
  rw [← hz]
  have C := fun x => allI1_any g b l began last x w hb hl hg
  clear hb hl hg
  have hlen'h := Lib.hid hlen
  have h'h := Lib.hid h
  have hz'h := Lib.hid hz
  have C'h := Lib.hid C
  have hmax'h := Lib.hid hmax
  clear hlen h hz C hmax
  go_enter Tryd.func92, Tryd.ntmps92
  go_wp2
  go_loopg [8] n (fun q i wr => ∃ k : Nat, k + q = n ∧ i = .int .i64 k ∧ (∀ j, (hj : j < k) → (hl : j < ks.length) → (!withinB began last (ks[j]'hl)) = false) ∧ wr = w)
  case atStart => exact ⟨0, by omega, rfl, fun j hj => by omega, rfl⟩
  case round =>
    obtain ⟨k, hk, rfl, hall, rfl⟩ := hrel
    by_cases hlt : k < n
    · have hkl : k < ks.length := by have := hlen'h.out; omega
      obtain ⟨b1, off, rfl, hcs⟩ := h'h.out.some' (by omega)
      obtain ⟨x, hx⟩ : ∃ x, ks[k]? = some x := ⟨_, List.getElem?_eq_getElem hkl⟩
      have hxk : ks[k] = x := by rw [List.getElem?_eq_getElem hkl] at hx; injection hx
      have c1 : wr.cell? ⟨b1, off + k, none⟩ = some (.int .i64 x) := hcs k _ (by rw [List.getElem?_map, hx]; rfl)
      have i1 : (k : Int) < (n : Int) := by omega
      have i2 : (0 : Int) ≤ (k : Int) := by omega
      have i3 : (k : Int) + 1 ≤ 9223372036854775807 := by have := hmax'h.out; omega
      have D := C'h.out x
      clear hcs hx
      cases hv : !withinB began last x with
      | true =>
        have hr : z = (k : Int) := by rw [hz'h.out]; exact idxG_hit (p := fun x => !withinB began last x) hkl (fun j hj => hall j hj (by omega)) (by rw [hxk]; exact hv)
        rw [hv] at D
        clear hxk hv
        have hk'h := Lib.hid hk
        have hall'h := Lib.hid hall
        have hr'h := Lib.hid hr
        have hkl'h := Lib.hid hkl
        have D'h := Lib.hid D
        clear hk hall hr hkl D
        go_wp2_with fail
        refine (D'h.out).mono ?_
        rintro e w' ⟨rfl, rfl⟩
        go_wp2
        go_ret
        exact ⟨ret_i64 hr'h.out.symm, rfl⟩
      | false =>
        have hall' : ∀ j, (hj : j < k + 1) → (hl : j < ks.length) → (!withinB began last (ks[j]'hl)) = false := fun j hj hl => by
          by_cases e : j = k
          · subst e; rw [hxk]; exact hv
          · exact hall j (by omega) hl
        rw [hv] at D
        clear hxk hv
        have hk'h := Lib.hid hk
        have hall'h := Lib.hid hall
        have hkl'h := Lib.hid hkl
        have hall''h := Lib.hid hall'
        have D'h := Lib.hid D
        clear hk hall hkl hall' D
        go_wp2_with fail
        refine (D'h.out).mono ?_
        rintro e w' ⟨rfl, rfl⟩
        go_wp2
        go_roundg (gk - 1)
        case measure => have := hk'h.out; omega
        case rel => exact ⟨k + 1, by have := hk'h.out; omega, by go_num, hall''h.out, rfl⟩
    · have hr : z = -1 := by rw [hz'h.out]; exact idxG_none (p := fun x => !withinB began last x) (fun j hj => hall j (by have := hlen'h.out; omega) hj)
      have hd : ¬ ((k : Int) < (n : Int)) := by omega
      have hk'h := Lib.hid hk
      have hall'h := Lib.hid hall
      have hr'h := Lib.hid hr
      clear hk hall hr
      go_wp2
      go_ret
      exact ⟨ret_i64 hr'h.out.symm, rfl⟩
theorem allI_any (sp : Option Addr) (n cap : Nat) (ks : List Int) (b l : Nat) (began last : Int) (w : World) (h : Sl w sp n (ks.map (Value.int .i64))) (hb : w.cell? ⟨b, 9, none⟩ = some (.int .i64 began)) (hl : w.cell? ⟨l, 0, none⟩ = some (.int .i64 last)) :
    Calls Tryd.prog 55 #[.slice sp n cap, .func (.func 56) #[] #[.pointer (some ⟨b, 0, none⟩), .pointer (some ⟨l, 0, none⟩)]] w fun e w' => e = .returned (.bool (ks.all (withinB began last))) ∧ Below w.heap.size w w' := by
  have hB : Below w.heap.size w (w.alloc (.cells #[.func (.func 56) #[] #[.pointer (some ⟨b, 0, none⟩), .pointer (some ⟨l, 0, none⟩)]] 95)) := (Below.refl _ _).alloc (Nat.le_refl _) _
  have hg : (w.alloc (.cells #[.func (.func 56) #[] #[.pointer (some ⟨b, 0, none⟩), .pointer (some ⟨l, 0, none⟩)]] 95)).cell? ⟨w.heap.size, 0, none⟩ = some (.func (.func 56) #[] #[.pointer (some ⟨b, 0, none⟩), .pointer (some ⟨l, 0, none⟩)]) := blk_cell (World.alloc_heap_new _ _) rfl
  have I := idxI_any sp n cap ks w.heap.size b l began last _ (h.below hB) ((hB.cell (p := ⟨b, 9, none⟩) (lt_of_cell hb)).trans hb) ((hB.cell (p := ⟨l, 0, none⟩) (lt_of_cell hl)).trans hl) hg
  have e : (!decide (0 ≤ idxG (fun x => !withinB began last x) ks)) = ks.all (withinB began last) := by
    rw [idxG_any, ← List.not_all_eq_any_not]; simp
  have H : Calls Tryd.prog 75 #[.slice sp n cap, .func (.func 76) #[] #[.pointer (some ⟨w.heap.size, 0, none⟩)]] (w.alloc (.cells #[.func (.func 56) #[] #[.pointer (some ⟨b, 0, none⟩), .pointer (some ⟨l, 0, none⟩)]] 95)) fun e w' => e = .returned (.bool (decide (0 ≤ idxG (fun x => !withinB began last x) ks))) ∧ w' = (w.alloc (.cells #[.func (.func 56) #[] #[.pointer (some ⟨b, 0, none⟩), .pointer (some ⟨l, 0, none⟩)]] 95)) := by
    clear e hB hg h hb hl
    generalize idxG (fun x => !withinB began last x) ks = i at *
    generalize w.alloc _ = W at *
    generalize w.heap.size = g at *
    have I'h := Lib.hid I
    clear I
    by_cases hi : 0 ≤ i
    · go_enter Tryd.func75, Tryd.ntmps75
      go_wp2_with fail
      refine (I'h.out).mono ?_
      rintro e w' ⟨rfl, rfl⟩
      go_wp2
      go_ret
      exact ⟨ret_bool (by simp [hi]), rfl⟩
    · go_enter Tryd.func75, Tryd.ntmps75
      go_wp2_with fail
      refine (I'h.out).mono ?_
      rintro e w' ⟨rfl, rfl⟩
      go_wp2
      go_ret
      exact ⟨ret_bool (by simp [hi]), rfl⟩
  generalize decide (0 ≤ idxG (fun x => !withinB began last x) ks) = v at *
  clear I hg h hb hl
  have H'h := Lib.hid H
  have hB'h := Lib.hid hB
  have e'h := Lib.hid e
  clear H hB e
  go_enter Tryd.func55, Tryd.ntmps55
  go_wp2_with fail
  refine H'h.out.mono ?_
  rintro ee w2 ⟨rfl, hw2⟩
  rw [hw2]
  clear hw2
  go_wp2
  go_ret
  exact ⟨ret_bool e'h.out, hB'h.out⟩
end Go.Proofs.YtogeohjeabbmaaaDoor
