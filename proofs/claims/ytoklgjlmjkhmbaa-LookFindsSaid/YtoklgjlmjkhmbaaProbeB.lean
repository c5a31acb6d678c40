/-
  Package probe: what it exports, each function by its contract.
-/
import Derived.Test.YtoklgjlmjkhmbaaProbe
set_option linter.unusedSimpArgs false
set_option linter.unusedVariables false
namespace Go.Proofs.Ytoklgjlmjkhmbaa
open Go.RowKit

/-! ### slices.Clone at []int -/
theorem info_cloneI : (Try.prog.info? 3).map (fun i => (i.zero, i.size, i.bytes)) = some (some (.int .i64 0), 1, 8) := by kernel_rfl
theorem cloneI_nil (w : World) : Calls Try.prog 58 #[.slice none 0 0] w fun e w' => e = .returned (.slice none 0 0) ∧ w' = w := by
  have hnil := Lib.run_eql_slice_nil (P := Try.prog)
  go_enter Try.func58, Try.ntmps58
  go_wp2
  go_ret
  exact ⟨rfl, rfl⟩
theorem cloneI_some (ad : Addr) (n cap : Nat) (vs : List Value) (w : World) (hn : n ≤ 4096) (hone : ∀ v ∈ vs, v.oneCell' = true) (h : Sl w (some ad) n vs) :
    Calls Try.prog 58 #[.slice (some ad) n cap] w fun e w' => ∃ sp' cap', e = .returned (.slice sp' n cap') ∧ Below w.heap.size w w' ∧ w'.ownsRow w.heap.size 3 1 (.slice sp' n cap') n vs := by
  have hnil := Lib.run_eql_slice_nil (P := Try.prog)
  obtain ⟨i0, hi, hz0, hz1, hz2⟩ := info_parts info_cloneI
  have hown0 : (w.alloc (.cells #[] 3)).ownsRow w.heap.size 3 1 (.slice (some ⟨w.heap.size, 0, none⟩) 0 0) 0 [] :=
    ⟨rfl, .inr ⟨w.heap.size, 0, #[], rfl, Nat.le_refl _, World.alloc_heap_new _ _, Nat.le_refl _, Nat.zero_le _, rfl, rfl⟩⟩
  have hl := h.1
  have hcs : ∀ j u, vs[j]? = some u → (w.alloc (.cells #[] 3)).cell? (ad.add j) = some u := by
    intro j u hu
    have hj : j < vs.length := (List.getElem?_eq_some_iff.1 hu).1
    obtain ⟨b, off, he, hc⟩ := h.some' (by omega)
    cases he
    have hadd : (⟨b, off, none⟩ : Addr).add j = ⟨b, off + j, none⟩ := by unfold Addr.add; split <;> simp_all
    rw [hadd]
    exact keep_alloc _ _ _ _ (hc j u hu)
  have hcs'h := Lib.hid hcs
  have hl'h := Lib.hid hl
  have hone'h := Lib.hid hone
  clear hcs hl hone
  clear h
  go_enter Try.func58, Try.ntmps58
  go_wp2_with (at_builtin; refine wpList_append_own _ rfl (.tmp 5) (.tmp 6) 64 rfl w.heap.size 3 i0 (.int .i64 0) 1 8 Try.underlying64 hi hz0 hz1 hz2 rfl (by decide) _ 0 [] rfl hown0 ad n cap vs rfl (by rw [← hl'h.out]; omega) hcs'h.out hone'h.out (by unfold maxLen; omega) (by omega) (by simp) ?_; intro v' w1 hown' hgrow hwh)
  rw [Nat.zero_add, List.nil_append] at hown'
  obtain ⟨sp', cap', rfl⟩ := row_slice' hown'
  have hown''h := Lib.hid hown'
  have hwh'h := Lib.hid hwh
  clear hown' hwh
  go_wp2
  go_ret
  exact ⟨sp', cap', rfl, ((Below.refl _ w).alloc (Nat.le_refl _) _).grown hgrow (by simp) (fun j hj => by cases hj; exact Nat.le_refl _), hown''h.out⟩
theorem cloneI_any (sp : Option Addr) (n cap : Nat) (vs : List Value) (w : World) (hn : n ≤ 4096) (hone : ∀ v ∈ vs, v.oneCell' = true) (hc : sp = none → cap = 0) (h : Sl w sp n vs) :
    Calls Try.prog 58 #[.slice sp n cap] w fun e w' => ∃ sp' cap', e = .returned (.slice sp' n cap') ∧ Below w.heap.size w w' ∧ w'.ownsRow w.heap.size 3 1 (.slice sp' n cap') n vs := by
  cases sp with
  | some ad => exact cloneI_some ad n cap vs w hn hone h
  | none =>
    obtain rfl : cap = 0 := hc rfl
    have h0 : n = 0 := by
      rcases h.2.2 with h0 | ⟨b, off, he, _⟩
      · exact h0
      · cases he
    subst h0
    have hl : vs = [] := List.eq_nil_of_length_eq_zero h.1.symm
    refine (cloneI_nil w).mono ?_
    rintro e w' ⟨rfl, rfl⟩
    exact ⟨none, 0, rfl, Below.refl _ _, by rw [hl]; exact World.ownsRow_nil _ _ _ _⟩

def zN (l : List Nat) : List Value := (l.map Int.ofNat).map (Value.int .i64)
theorem zN_length (l : List Nat) : (zN l).length = l.length := by simp [zN]
theorem row_sl {G h b : Nat} {w : World} {fz : Nat × Nat} {t : TypeId} (hG : goodB G = true) (hb : w.heap[b]? = some (.cells (rowA G h G) t fz)) : Sl w (some ⟨b, 0, none⟩) G (zN (rowB G h)) := by
  have hle := good_le hG
  have h1 := (Sl.of_blk hb (by rw [rowA_size]; decide)).take G (by rw [rowA_size]; exact hle)
  have e : (rowA G h G).toList.take G = zN (rowB G h) := by
    unfold rowA zN rowB
    rw [List.toList_toArray, ← List.map_take, List.take_range, Nat.min_eq_left hle, List.map_map, List.map_map]
    refine List.map_congr_left fun i hi => ?_
    have := List.mem_range.1 hi
    simp [this]
  rwa [e] at h1
theorem slice_row (G b : Nat) (w : World) (h : G ≤ 64) : (Instr.sliceAt 99 (.pointer (some ⟨b, 0, none⟩)) none (some (.int .i64 (G : Int))) none).run Try.prog w = .ok (.slice (some ⟨b, 0, none⟩) G 64) w := by
  have hA : Try.prog.arrayLen 99 = 64 := by kernel_rfl
  have hs : (sizeOf (Try.prog.elem 99)).run Try.prog w = .ok 1 w := by kernel_rfl
  rw [run_sliceAt_array_h w _ _ (by kernel_rfl) .i64 _ (by omega) (by rw [hA]; omega), hs, hA]
  have ha : (⟨b, 0, none⟩ : Addr).add 0 = ⟨b, 0, none⟩ := by unfold Addr.add; split <;> simp_all
  simp [slicedAt, ha]
theorem row_no (g : Int) (h : Nat) (w : World) (hg : goodG g = false) (hb : -9223372036854775808 ≤ g ∧ g ≤ 9223372036854775807) : Calls Try.prog 30 #[.int .i64 g, .int .u64 h] w fun e w' => e = .returned (.tuple #[.slice none 0 0, .int .i64 180]) ∧ w' = w := by
  have C := check_no g w hg hb
  have C'h := Lib.hid C
  have hg'h := Lib.hid hg
  have hb'h := Lib.hid hb
  clear C hg hb
  go_enter Try.func30, Try.ntmps30
  go_wp2_with fail
  refine (C'h.out).mono ?_
  rintro e w' ⟨rfl, rfl⟩
  go_wp2
  go_ret2
  exact ⟨rfl, rfl⟩
theorem row_yes (G h : Nat) (w : World) (hG : goodB G = true) (hh : h < 2 ^ 64) : Calls Try.prog 30 #[.int .i64 G, .int .u64 h] w fun e w' =>
    ∃ sp cap, e = .returned (.tuple #[.slice sp G cap, .int .i64 0]) ∧ Below w.heap.size w w' ∧ w'.ownsRow w.heap.size 3 1 (.slice sp G cap) G (zN (rowB G h)) := by
  have C := check_yes G w hG
  have O := pof_any G h w hG hh
  have h1 := good_le hG
  have h0 := good_pos hG
  have hone := oneCell_ints .i64 ((rowB G h).map Int.ofNat)
  have hrz : zN (rowB G h) = ((rowB G h).map Int.ofNat).map (Value.int .i64) := rfl
  rw [← hrz] at hone
  have hslr := fun w b => slice_row G b w h1
  have hsl := fun w b fz t => row_sl (w := w) (b := b) (fz := fz) (t := t) (h := h) hG
  generalize hra : rowA G h G = ra at *
  have hsz : ra.size = 64 := by rw [← hra]; exact rowA_size _ _ _
  have hra1 : ra.all (·.oneCell') = true := by rw [← hra]; exact rowA_one _ _ _
  generalize zN (rowB G h) = zs at *
  have C'h := Lib.hid C
  have hG'h := Lib.hid hG
  have hh'h := Lib.hid hh
  have O'h := Lib.hid O
  have hone'h := Lib.hid hone
  have hsl'h := Lib.hid hsl
  have hra'h := Lib.hid hra
  have hsz'h := Lib.hid hsz
  have hra1'h := Lib.hid hra1
  clear C hG hh O hone hsl hra hsz hra1
  clear hrz
  go_enter Try.func30, Try.ntmps30
  go_wp2_with fail
  refine (C'h.out).mono ?_
  rintro e w' ⟨rfl, rfl⟩
  go_wp2_with fail
  refine (O'h.out).mono ?_
  rintro e w1 ⟨rfl, hB1⟩
  go_wp2_with (first | (refine wpList_store_row rfl 99 (.tmp 7) (.tmp 15) rfl w1.heap.size ra rfl rfl 99 _ (World.alloc_heap_new _ _) (by rw [hsz'h.out]; exact info_row) (by rw [hsz'h.out]; rfl) hra1'h.out ?_))
  have hblk := setRow_heap _ _ _ ra _ _ (World.alloc_heap_new w1 (.cells (rowA G h 0) 99))
  have hS := hsl'h.out _ _ _ _ hblk
  have hBr : Below w1.heap.size w1 ((w1.alloc (.cells (rowA G h 0) 99)).setRow w1.heap.size ra) := below_setRow' ((Below.refl _ _).alloc (Nat.le_refl _) _) (Nat.le_refl _) _
  change Calls _ _ _ ((w1.alloc (.cells (rowA G h 0) 99)).setRow w1.heap.size ra) _
  obtain ⟨W2, hW2⟩ : ∃ W2, W2 = ((w1.alloc (.cells (rowA G h 0) 99)).setRow w1.heap.size ra) := ⟨_, rfl⟩
  rw [← hW2] at hS hBr ⊢
  clear hW2 hblk
  have hS'h := Lib.hid hS
  have hBr'h := Lib.hid hBr
  have hB1'h := Lib.hid hB1
  clear hS hBr hB1
  refine (cloneI_any _ _ _ zs W2 (by omega) hone'h.out (fun e => by cases e) hS'h.out).mono ?_
  rintro e w3 ⟨sp, cap, rfl, hB3, hrow⟩
  have hBf := below_next hB1'h.out (below_next hBr'h.out hB3)
  have hr := ownsRow_mono hrow (Nat.le_trans hB1'h.out.size hBr'h.out.size)
  clear hB3 hrow
  have hBf'h := Lib.hid hBf
  have hr'h := Lib.hid hr
  clear hBf hr
  go_wp2
  go_ret2
  exact ⟨sp, cap, rfl, hBf'h.out, hr'h.out⟩

/-! ### Where something stands -/
def atB (l : List Bool) (x : Int) : Bool := l.getD x.toNat false
def rowZ (G h : Nat) : List Int := (rowB G h).map Int.ofNat
theorem rowZ_length (G h : Nat) : (rowZ G h).length = G := by unfold rowZ; rw [List.length_map, rowB_length]
theorem nth_rowZ {G h j : Nat} (hj : j < G) : nthZ (rowZ G h) j = (prB G h j : Int) := by
  have h1 : j < (rowZ G h).length := by rw [rowZ_length]; exact hj
  rw [← nthZ_eq h1]; simp [rowZ, rowB]
theorem idx_place {G : Nat} (hG : goodB G = true) (h : Nat) {g : Nat} (hg : g < G) : idxZ (fun x => x == (g : Int)) (rowZ G h) = (placeB G h g : Int) := by
  have hp := placeB_lt hG h hg
  refine idxZ_hit (by rw [rowZ_length]; exact hp) (fun j hj => ?_) ?_
  · rw [nth_rowZ (by omega), beq_eq_false_iff_ne]
    intro e
    have := placeB_pr hG h (show j < G by omega)
    rw [show prB G h j = g by omega] at this
    omega
  · rw [nth_rowZ hp, prB_place hG h hg]; simp
theorem idx_noplace {G : Nat} (hG : goodB G = true) (h : Nat) {g : Int} (hg : ¬ (0 ≤ g ∧ g < G)) : idxZ (fun x => x == g) (rowZ G h) = -1 := by
  refine idxZ_none fun j hj => ?_
  rw [rowZ_length] at hj
  rw [nth_rowZ hj, beq_eq_false_iff_ne]
  have := prB_lt h j (good_pos hG)
  omega
/-- A row's array, in a new block of one's own, and what of it reads as a slice. -/
theorem new_row {G : Nat} (hG : goodB G = true) (h : Nat) (w1 : World) : ∀ W2, W2 = ((w1.alloc (.cells (rowA G h 0) 99)).setRow w1.heap.size (rowA G h G)) →
    W2.heap[w1.heap.size]? = some (.cells (rowA G h G) 99 (0, 0)) ∧ Sl W2 (some ⟨w1.heap.size, 0, none⟩) G ((rowZ G h).map (Value.int .i64)) ∧ Below w1.heap.size w1 W2 := by
  rintro W2 rfl
  have hblk := setRow_heap _ _ _ (rowA G h G) _ _ (World.alloc_heap_new w1 (.cells (rowA G h 0) 99))
  exact ⟨hblk, row_sl hG hblk, below_setRow' ((Below.refl _ _).alloc (Nat.le_refl _) _) (Nat.le_refl _) _⟩
/-! ### First -/
/-- Which one of the row is the first whose flag is true; -1: none. -/
def firstB (G h : Nat) (fl : List Bool) : Int := idxZ (atB fl) (rowZ G h)
theorem firstB_bd {G h : Nat} {fl : List Bool} : -1 ≤ firstB G h fl ∧ firstB G h fl < G := by
  unfold firstB idxZ
  split
  · rename_i hl; rw [rowZ_length] at hl; omega
  · omega
end Go.Proofs.Ytoklgjlmjkhmbaa
