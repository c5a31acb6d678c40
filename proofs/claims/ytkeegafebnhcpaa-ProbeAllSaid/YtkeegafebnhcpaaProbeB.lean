/-
  Package probe: what it exports, each function by its contract.
-/
import Derived.Test.YtkeegafebnhcpaaProbe
set_option linter.unusedSimpArgs false
set_option linter.unusedVariables false
namespace Go.Proofs.Ytkeegafebnhcpaa
open Go.RowKit

/-! ### slices.Clone at []int -/
theorem info_cloneI : (Try.prog.info? 3).map (fun i => (i.zero, i.size, i.bytes)) = some (some (.int .i64 0), 1, 8) := by kernel_rfl
theorem cloneI_nil (w : World) : Calls Try.prog 28 #[.slice none 0 0] w fun e w' => e = .returned (.slice none 0 0) ∧ w' = w := by
  have hnil := Lib.run_eql_slice_nil (P := Try.prog)
  go_enter Try.func28, Try.ntmps28
  go_wp2
  go_ret
  exact ⟨rfl, rfl⟩
theorem cloneI_some (ad : Addr) (n cap : Nat) (vs : List Value) (w : World) (hn : n ≤ 4096) (hone : ∀ v ∈ vs, v.oneCell' = true) (h : Sl w (some ad) n vs) :
    Calls Try.prog 28 #[.slice (some ad) n cap] w fun e w' => ∃ sp' cap', e = .returned (.slice sp' n cap') ∧ Below w.heap.size w w' ∧ w'.ownsRow w.heap.size 3 1 (.slice sp' n cap') n vs := by
  have hnil := Lib.run_eql_slice_nil (P := Try.prog)
  obtain ⟨i0, hi, hz0, hz1, hz2⟩ := info_parts info_cloneI
  have hown0 : (w.alloc (.cells #[] 3)).ownsRow w.heap.size 3 1 (.slice (some ⟨w.heap.size, 0, none⟩) 0 0) 0 [] :=
    ⟨rfl, .inr ⟨w.heap.size, 0, #[], rfl, Nat.le_refl _, World.alloc_heap_new _ _, Nat.le_refl _, Nat.zero_le _, rfl, rfl⟩⟩
  have hl := h.1
  have hcs : ∀ j u, vs[j]? = some u → (w.alloc (.cells #[] 3)).cell? (ad.add j) = some u := by
    intro j u hu
    have hj : j < vs.length := (List.getElem?_eq_some_iff.1 hu).1
    obtain ⟨b, off, he, hc⟩ := h.some' (by omega)
    cases he
    have hadd : (⟨b, off, none⟩ : Addr).add j = ⟨b, off + j, none⟩ := by unfold Addr.add; split <;> simp_all
    rw [hadd]
    exact keep_alloc _ _ _ _ (hc j u hu)
  have hcs'h := Lib.hid hcs
  have hl'h := Lib.hid hl
  have hone'h := Lib.hid hone
  clear hcs hl hone
  clear h
  go_enter Try.func28, Try.ntmps28
  go_wp2_with (at_builtin; refine wpList_append_own _ rfl (.tmp 5) (.tmp 6) 29 rfl w.heap.size 3 i0 (.int .i64 0) 1 8 Try.underlying29 hi hz0 hz1 hz2 rfl (by decide) _ 0 [] rfl hown0 ad n cap vs rfl (by rw [← hl'h.out]; omega) hcs'h.out hone'h.out (by unfold maxLen; omega) (by omega) (by simp) ?_; intro v' w1 hown' hgrow hwh)
  rw [Nat.zero_add, List.nil_append] at hown'
  obtain ⟨sp', cap', rfl⟩ := row_slice' hown'
  have hown''h := Lib.hid hown'
  have hwh'h := Lib.hid hwh
  clear hown' hwh
  go_wp2
  go_ret
  exact ⟨sp', cap', rfl, ((Below.refl _ w).alloc (Nat.le_refl _) _).grown hgrow (by simp) (fun j hj => by cases hj; exact Nat.le_refl _), hown''h.out⟩
theorem cloneI_any (sp : Option Addr) (n cap : Nat) (vs : List Value) (w : World) (hn : n ≤ 4096) (hone : ∀ v ∈ vs, v.oneCell' = true) (hc : sp = none → cap = 0) (h : Sl w sp n vs) :
    Calls Try.prog 28 #[.slice sp n cap] w fun e w' => ∃ sp' cap', e = .returned (.slice sp' n cap') ∧ Below w.heap.size w w' ∧ w'.ownsRow w.heap.size 3 1 (.slice sp' n cap') n vs := by
  cases sp with
  | some ad => exact cloneI_some ad n cap vs w hn hone h
  | none =>
    obtain rfl : cap = 0 := hc rfl
    have h0 : n = 0 := by
      rcases h.2.2 with h0 | ⟨b, off, he, _⟩
      · exact h0
      · cases he
    subst h0
    have hl : vs = [] := List.eq_nil_of_length_eq_zero h.1.symm
    refine (cloneI_nil w).mono ?_
    rintro e w' ⟨rfl, rfl⟩
    exact ⟨none, 0, rfl, Below.refl _ _, by rw [hl]; exact World.ownsRow_nil _ _ _ _⟩

def zN (l : List Nat) : List Value := (l.map Int.ofNat).map (Value.int .i64)
theorem zN_length (l : List Nat) : (zN l).length = l.length := by simp [zN]
theorem row_sl {G h b : Nat} {w : World} {fz : Nat × Nat} {t : TypeId} (hG : goodB G = true) (hb : w.heap[b]? = some (.cells (rowA G h G) t fz)) : Sl w (some ⟨b, 0, none⟩) G (zN (rowB G h)) := by
  have hle := good_le hG
  have h1 := (Sl.of_blk hb (by rw [rowA_size]; decide)).take G (by rw [rowA_size]; exact hle)
  have e : (rowA G h G).toList.take G = zN (rowB G h) := by
    unfold rowA zN rowB
    rw [List.toList_toArray, ← List.map_take, List.take_range, Nat.min_eq_left hle, List.map_map, List.map_map]
    refine List.map_congr_left fun i hi => ?_
    have := List.mem_range.1 hi
    simp [this]
  rwa [e] at h1
theorem next_yes (G at_ i : Nat) (w : World) (hG : goodB G = true) (ha : at_ < G) (hi : i + 1 < G) : Calls Try.prog 14 #[.int .i64 G, .int .i64 at_, .int .i64 i] w fun e w' => e = .returned (.tuple #[.int .i64 ((at_ + i + 1) % G : Nat), .int .i64 0]) ∧ w' = w := by
  have C := check_yes G w hG
  have h1 := good_le hG
  have hm := mask_i64 (at_ + i + 1) hG (by omega)
  have hm' : bits .and .i64 ((at_ : Int) + (i : Int) + 1) ((G : Int) - 1) = (((at_ + i + 1) % G : Nat) : Int) := hm
  have d1 : decide ((at_ : Int) < 0) = false := by rw [decide_eq_false_iff_not]; omega
  have d2 : decide ((G : Int) ≤ (at_ : Int)) = false := by rw [decide_eq_false_iff_not]; omega
  have d3 : decide ((i : Int) < 0) = false := by rw [decide_eq_false_iff_not]; omega
  have d4 : decide ((G : Int) - 1 ≤ (i : Int)) = false := by rw [decide_eq_false_iff_not]; omega
  generalize (at_ + i + 1) % G = r at *
  have C'h := Lib.hid C
  have hG'h := Lib.hid hG
  have hm'h := Lib.hid hm
  clear C hG hm
  go_enter Try.func14, Try.ntmps14
  go_wp2_with fail
  refine (C'h.out).mono ?_
  rintro e w' ⟨rfl, rfl⟩
  go_wp2
  go_ret2
  exact ⟨rfl, rfl⟩
theorem next_out (G : Nat) (at_ i : Int) (w : World) (hG : goodB G = true) (hno : ¬ (0 ≤ at_ ∧ at_ < G ∧ 0 ≤ i ∧ i < G - 1)) : Calls Try.prog 14 #[.int .i64 G, .int .i64 at_, .int .i64 i] w fun e w' => e = .returned (.tuple #[.int .i64 0, .int .i64 2]) ∧ w' = w := by
  have C := check_yes G w hG
  have h0 := good_pos hG
  have h1 := good_le hG
  by_cases g1 : at_ < 0
  · have d1 : decide (at_ < 0) = true := by rw [decide_eq_true_eq]; exact g1
    have C'h := Lib.hid C
    have hG'h := Lib.hid hG
    have hno'h := Lib.hid hno
    clear C hG hno
    go_enter Try.func14, Try.ntmps14
    go_wp2_with fail
    refine (C'h.out).mono ?_
    rintro e w' ⟨rfl, rfl⟩
    go_wp2
    go_ret2
    exact ⟨rfl, rfl⟩
  · have d1 : decide (at_ < 0) = false := by rw [decide_eq_false_iff_not]; exact g1
    by_cases g2 : (G : Int) ≤ at_
    · have d2 : decide ((G : Int) ≤ at_) = true := by rw [decide_eq_true_eq]; exact g2
      have C'h := Lib.hid C
      have hG'h := Lib.hid hG
      have hno'h := Lib.hid hno
      clear C hG hno
      go_enter Try.func14, Try.ntmps14
      go_wp2_with fail
      refine (C'h.out).mono ?_
      rintro e w' ⟨rfl, rfl⟩
      go_wp2
      go_ret2
      exact ⟨rfl, rfl⟩
    · have d2 : decide ((G : Int) ≤ at_) = false := by rw [decide_eq_false_iff_not]; exact g2
      by_cases g3 : i < 0
      · have d3 : decide (i < 0) = true := by rw [decide_eq_true_eq]; exact g3
        have C'h := Lib.hid C
        have hG'h := Lib.hid hG
        have hno'h := Lib.hid hno
        clear C hG hno
        go_enter Try.func14, Try.ntmps14
        go_wp2_with fail
        refine (C'h.out).mono ?_
        rintro e w' ⟨rfl, rfl⟩
        go_wp2
        go_ret2
        exact ⟨rfl, rfl⟩
      · have d3 : decide (i < 0) = false := by rw [decide_eq_false_iff_not]; exact g3
        have g4 : (G : Int) - 1 ≤ i := by omega
        have d4 : decide ((G : Int) - 1 ≤ i) = true := by rw [decide_eq_true_eq]; exact g4
        have C'h := Lib.hid C
        have hG'h := Lib.hid hG
        have hno'h := Lib.hid hno
        clear C hG hno
        go_enter Try.func14, Try.ntmps14
        go_wp2_with fail
        refine (C'h.out).mono ?_
        rintro e w' ⟨rfl, rfl⟩
        go_wp2
        go_ret2
        exact ⟨rfl, rfl⟩
theorem next_no (g at_ i : Int) (w : World) (hg : goodG g = false) (hb : -9223372036854775808 ≤ g ∧ g ≤ 9223372036854775807) : Calls Try.prog 14 #[.int .i64 g, .int .i64 at_, .int .i64 i] w fun e w' => e = .returned (.tuple #[.int .i64 0, .int .i64 180]) ∧ w' = w := by
  have C := check_no g w hg hb
  have C'h := Lib.hid C
  have hg'h := Lib.hid hg
  have hb'h := Lib.hid hb
  clear C hg hb
  go_enter Try.func14, Try.ntmps14
  go_wp2_with fail
  refine (C'h.out).mono ?_
  rintro e w' ⟨rfl, rfl⟩
  go_wp2
  go_ret2
  exact ⟨rfl, rfl⟩

theorem slice_row (G b : Nat) (w : World) (h : G ≤ 64) : (Instr.sliceAt 57 (.pointer (some ⟨b, 0, none⟩)) none (some (.int .i64 (G : Int))) none).run Try.prog w = .ok (.slice (some ⟨b, 0, none⟩) G 64) w := by
  have hA : Try.prog.arrayLen 57 = 64 := by kernel_rfl
  have hs : (sizeOf (Try.prog.elem 57)).run Try.prog w = .ok 1 w := by kernel_rfl
  rw [run_sliceAt_array_h w _ _ (by kernel_rfl) .i64 _ (by omega) (by rw [hA]; omega), hs, hA]
  have ha : (⟨b, 0, none⟩ : Addr).add 0 = ⟨b, 0, none⟩ := by unfold Addr.add; split <;> simp_all
  simp [slicedAt, ha]
theorem row_no (g : Int) (h : Nat) (w : World) (hg : goodG g = false) (hb : -9223372036854775808 ≤ g ∧ g ≤ 9223372036854775807) : Calls Try.prog 19 #[.int .i64 g, .int .u64 h] w fun e w' => e = .returned (.tuple #[.slice none 0 0, .int .i64 180]) ∧ w' = w := by
  have C := check_no g w hg hb
  have C'h := Lib.hid C
  have hg'h := Lib.hid hg
  have hb'h := Lib.hid hb
  clear C hg hb
  go_enter Try.func19, Try.ntmps19
  go_wp2_with fail
  refine (C'h.out).mono ?_
  rintro e w' ⟨rfl, rfl⟩
  go_wp2
  go_ret2
  exact ⟨rfl, rfl⟩
theorem row_yes (G h : Nat) (w : World) (hG : goodB G = true) (hh : h < 2 ^ 64) : Calls Try.prog 19 #[.int .i64 G, .int .u64 h] w fun e w' =>
    ∃ sp cap, e = .returned (.tuple #[.slice sp G cap, .int .i64 0]) ∧ Below w.heap.size w w' ∧ w'.ownsRow w.heap.size 3 1 (.slice sp G cap) G (zN (rowB G h)) := by
  have C := check_yes G w hG
  have O := of_any G h w hG hh
  have h1 := good_le hG
  have h0 := good_pos hG
  have hone := oneCell_ints .i64 ((rowB G h).map Int.ofNat)
  have hrz : zN (rowB G h) = ((rowB G h).map Int.ofNat).map (Value.int .i64) := rfl
  rw [← hrz] at hone
  have hslr := fun w b => slice_row G b w h1
  have hsl := fun w b fz t => row_sl (w := w) (b := b) (fz := fz) (t := t) (h := h) hG
  generalize hra : rowA G h G = ra at *
  have hsz : ra.size = 64 := by rw [← hra]; exact rowA_size _ _ _
  have hra1 : ra.all (·.oneCell') = true := by rw [← hra]; exact rowA_one _ _ _
  generalize zN (rowB G h) = zs at *
  have C'h := Lib.hid C
  have hG'h := Lib.hid hG
  have hh'h := Lib.hid hh
  have O'h := Lib.hid O
  have hone'h := Lib.hid hone
  have hsl'h := Lib.hid hsl
  have hra'h := Lib.hid hra
  have hsz'h := Lib.hid hsz
  have hra1'h := Lib.hid hra1
  clear C hG hh O hone hsl hra hsz hra1
  clear hrz
  go_enter Try.func19, Try.ntmps19
  go_wp2_with fail
  refine (C'h.out).mono ?_
  rintro e w' ⟨rfl, rfl⟩
  go_wp2_with fail
  refine (O'h.out).mono ?_
  rintro e w1 ⟨rfl, hB1⟩
  go_wp2_with (first | (refine wpList_store_row rfl 57 (.tmp 7) (.tmp 15) rfl w1.heap.size ra rfl rfl 57 _ (World.alloc_heap_new _ _) (by rw [hsz'h.out]; exact info_row) (by rw [hsz'h.out]; rfl) hra1'h.out ?_))
  have hblk := setRow_heap _ _ _ ra _ _ (World.alloc_heap_new w1 (.cells (rowA G h 0) 57))
  have hS := hsl'h.out _ _ _ _ hblk
  have hBr : Below w1.heap.size w1 ((w1.alloc (.cells (rowA G h 0) 57)).setRow w1.heap.size ra) := below_setRow' ((Below.refl _ _).alloc (Nat.le_refl _) _) (Nat.le_refl _) _
  change Calls _ _ _ ((w1.alloc (.cells (rowA G h 0) 57)).setRow w1.heap.size ra) _
  obtain ⟨W2, hW2⟩ : ∃ W2, W2 = ((w1.alloc (.cells (rowA G h 0) 57)).setRow w1.heap.size ra) := ⟨_, rfl⟩
  rw [← hW2] at hS hBr ⊢
  clear hW2 hblk
  have hS'h := Lib.hid hS
  have hBr'h := Lib.hid hBr
  have hB1'h := Lib.hid hB1
  clear hS hBr hB1
  refine (cloneI_any _ _ _ zs W2 (by omega) hone'h.out (fun e => by cases e) hS'h.out).mono ?_
  rintro e w3 ⟨sp, cap, rfl, hB3, hrow⟩
  have hBf := below_next hB1'h.out (below_next hBr'h.out hB3)
  have hr := ownsRow_mono hrow (Nat.le_trans hB1'h.out.size hBr'h.out.size)
  clear hB3 hrow
  have hBf'h := Lib.hid hBf
  have hr'h := Lib.hid hr
  clear hBf hr
  go_wp2
  go_ret2
  exact ⟨sp, cap, rfl, hBf'h.out, hr'h.out⟩

/-! ### Where something stands -/
theorem place1_any (b : Nat) (x g : Int) (w : World) (hc : w.cell? ⟨b, 0, none⟩ = some (.int .i64 g)) : Calls Try.prog 37 #[.int .i64 x, .pointer (some ⟨b, 0, none⟩)] w fun e w' => e = .returned (.bool (x == g)) ∧ w' = w := by
  go_enter Try.func37, Try.ntmps37
  go_wp2
  go_ret
  exact ⟨rfl, rfl⟩
def atB (l : List Bool) (x : Int) : Bool := l.getD x.toNat false
theorem first1_any (b : Nat) (sp : Option Addr) (n cap : Nat) (l : List Bool) (x : Int) (w : World) (hc : w.cell? ⟨b, 0, none⟩ = some (.slice sp n cap)) (h : Sl w sp n (l.map Value.bool)) (hx : 0 ≤ x ∧ x < n) :
    Calls Try.prog 33 #[.int .i64 x, .pointer (some ⟨b, 0, none⟩)] w fun e w' => e = .returned (.bool (atB l x)) ∧ w' = w := by
  obtain ⟨k, rfl⟩ : ∃ k : Nat, x = (k : Int) := ⟨x.toNat, by omega⟩
  have hlen : n = l.length := by have := h.1; simpa using this
  have hmax := h.2.1
  unfold maxLen at hmax
  obtain ⟨a, off, rfl, hcs⟩ := h.some' (by omega)
  have hkl : k < l.length := by omega
  have c1 : w.cell? ⟨a, off + k, none⟩ = some (.bool (atB l k)) := hcs k _ (by
    rw [List.getElem?_map, List.getElem?_eq_getElem hkl]; unfold atB
    rw [Int.toNat_natCast, List.getD_eq_getElem?_getD, List.getElem?_eq_getElem hkl]; rfl)
  have hk1 : (k : Int) < (n : Int) := by omega
  generalize atB l k = v at *
  clear hcs h hlen hx
  go_enter Try.func33, Try.ntmps33
  go_wp2
  go_ret
  exact ⟨rfl, rfl⟩
theorem idxPlace_any (sp : Option Addr) (n cap : Nat) (l : List Int) (p : Int → Bool) (lb : Value) (w : World) (h : Sl w sp n (l.map (Value.int .i64)))
    (hp : ∀ x ∈ l, Calls Try.prog 37 #[.int .i64 x, lb] w fun e w' => e = .returned (.bool (p x)) ∧ w' = w) :
    Calls Try.prog 35 #[.slice sp n cap, .func (.func 37) #[] #[lb]] w fun e w' => e = .returned (.int .i64 (idxZ p l)) ∧ w' = w := by
  have hlen : n = l.length := by have := h.1; simpa using this
  have hmax := h.2.1
  unfold maxLen at hmax
  have hlen'h := Lib.hid hlen
  have h'h := Lib.hid h
  have hp'h := Lib.hid hp
  clear hlen h hp
  go_enter Try.func35, Try.ntmps35
  go_wp2
  go_loopg [8] n (fun q i wr => ∃ k : Nat, k + q = n ∧ i = .int .i64 k ∧ (∀ j, j < k → p (nthZ l j) = false) ∧ wr = w)
  case atStart => exact ⟨0, by omega, rfl, fun j hj => by omega, rfl⟩
  case round =>
    obtain ⟨k, hk, rfl, hall, rfl⟩ := hrel
    have hkn : k ≤ n := by omega
    by_cases hlt : k < n
    · have hkl : k < l.length := by have := hlen'h.out; omega
      obtain ⟨b, off, rfl, hcs⟩ := h'h.out.some' (by omega)
      have c1 : wr.cell? ⟨b, off + k, none⟩ = some (.int .i64 (nthZ l k)) := hcs k _ (i64s_at hkl)
      have C := hp'h.out (nthZ l k) (nthZ_mem hkl)
      clear hcs
      cases hv : p (nthZ l k) with
      | true =>
        have hr := idxZ_hit hkl hall hv
        rw [hv] at C
        have hk'h := Lib.hid hk
        have hall'h := Lib.hid hall
        have C'h := Lib.hid C
        have hr'h := Lib.hid hr
        have hv'h := Lib.hid hv
        have hkl'h := Lib.hid hkl
        clear hk hall C hr hv hkl
        go_wp2_with fail
        refine (C'h.out).mono ?_
        rintro e w' ⟨rfl, rfl⟩
        go_wp2
        go_ret
        exact ⟨ret_i64 hr'h.out.symm, rfl⟩
      | false =>
        have hall' : ∀ j, j < k + 1 → p (nthZ l j) = false := fun j hj => by
          by_cases e : j = k
          · rw [e]; exact hv
          · exact hall j (by omega)
        rw [hv] at C
        have hk'h := Lib.hid hk
        have hall'h := Lib.hid hall
        have C'h := Lib.hid C
        have hv'h := Lib.hid hv
        have hkl'h := Lib.hid hkl
        have hall''h := Lib.hid hall'
        clear hk hall C hv hkl hall'
        go_wp2_with fail
        refine (C'h.out).mono ?_
        rintro e w' ⟨rfl, rfl⟩
        go_wp2
        go_roundg (gk - 1)
        case measure => have := hk'h.out; omega
        case rel => exact ⟨k + 1, by have := hk'h.out; omega, by go_num, hall''h.out, rfl⟩
    · have hr := idxZ_none (l := l) (p := p) (fun j hj => hall j (by have := hlen'h.out; omega))
      have hd : ¬ ((k : Int) < (n : Int)) := by omega
      have hk'h := Lib.hid hk
      have hall'h := Lib.hid hall
      have hr'h := Lib.hid hr
      clear hk hall hr
      go_wp2
      go_ret
      exact ⟨ret_i64 hr'h.out.symm, rfl⟩
theorem idxFirst_any (sp : Option Addr) (n cap : Nat) (l : List Int) (p : Int → Bool) (lb : Value) (w : World) (h : Sl w sp n (l.map (Value.int .i64)))
    (hp : ∀ x ∈ l, Calls Try.prog 33 #[.int .i64 x, lb] w fun e w' => e = .returned (.bool (p x)) ∧ w' = w) :
    Calls Try.prog 35 #[.slice sp n cap, .func (.func 33) #[] #[lb]] w fun e w' => e = .returned (.int .i64 (idxZ p l)) ∧ w' = w := by
  have hlen : n = l.length := by have := h.1; simpa using this
  have hmax := h.2.1
  unfold maxLen at hmax
  have hlen'h := Lib.hid hlen
  have h'h := Lib.hid h
  have hp'h := Lib.hid hp
  clear hlen h hp
  go_enter Try.func35, Try.ntmps35
  go_wp2
  go_loopg [8] n (fun q i wr => ∃ k : Nat, k + q = n ∧ i = .int .i64 k ∧ (∀ j, j < k → p (nthZ l j) = false) ∧ wr = w)
  case atStart => exact ⟨0, by omega, rfl, fun j hj => by omega, rfl⟩
  case round =>
    obtain ⟨k, hk, rfl, hall, rfl⟩ := hrel
    have hkn : k ≤ n := by omega
    by_cases hlt : k < n
    · have hkl : k < l.length := by have := hlen'h.out; omega
      obtain ⟨b, off, rfl, hcs⟩ := h'h.out.some' (by omega)
      have c1 : wr.cell? ⟨b, off + k, none⟩ = some (.int .i64 (nthZ l k)) := hcs k _ (i64s_at hkl)
      have C := hp'h.out (nthZ l k) (nthZ_mem hkl)
      clear hcs
      cases hv : p (nthZ l k) with
      | true =>
        have hr := idxZ_hit hkl hall hv
        rw [hv] at C
        have hk'h := Lib.hid hk
        have hall'h := Lib.hid hall
        have C'h := Lib.hid C
        have hr'h := Lib.hid hr
        have hv'h := Lib.hid hv
        have hkl'h := Lib.hid hkl
        clear hk hall C hr hv hkl
        go_wp2_with fail
        refine (C'h.out).mono ?_
        rintro e w' ⟨rfl, rfl⟩
        go_wp2
        go_ret
        exact ⟨ret_i64 hr'h.out.symm, rfl⟩
      | false =>
        have hall' : ∀ j, j < k + 1 → p (nthZ l j) = false := fun j hj => by
          by_cases e : j = k
          · rw [e]; exact hv
          · exact hall j (by omega)
        rw [hv] at C
        have hk'h := Lib.hid hk
        have hall'h := Lib.hid hall
        have C'h := Lib.hid C
        have hv'h := Lib.hid hv
        have hkl'h := Lib.hid hkl
        have hall''h := Lib.hid hall'
        clear hk hall C hv hkl hall'
        go_wp2_with fail
        refine (C'h.out).mono ?_
        rintro e w' ⟨rfl, rfl⟩
        go_wp2
        go_roundg (gk - 1)
        case measure => have := hk'h.out; omega
        case rel => exact ⟨k + 1, by have := hk'h.out; omega, by go_num, hall''h.out, rfl⟩
    · have hr := idxZ_none (l := l) (p := p) (fun j hj => hall j (by have := hlen'h.out; omega))
      have hd : ¬ ((k : Int) < (n : Int)) := by omega
      have hk'h := Lib.hid hk
      have hall'h := Lib.hid hall
      have hr'h := Lib.hid hr
      clear hk hall hr
      go_wp2
      go_ret
      exact ⟨ret_i64 hr'h.out.symm, rfl⟩

theorem where_place (sp : Option Addr) (n cap : Nat) (l : List Int) (p : Int → Bool) (lb : Value) (w : World) (h : Sl w sp n (l.map (Value.int .i64)))
    (hp : ∀ x ∈ l, Calls Try.prog 37 #[.int .i64 x, lb] w fun e w' => e = .returned (.bool (p x)) ∧ w' = w) :
    Calls Try.prog 32 #[.slice sp n cap, .func (.func 37) #[] #[lb]] w fun e w' => e = .returned (.tuple #[.int .i64 (max (idxZ p l) 0), .bool (decide (0 ≤ idxZ p l))]) ∧ w' = w := by
  have I := idxPlace_any sp n cap l p lb w h hp
  generalize idxZ p l = i at *
  have I'h := Lib.hid I
  clear I
  clear hp h
  go_enter Try.func32, Try.ntmps32
  by_cases hi : 0 ≤ i
  · have hm : max i 0 = i := by omega
    have hd : decide (0 ≤ i) = true := by rw [decide_eq_true_eq]; exact hi
    rw [hd, hm]
    go_wp2_with fail
    refine (I'h.out).mono ?_
    rintro e w' ⟨rfl, rfl⟩
    go_wp2
    all_goals first
      | (go_ret2; exact ⟨rfl, rfl⟩)
      | omega
  · have hm : max i 0 = 0 := by omega
    have hd : decide (0 ≤ i) = false := by rw [decide_eq_false_iff_not]; exact hi
    rw [hd, hm]
    go_wp2_with fail
    refine (I'h.out).mono ?_
    rintro e w' ⟨rfl, rfl⟩
    go_wp2
    all_goals first
      | (go_ret2; exact ⟨rfl, rfl⟩)
      | omega
theorem where_first (sp : Option Addr) (n cap : Nat) (l : List Int) (p : Int → Bool) (lb : Value) (w : World) (h : Sl w sp n (l.map (Value.int .i64)))
    (hp : ∀ x ∈ l, Calls Try.prog 33 #[.int .i64 x, lb] w fun e w' => e = .returned (.bool (p x)) ∧ w' = w) :
    Calls Try.prog 32 #[.slice sp n cap, .func (.func 33) #[] #[lb]] w fun e w' => e = .returned (.tuple #[.int .i64 (max (idxZ p l) 0), .bool (decide (0 ≤ idxZ p l))]) ∧ w' = w := by
  have I := idxFirst_any sp n cap l p lb w h hp
  generalize idxZ p l = i at *
  have I'h := Lib.hid I
  clear I
  clear hp h
  go_enter Try.func32, Try.ntmps32
  by_cases hi : 0 ≤ i
  · have hm : max i 0 = i := by omega
    have hd : decide (0 ≤ i) = true := by rw [decide_eq_true_eq]; exact hi
    rw [hd, hm]
    go_wp2_with fail
    refine (I'h.out).mono ?_
    rintro e w' ⟨rfl, rfl⟩
    go_wp2
    all_goals first
      | (go_ret2; exact ⟨rfl, rfl⟩)
      | omega
  · have hm : max i 0 = 0 := by omega
    have hd : decide (0 ≤ i) = false := by rw [decide_eq_false_iff_not]; exact hi
    rw [hd, hm]
    go_wp2_with fail
    refine (I'h.out).mono ?_
    rintro e w' ⟨rfl, rfl⟩
    go_wp2
    all_goals first
      | (go_ret2; exact ⟨rfl, rfl⟩)
      | omega

def rowZ (G h : Nat) : List Int := (rowB G h).map Int.ofNat
theorem rowZ_length (G h : Nat) : (rowZ G h).length = G := by unfold rowZ; rw [List.length_map, rowB_length]
theorem nth_rowZ {G h j : Nat} (hj : j < G) : nthZ (rowZ G h) j = (prB G h j : Int) := by
  have h1 : j < (rowZ G h).length := by rw [rowZ_length]; exact hj
  rw [← nthZ_eq h1]; simp [rowZ, rowB]
theorem idx_place {G : Nat} (hG : goodB G = true) (h : Nat) {g : Nat} (hg : g < G) : idxZ (fun x => x == (g : Int)) (rowZ G h) = (placeB G h g : Int) := by
  have hp := placeB_lt hG h hg
  refine idxZ_hit (by rw [rowZ_length]; exact hp) (fun j hj => ?_) ?_
  · rw [nth_rowZ (by omega), beq_eq_false_iff_ne]
    intro e
    have := placeB_pr hG h (show j < G by omega)
    rw [show prB G h j = g by omega] at this
    omega
  · rw [nth_rowZ hp, prB_place hG h hg]; simp
theorem idx_noplace {G : Nat} (hG : goodB G = true) (h : Nat) {g : Int} (hg : ¬ (0 ≤ g ∧ g < G)) : idxZ (fun x => x == g) (rowZ G h) = -1 := by
  refine idxZ_none fun j hj => ?_
  rw [rowZ_length] at hj
  rw [nth_rowZ hj, beq_eq_false_iff_ne]
  have := prB_lt h j (good_pos hG)
  omega
/-- A row's array, in a new block of one's own, and what of it reads as a slice. -/
theorem new_row {G : Nat} (hG : goodB G = true) (h : Nat) (w1 : World) : ∀ W2, W2 = ((w1.alloc (.cells (rowA G h 0) 57)).setRow w1.heap.size (rowA G h G)) →
    W2.heap[w1.heap.size]? = some (.cells (rowA G h G) 57 (0, 0)) ∧ Sl W2 (some ⟨w1.heap.size, 0, none⟩) G ((rowZ G h).map (Value.int .i64)) ∧ Below w1.heap.size w1 W2 := by
  rintro W2 rfl
  have hblk := setRow_heap _ _ _ (rowA G h G) _ _ (World.alloc_heap_new w1 (.cells (rowA G h 0) 57))
  exact ⟨hblk, row_sl hG hblk, below_setRow' ((Below.refl _ _).alloc (Nat.le_refl _) _) (Nat.le_refl _) _⟩
set_option maxHeartbeats 1000000 in
theorem place_any (G h : Nat) (g i : Int) (w : World) (hG : goodB G = true) (hh : h < 2 ^ 64) (hi : idxZ (fun x => x == g) (rowZ G h) = i) (hil : -1 ≤ i) :
    Calls Try.prog 25 #[.int .i64 G, .int .u64 h, .int .i64 g] w fun e w' => e = .returned (if 0 ≤ i then .tuple #[.int .i64 i, .int .i64 0] else .tuple #[.int .i64 0, .int .i64 2]) ∧ Below w.heap.size w w' := by
  have hb0 : Below w.heap.size w (w.alloc (.cells #[.int .i64 g] 3)) := (Below.refl _ _).alloc (Nat.le_refl _) _
  have c0 : (w.alloc (.cells #[.int .i64 g] 3)).cell? ⟨w.heap.size, 0, none⟩ = some (.int .i64 g) := blk_cell (World.alloc_heap_new _ _) rfl
  have h1 := good_le hG
  have hnew := fun w1 W2 h' => new_row hG h w1 W2 h'
  have C := fun w => check_yes G w hG
  have O := fun w => of_any G h w hG hh
  have hslr := fun w b => slice_row G b w h1
  have hra1 := rowA_one G h G
  have hsz := rowA_size G h G
  have hlt0 : w.heap.size < (w.alloc (.cells #[.int .i64 g] 3)).heap.size := by simp
  obtain ⟨w0, hw0⟩ : ∃ w0, w0 = w.alloc (.cells #[.int .i64 g] 3) := ⟨_, rfl⟩
  obtain ⟨r, hr⟩ : ∃ r, r = (if 0 ≤ i then Value.tuple #[.int .i64 i, .int .i64 0] else .tuple #[.int .i64 0, .int .i64 2]) := ⟨_, rfl⟩
  rw [← hr]
  have hG'h := Lib.hid hG
  have hh'h := Lib.hid hh
  have hi'h := Lib.hid hi
  have hb0'h := Lib.hid hb0
  have hnew'h := Lib.hid hnew
  have C'h := Lib.hid C
  have O'h := Lib.hid O
  have hra1'h := Lib.hid hra1
  have hsz'h := Lib.hid hsz
  have c0'h := Lib.hid c0
  have hlt0'h := Lib.hid hlt0
  have hr'h := Lib.hid hr
  clear hG hh hi hb0 hnew C O hra1 hsz c0 hlt0 hr
  go_enter Try.func25, Try.ntmps25
  go_wp2_with fail
  refine (C'h.out _).mono ?_
  rintro e w' ⟨rfl, rfl⟩
  go_wp2_with fail
  refine (O'h.out _).mono ?_
  rintro e w1 ⟨rfl, hB1⟩
  go_wp2_with (first | (refine wpList_store_row rfl 57 (.tmp 9) (.tmp 19) rfl w1.heap.size (rowA G h G) rfl rfl 57 _ (World.alloc_heap_new _ _) (by rw [hsz'h.out]; exact info_row) (by rw [hsz'h.out]; rfl) hra1'h.out ?_))
  obtain ⟨W2, hW2⟩ : ∃ W2, W2 = ((w1.alloc (.cells (rowA G h 0) 57)).setRow w1.heap.size (rowA G h G)) := ⟨_, rfl⟩
  obtain ⟨hblk, hS, hB2⟩ := hnew'h.out w1 W2 hW2
  change Calls _ _ _ ((w1.alloc (.cells (rowA G h 0) 57)).setRow w1.heap.size (rowA G h G)) _
  rw [← hW2]
  clear hW2
  have hBw := hb0'h.out.trans ((below_next hB1 hB2).mono hb0'h.out.size)
  have c2 : W2.cell? ⟨w.heap.size, 0, none⟩ = some (.int .i64 g) := ((below_next hB1 hB2).cell (p := ⟨w.heap.size, 0, none⟩) hlt0'h.out).trans c0'h.out
  have X := where_place _ G 64 (rowZ G h) (fun x => x == g) (.pointer (some ⟨w.heap.size, 0, none⟩)) W2 hS (fun x _ => place1_any _ x g W2 c2)
  rw [hi'h.out] at X
  clear hB1 hB2 hS hblk c2
  have hBw'h := Lib.hid hBw
  have X'h := Lib.hid X
  clear hBw X
  by_cases h0 : 0 ≤ i
  · have hm : max i 0 = i := by omega
    have hd : decide (0 ≤ i) = true := by rw [decide_eq_true_eq]; exact h0
    rw [hm, hd] at X'h
    have hm'h := Lib.hid hm
    have hd'h := Lib.hid hd
    clear hm hd
    refine X'h.out.mono ?_
    rintro e w' ⟨rfl, rfl⟩
    go_wp2
    go_ret2
    exact ⟨by rw [hr'h.out, if_pos h0]; rfl, hBw'h.out⟩
  · have hm : max i 0 = 0 := by omega
    have hd : decide (0 ≤ i) = false := by rw [decide_eq_false_iff_not]; exact h0
    rw [hm, hd] at X'h
    have hm'h := Lib.hid hm
    have hd'h := Lib.hid hd
    clear hm hd
    refine X'h.out.mono ?_
    rintro e w' ⟨rfl, rfl⟩
    go_wp2
    go_ret2
    exact ⟨by rw [hr'h.out, if_neg (by omega)]; rfl, hBw'h.out⟩
theorem place_yes (G h g : Nat) (w : World) (hG : goodB G = true) (hh : h < 2 ^ 64) (hg : g < G) :
    Calls Try.prog 25 #[.int .i64 G, .int .u64 h, .int .i64 g] w fun e w' => e = .returned (.tuple #[.int .i64 (placeB G h g), .int .i64 0]) ∧ Below w.heap.size w w' := by
  have := place_any G h (g : Int) _ w hG hh (idx_place hG h hg) (by omega)
  rwa [if_pos (by omega)] at this
theorem place_out (G h : Nat) (g : Int) (w : World) (hG : goodB G = true) (hh : h < 2 ^ 64) (hg : ¬ (0 ≤ g ∧ g < G)) :
    Calls Try.prog 25 #[.int .i64 G, .int .u64 h, .int .i64 g] w fun e w' => e = .returned (.tuple #[.int .i64 0, .int .i64 2]) ∧ Below w.heap.size w w' := by
  have := place_any G h g _ w hG hh (idx_noplace hG h hg) (by omega)
  rwa [if_neg (by omega)] at this
theorem place_no (g x : Int) (h : Nat) (w : World) (hg : goodG g = false) (hb : -9223372036854775808 ≤ g ∧ g ≤ 9223372036854775807) : Calls Try.prog 25 #[.int .i64 g, .int .u64 h, .int .i64 x] w fun e w' => e = .returned (.tuple #[.int .i64 0, .int .i64 180]) ∧ Below w.heap.size w w' := by
  have hb0 : Below w.heap.size w (w.alloc (.cells #[.int .i64 x] 3)) := (Below.refl _ _).alloc (Nat.le_refl _) _
  have C := fun w => check_no g w hg hb
  have C'h := Lib.hid C
  have hg'h := Lib.hid hg
  have hb'h := Lib.hid hb
  have hb0'h := Lib.hid hb0
  clear C hg hb hb0
  go_enter Try.func25, Try.ntmps25
  go_wp2_with fail
  refine (C'h.out _).mono ?_
  rintro e w' ⟨rfl, rfl⟩
  go_wp2
  go_ret2
  exact ⟨rfl, hb0'h.out⟩

/-! ### First -/
/-- Which one of the row is the first whose flag is true; -1: none. -/
def firstB (G h : Nat) (fl : List Bool) : Int := idxZ (atB fl) (rowZ G h)
theorem firstB_bd {G h : Nat} {fl : List Bool} : -1 ≤ firstB G h fl ∧ firstB G h fl < G := by
  unfold firstB idxZ
  split
  · rename_i hl; rw [rowZ_length] at hl; omega
  · omega
set_option maxHeartbeats 1000000 in
theorem first_yes (G h n cap : Nat) (sp : Option Addr) (fl : List Bool) (w : World) (hG : goodB G = true) (hh : h < 2 ^ 64) (hs : Sl w sp n (fl.map Value.bool)) (hn : n = G) :
    Calls Try.prog 13 #[.int .i64 G, .int .u64 h, .slice sp n cap] w fun e w' =>
      e = .returned (if 0 ≤ firstB G h fl then .tuple #[.int .i64 (firstB G h fl), .int .i64 (prB G h (firstB G h fl).toNat), .int .i64 0] else .tuple #[.int .i64 0, .int .i64 0, .int .i64 4]) ∧ Below w.heap.size w w' := by
  subst hn
  have hb0 : Below w.heap.size w (w.alloc (.cells #[.slice sp n cap] 22)) := (Below.refl _ _).alloc (Nat.le_refl _) _
  have c0 : (w.alloc (.cells #[.slice sp n cap] 22)).cell? ⟨w.heap.size, 0, none⟩ = some (.slice sp n cap) := blk_cell (World.alloc_heap_new _ _) rfl
  have h1 := good_le hG
  have hnew := fun w1 W2 h' => new_row hG h w1 W2 h'
  have C := fun w => check_yes n w hG
  have O := fun w => of_any n h w hG hh
  have hslr := fun w b => slice_row n b w h1
  have hra1 := rowA_one n h n
  have hsz := rowA_size n h n
  have hlt0 : w.heap.size < (w.alloc (.cells #[.slice sp n cap] 22)).heap.size := by simp
  have hbd := firstB_bd (G := n) (h := h) (fl := fl)
  have hne : ((n : Int) != (n : Int)) = false := by simp
  have hs0 := hs.below hb0
  have hX := fun (W2 : Nat × World) hS hc hs2 => where_first (some ⟨W2.1, 0, none⟩) n 64 (rowZ n h) (atB fl) (.pointer (some ⟨w.heap.size, 0, none⟩)) W2.2 hS (fun x hx => first1_any _ sp n cap fl x W2.2 hc hs2 (by
    obtain ⟨j, hj, rfl⟩ := List.mem_iff_getElem.1 hx
    have hj' := hj
    rw [rowZ_length] at hj'
    rw [nthZ_eq hj, nth_rowZ hj']
    have := prB_lt h j (good_pos hG)
    omega))
  have hfd : idxZ (atB fl) (rowZ n h) = firstB n h fl := rfl
  rw [hfd] at hX
  generalize firstB n h fl = i at *
  obtain ⟨r, hr⟩ : ∃ r, r = (if 0 ≤ i then Value.tuple #[.int .i64 i, .int .i64 (prB n h i.toNat), .int .i64 0] else .tuple #[.int .i64 0, .int .i64 0, .int .i64 4]) := ⟨_, rfl⟩
  rw [← hr]
  have hr'h := Lib.hid hr
  clear hr
  clear hfd
  have hG'h := Lib.hid hG
  have hh'h := Lib.hid hh
  have hb0'h := Lib.hid hb0
  have hnew'h := Lib.hid hnew
  have C'h := Lib.hid C
  have O'h := Lib.hid O
  have hra1'h := Lib.hid hra1
  have hsz'h := Lib.hid hsz
  have c0'h := Lib.hid c0
  have hlt0'h := Lib.hid hlt0
  have hs'h := Lib.hid hs
  have hs0'h := Lib.hid hs0
  have hX'h := Lib.hid hX
  clear hG hh hb0 hnew C O hra1 hsz c0 hlt0 hs hs0 hX
  go_enter Try.func13, Try.ntmps13
  go_wp2_with fail
  refine (C'h.out _).mono ?_
  rintro e w' ⟨rfl, rfl⟩
  have c0 := c0'h.out
  go_wp2_with fail
  refine (O'h.out _).mono ?_
  rintro e w1 ⟨rfl, hB1⟩
  clear c0
  go_wp2_with (first | (refine wpList_store_row rfl 57 (.tmp 9) (.tmp 23) rfl w1.heap.size (rowA n h n) rfl rfl 57 _ (World.alloc_heap_new _ _) (by rw [hsz'h.out]; exact info_row) (by rw [hsz'h.out]; rfl) hra1'h.out ?_))
  obtain ⟨W2, hW2⟩ : ∃ W2, W2 = ((w1.alloc (.cells (rowA n h 0) 57)).setRow w1.heap.size (rowA n h n)) := ⟨_, rfl⟩
  obtain ⟨hblk, hS, hB2⟩ := hnew'h.out w1 W2 hW2
  change Calls _ _ _ ((w1.alloc (.cells (rowA n h 0) 57)).setRow w1.heap.size (rowA n h n)) _
  rw [← hW2]
  clear hW2
  have hBw := hb0'h.out.trans ((below_next hB1 hB2).mono hb0'h.out.size)
  have c2 : W2.cell? ⟨w.heap.size, 0, none⟩ = some (.slice sp n cap) := ((below_next hB1 hB2).cell (p := ⟨w.heap.size, 0, none⟩) hlt0'h.out).trans c0'h.out
  have X := hX'h.out (w1.heap.size, W2) hS c2 (hs0'h.out.below (below_next hB1 hB2))
  clear hB1 hB2 hS c2
  have hBw'h := Lib.hid hBw
  have X'h := Lib.hid X
  clear hBw X
  by_cases h0 : 0 ≤ i
  · have hm : max i 0 = i := by omega
    have hd : decide (0 ≤ i) = true := by rw [decide_eq_true_eq]; exact h0
    obtain ⟨k, rfl⟩ : ∃ k : Nat, i = (k : Int) := ⟨i.toNat, by omega⟩
    rw [hm, hd] at X'h
    have c4 : W2.cell? ⟨w1.heap.size, k, none⟩ = some (.int .i64 (prB n h k)) := blk_cell hblk (by rw [rowA_at (by omega), if_pos (by omega)])
    have hk64 : (k : Int) < 64 := by omega
    have hm'h := Lib.hid hm
    have hd'h := Lib.hid hd
    have hblk'h := Lib.hid hblk
    clear hm hd hblk
    refine X'h.out.mono ?_
    rintro e w' ⟨rfl, rfl⟩
    have c5 : ∀ q, (w'.drewN q).cell? ⟨w1.heap.size, k, none⟩ = some (.int .i64 (prB n h k)) := fun q => c4
    go_wp2_with fail
    go_quiet (fail)
    go_wp2
    go_ret3
    exact ⟨by rw [hr'h.out, if_pos h0, Int.toNat_natCast]; rfl, hBw'h.out.trans (below_drewN' _ _)⟩
  · have hm : max i 0 = 0 := by omega
    have hd : decide (0 ≤ i) = false := by rw [decide_eq_false_iff_not]; exact h0
    rw [hm, hd] at X'h
    have hm'h := Lib.hid hm
    have hd'h := Lib.hid hd
    have hblk'h := Lib.hid hblk
    clear hm hd hblk
    refine X'h.out.mono ?_
    rintro e w' ⟨rfl, rfl⟩
    go_wp2
    go_ret3
    exact ⟨by rw [hr'h.out, if_neg (by omega)]; rfl, hBw'h.out⟩
end Go.Proofs.Ytkeegafebnhcpaa
