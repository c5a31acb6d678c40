/-
  The functions of package lanes that put, blend, and tell lanes.
-/
import Derived.Test.YtoklgjlmjkhmbaaLanesB
import Derived.Deep.LoopGhost
set_option linter.unusedSimpArgs false
set_option linter.unusedVariables false
namespace Go.Proofs.Ytoklgjlmjkhmbaa
open Go.RowKit

/-! ### Put -/
def isLane (i : Int) : Bool := decide (0 ≤ i ∧ i < 8)
def allLanes (l : List Int) : Bool := l.all isLane
def putX (x b : Nat) (l : List Int) : Nat := l.foldl (fun x i => setLane x i.toNat b) x
def i64s (l : List Int) : List Value := l.map fun i => .int .i64 i
theorem putX_lt (x b : Nat) (hx : x < 2 ^ 64) (hb : b < 256) (l : List Int) : putX x b l < 2 ^ 64 := by
  unfold putX
  induction l generalizing x with
  | nil => exact hx
  | cons a r ih => exact ih _ (setLane_lt _ _ _ hb)
def nthI (l : List Int) (k : Nat) : Int := l.getD k 0
theorem nthI_eq {l : List Int} {k : Nat} (h : k < l.length) : l[k]? = some (nthI l k) := by unfold nthI; rw [List.getD_eq_getElem?_getD, List.getElem?_eq_getElem h]; rfl
theorem take_succI {l : List Int} {k : Nat} (h : k < l.length) : l.take (k + 1) = l.take k ++ [nthI l k] := by
  rw [List.take_add_one, nthI_eq h]; rfl

/-! ### Blend -/
def hasM (m i : Nat) : Bool := m / 2 ^ i % 2 == 1
def blendW (v u m : Nat) : Nat := word ((List.range 8).map fun i => if hasM m i = true then byteAt u i else byteAt v i)
theorem spread_eq : ∀ m : Fin 256, spreadW m.val (lanesOf m.val).length = word ((List.range 8).map fun i => if hasM m.val i = true then 255 else 0) := by decide +kernel

theorem zip_map2 (f g : Nat → Nat) (h : Nat → Nat → Nat) (l : List Nat) : List.zipWith h (l.map f) (l.map g) = l.map fun i => h (f i) (g i) := zip_maps l f g h
theorem bytey_range (f : Nat → Nat) (h : ∀ i, f i < 256) : Bytey ((List.range 8).map f) := bytey_map _ fun b _ => h b
theorem and255 (a : Nat) (h : a < 256) : a &&& 255 = a := by
  rw [show 255 = 2 ^ 8 - 1 by decide, Nat.and_two_pow_sub_one_eq_mod, Nat.mod_eq_of_lt (by simpa using h)]

theorem blend_words (v u s f : List Nat) (hv : Bytey v) (hu : Bytey u) (hs : Bytey s) (hlv : v.length = 8) (hlu : u.length = 8) (hls : s.length = 8)
    (hf : f = List.zipWith (· ||| ·) (List.zipWith (· &&& ·) v (s.map (255 - ·))) (List.zipWith (· &&& ·) u s)) :
    (word v &&& (18446744073709551615 - word s)) ||| (word u &&& word s) = word f := by
  have bz : ∀ p q : List Nat, Bytey p → Bytey (List.zipWith (· &&& ·) p q) := by
    intro p q hp c hc
    obtain ⟨i, hi, rfl⟩ := List.mem_iff_getElem.1 hc
    simp only [List.length_zipWith] at hi
    rw [List.getElem_zipWith]
    exact Nat.lt_of_le_of_lt Nat.and_le_left (hp _ (List.getElem_mem (by omega)))
  have b2 : Bytey (s.map (255 - ·)) := bytey_map _ fun b _ => by omega
  rw [not8 hs hls, and_word hv b2 (by simp [hlv, hls]), and_word hu hs (by omega), or_word (bz _ _ hv) (bz _ _ hu) (by simp [hlv, hlu, hls]), hf]

theorem blend_math (v u m : Nat) (hv : v < 2 ^ 64) (hu : u < 2 ^ 64) (hm : m < 256) :
    bits .or .u64 (bits .andNot .u64 (v : Int) (spreadW m (lanesOf m).length : Int)) (bits .and .u64 (u : Int) (spreadW m (lanesOf m).length : Int)) = ((blendW v u m : Nat) : Int) := by
  have hs := spread_eq ⟨m, hm⟩
  simp only at hs
  have hsl := spreadW_lt m (lanesOf m).length
  rw [u64_andNot_nat _ _ (by simpa using hv) (by simpa using hsl), and_u64_lit _ _ hu hsl, or_u64_lit _ _ (and_lt_left hv) (and_lt_left hu)]
  congr 1
  rw [hs]
  have hvb : word ((List.range 8).map (byteAt v)) = v := word_bytes8 hv
  have hub : word ((List.range 8).map (byteAt u)) = u := word_bytes8 hu
  have key := blend_words ((List.range 8).map (byteAt v)) ((List.range 8).map (byteAt u)) ((List.range 8).map fun i => if hasM m i = true then 255 else 0)
    ((List.range 8).map fun i => if hasM m i = true then byteAt u i else byteAt v i) (bytey_range _ (byteAt_lt v)) (bytey_range _ (byteAt_lt u)) (bytey_range _ fun i => by split <;> decide) (by simp) (by simp) (by simp) (by
      rw [List.map_map, zip_map2, zip_map2, zip_map2]
      apply List.map_congr_left
      intro i _
      simp only [Function.comp]
      by_cases h : hasM m i = true
      · simp only [h, if_true, Nat.sub_self, Nat.and_zero, Nat.zero_or, and255 _ (byteAt_lt u i)]
      · simp only [h, if_false, Nat.sub_zero, and255 _ (byteAt_lt v i), Nat.and_zero, Nat.or_zero]
        simp [and255 _ (byteAt_lt v i)])
  rw [hvb, hub] at key
  exact key

/-! ### All -/
def ints (l : List Nat) : List Value := l.map fun (i : Nat) => .int .i64 (i : Int)
def AllI (m : Nat) (w : World) (k : Nat) (S : Nat → Prop) (W : World) : Prop :=
  ∃ v, Own1 ⟨w.heap.size, 0, none⟩ v S W ∧ OwnR (w.heap.size + 1) 3 1 v k (ints ((lanesOf m).take k)) S W ∧ Old w.heap.size w S W
theorem AllI.stable (m : Nat) (w : World) (k : Nat) : Stable (AllI m w k) := Stable.ex fun v => (Own1.stable _ _).and ((OwnR.stable _ _ _ _ _ _).and (Old.stable _ _))
theorem ints_succ (l : List Nat) (k : Nat) (h : k < l.length) : ints (l.take (k + 1)) = ints (l.take k) ++ [.int .i64 (nthN l k)] := by
  unfold ints
  rw [List.take_succ_eq_append_getElem h, List.map_append, nthN_eq h]; rfl
theorem length_lanesOf (m : Nat) : (lanesOf m).length ≤ 8 := by unfold lanesOf; exact Nat.le_trans (List.length_filter_le _ _) (by simp)
theorem info_int : (Try.prog.info? 3).map (fun i => (i.zero, i.size, i.bytes)) = some (some (.int .i64 0), 1, 8) := by kernel_rfl

theorem all_any (m : Nat) (hm : m < 256) (w : World) : Calls Try.prog 39 #[.int .u8 m] w fun e w' => ∃ sp n cap, e = .returned (.slice sp n cap) ∧ Below w.heap.size w w' ∧ w'.ownsRow w.heap.size 3 1 (.slice sp n cap) (lanesOf m).length (ints (lanesOf m)) := by
  refine (callsIn_wide (n := 0)).1 ?_
  refine callsIn_of_wp_marks Try.func39 rfl trivial ?_
  simp only [Try.ntmps39, List.size_toArray, List.length_cons, List.length_nil, Nat.reduceAdd, Nat.reduceSub, Array.replicate_succ, Array.replicate_zero, List.push_toArray, List.append_toArray, List.nil_append, List.cons_append]
  gi_wp2_with (first | (gi_at_call 65; refine (callsIn_wide.2 (each_any _ _)).mono ?_; rintro e w' ⟨rfl, rfl⟩))
  obtain ⟨W0, hW0⟩ : ∃ W0, W0 = ((w.alloc (.cells #[.slice none 0 0] 64)).alloc (.cells #[.int .u8 m] 31)) := ⟨_, rfl⟩
  have hz : W0.heap.size = w.heap.size + 2 := by rw [hW0]; simp
  have hA : Own1 ⟨w.heap.size, 0, none⟩ (.slice none 0 0) (fun c => c = w.heap.size + 1) W0 := by
    rw [hW0]; exact (Own1.new _ w _ _ (by omega)).alloc _
  have hC : Own1 ⟨w.heap.size + 1, 0, none⟩ (.int .u8 m) (fun _ => False) W0 := by
    rw [hW0]; have := (Own1.new (fun _ => False) (w.alloc (.cells #[.slice none 0 0] 64)) (.int .u8 m) 31 (by simp))
    simpa using this
  have hO : Old w.heap.size w (fun c => c = w.heap.size + 1) W0 := by
    rw [hW0]; exact ((Old.mk (Below.refl _ w) (Nat.le_refl _) (fun b hb => by omega)).alloc _).alloc _
  rw [← hW0]
  clear hW0
  refine wpIn_range rfl (fun h => by cases h) rfl trivial enters_each (each_it m _ hm W0 hC.cell hC.free (fun b => b < w.heap.size)) (by intro b hb; omega) (fun _ => rfl) (by intro b hb; omega)
    (AllI m w) noX (AllI.stable m w) noX_stable ⟨_, hA, ⟨World.ownsRow_nil _ _ _ _, by simp [Value.ownBlock]⟩, hO⟩
    (AxOf (fun k => { tmps := #[Value.int .u8 m, undef, .slice none 0 0, .pointer (some ⟨w.heap.size, 0, none⟩), .int .i64 (nthN (lanesOf m) k), .int .u8 m, .func (.func 93) #[] #[.pointer (some ⟨w.heap.size + 1, 0, none⟩)], .int .i64 (nthN (lanesOf m) k), undef, undef, undef, undef, undef], defers := [] }) (AllI m w))
    (AxOf.stable (AllI.stable m w)) ?assign ?body ?done (fun _ _ _ _ _ _ _ _ _ h _ => h.elim)
  case assign =>
    intro l k S W hk hl hr hSb hI
    rw [nthN_eq hk]
    clear hC hA hO hr
    gi_wp2
    exact ⟨⟨rfl, hI⟩, Kept.refl _ _⟩
  case body =>
    rintro l k S a W r hk hl hlr hr hSb ⟨rfl, v, h1, h2, h3⟩
    have c1 := h1.cell
    have f1 := h1.free
    obtain ⟨i0, hi, hz0, hz1, hz2⟩ := info_parts info_int
    have hk8 := length_lanesOf m
    have hle := h3.below.size
    have hlt1 := h1.lt
    have HI := Lib.hid (ints_succ _ _ hk)
    clear hlr hr hC hA hO
    have c1A := keep_alloc ⟨w.heap.size, 0, none⟩ v
    gi_wp2_with (gi_at_builtin; refine wpListIn_append _ rfl (.tmp 8) (.tmp 10) 64 rfl (w.heap.size + 1) 3 i0 (.int .i64 0) 1 8 Try.underlying64 hi hz0 hz1 hz2 rfl (by decide) v k _ rfl (h2.row.alloc _) ⟨W.heap.size, 0, none⟩ 1 1 [.int .i64 (nthN (lanesOf m) k)] rfl rfl (cell_one_new _ _ _) (by simp [Value.oneCell']) (by unfold maxLen; omega) (by omega) (by simp at hlt1 ⊢; omega) (by decide) ?_; intro v' w1 hown' hgrow hwh; obtain ⟨g', cap', rfl⟩ := ownsRow_succ hown'; have g1 := (h1.alloc _).grown hgrow (fun e => by have := h2.lo _ e.symm; simp at this; omega); have gc := g1.cell; have gf := g1.free)
    have hkg : Kept (fun b => b < w.heap.size ∨ S b) (W.alloc (.cells #[.int .i64 (nthN (lanesOf m) k)] 3)) w1 :=
      Kept.grown hgrow (fun j hj => by rintro (h | h); have := h2.lo _ hj; omega; exact h2.mine _ hj h)
    refine ⟨((Kept.alloc _ _ _).trans hkg).trans (Kept.store _ ⟨w.heap.size, 0, none⟩ _ h1.mine (Nat.le_refl _)), _, g1.set _, ?_, ?_⟩
    · rw [HI.out]
      exact (h2.appended hown' hwh (by simp) hSb).setBelow (a := ⟨w.heap.size, 0, none⟩) (by simp) _
    · exact ((h3.alloc _).grown hgrow (fun j hj => by have := h2.lo _ hj; omega)).set (p := ⟨w.heap.size, 0, none⟩) (Nat.le_refl _) _
  case done =>
    rintro D S W hD hSD hr ⟨v, h1, h2, h3⟩ hK
    have c1 := h1.cell
    clear hr
    gi_wp2
    obtain ⟨sp, n, cap, rfl⟩ : ∃ sp n cap, v = .slice sp n cap := by
      rcases h2.row.2 with ⟨h, _⟩ | ⟨g, cap, cur, h, _⟩
      · exact ⟨_, _, _, h⟩
      · exact ⟨_, _, _, h⟩
    refine post_mark (.inl rfl) hK (results_tmp rfl _ _ _) ⟨sp, n, cap, rfl, below_putObj h3.below (by omega) _, ?_⟩
    have h5 := ownsRow_mono h2.row (Nat.le_succ _)
    rw [List.take_length] at h5
    exact ownsRow_put h5 (fun j hj e => h2.mine j hj (e ▸ hSD)) _

end Go.Proofs.Ytoklgjlmjkhmbaa
