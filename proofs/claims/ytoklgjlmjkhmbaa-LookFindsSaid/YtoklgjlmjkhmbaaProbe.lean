/-
  Package probe: each function by its contract.
-/
import Derived.Test.YtoklgjlmjkhmbaaCommon
import Derived.Test.YtoklgjlmjkhmbaaScope
import Derived.Test.YtoklgjlmjkhmbaaProbePure
import Derived.Outline
import Derived.Deep.LoopGhost
import Derived.ScopeJumps
import Derived.Sort.LoopGhostIn
set_option linter.unusedSimpArgs false
set_option linter.unusedVariables false
namespace Go.Proofs.Ytoklgjlmjkhmbaa
open Go.RowKit

theorem i64_and_nat (a b : Nat) (ha : a < 9223372036854775808) (hb : b < 9223372036854775808) : bits .and .i64 (a : Int) (b : Int) = ((a &&& b : Nat) : Int) := by
  have hx : a &&& b ≤ a := Nat.and_le_left
  show IntKind.i64.wrap ((BitVec.ofInt 64 (a : Int) &&& BitVec.ofInt 64 (b : Int)).toNat : Int) = _
  rw [BitVec.toNat_and, ofInt_u64 a (by omega), ofInt_u64 b (by omega), IntKind.wrap_i64]
  omega
theorem mask_i64 {G : Nat} (x : Nat) (hG : goodB G = true) (hx : x < 9223372036854775808) : bits .and .i64 (x : Int) ((G : Int) - 1) = ((x % G : Nat) : Int) := by
  have h0 := good_pos hG
  have h1 := good_le hG
  rw [show ((G : Int) - 1) = ((G - 1 : Nat) : Int) by omega, i64_and_nat _ _ hx (by omega), and_mask _ hG]
theorem mask_u64 {G : Nat} (x : Nat) (hG : goodB G = true) (hx : x < 2 ^ 64) : bits .and .u64 (x : Int) ((G : Int) - 1) = ((x % G : Nat) : Int) := by
  have h0 := good_pos hG
  have h1 := good_le hG
  rw [show ((G : Int) - 1) = ((G - 1 : Nat) : Int) by omega, and_u64_lit _ _ hx (by omega), and_mask _ hG]

theorem check_yes (G : Nat) (w : World) (hG : goodB G = true) : Calls Try.prog 56 #[.int .i64 G] w fun e w' => e = .returned (.int .i64 0) ∧ w' = w := by
  have h0 := good_pos hG
  have h1 := good_le hG
  have ha := i64_and_nat G (G - 1) (by omega) (by omega)
  have hz : G &&& (G - 1) = 0 := by have := good_and h0 h1; rw [hG] at this; simpa using this.symm
  rw [hz, show ((G - 1 : Nat) : Int) = (G : Int) - 1 by omega] at ha
  have ha' : bits .and .i64 (G : Int) ((G : Int) - 1) = 0 := ha
  have hd1 : decide ((G : Int) < 1) = false := by rw [decide_eq_false_iff_not]; omega
  have hd2 : decide ((64 : Int) < (G : Int)) = false := by rw [decide_eq_false_iff_not]; omega
  clear ha hz hG
  go_enter Try.func56, Try.ntmps56
  go_wp2
  go_ret
  exact ⟨rfl, rfl⟩
theorem check_no (g : Int) (w : World) (hg : goodG g = false) (hb : -9223372036854775808 ≤ g ∧ g ≤ 9223372036854775807) : Calls Try.prog 56 #[.int .i64 g] w fun e w' => e = .returned (.int .i64 180) ∧ w' = w := by
  by_cases h1 : g < 1
  · have hd1 : decide (g < 1) = true := by rw [decide_eq_true_eq]; exact h1
    clear hg
    go_enter Try.func56, Try.ntmps56
    go_wp2
    go_ret
    exact ⟨rfl, rfl⟩
  · have hd1 : decide (g < 1) = false := by rw [decide_eq_false_iff_not]; exact h1
    by_cases h2 : 64 < g
    · have hd2 : decide (64 < g) = true := by rw [decide_eq_true_eq]; exact h2
      clear hg
      go_enter Try.func56, Try.ntmps56
      go_wp2
      go_ret
      exact ⟨rfl, rfl⟩
    · have hd2 : decide (64 < g) = false := by rw [decide_eq_false_iff_not]; exact h2
      obtain ⟨G, rfl⟩ : ∃ G : Nat, g = (G : Int) := ⟨g.toNat, by omega⟩
      have hga := good_and (g := G) (by omega) (by omega)
      have hf : goodB G = false := by unfold goodG at hg; simpa using hg
      have ha := i64_and_nat G (G - 1) (by omega) (by omega)
      rw [show ((G - 1 : Nat) : Int) = (G : Int) - 1 by omega] at ha
      rw [hf] at hga
      generalize G &&& (G - 1) = c at *
      have hne : ((c : Int) != 0) = true := by have := hga.symm; simp at this; simp; omega
      clear hg hga hf
      go_enter Try.func56, Try.ntmps56
      go_wp2
      go_ret
      exact ⟨rfl, rfl⟩

theorem pfirst_any (G h : Nat) (w : World) (hG : goodB G = true) (hh : h < 2 ^ 64) : Calls Try.prog 98 #[.int .i64 G, .int .u64 h] w fun e w' => e = .returned (.int .i64 (prB G h 0)) ∧ w' = w := by
  have h0 := good_pos hG
  have h1 := good_le hG
  have hm := mask_u64 h hG hh
  rw [← prB_zero] at hm
  have hl := prB_lt h 0 h0
  generalize prB G h 0 = r at *
  have hw : IntKind.u64.wrap ((G : Int) - 1) = (G : Int) - 1 := by rw [IntKind.wrap_u64]; omega
  have hG'h := Lib.hid hG
  have hh'h := Lib.hid hh
  clear hG hh
  go_enter Try.func98, Try.ntmps98
  go_wp2
  go_ret
  exact ⟨rfl, rfl⟩

theorem pall_any (G h : Nat) (w : World) : Calls Try.prog 81 #[.int .i64 G, .int .u64 h] w fun e w' => e = .returned (.func (.func 101) #[] #[.pointer (some ⟨w.heap.size, 0, none⟩), .pointer (some ⟨w.heap.size + 1, 0, none⟩)]) ∧ w' = (w.alloc (.cells #[.int .i64 G] 3)).alloc (.cells #[.int .u64 h] 29) := by
  go_enter Try.func81, Try.ntmps81
  go_wp2
  go_ret
  exact ⟨rfl, rfl⟩

def pairsB (G h : Nat) : List (Nat × Nat) := (List.range G).map fun i => (i, prB G h i)
theorem pairsB_length (G h : Nat) : (pairsB G h).length = G := by unfold pairsB; simp
theorem pairsB_at {G h k : Nat} (hk : k < (pairsB G h).length) : (pairsB G h)[k] = (k, prB G h k) := by simp [pairsB]
set_option maxHeartbeats 1000000 in
theorem all_it (G h b : Nat) (hG : goodB G = true) (hh : h < 2 ^ 64) (w : World) (c1 : w.cell? ⟨b, 0, none⟩ = some (.int .i64 G)) (c2 : w.cell? ⟨b + 1, 0, none⟩ = some (.int .u64 h)) :
    SeqIt Fence.wide 0 Try.prog 101 #[.pointer (some ⟨b, 0, none⟩), .pointer (some ⟨b + 1, 0, none⟩)] (fun x : Nat × Nat => #[.int .i64 x.1, .int .i64 x.2]) (pairsB G h) (fun _ => False) (fun c => c = b ∨ c = b + 1) w := by
  intro l J Jx W hJ hJx hW hY h0
  have d1 : W.cell? ⟨b, 0, none⟩ = some (.int .i64 G) := (hW.cell (p := ⟨b, 0, none⟩) (lt_of_cell c1)).trans c1
  have d2 : W.cell? ⟨b + 1, 0, none⟩ = some (.int .u64 h) := (hW.cell (p := ⟨b + 1, 0, none⟩) (lt_of_cell c2)).trans c2
  have hG0 := good_pos hG
  have hG1 := good_le hG
  have F := pfirst_any G h W hG hh
  have hlen := pairsB_length G h
  clear c1 c2 hW
  refine callsIn_of_wp Try.func101 rfl trivial ?_ rfl
  simp only [Try.ntmps101, List.size_toArray, List.length_cons, List.length_nil, Nat.reduceAdd, Nat.reduceSub, Array.replicate_succ, Array.replicate_zero, List.push_toArray, List.append_toArray, List.nil_append, List.cons_append]
  have F'h := Lib.hid F
  have hG'h := Lib.hid hG
  have hh'h := Lib.hid hh
  have hlen'h := Lib.hid hlen
  clear F hG hh hlen
  refine wpIn_scope_straight ?_
  gi_wp2_with (first | (gi_at_call 98; refine (callsIn_wide.2 F'h.out).mono ?_; rintro e w' ⟨rfl, rfl⟩))
  refine wpIn_label ?_
  gi_wp2
  gi_loopg [4, 10] G (fun q g i wr => ∃ (k : Nat) (S : Nat → Prop), k + q = G ∧ i = .int .i64 k ∧ g = .int .i64 (prB G h k) ∧ J k S wr ∧ wr.cell? ⟨b, 0, none⟩ = some (.int .i64 G))
  case atStart => exact ⟨0, _, by omega, rfl, rfl, h0, d1⟩
  case round =>
    obtain ⟨k, S, hk, rfl, rfl, hj, hc⟩ := hrel
    by_cases hlt : k < G
    · have hkx : k < (pairsB G h).length := by rw [hlen'h.out]; exact hlt
      have hx := pairsB_at hkx
      obtain ⟨fn, tmps, assign, body, hy, hR⟩ := hY k S wr hj hkx
      rw [hx] at hy
      have hm := mask_i64 (prB G h k + k + 1) hG'h.out (by have := prB_lt h k hG0; omega)
      rw [← prB_next] at hm
      have hm' : bits .and .i64 ((prB G h k : Int) + (k : Int) + 1) ((G : Int) - 1) = (prB G h (k + 1) : Int) := hm
      have hpl := prB_lt h k hG0
      generalize hy1 : prB G h (k + 1) = y at *
      generalize prB G h k = x at *
      clear hx hY hm
      have hk'h := Lib.hid hk
      have hkx'h := Lib.hid hkx
      have hy1'h := Lib.hid hy1
      clear hk hkx hy1
      gi_wp2_with fail
      refine hR.mono ?_
      clear hR hy
      rintro e W' (⟨rfl, hJ3, hk3⟩ | ⟨rfl, hJx3, hk3⟩)
      · have c3 : W'.cell? ⟨b, 0, none⟩ = some (.int .i64 G) := hk3.cell (p := ⟨b, 0, none⟩) (.inl (.inl rfl)) hc
        have hJ3'h := Lib.hid hJ3
        clear hJ3
        clear hk3 hc d1 d2
        gi_wp2
        gi_roundg (gk - 1)
        case measure => have := hk'h.out; omega
        case rel => exact ⟨k + 1, S, by have := hk'h.out; omega, by go_num, by rw [hy1'h.out], hJ3'h.out, c3⟩
      · clear hk3
        gi_wp2
        rw [Exit.noGoto_normal]
        refine bodyPost_end (results_none rfl _ _ _) rfl ?_
        exact ⟨⟨_, rfl⟩, .inr ⟨_, hJx3⟩⟩
    · have hkk : k = (pairsB G h).length := by rw [hlen'h.out]; omega
      have hend : J (pairsB G h).length S wr := by rw [← hkk]; exact hj
      have hk'h := Lib.hid hk
      have hkk'h := Lib.hid hkk
      clear hk hkk
      gi_wp2
      rw [Exit.noGoto_normal]
      refine bodyPost_end (results_none rfl _ _ _) rfl ?_
      exact ⟨⟨_, rfl⟩, .inl ⟨_, hend⟩⟩
theorem enters_all (args : Array Value) (w : World) : (callFunc 101 args).run Try.prog w = .ok (.enter 101 args) w := by
  exact enters_of Try.func101 (by kernel_rfl) rfl args w

/-! ### of -/
def rowA (G h k : Nat) : Array Value := ((List.range 64).map fun i => Value.int .i64 (if i < k then (prB G h i : Int) else 0)).toArray
theorem rowA_size (G h k : Nat) : (rowA G h k).size = 64 := by simp [rowA]
theorem rowA_set {G h k : Nat} (hk : k < 64) : (rowA G h k).setIfInBounds k (.int .i64 (prB G h k)) = rowA G h (k + 1) := by
  unfold rowA
  rw [List.setIfInBounds_toArray]
  congr 1
  apply List.ext_getElem (by simp)
  intro i h1 h2
  simp only [List.getElem_map, List.getElem_range, List.getElem_set]
  by_cases e : k = i
  · subst e; simp
  · rw [if_neg e]
    by_cases h3 : i < k
    · rw [if_pos h3, if_pos (by omega)]
    · rw [if_neg h3, if_neg (by omega)]
theorem rowA_one (G h k : Nat) : (rowA G h k).all (·.oneCell') = true := by
  rw [Array.all_eq_true]; intro i hi; simp [rowA, Value.oneCell']
theorem rowA_at {G h k i : Nat} (hi : i < 64) : (rowA G h k)[i]? = some (.int .i64 (if i < k then (prB G h i : Int) else 0)) := by
  unfold rowA
  rw [List.getElem?_toArray, List.getElem?_map, List.getElem?_range hi]; rfl
structure OfI (G h ob rb : Nat) (w : World) (k : Nat) (S : Nat → Prop) (W : World) : Prop where
  blk : W.heap[ob]? = some (.cells (rowA G h k) 99 (0, 0))
  mine : ¬ S ob
  res : W.heap[rb]? = some (.cells (rowA G h 0) 99 (0, 0))
  miner : ¬ S rb
  old : Old w.heap.size w S W
theorem OfI.stable (G h ob rb : Nat) (w : World) (k : Nat) : Stable (OfI G h ob rb w k) := fun S S' W W' h f =>
  ⟨f.heap' h.mine h.blk, f.not (lt_of_heap h.blk) h.mine, f.heap' h.miner h.res, f.not (lt_of_heap h.res) h.miner, Old.stable _ _ _ _ _ _ h.old f⟩
theorem info_row : (Try.prog.info? 99).map (·.size) = some 64 := by kernel_rfl
def noXp (_c : Code) (_k : Nat) (_S : Nat → Prop) (_W : World) : Prop := False
theorem noXp_stable (c : Code) (k : Nat) : Stable (noXp c k) := fun _ _ _ _ h _ => h
set_option maxHeartbeats 2000000 in
set_option maxRecDepth 100000 in
theorem pof_any (G h : Nat) (w : World) (hG : goodB G = true) (hh : h < 2 ^ 64) : Calls Try.prog 57 #[.int .i64 G, .int .u64 h] w fun e w' => e = .returned (.agg (rowA G h G)) ∧ Below w.heap.size w w' := by
  refine (callsIn_wide (n := 0)).1 ?_
  refine callsIn_of_wp_marks Try.func57 rfl trivial ?_
  simp only [Try.ntmps57, List.size_toArray, List.length_cons, List.length_nil, Nat.reduceAdd, Nat.reduceSub, Array.replicate_succ, Array.replicate_zero, List.push_toArray, List.append_toArray, List.nil_append, List.cons_append]
  gi_wp2_with (first | (gi_at_call 81; refine (callsIn_wide.2 (pall_any _ _ _)).mono ?_; rintro e w' ⟨rfl, rfl⟩))
  change Code.wpIn _ _ _ _ _ _ ((((w.alloc (.cells (rowA G h 0) 99)).alloc (.cells (rowA G h 0) 99)).alloc (.cells #[.int .i64 G] 3)).alloc (.cells #[.int .u64 h] 29))
  obtain ⟨W0, hW0⟩ : ∃ W0, W0 = ((((w.alloc (.cells (rowA G h 0) 99)).alloc (.cells (rowA G h 0) 99)).alloc (.cells #[.int .i64 G] 3)).alloc (.cells #[.int .u64 h] 29)) := ⟨_, rfl⟩
  have hz : W0.heap.size = w.heap.size + 4 := by rw [hW0]; simp
  have hb0 : Below w.heap.size w W0 := by rw [hW0]; exact ((((Below.refl _ _).alloc (Nat.le_refl _) _).alloc (by simp) _).alloc (by simp; omega) _).alloc (by simp; omega) _
  have b0 : W0.heap[w.heap.size]? = some (.cells (rowA G h 0) 99 (0, 0)) := by
    rw [hW0]
    exact (Below.heap_alloc _ _ _ (by simp <;> omega)).trans ((Below.heap_alloc _ _ _ (by simp <;> omega)).trans ((Below.heap_alloc _ _ _ (by simp <;> omega)).trans (World.alloc_heap_new _ _)))
  have b1 : W0.heap[w.heap.size + 1]? = some (.cells (rowA G h 0) 99 (0, 0)) := by
    rw [hW0]
    refine (Below.heap_alloc _ _ _ (by simp <;> omega)).trans ((Below.heap_alloc _ _ _ (by simp <;> omega)).trans ?_)
    have := World.alloc_heap_new (w.alloc (.cells (rowA G h 0) 99)) (.cells (rowA G h 0) 99)
    rwa [World.size_alloc] at this
  have c1 : W0.cell? ⟨w.heap.size + 1 + 1, 0, none⟩ = some (.int .i64 G) := by
    rw [hW0]
    refine keep_alloc _ _ _ _ (blk_cell (t := 3) (fz := (0, 0)) (cs := #[.int .i64 G]) ?_ rfl)
    have := World.alloc_heap_new ((w.alloc (.cells (rowA G h 0) 99)).alloc (.cells (rowA G h 0) 99)) (.cells #[.int .i64 G] 3)
    rwa [World.size_alloc, World.size_alloc] at this
  have c2 : W0.cell? ⟨w.heap.size + 1 + 1 + 1, 0, none⟩ = some (.int .u64 h) := by
    rw [hW0]
    refine blk_cell (t := 29) (fz := (0, 0)) (cs := #[.int .u64 h]) ?_ rfl
    have := World.alloc_heap_new (((w.alloc (.cells (rowA G h 0) 99)).alloc (.cells (rowA G h 0) 99)).alloc (.cells #[.int .i64 G] 3)) (.cells #[.int .u64 h] 29)
    rwa [World.size_alloc, World.size_alloc, World.size_alloc] at this
  rw [← hW0]
  clear hW0
  have hlen := pairsB_length G h
  have hle := good_le hG
  have b0'h := Lib.hid b0
  have b1'h := Lib.hid b1
  have c1'h := Lib.hid c1
  have c2'h := Lib.hid c2
  have hb0'h := Lib.hid hb0
  clear b0 b1 c1 c2 hb0
  refine' wpIn_range rfl (fun h => by cases h) rfl trivial enters_all (all_it G h _ hG hh W0 c1'h.out c2'h.out) (by intro b hb; exact hb.elim) (fun _ => rfl)
    (by rintro b (rfl | rfl) <;> exact ⟨by omega, fun h => h⟩)
    (OfI G h (w.heap.size + 1) w.heap.size w) noXp (OfI.stable _ _ _ _ _) noXp_stable
    ⟨b1'h.out, fun h => h, b0'h.out, fun h => h, ⟨hb0'h.out, Nat.le_refl _, fun b hb h => h⟩⟩
    (AxOf _ (OfI G h (w.heap.size + 1) w.heap.size w)) (AxOf.stable (OfI.stable _ _ _ _ _)) ?assign ?body ?done (fun _ _ _ _ _ _ _ _ _ h _ => h.elim)
  case assign =>
    intro l k S W hk hl hr hSb hI
    rw [pairsB_at hk]
    clear hr
    gi_wp2
    exact ⟨⟨rfl, hI⟩, Kept.refl _ _⟩
  case body =>
    rintro l k S a W r hk hl hlr hr hSb ⟨rfl, hI⟩
    have hk64 : k < 64 := by omega
    have hki : (k : Int) < 64 := by omega
    have d1 : W.cell? ⟨w.heap.size + 1, k, none⟩ = some (.int .i64 (if k < k then (prB G h k : Int) else 0)) := blk_cell hI.blk (rowA_at hk64)
    have f1 : W.frozen? ⟨w.heap.size + 1, k, none⟩ = false := blk_free k hI.blk
    have hs := blk_set (i := k) (.int .i64 (prB G h k)) hI.blk
    rw [rowA_set hk64] at hs
    have ho := fun b (hb : b ≠ w.heap.size + 1) => Below.heap_setCell W ⟨w.heap.size + 1, k, none⟩ (.int .i64 (prB G h k)) b hb
    have hK : Kept (fun b => (b = w.heap.size + 1 + 1 ∨ b = w.heap.size + 1 + 1 + 1) ∨ S b) W (W.setCell ⟨w.heap.size + 1, k, none⟩ (.int .i64 (prB G h k))) :=
      Kept.setCell _ _ _ _ (fun hh => by
        rcases hh with (hh | hh) | hh
        · have e : w.heap.size + 1 = w.heap.size + 1 + 1 := hh
          omega
        · have e : w.heap.size + 1 = w.heap.size + 1 + 1 + 1 := hh
          omega
        · exact hI.mine hh)
    have hres := (ho w.heap.size (by omega)).trans hI.res
    have hold := hI.old.set (p := ⟨w.heap.size + 1, k, none⟩) (by show w.heap.size ≤ w.heap.size + 1; omega) (.int .i64 (prB G h k))
    have hm := hI.mine
    have hm' := hI.miner
    clear hlr hr ho
    have hs'h := Lib.hid hs
    have hK'h := Lib.hid hK
    have hres'h := Lib.hid hres
    have hold'h := Lib.hid hold
    have hI'h := Lib.hid hI
    clear hs hK hres hold hI
    gi_wp2
    exact ⟨hK'h.out, hs'h.out, hm, hres'h.out, hm', hold'h.out⟩
  case done =>
    rintro D S W hD hSD hr hI hK
    rw [hlen] at hI
    have hblk := hI.blk
    have hres := hI.res
    clear hr
    have hI'h := Lib.hid hI
    have hK'h := Lib.hid hK
    clear hI hK
    gi_wp2_with (first | (refine wpListIn_load_row rfl 99 (.tmp 5) rfl (w.heap.size + 1) rfl 99 (rowA G h G) (0, 0) _ hblk Try.underlying99 rfl (by rw [rowA_size]; exact info_row) ?_) | (refine wpListIn_store_row rfl 99 (.tmp 4) (.tmp 16) rfl w.heap.size (rowA G h G) rfl rfl 99 (rowA G h 0) hres (by rw [rowA_size]; exact info_row) (by rw [rowA_size, rowA_size]) (rowA_one _ _ _) ?_))
    have hT := setRow_heap W w.heap.size (rowA G h 0) (rowA G h G) _ _ hres
    have hD2 : (W.setRow w.heap.size (rowA G h G)).heap[D]? = some (.deferred (some [])) := (setRow_other _ _ _ _ (by omega)).trans hK'h.out
    have hT2 : ((W.setRow w.heap.size (rowA G h G)).putObj D (.deferred none)).heap[w.heap.size]? = some (.cells (rowA G h G) 99 (0, 0)) := (World.putObj_heap_other (by omega)).trans hT
    exact post_mark (.inl rfl) hD2 (results_cell_row rfl _ _ w.heap.size 99 (rowA G h G) (0, 0) _ rfl hT2 Try.underlying99 rfl (by rw [rowA_size]; exact info_row)) ⟨rfl, below_putObj (below_setRow' hI'h.out.old.below (Nat.le_refl _) _) (by omega) _⟩
end Go.Proofs.Ytoklgjlmjkhmbaa
