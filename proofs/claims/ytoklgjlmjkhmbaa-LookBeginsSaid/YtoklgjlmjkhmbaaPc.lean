/-
  Several texts of mine in one: ProbePure Probe ProbeB ProbeC LookPure Far Ref08 Round RoundF.
-/
import Derived.Test.YtoklgjlmjkhmbaaPa
import Derived.Test.YtoklgjlmjkhmbaaPb
import Derived.Outline
import Derived.Deep.LoopGhost
import Derived.ScopeJumps
import Derived.Sort.LoopGhostIn
import Derived.Deep.RegionHeld3
import Derived.StillTailTactics
import Derived.OrdersIn
import Derived.RangeFuncCalls
import Derived.OrdersHeld
import Derived.Deep.RegionHeld
/-
  Rows of groups: plain laws, no program in sight.
-/
namespace Go.Proofs.Ytoklgjlmjkhmbaa

/-- So many groups there may be. -/
def goodB (G : Nat) : Bool := G == 1 || G == 2 || G == 4 || G == 8 || G == 16 || G == 32 || G == 64
def goodG (g : Int) : Bool := decide (0 ≤ g) && goodB g.toNat
def prB (G h i : Nat) : Nat := (h + i * (i + 1) / 2) % G
def rowB (G h : Nat) : List Nat := (List.range G).map (prB G h)

theorem good_cases {G : Nat} (h : goodB G = true) : G = 1 ∨ G = 2 ∨ G = 4 ∨ G = 8 ∨ G = 16 ∨ G = 32 ∨ G = 64 := by
  unfold goodB at h; simp only [Bool.or_eq_true, beq_iff_eq] at h; omega
theorem good_pos {G : Nat} (h : goodB G = true) : 0 < G := by have := good_cases h; omega
theorem good_le {G : Nat} (h : goodB G = true) : G ≤ 64 := by have := good_cases h; omega
theorem good_pow {G : Nat} (h : goodB G = true) : ∃ k, G = 2 ^ k := by
  rcases good_cases h with h | h | h | h | h | h | h
  · exact ⟨0, h⟩
  · exact ⟨1, h⟩
  · exact ⟨2, h⟩
  · exact ⟨3, h⟩
  · exact ⟨4, h⟩
  · exact ⟨5, h⟩
  · exact ⟨6, h⟩
theorem and_mask {G : Nat} (x : Nat) (h : goodB G = true) : x &&& (G - 1) = x % G := by
  obtain ⟨k, rfl⟩ := good_pow h
  exact Nat.and_two_pow_sub_one_eq_mod x k
theorem good_fin : ∀ g : Fin 65, 1 ≤ g.val → goodB g.val = (g.val &&& (g.val - 1) == 0) := by decide +kernel
theorem good_and {g : Nat} (h : 1 ≤ g) (h' : g ≤ 64) : goodB g = (g &&& (g - 1) == 0) := good_fin ⟨g, by omega⟩ h

theorem tri_next (i : Nat) : (i + 1) * (i + 1 + 1) / 2 = i * (i + 1) / 2 + (i + 1) := by
  have : (i + 1) * (i + 1 + 1) = i * (i + 1) + (i + 1) * 2 := by
    rw [Nat.mul_comm i, ← Nat.mul_add]
  rw [this, Nat.add_mul_div_right _ _ (by decide)]
theorem prB_next (G h i : Nat) : prB G h (i + 1) = (prB G h i + i + 1) % G := by
  unfold prB; rw [tri_next, Nat.add_assoc (_ % G) i 1, Nat.mod_add_mod, ← Nat.add_assoc]
theorem prB_zero (G h : Nat) : prB G h 0 = h % G := by unfold prB; simp
theorem prB_lt {G : Nat} (h i : Nat) (hG : 0 < G) : prB G h i < G := Nat.mod_lt _ hG
theorem prB_mod (G h i : Nat) : prB G (h % G) i = prB G h i := by unfold prB; rw [Nat.mod_add_mod]
theorem prB_shift (G h i : Nat) : (prB G 0 i + h % G) % G = prB G h i := by
  unfold prB; rw [Nat.zero_add, ← Nat.add_mod, Nat.add_comm]
theorem rowB_length (G h : Nat) : (rowB G h).length = G := by unfold rowB; simp
theorem rowB_at {G h i : Nat} (hi : i < G) : (rowB G h)[i]? = some (prB G h i) := by
  unfold rowB; rw [List.getElem?_map, List.getElem?_range hi]; rfl
theorem rowB_mod (G h : Nat) : rowB G (h % G) = rowB G h := by unfold rowB; exact List.map_congr_left fun i _ => prB_mod G h i

/-- Which one of the row of 0 a group is. -/
def place0 (G g : Nat) : Nat := (rowB G 0).idxOf g
def rowsOnce : Bool := [1, 2, 4, 8, 16, 32, 64].all fun G => (List.range G).all fun g => decide (prB G 0 (place0 G g) = g ∧ place0 G g < G) && decide (place0 G (prB G 0 g) = g)
theorem rows_once : rowsOnce = true := by decide +kernel
theorem rows_at {G : Nat} (h : goodB G = true) {g : Nat} (hg : g < G) : (prB G 0 (place0 G g) = g ∧ place0 G g < G) ∧ place0 G (prB G 0 g) = g := by
  have hall := rows_once
  unfold rowsOnce at hall
  rw [List.all_eq_true] at hall
  have h1 := hall G (by have := good_cases h; simp; omega)
  rw [List.all_eq_true] at h1
  have h3 := h1 g (List.mem_range.2 hg)
  rw [Bool.and_eq_true, decide_eq_true_eq, decide_eq_true_eq] at h3
  exact h3
theorem add_mod_lt {G a c : Nat} (ha : a < G) (hc : c < G) : (a + c) % G = if a + c < G then a + c else a + c - G := by
  split
  · rename_i h; exact Nat.mod_eq_of_lt h
  · rename_i h; rw [Nat.mod_eq_sub_mod (by omega), Nat.mod_eq_of_lt (by omega)]
/-- Which one of a row a group is. -/
def placeB (G h g : Nat) : Nat := place0 G ((g + (G - h % G)) % G)
theorem back_lt {G c g : Nat} (hc : c < G) (hg : g < G) : (g + (G - c)) % G < G ∧ ((g + (G - c)) % G + c) % G = g := by
  refine ⟨Nat.mod_lt _ (by omega), ?_⟩
  rw [Nat.mod_add_mod, show g + (G - c) + c = g + G by omega, Nat.add_mod_right, Nat.mod_eq_of_lt hg]
theorem prB_place {G : Nat} (hG : goodB G = true) (h : Nat) {g : Nat} (hg : g < G) : prB G h (placeB G h g) = g := by
  have hb := back_lt (Nat.mod_lt h (good_pos hG)) hg
  rw [← prB_shift, placeB, (rows_at hG hb.1).1.1]; exact hb.2
theorem placeB_lt {G : Nat} (hG : goodB G = true) (h : Nat) {g : Nat} (hg : g < G) : placeB G h g < G :=
  (rows_at hG (back_lt (Nat.mod_lt h (good_pos hG)) hg).1).1.2
theorem prB_inj {G : Nat} (hG : goodB G = true) (h : Nat) {i j : Nat} (hi : i < G) (hj : j < G) (e : prB G h i = prB G h j) : i = j := by
  have h0 := good_pos hG
  rw [← prB_shift G h i, ← prB_shift G h j, add_mod_lt (prB_lt _ _ h0) (Nat.mod_lt _ h0), add_mod_lt (prB_lt _ _ h0) (Nat.mod_lt _ h0)] at e
  have h1 := prB_lt (G := G) 0 i h0
  have h2 := prB_lt (G := G) 0 j h0
  have h3 := Nat.mod_lt h h0
  have e0 : prB G 0 i = prB G 0 j := by split at e <;> split at e <;> omega
  rw [← (rows_at hG hi).2, e0, (rows_at hG hj).2]
theorem placeB_pr {G : Nat} (hG : goodB G = true) (h : Nat) {i : Nat} (hi : i < G) : placeB G h (prB G h i) = i :=
  prB_inj hG h (placeB_lt hG h (prB_lt h i (good_pos hG))) hi (prB_place hG h (prB_lt h i (good_pos hG)))
theorem placeB_mod (G h g : Nat) : placeB G (h % G) g = placeB G h g := by unfold placeB; rw [Nat.mod_mod]
end Go.Proofs.Ytoklgjlmjkhmbaa

/-
  Package probe: each function by its contract.
-/
set_option linter.unusedSimpArgs false
set_option linter.unusedVariables false
namespace Go.Proofs.Ytoklgjlmjkhmbaa
open Go.RowKit

theorem i64_and_nat (a b : Nat) (ha : a < 9223372036854775808) (hb : b < 9223372036854775808) : bits .and .i64 (a : Int) (b : Int) = ((a &&& b : Nat) : Int) := by
  have hx : a &&& b ≤ a := Nat.and_le_left
  show IntKind.i64.wrap ((BitVec.ofInt 64 (a : Int) &&& BitVec.ofInt 64 (b : Int)).toNat : Int) = _
  rw [BitVec.toNat_and, ofInt_u64 a (by omega), ofInt_u64 b (by omega), IntKind.wrap_i64]
  omega
theorem mask_i64 {G : Nat} (x : Nat) (hG : goodB G = true) (hx : x < 9223372036854775808) : bits .and .i64 (x : Int) ((G : Int) - 1) = ((x % G : Nat) : Int) := by
  have h0 := good_pos hG
  have h1 := good_le hG
  rw [show ((G : Int) - 1) = ((G - 1 : Nat) : Int) by omega, i64_and_nat _ _ hx (by omega), and_mask _ hG]
theorem mask_u64 {G : Nat} (x : Nat) (hG : goodB G = true) (hx : x < 2 ^ 64) : bits .and .u64 (x : Int) ((G : Int) - 1) = ((x % G : Nat) : Int) := by
  have h0 := good_pos hG
  have h1 := good_le hG
  rw [show ((G : Int) - 1) = ((G - 1 : Nat) : Int) by omega, and_u64_lit _ _ hx (by omega), and_mask _ hG]

theorem check_yes (G : Nat) (w : World) (hG : goodB G = true) : Calls Try.prog 56 #[.int .i64 G] w fun e w' => e = .returned (.int .i64 0) ∧ w' = w := by
  have h0 := good_pos hG
  have h1 := good_le hG
  have ha := i64_and_nat G (G - 1) (by omega) (by omega)
  have hz : G &&& (G - 1) = 0 := by have := good_and h0 h1; rw [hG] at this; simpa using this.symm
  rw [hz, show ((G - 1 : Nat) : Int) = (G : Int) - 1 by omega] at ha
  have ha' : bits .and .i64 (G : Int) ((G : Int) - 1) = 0 := ha
  have hd1 : decide ((G : Int) < 1) = false := by rw [decide_eq_false_iff_not]; omega
  have hd2 : decide ((64 : Int) < (G : Int)) = false := by rw [decide_eq_false_iff_not]; omega
  clear ha hz hG
  go_enter Try.func56, Try.ntmps56
  go_wp2
  go_ret
  exact ⟨rfl, rfl⟩
theorem check_no (g : Int) (w : World) (hg : goodG g = false) (hb : -9223372036854775808 ≤ g ∧ g ≤ 9223372036854775807) : Calls Try.prog 56 #[.int .i64 g] w fun e w' => e = .returned (.int .i64 180) ∧ w' = w := by
  by_cases h1 : g < 1
  · have hd1 : decide (g < 1) = true := by rw [decide_eq_true_eq]; exact h1
    clear hg
    go_enter Try.func56, Try.ntmps56
    go_wp2
    go_ret
    exact ⟨rfl, rfl⟩
  · have hd1 : decide (g < 1) = false := by rw [decide_eq_false_iff_not]; exact h1
    by_cases h2 : 64 < g
    · have hd2 : decide (64 < g) = true := by rw [decide_eq_true_eq]; exact h2
      clear hg
      go_enter Try.func56, Try.ntmps56
      go_wp2
      go_ret
      exact ⟨rfl, rfl⟩
    · have hd2 : decide (64 < g) = false := by rw [decide_eq_false_iff_not]; exact h2
      obtain ⟨G, rfl⟩ : ∃ G : Nat, g = (G : Int) := ⟨g.toNat, by omega⟩
      have hga := good_and (g := G) (by omega) (by omega)
      have hf : goodB G = false := by unfold goodG at hg; simpa using hg
      have ha := i64_and_nat G (G - 1) (by omega) (by omega)
      rw [show ((G - 1 : Nat) : Int) = (G : Int) - 1 by omega] at ha
      rw [hf] at hga
      generalize G &&& (G - 1) = c at *
      have hne : ((c : Int) != 0) = true := by have := hga.symm; simp at this; simp; omega
      clear hg hga hf
      go_enter Try.func56, Try.ntmps56
      go_wp2
      go_ret
      exact ⟨rfl, rfl⟩

theorem pfirst_any (G h : Nat) (w : World) (hG : goodB G = true) (hh : h < 2 ^ 64) : Calls Try.prog 98 #[.int .i64 G, .int .u64 h] w fun e w' => e = .returned (.int .i64 (prB G h 0)) ∧ w' = w := by
  have h0 := good_pos hG
  have h1 := good_le hG
  have hm := mask_u64 h hG hh
  rw [← prB_zero] at hm
  have hl := prB_lt h 0 h0
  generalize prB G h 0 = r at *
  have hw : IntKind.u64.wrap ((G : Int) - 1) = (G : Int) - 1 := by rw [IntKind.wrap_u64]; omega
  have hG'h := Lib.hid hG
  have hh'h := Lib.hid hh
  clear hG hh
  go_enter Try.func98, Try.ntmps98
  go_wp2
  go_ret
  exact ⟨rfl, rfl⟩

theorem pall_any (G h : Nat) (w : World) : Calls Try.prog 81 #[.int .i64 G, .int .u64 h] w fun e w' => e = .returned (.func (.func 101) #[] #[.pointer (some ⟨w.heap.size, 0, none⟩), .pointer (some ⟨w.heap.size + 1, 0, none⟩)]) ∧ w' = (w.alloc (.cells #[.int .i64 G] 3)).alloc (.cells #[.int .u64 h] 29) := by
  go_enter Try.func81, Try.ntmps81
  go_wp2
  go_ret
  exact ⟨rfl, rfl⟩

def pairsB (G h : Nat) : List (Nat × Nat) := (List.range G).map fun i => (i, prB G h i)
theorem pairsB_length (G h : Nat) : (pairsB G h).length = G := by unfold pairsB; simp
theorem pairsB_at {G h k : Nat} (hk : k < (pairsB G h).length) : (pairsB G h)[k] = (k, prB G h k) := by simp [pairsB]
set_option maxHeartbeats 1000000 in
theorem all_it (G h b : Nat) (hG : goodB G = true) (hh : h < 2 ^ 64) (w : World) (c1 : w.cell? ⟨b, 0, none⟩ = some (.int .i64 G)) (c2 : w.cell? ⟨b + 1, 0, none⟩ = some (.int .u64 h)) :
    SeqIt Fence.wide 0 Try.prog 101 #[.pointer (some ⟨b, 0, none⟩), .pointer (some ⟨b + 1, 0, none⟩)] (fun x : Nat × Nat => #[.int .i64 x.1, .int .i64 x.2]) (pairsB G h) (fun _ => False) (fun c => c = b ∨ c = b + 1) w := by
  intro l J Jx W hJ hJx hW hY h0
  have d1 : W.cell? ⟨b, 0, none⟩ = some (.int .i64 G) := (hW.cell (p := ⟨b, 0, none⟩) (lt_of_cell c1)).trans c1
  have d2 : W.cell? ⟨b + 1, 0, none⟩ = some (.int .u64 h) := (hW.cell (p := ⟨b + 1, 0, none⟩) (lt_of_cell c2)).trans c2
  have hG0 := good_pos hG
  have hG1 := good_le hG
  have F := pfirst_any G h W hG hh
  have hlen := pairsB_length G h
  clear c1 c2 hW
  refine callsIn_of_wp Try.func101 rfl trivial ?_ rfl
  simp only [Try.ntmps101, List.size_toArray, List.length_cons, List.length_nil, Nat.reduceAdd, Nat.reduceSub, Array.replicate_succ, Array.replicate_zero, List.push_toArray, List.append_toArray, List.nil_append, List.cons_append]
  have F'h := Lib.hid F
  have hG'h := Lib.hid hG
  have hh'h := Lib.hid hh
  have hlen'h := Lib.hid hlen
  clear F hG hh hlen
  refine wpIn_scope_straight ?_
  gi_wp2_with (first | (gi_at_call 98; refine (callsIn_wide.2 F'h.out).mono ?_; rintro e w' ⟨rfl, rfl⟩))
  refine wpIn_label ?_
  gi_wp2
  gi_loopg [4, 10] G (fun q g i wr => ∃ (k : Nat) (S : Nat → Prop), k + q = G ∧ i = .int .i64 k ∧ g = .int .i64 (prB G h k) ∧ J k S wr ∧ wr.cell? ⟨b, 0, none⟩ = some (.int .i64 G))
  case atStart => exact ⟨0, _, by omega, rfl, rfl, h0, d1⟩
  case round =>
    obtain ⟨k, S, hk, rfl, rfl, hj, hc⟩ := hrel
    by_cases hlt : k < G
    · have hkx : k < (pairsB G h).length := by rw [hlen'h.out]; exact hlt
      have hx := pairsB_at hkx
      obtain ⟨fn, tmps, assign, body, hy, hR⟩ := hY k S wr hj hkx
      rw [hx] at hy
      have hm := mask_i64 (prB G h k + k + 1) hG'h.out (by have := prB_lt h k hG0; omega)
      rw [← prB_next] at hm
      have hm' : bits .and .i64 ((prB G h k : Int) + (k : Int) + 1) ((G : Int) - 1) = (prB G h (k + 1) : Int) := hm
      have hpl := prB_lt h k hG0
      generalize hy1 : prB G h (k + 1) = y at *
      generalize prB G h k = x at *
      clear hx hY hm
      have hk'h := Lib.hid hk
      have hkx'h := Lib.hid hkx
      have hy1'h := Lib.hid hy1
      clear hk hkx hy1
      gi_wp2_with fail
      refine hR.mono ?_
      clear hR hy
      rintro e W' (⟨rfl, hJ3, hk3⟩ | ⟨rfl, hJx3, hk3⟩)
      · have c3 : W'.cell? ⟨b, 0, none⟩ = some (.int .i64 G) := hk3.cell (p := ⟨b, 0, none⟩) (.inl (.inl rfl)) hc
        have hJ3'h := Lib.hid hJ3
        clear hJ3
        clear hk3 hc d1 d2
        gi_wp2
        gi_roundg (gk - 1)
        case measure => have := hk'h.out; omega
        case rel => exact ⟨k + 1, S, by have := hk'h.out; omega, by go_num, by rw [hy1'h.out], hJ3'h.out, c3⟩
      · clear hk3
        gi_wp2
        rw [Exit.noGoto_normal]
        refine bodyPost_end (results_none rfl _ _ _) rfl ?_
        exact ⟨⟨_, rfl⟩, .inr ⟨_, hJx3⟩⟩
    · have hkk : k = (pairsB G h).length := by rw [hlen'h.out]; omega
      have hend : J (pairsB G h).length S wr := by rw [← hkk]; exact hj
      have hk'h := Lib.hid hk
      have hkk'h := Lib.hid hkk
      clear hk hkk
      gi_wp2
      rw [Exit.noGoto_normal]
      refine bodyPost_end (results_none rfl _ _ _) rfl ?_
      exact ⟨⟨_, rfl⟩, .inl ⟨_, hend⟩⟩
theorem enters_all (args : Array Value) (w : World) : (callFunc 101 args).run Try.prog w = .ok (.enter 101 args) w := by
  exact enters_of Try.func101 (by kernel_rfl) rfl args w

/-! ### of -/
def rowA (G h k : Nat) : Array Value := ((List.range 64).map fun i => Value.int .i64 (if i < k then (prB G h i : Int) else 0)).toArray
theorem rowA_size (G h k : Nat) : (rowA G h k).size = 64 := by simp [rowA]
theorem rowA_set {G h k : Nat} (hk : k < 64) : (rowA G h k).setIfInBounds k (.int .i64 (prB G h k)) = rowA G h (k + 1) := by
  unfold rowA
  rw [List.setIfInBounds_toArray]
  congr 1
  apply List.ext_getElem (by simp)
  intro i h1 h2
  simp only [List.getElem_map, List.getElem_range, List.getElem_set]
  by_cases e : k = i
  · subst e; simp
  · rw [if_neg e]
    by_cases h3 : i < k
    · rw [if_pos h3, if_pos (by omega)]
    · rw [if_neg h3, if_neg (by omega)]
theorem rowA_one (G h k : Nat) : (rowA G h k).all (·.oneCell') = true := by
  rw [Array.all_eq_true]; intro i hi; simp [rowA, Value.oneCell']
theorem rowA_at {G h k i : Nat} (hi : i < 64) : (rowA G h k)[i]? = some (.int .i64 (if i < k then (prB G h i : Int) else 0)) := by
  unfold rowA
  rw [List.getElem?_toArray, List.getElem?_map, List.getElem?_range hi]; rfl
structure OfI (G h ob rb : Nat) (w : World) (k : Nat) (S : Nat → Prop) (W : World) : Prop where
  blk : W.heap[ob]? = some (.cells (rowA G h k) 99 (0, 0))
  mine : ¬ S ob
  res : W.heap[rb]? = some (.cells (rowA G h 0) 99 (0, 0))
  miner : ¬ S rb
  old : Old w.heap.size w S W
theorem OfI.stable (G h ob rb : Nat) (w : World) (k : Nat) : Stable (OfI G h ob rb w k) := fun S S' W W' h f =>
  ⟨f.heap' h.mine h.blk, f.not (lt_of_heap h.blk) h.mine, f.heap' h.miner h.res, f.not (lt_of_heap h.res) h.miner, Old.stable _ _ _ _ _ _ h.old f⟩
theorem info_row : (Try.prog.info? 99).map (·.size) = some 64 := by kernel_rfl
def noXp (_c : Code) (_k : Nat) (_S : Nat → Prop) (_W : World) : Prop := False
theorem noXp_stable (c : Code) (k : Nat) : Stable (noXp c k) := fun _ _ _ _ h _ => h
set_option maxHeartbeats 2000000 in
set_option maxRecDepth 100000 in
theorem pof_any (G h : Nat) (w : World) (hG : goodB G = true) (hh : h < 2 ^ 64) : Calls Try.prog 57 #[.int .i64 G, .int .u64 h] w fun e w' => e = .returned (.agg (rowA G h G)) ∧ Below w.heap.size w w' := by
  refine (callsIn_wide (n := 0)).1 ?_
  refine callsIn_of_wp_marks Try.func57 rfl trivial ?_
  simp only [Try.ntmps57, List.size_toArray, List.length_cons, List.length_nil, Nat.reduceAdd, Nat.reduceSub, Array.replicate_succ, Array.replicate_zero, List.push_toArray, List.append_toArray, List.nil_append, List.cons_append]
  gi_wp2_with (first | (gi_at_call 81; refine (callsIn_wide.2 (pall_any _ _ _)).mono ?_; rintro e w' ⟨rfl, rfl⟩))
  change Code.wpIn _ _ _ _ _ _ ((((w.alloc (.cells (rowA G h 0) 99)).alloc (.cells (rowA G h 0) 99)).alloc (.cells #[.int .i64 G] 3)).alloc (.cells #[.int .u64 h] 29))
  obtain ⟨W0, hW0⟩ : ∃ W0, W0 = ((((w.alloc (.cells (rowA G h 0) 99)).alloc (.cells (rowA G h 0) 99)).alloc (.cells #[.int .i64 G] 3)).alloc (.cells #[.int .u64 h] 29)) := ⟨_, rfl⟩
  have hz : W0.heap.size = w.heap.size + 4 := by rw [hW0]; simp
  have hb0 : Below w.heap.size w W0 := by rw [hW0]; exact ((((Below.refl _ _).alloc (Nat.le_refl _) _).alloc (by simp) _).alloc (by simp; omega) _).alloc (by simp; omega) _
  have b0 : W0.heap[w.heap.size]? = some (.cells (rowA G h 0) 99 (0, 0)) := by
    rw [hW0]
    exact (Below.heap_alloc _ _ _ (by simp <;> omega)).trans ((Below.heap_alloc _ _ _ (by simp <;> omega)).trans ((Below.heap_alloc _ _ _ (by simp <;> omega)).trans (World.alloc_heap_new _ _)))
  have b1 : W0.heap[w.heap.size + 1]? = some (.cells (rowA G h 0) 99 (0, 0)) := by
    rw [hW0]
    refine (Below.heap_alloc _ _ _ (by simp <;> omega)).trans ((Below.heap_alloc _ _ _ (by simp <;> omega)).trans ?_)
    have := World.alloc_heap_new (w.alloc (.cells (rowA G h 0) 99)) (.cells (rowA G h 0) 99)
    rwa [World.size_alloc] at this
  have c1 : W0.cell? ⟨w.heap.size + 1 + 1, 0, none⟩ = some (.int .i64 G) := by
    rw [hW0]
    refine keep_alloc _ _ _ _ (blk_cell (t := 3) (fz := (0, 0)) (cs := #[.int .i64 G]) ?_ rfl)
    have := World.alloc_heap_new ((w.alloc (.cells (rowA G h 0) 99)).alloc (.cells (rowA G h 0) 99)) (.cells #[.int .i64 G] 3)
    rwa [World.size_alloc, World.size_alloc] at this
  have c2 : W0.cell? ⟨w.heap.size + 1 + 1 + 1, 0, none⟩ = some (.int .u64 h) := by
    rw [hW0]
    refine blk_cell (t := 29) (fz := (0, 0)) (cs := #[.int .u64 h]) ?_ rfl
    have := World.alloc_heap_new (((w.alloc (.cells (rowA G h 0) 99)).alloc (.cells (rowA G h 0) 99)).alloc (.cells #[.int .i64 G] 3)) (.cells #[.int .u64 h] 29)
    rwa [World.size_alloc, World.size_alloc, World.size_alloc] at this
  rw [← hW0]
  clear hW0
  have hlen := pairsB_length G h
  have hle := good_le hG
  have b0'h := Lib.hid b0
  have b1'h := Lib.hid b1
  have c1'h := Lib.hid c1
  have c2'h := Lib.hid c2
  have hb0'h := Lib.hid hb0
  clear b0 b1 c1 c2 hb0
  refine' wpIn_range rfl (fun h => by cases h) rfl trivial enters_all (all_it G h _ hG hh W0 c1'h.out c2'h.out) (by intro b hb; exact hb.elim) (fun _ => rfl)
    (by rintro b (rfl | rfl) <;> exact ⟨by omega, fun h => h⟩)
    (OfI G h (w.heap.size + 1) w.heap.size w) noXp (OfI.stable _ _ _ _ _) noXp_stable
    ⟨b1'h.out, fun h => h, b0'h.out, fun h => h, ⟨hb0'h.out, Nat.le_refl _, fun b hb h => h⟩⟩
    (AxOf _ (OfI G h (w.heap.size + 1) w.heap.size w)) (AxOf.stable (OfI.stable _ _ _ _ _)) ?assign ?body ?done (fun _ _ _ _ _ _ _ _ _ h _ => h.elim)
  case assign =>
    intro l k S W hk hl hr hSb hI
    rw [pairsB_at hk]
    clear hr
    gi_wp2
    exact ⟨⟨rfl, hI⟩, Kept.refl _ _⟩
  case body =>
    rintro l k S a W r hk hl hlr hr hSb ⟨rfl, hI⟩
    have hk64 : k < 64 := by omega
    have hki : (k : Int) < 64 := by omega
    have d1 : W.cell? ⟨w.heap.size + 1, k, none⟩ = some (.int .i64 (if k < k then (prB G h k : Int) else 0)) := blk_cell hI.blk (rowA_at hk64)
    have f1 : W.frozen? ⟨w.heap.size + 1, k, none⟩ = false := blk_free k hI.blk
    have hs := blk_set (i := k) (.int .i64 (prB G h k)) hI.blk
    rw [rowA_set hk64] at hs
    have ho := fun b (hb : b ≠ w.heap.size + 1) => Below.heap_setCell W ⟨w.heap.size + 1, k, none⟩ (.int .i64 (prB G h k)) b hb
    have hK : Kept (fun b => (b = w.heap.size + 1 + 1 ∨ b = w.heap.size + 1 + 1 + 1) ∨ S b) W (W.setCell ⟨w.heap.size + 1, k, none⟩ (.int .i64 (prB G h k))) :=
      Kept.setCell _ _ _ _ (fun hh => by
        rcases hh with (hh | hh) | hh
        · have e : w.heap.size + 1 = w.heap.size + 1 + 1 := hh
          omega
        · have e : w.heap.size + 1 = w.heap.size + 1 + 1 + 1 := hh
          omega
        · exact hI.mine hh)
    have hres := (ho w.heap.size (by omega)).trans hI.res
    have hold := hI.old.set (p := ⟨w.heap.size + 1, k, none⟩) (by show w.heap.size ≤ w.heap.size + 1; omega) (.int .i64 (prB G h k))
    have hm := hI.mine
    have hm' := hI.miner
    clear hlr hr ho
    have hs'h := Lib.hid hs
    have hK'h := Lib.hid hK
    have hres'h := Lib.hid hres
    have hold'h := Lib.hid hold
    have hI'h := Lib.hid hI
    clear hs hK hres hold hI
    gi_wp2
    exact ⟨hK'h.out, hs'h.out, hm, hres'h.out, hm', hold'h.out⟩
  case done =>
    rintro D S W hD hSD hr hI hK
    rw [hlen] at hI
    have hblk := hI.blk
    have hres := hI.res
    clear hr
    have hI'h := Lib.hid hI
    have hK'h := Lib.hid hK
    clear hI hK
    gi_wp2_with (first | (refine wpListIn_load_row rfl 99 (.tmp 5) rfl (w.heap.size + 1) rfl 99 (rowA G h G) (0, 0) _ hblk Try.underlying99 rfl (by rw [rowA_size]; exact info_row) ?_) | (refine wpListIn_store_row rfl 99 (.tmp 4) (.tmp 16) rfl w.heap.size (rowA G h G) rfl rfl 99 (rowA G h 0) hres (by rw [rowA_size]; exact info_row) (by rw [rowA_size, rowA_size]) (rowA_one _ _ _) ?_))
    have hT := setRow_heap W w.heap.size (rowA G h 0) (rowA G h G) _ _ hres
    have hD2 : (W.setRow w.heap.size (rowA G h G)).heap[D]? = some (.deferred (some [])) := (setRow_other _ _ _ _ (by omega)).trans hK'h.out
    have hT2 : ((W.setRow w.heap.size (rowA G h G)).putObj D (.deferred none)).heap[w.heap.size]? = some (.cells (rowA G h G) 99 (0, 0)) := (World.putObj_heap_other (by omega)).trans hT
    exact post_mark (.inl rfl) hD2 (results_cell_row rfl _ _ w.heap.size 99 (rowA G h G) (0, 0) _ rfl hT2 Try.underlying99 rfl (by rw [rowA_size]; exact info_row)) ⟨rfl, below_putObj (below_setRow' hI'h.out.old.below (Nat.le_refl _) _) (by omega) _⟩
end Go.Proofs.Ytoklgjlmjkhmbaa

/-
  Package probe: what it exports, each function by its contract.
-/
set_option linter.unusedSimpArgs false
set_option linter.unusedVariables false
namespace Go.Proofs.Ytoklgjlmjkhmbaa
open Go.RowKit

/-! ### slices.Clone at []int -/
theorem info_cloneI : (Try.prog.info? 3).map (fun i => (i.zero, i.size, i.bytes)) = some (some (.int .i64 0), 1, 8) := by kernel_rfl
theorem cloneI_nil (w : World) : Calls Try.prog 58 #[.slice none 0 0] w fun e w' => e = .returned (.slice none 0 0) ∧ w' = w := by
  have hnil := Lib.run_eql_slice_nil (P := Try.prog)
  go_enter Try.func58, Try.ntmps58
  go_wp2
  go_ret
  exact ⟨rfl, rfl⟩
theorem cloneI_some (ad : Addr) (n cap : Nat) (vs : List Value) (w : World) (hn : n ≤ 4096) (hone : ∀ v ∈ vs, v.oneCell' = true) (h : Sl w (some ad) n vs) :
    Calls Try.prog 58 #[.slice (some ad) n cap] w fun e w' => ∃ sp' cap', e = .returned (.slice sp' n cap') ∧ Below w.heap.size w w' ∧ w'.ownsRow w.heap.size 3 1 (.slice sp' n cap') n vs := by
  have hnil := Lib.run_eql_slice_nil (P := Try.prog)
  obtain ⟨i0, hi, hz0, hz1, hz2⟩ := info_parts info_cloneI
  have hown0 : (w.alloc (.cells #[] 3)).ownsRow w.heap.size 3 1 (.slice (some ⟨w.heap.size, 0, none⟩) 0 0) 0 [] :=
    ⟨rfl, .inr ⟨w.heap.size, 0, #[], rfl, Nat.le_refl _, World.alloc_heap_new _ _, Nat.le_refl _, Nat.zero_le _, rfl, rfl⟩⟩
  have hl := h.1
  have hcs : ∀ j u, vs[j]? = some u → (w.alloc (.cells #[] 3)).cell? (ad.add j) = some u := by
    intro j u hu
    have hj : j < vs.length := (List.getElem?_eq_some_iff.1 hu).1
    obtain ⟨b, off, he, hc⟩ := h.some' (by omega)
    cases he
    have hadd : (⟨b, off, none⟩ : Addr).add j = ⟨b, off + j, none⟩ := by unfold Addr.add; split <;> simp_all
    rw [hadd]
    exact keep_alloc _ _ _ _ (hc j u hu)
  have hcs'h := Lib.hid hcs
  have hl'h := Lib.hid hl
  have hone'h := Lib.hid hone
  clear hcs hl hone
  clear h
  go_enter Try.func58, Try.ntmps58
  go_wp2_with (at_builtin; refine wpList_append_own _ rfl (.tmp 5) (.tmp 6) 64 rfl w.heap.size 3 i0 (.int .i64 0) 1 8 Try.underlying64 hi hz0 hz1 hz2 rfl (by decide) _ 0 [] rfl hown0 ad n cap vs rfl (by rw [← hl'h.out]; omega) hcs'h.out hone'h.out (by unfold maxLen; omega) (by omega) (by simp) ?_; intro v' w1 hown' hgrow hwh)
  rw [Nat.zero_add, List.nil_append] at hown'
  obtain ⟨sp', cap', rfl⟩ := row_slice' hown'
  have hown''h := Lib.hid hown'
  have hwh'h := Lib.hid hwh
  clear hown' hwh
  go_wp2
  go_ret
  exact ⟨sp', cap', rfl, ((Below.refl _ w).alloc (Nat.le_refl _) _).grown hgrow (by simp) (fun j hj => by cases hj; exact Nat.le_refl _), hown''h.out⟩
theorem cloneI_any (sp : Option Addr) (n cap : Nat) (vs : List Value) (w : World) (hn : n ≤ 4096) (hone : ∀ v ∈ vs, v.oneCell' = true) (hc : sp = none → cap = 0) (h : Sl w sp n vs) :
    Calls Try.prog 58 #[.slice sp n cap] w fun e w' => ∃ sp' cap', e = .returned (.slice sp' n cap') ∧ Below w.heap.size w w' ∧ w'.ownsRow w.heap.size 3 1 (.slice sp' n cap') n vs := by
  cases sp with
  | some ad => exact cloneI_some ad n cap vs w hn hone h
  | none =>
    obtain rfl : cap = 0 := hc rfl
    have h0 : n = 0 := by
      rcases h.2.2 with h0 | ⟨b, off, he, _⟩
      · exact h0
      · cases he
    subst h0
    have hl : vs = [] := List.eq_nil_of_length_eq_zero h.1.symm
    refine (cloneI_nil w).mono ?_
    rintro e w' ⟨rfl, rfl⟩
    exact ⟨none, 0, rfl, Below.refl _ _, by rw [hl]; exact World.ownsRow_nil _ _ _ _⟩

def zN (l : List Nat) : List Value := (l.map Int.ofNat).map (Value.int .i64)
theorem zN_length (l : List Nat) : (zN l).length = l.length := by simp [zN]
theorem row_sl {G h b : Nat} {w : World} {fz : Nat × Nat} {t : TypeId} (hG : goodB G = true) (hb : w.heap[b]? = some (.cells (rowA G h G) t fz)) : Sl w (some ⟨b, 0, none⟩) G (zN (rowB G h)) := by
  have hle := good_le hG
  have h1 := (Sl.of_blk hb (by rw [rowA_size]; decide)).take G (by rw [rowA_size]; exact hle)
  have e : (rowA G h G).toList.take G = zN (rowB G h) := by
    unfold rowA zN rowB
    rw [List.toList_toArray, ← List.map_take, List.take_range, Nat.min_eq_left hle, List.map_map, List.map_map]
    refine List.map_congr_left fun i hi => ?_
    have := List.mem_range.1 hi
    simp [this]
  rwa [e] at h1
theorem slice_row (G b : Nat) (w : World) (h : G ≤ 64) : (Instr.sliceAt 99 (.pointer (some ⟨b, 0, none⟩)) none (some (.int .i64 (G : Int))) none).run Try.prog w = .ok (.slice (some ⟨b, 0, none⟩) G 64) w := by
  have hA : Try.prog.arrayLen 99 = 64 := by kernel_rfl
  have hs : (sizeOf (Try.prog.elem 99)).run Try.prog w = .ok 1 w := by kernel_rfl
  rw [run_sliceAt_array_h w _ _ (by kernel_rfl) .i64 _ (by omega) (by rw [hA]; omega), hs, hA]
  have ha : (⟨b, 0, none⟩ : Addr).add 0 = ⟨b, 0, none⟩ := by unfold Addr.add; split <;> simp_all
  simp [slicedAt, ha]
theorem row_no (g : Int) (h : Nat) (w : World) (hg : goodG g = false) (hb : -9223372036854775808 ≤ g ∧ g ≤ 9223372036854775807) : Calls Try.prog 30 #[.int .i64 g, .int .u64 h] w fun e w' => e = .returned (.tuple #[.slice none 0 0, .int .i64 180]) ∧ w' = w := by
  have C := check_no g w hg hb
  have C'h := Lib.hid C
  have hg'h := Lib.hid hg
  have hb'h := Lib.hid hb
  clear C hg hb
  go_enter Try.func30, Try.ntmps30
  go_wp2_with fail
  refine (C'h.out).mono ?_
  rintro e w' ⟨rfl, rfl⟩
  go_wp2
  go_ret2
  exact ⟨rfl, rfl⟩
theorem row_yes (G h : Nat) (w : World) (hG : goodB G = true) (hh : h < 2 ^ 64) : Calls Try.prog 30 #[.int .i64 G, .int .u64 h] w fun e w' =>
    ∃ sp cap, e = .returned (.tuple #[.slice sp G cap, .int .i64 0]) ∧ Below w.heap.size w w' ∧ w'.ownsRow w.heap.size 3 1 (.slice sp G cap) G (zN (rowB G h)) := by
  have C := check_yes G w hG
  have O := pof_any G h w hG hh
  have h1 := good_le hG
  have h0 := good_pos hG
  have hone := oneCell_ints .i64 ((rowB G h).map Int.ofNat)
  have hrz : zN (rowB G h) = ((rowB G h).map Int.ofNat).map (Value.int .i64) := rfl
  rw [← hrz] at hone
  have hslr := fun w b => slice_row G b w h1
  have hsl := fun w b fz t => row_sl (w := w) (b := b) (fz := fz) (t := t) (h := h) hG
  generalize hra : rowA G h G = ra at *
  have hsz : ra.size = 64 := by rw [← hra]; exact rowA_size _ _ _
  have hra1 : ra.all (·.oneCell') = true := by rw [← hra]; exact rowA_one _ _ _
  generalize zN (rowB G h) = zs at *
  have C'h := Lib.hid C
  have hG'h := Lib.hid hG
  have hh'h := Lib.hid hh
  have O'h := Lib.hid O
  have hone'h := Lib.hid hone
  have hsl'h := Lib.hid hsl
  have hra'h := Lib.hid hra
  have hsz'h := Lib.hid hsz
  have hra1'h := Lib.hid hra1
  clear C hG hh O hone hsl hra hsz hra1
  clear hrz
  go_enter Try.func30, Try.ntmps30
  go_wp2_with fail
  refine (C'h.out).mono ?_
  rintro e w' ⟨rfl, rfl⟩
  go_wp2_with fail
  refine (O'h.out).mono ?_
  rintro e w1 ⟨rfl, hB1⟩
  go_wp2_with (first | (refine wpList_store_row rfl 99 (.tmp 7) (.tmp 15) rfl w1.heap.size ra rfl rfl 99 _ (World.alloc_heap_new _ _) (by rw [hsz'h.out]; exact info_row) (by rw [hsz'h.out]; rfl) hra1'h.out ?_))
  have hblk := setRow_heap _ _ _ ra _ _ (World.alloc_heap_new w1 (.cells (rowA G h 0) 99))
  have hS := hsl'h.out _ _ _ _ hblk
  have hBr : Below w1.heap.size w1 ((w1.alloc (.cells (rowA G h 0) 99)).setRow w1.heap.size ra) := below_setRow' ((Below.refl _ _).alloc (Nat.le_refl _) _) (Nat.le_refl _) _
  change Calls _ _ _ ((w1.alloc (.cells (rowA G h 0) 99)).setRow w1.heap.size ra) _
  obtain ⟨W2, hW2⟩ : ∃ W2, W2 = ((w1.alloc (.cells (rowA G h 0) 99)).setRow w1.heap.size ra) := ⟨_, rfl⟩
  rw [← hW2] at hS hBr ⊢
  clear hW2 hblk
  have hS'h := Lib.hid hS
  have hBr'h := Lib.hid hBr
  have hB1'h := Lib.hid hB1
  clear hS hBr hB1
  refine (cloneI_any _ _ _ zs W2 (by omega) hone'h.out (fun e => by cases e) hS'h.out).mono ?_
  rintro e w3 ⟨sp, cap, rfl, hB3, hrow⟩
  have hBf := below_next hB1'h.out (below_next hBr'h.out hB3)
  have hr := ownsRow_mono hrow (Nat.le_trans hB1'h.out.size hBr'h.out.size)
  clear hB3 hrow
  have hBf'h := Lib.hid hBf
  have hr'h := Lib.hid hr
  clear hBf hr
  go_wp2
  go_ret2
  exact ⟨sp, cap, rfl, hBf'h.out, hr'h.out⟩

/-! ### Where something stands -/
def atB (l : List Bool) (x : Int) : Bool := l.getD x.toNat false
def rowZ (G h : Nat) : List Int := (rowB G h).map Int.ofNat
theorem rowZ_length (G h : Nat) : (rowZ G h).length = G := by unfold rowZ; rw [List.length_map, rowB_length]
theorem nth_rowZ {G h j : Nat} (hj : j < G) : nthZ (rowZ G h) j = (prB G h j : Int) := by
  have h1 : j < (rowZ G h).length := by rw [rowZ_length]; exact hj
  rw [← nthZ_eq h1]; simp [rowZ, rowB]
theorem idx_place {G : Nat} (hG : goodB G = true) (h : Nat) {g : Nat} (hg : g < G) : idxZ (fun x => x == (g : Int)) (rowZ G h) = (placeB G h g : Int) := by
  have hp := placeB_lt hG h hg
  refine idxZ_hit (by rw [rowZ_length]; exact hp) (fun j hj => ?_) ?_
  · rw [nth_rowZ (by omega), beq_eq_false_iff_ne]
    intro e
    have := placeB_pr hG h (show j < G by omega)
    rw [show prB G h j = g by omega] at this
    omega
  · rw [nth_rowZ hp, prB_place hG h hg]; simp
theorem idx_noplace {G : Nat} (hG : goodB G = true) (h : Nat) {g : Int} (hg : ¬ (0 ≤ g ∧ g < G)) : idxZ (fun x => x == g) (rowZ G h) = -1 := by
  refine idxZ_none fun j hj => ?_
  rw [rowZ_length] at hj
  rw [nth_rowZ hj, beq_eq_false_iff_ne]
  have := prB_lt h j (good_pos hG)
  omega
/-- A row's array, in a new block of one's own, and what of it reads as a slice. -/
theorem new_row {G : Nat} (hG : goodB G = true) (h : Nat) (w1 : World) : ∀ W2, W2 = ((w1.alloc (.cells (rowA G h 0) 99)).setRow w1.heap.size (rowA G h G)) →
    W2.heap[w1.heap.size]? = some (.cells (rowA G h G) 99 (0, 0)) ∧ Sl W2 (some ⟨w1.heap.size, 0, none⟩) G ((rowZ G h).map (Value.int .i64)) ∧ Below w1.heap.size w1 W2 := by
  rintro W2 rfl
  have hblk := setRow_heap _ _ _ (rowA G h G) _ _ (World.alloc_heap_new w1 (.cells (rowA G h 0) 99))
  exact ⟨hblk, row_sl hG hblk, below_setRow' ((Below.refl _ _).alloc (Nat.le_refl _) _) (Nat.le_refl _) _⟩
/-! ### First -/
/-- Which one of the row is the first whose flag is true; -1: none. -/
def firstB (G h : Nat) (fl : List Bool) : Int := idxZ (atB fl) (rowZ G h)
theorem firstB_bd {G h : Nat} {fl : List Bool} : -1 ≤ firstB G h fl ∧ firstB G h fl < G := by
  unfold firstB idxZ
  split
  · rename_i hl; rw [rowZ_length] at hl; omega
  · omega
end Go.Proofs.Ytoklgjlmjkhmbaa

/-
  Package probe: First's other ways, At, Far.
-/
set_option linter.unusedSimpArgs false
set_option linter.unusedVariables false
namespace Go.Proofs.Ytoklgjlmjkhmbaa
open Go.RowKit

/-! ### At -/
theorem at_no (g i : Int) (h : Nat) (w : World) (hg : goodG g = false) (hb : -9223372036854775808 ≤ g ∧ g ≤ 9223372036854775807) :
    Calls Try.prog 72 #[.int .i64 g, .int .u64 h, .int .i64 i] w fun e w' => e = .returned (.tuple #[.int .i64 0, .int .i64 180]) ∧ w' = w := by
  have C := fun w => check_no g w hg hb
  have C'h := Lib.hid C
  have hg'h := Lib.hid hg
  have hb'h := Lib.hid hb
  clear C hg hb
  go_enter Try.func72, Try.ntmps72
  go_wp2
  go_step3
  go_wp2_with fail
  refine (C'h.out _).mono ?_
  rintro e w' ⟨rfl, rfl⟩
  go_wp2
  rw [Exit.noGoto_ret]
  go_ret2
  exact ⟨rfl, rfl⟩
theorem at_out (G h : Nat) (i : Int) (w : World) (hG : goodB G = true) (hi : ¬ (0 ≤ i ∧ i < G)) :
    Calls Try.prog 72 #[.int .i64 G, .int .u64 h, .int .i64 i] w fun e w' => e = .returned (.tuple #[.int .i64 0, .int .i64 2]) ∧ w' = w := by
  have C := fun w => check_yes G w hG
  by_cases g1 : i < 0
  · have d1 : decide (i < 0) = true := by rw [decide_eq_true_eq]; exact g1
    have C'h := Lib.hid C
    have hG'h := Lib.hid hG
    have hi'h := Lib.hid hi
    clear C hG hi
    go_enter Try.func72, Try.ntmps72
    go_wp2
    go_step3
    go_wp2_with fail
    refine (C'h.out _).mono ?_
    rintro e w' ⟨rfl, rfl⟩
    go_wp2
    rw [Exit.noGoto_ret]
    go_ret2
    exact ⟨rfl, rfl⟩
  · have d1 : decide (i < 0) = false := by rw [decide_eq_false_iff_not]; exact g1
    have d2 : decide ((G : Int) ≤ i) = true := by rw [decide_eq_true_eq]; omega
    have C'h := Lib.hid C
    have hG'h := Lib.hid hG
    have hi'h := Lib.hid hi
    clear C hG hi
    go_enter Try.func72, Try.ntmps72
    go_wp2
    go_step3
    go_wp2_with fail
    refine (C'h.out _).mono ?_
    rintro e w' ⟨rfl, rfl⟩
    go_wp2
    rw [Exit.noGoto_ret]
    go_ret2
    exact ⟨rfl, rfl⟩
def gK (G h k : Nat) : Nat := h % G + k * (k + 1) / 2
theorem gK_next (G h k : Nat) : gK G h (k + 1) = gK G h k + (k + 1) := by unfold gK; rw [tri_next]; omega
theorem gK_end (G h i : Nat) : gK G h i % G = prB G h i := by unfold gK prB; rw [Nat.mod_add_mod]
theorem gK_zero (G h : Nat) : gK G h 0 = prB G h 0 := by rw [prB_zero]; unfold gK; simp
theorem gK_le {G h k : Nat} (hG : 0 < G) (hG1 : G ≤ 64) (hk : k ≤ 64) : gK G h k ≤ 4160 := by
  have h1 : h % G < G := Nat.mod_lt _ hG
  have h2 : k * (k + 1) ≤ 64 * 65 := Nat.mul_le_mul hk (by omega)
  unfold gK; omega
def turnsLeft (i : Nat) (a : Act) : Nat := match a.tmps.getD 9 undef with | .int _ k => i - k.toNat | _ => 0
set_option maxHeartbeats 1000000 in
theorem at_yes (G h i : Nat) (w : World) (hG : goodB G = true) (hh : h < 2 ^ 64) (hi : i < G) :
    Calls Try.prog 72 #[.int .i64 G, .int .u64 h, .int .i64 i] w fun e w' => e = .returned (.tuple #[.int .i64 (prB G h i), .int .i64 0]) ∧ w' = w := by
  have C := fun w => check_yes G w hG
  have F := fun w => pfirst_any G h w hG hh
  rw [← gK_zero] at F
  have h0 := good_pos hG
  have h1 := good_le hG
  have d1 : decide ((i : Int) < 0) = false := by rw [decide_eq_false_iff_not]; omega
  have d2 : decide ((G : Int) ≤ (i : Int)) = false := by rw [decide_eq_false_iff_not]; omega
  have hle := fun k (hk : k ≤ 64) => gK_le (h := h) h0 h1 hk
  have hm := mask_i64 (gK G h i) hG (by have := hle i (by omega); omega)
  rw [gK_end] at hm
  have hnx := fun k => gK_next G h k
  generalize prB G h i = r at *
  have C'h := Lib.hid C
  have F'h := Lib.hid F
  have hG'h := Lib.hid hG
  have hh'h := Lib.hid hh
  have hle'h := Lib.hid hle
  have hm'h := Lib.hid hm
  have hnx'h := Lib.hid hnx
  clear C F hG hh hle hm hnx
  go_enter Try.func72, Try.ntmps72
  go_wp2
  refine wp_scope_jumps 0 (fun a' w' => w' = w ∧ ∃ (k : Nat) (u25 u26 u27 u28 u29 u30 u31 u32 u33 u34 u35 u36 : Value), a' = { tmps := #[.int .i64 G, .int .u64 h, .int .i64 i, undef, undef, undef, .int .i64 0, .int .i64 0, .int .i64 (gK G h k), .int .i64 k, .bool false, .int .i64 G, .int .i64 0, .bool false, .bool false, .int .i64 i, .bool false, .bool false, .int .i64 i, .int .i64 G, .bool false, .bool false, .int .i64 G, .int .u64 h, .int .i64 (gK G h 0), u25, u26, u27, u28, u29, u30, u31, u32, u33, u34, u35, u36], defers := [] } ∧ 1 ≤ k ∧ k ≤ i) (fun a' _ => turnsLeft i a') rfl ?_ ?_
  · have hb := hnx'h.out 0
    have hl := hle'h.out 0 (by omega)
    by_cases hi0 : i = 0
    · subst hi0
      have hm := hm'h.out
      have hb'h := Lib.hid hb
      clear hb
      go_wp2_with fail
      refine (C'h.out _).mono ?_
      rintro e w' ⟨rfl, rfl⟩
      go_wp2_with fail
      refine (F'h.out _).mono ?_
      rintro e w' ⟨rfl, rfl⟩
      go_wp2
      go_step3
      go_wp2
      simp only [Exit.jump]
      go_ret2
      exact ⟨rfl, rfl⟩
    · have d3 : decide ((0 : Int) < (i : Int)) = true := by rw [decide_eq_true_eq]; omega
      have d4 : (0 : Int) < (i : Int) := by omega
      have hb'h := Lib.hid hb
      clear hb
      go_wp2_with fail
      refine (C'h.out _).mono ?_
      rintro e w' ⟨rfl, rfl⟩
      go_wp2_with fail
      refine (F'h.out _).mono ?_
      rintro e w' ⟨rfl, rfl⟩
      go_wp2
      go_step3
      go_wp2
      go_step3
      have hb1 : (gK G h 0 : Int) + 1 = (gK G h 1 : Int) := by have := hb'h.out; rw [Nat.zero_add] at this; omega
      exact ⟨rfl, rfl, 1, _, _, _, _, _, _, _, _, _, _, _, _, by rw [← hb1]; rfl, by decide, by omega⟩
  · rintro a' w' ⟨rfl, k, u25, u26, u27, u28, u29, u30, u31, u32, u33, u34, u35, u36, rfl, hk1, hki⟩
    have hb := hnx'h.out k
    have hl := hle'h.out k (by omega)
    have hl2 := hle'h.out (k + 1)
    by_cases hk : k = i
    · subst hk
      have hm := hm'h.out
      clear hb hl2
      go_wp2
      simp only [Exit.jump]
      go_ret2
      exact ⟨rfl, rfl⟩
    · have d3 : decide ((k : Int) < (i : Int)) = true := by rw [decide_eq_true_eq]; omega
      have d4 : (k : Int) < (i : Int) := by omega
      have hb1 : (gK G h k : Int) + ((k : Int) + 1) = (gK G h (k + 1) : Int) := by omega
      clear hb hl2
      have hb1'h := Lib.hid hb1
      clear hb1
      go_wp2
      go_step3
      refine ⟨rfl, ⟨rfl, k + 1, _, _, _, _, _, _, _, _, _, _, _, _, by rw [← hb1'h.out]; rfl, by omega, by omega⟩, ?_⟩
      simp [turnsLeft]
      omega

/-! ### Far -/
/-- Sums over hashes, of the first j hashes, and of the first k of the next one's row. -/
def farK (G : Nat) (hs : List Nat) (g : Nat) : Nat := (hs.map fun h => placeB G h g).sum
def farL (G : Nat) (hs : List Nat) : List Nat := (List.range G).map (farK G hs)
def farP (G : Nat) (hs : List Nat) (h k : Nat) : List Nat := (List.range G).map fun g => farK G hs g + if placeB G h g < k then placeB G h g else 0
theorem farK_snoc (G : Nat) (hs : List Nat) (h g : Nat) : farK G (hs ++ [h]) g = farK G hs g + placeB G h g := by unfold farK; simp
theorem farP_zero (G : Nat) (hs : List Nat) (h : Nat) : farP G hs h 0 = farL G hs := by unfold farP farL; simp
theorem farP_full {G : Nat} (hG : goodB G = true) (hs : List Nat) (h : Nat) : farP G hs h G = farL G (hs ++ [h]) := by
  unfold farP farL
  refine List.map_congr_left fun g hg => ?_
  rw [farK_snoc, if_pos (placeB_lt hG h (List.mem_range.1 hg))]
theorem farP_length (G : Nat) (hs : List Nat) (h k : Nat) : (farP G hs h k).length = G := by unfold farP; simp
theorem farL_length (G : Nat) (hs : List Nat) : (farL G hs).length = G := by unfold farL; simp
theorem farK_le {G : Nat} (hG : goodB G = true) (hs : List Nat) {g : Nat} (hg : g < G) : farK G hs g ≤ hs.length * 64 := by
  have hle := good_le hG
  unfold farK
  induction hs with
  | nil => simp
  | cons h r ih => have := placeB_lt hG h hg; simp only [List.map_cons, List.sum_cons, List.length_cons]; omega
theorem farP_at {G : Nat} {hs : List Nat} {h k : Nat} (hG : goodB G = true) (hk : k < G) : nthN (farP G hs h k) (prB G h k) = farK G hs (prB G h k) := by
  have hp := prB_lt h k (good_pos hG)
  have h1 : prB G h k < (farP G hs h k).length := by rw [farP_length]; exact hp
  rw [← nthN_eq h1]
  simp only [farP, List.getElem_map, List.getElem_range]
  rw [placeB_pr hG h hk, if_neg (by omega), Nat.add_zero]
theorem farP_next {G : Nat} {hs : List Nat} {h k : Nat} (hG : goodB G = true) (hk : k < G) : (farP G hs h k).set (prB G h k) (farK G hs (prB G h k) + k) = farP G hs h (k + 1) := by
  unfold farP
  apply List.ext_getElem (by simp)
  intro i h1 h2
  have hi : i < G := by simpa using h2
  simp only [List.getElem_map, List.getElem_range, List.getElem_set]
  by_cases e : prB G h k = i
  · subst e
    rw [if_pos rfl, placeB_pr hG h hk, if_pos (by omega)]
  · rw [if_neg e]
    have hne : placeB G h i ≠ k := fun e' => e (by rw [← e', prB_place hG h hi])
    by_cases h3 : placeB G h i < k
    · rw [if_pos h3, if_pos (by omega)]
    · rw [if_neg h3, if_neg (by omega)]
end Go.Proofs.Ytoklgjlmjkhmbaa

/-
  Who looks for a key, in plain Lean.
-/
set_option linter.unusedSimpArgs false
set_option linter.unusedVariables false
namespace Go.Proofs.Ytoklgjlmjkhmbaa
open Go.RowKit

theorem equalM_lt8 (w b : Nat) : equalM w b < 256 := maskOf_lt _ (by simp)
structure Sg where
  phase : Int
  slab : Int
  key : Nat
  hash : Nat
  began : Nat
  grp : Int
  ctrl : Nat
  left : Nat
  value : Nat
  found : Bool
deriving DecidableEq
def sgA (s : Sg) : Array Value := #[.int .i64 s.phase, .int .i64 s.slab, .int .u64 s.key, .int .u64 s.hash, .int .u64 s.began, .int .i64 s.grp, .int .u64 s.ctrl, .int .u8 s.left, .int .u64 s.value, .bool s.found]
/-- As the types have it. -/
structure SgOk (s : Sg) : Prop where
  phase : -9223372036854775808 ≤ s.phase ∧ s.phase ≤ 9223372036854775807
  slab : -9223372036854775808 ≤ s.slab ∧ s.slab ≤ 9223372036854775807
  key : s.key < 2 ^ 64
  hash : s.hash < 2 ^ 64
  began : s.began < 2 ^ 64
  grp : -9223372036854775808 ≤ s.grp ∧ s.grp ≤ 9223372036854775807
  ctrl : s.ctrl < 2 ^ 64
  left : s.left < 256
  value : s.value < 2 ^ 64
/-- As the chapter has it. -/
structure SgRight (s : Sg) : Prop where
  phase : 0 ≤ s.phase ∧ s.phase ≤ 6
  slab : 0 ≤ s.slab ∧ s.slab < 128
  even : s.began % 2 = 0
  grp : 0 ≤ s.grp ∧ s.grp ≤ 1
  left : s.left ≠ 0 ∨ (s.phase ≠ 2 ∧ s.phase ≠ 3)
def rightS (s : Sg) : Bool := decide (0 ≤ s.phase ∧ s.phase ≤ 6) && decide (0 ≤ s.slab ∧ s.slab < 128) && decide (s.began % 2 = 0) && decide (0 ≤ s.grp ∧ s.grp ≤ 1) && decide (s.left ≠ 0 ∨ (s.phase ≠ 2 ∧ s.phase ≠ 3))
theorem rightS_iff (s : Sg) : rightS s = true ↔ SgRight s := by
  unfold rightS
  simp only [Bool.and_eq_true, decide_eq_true_eq]
  constructor
  · rintro ⟨⟨⟨⟨h1, h2⟩, h3⟩, h4⟩, h5⟩; exact ⟨h1, h2, h3, h4, h5⟩
  · rintro ⟨h1, h2, h3, h4, h5⟩; exact ⟨⟨⟨⟨h1, h2⟩, h3⟩, h4⟩, h5⟩
/-- Has it a load? (of one that may be) -/
def hasS (s : Sg) : Bool := decide (s.phase ≤ 4)
def grpS (s : Sg) : Nat := prB 2 (s.hash / 128) s.grp.toNat
def wordS (s : Sg) : Nat := if s.phase = 1 then 4 + grpS s else if s.phase = 2 then 6 + (8 * grpS s + firstLane s.left) else if s.phase = 3 then 22 + (8 * grpS s + firstLane s.left) else 0
def cellS (s : Sg) : Nat := 16 + 40 * s.slab.toNat + wordS s
def onS (s : Sg) : Sg := if s.left ≠ 0 then { s with phase := 2 } else if equalM s.ctrl 128 ≠ 0 ∨ s.grp = 1 then { s with phase := 4 } else { s with phase := 1, grp := s.grp + 1 }
def dropM (m : Nat) : Nat := m &&& (m - 1)
def takeS (s : Sg) (w : Nat) : Sg :=
  if s.phase = 0 then (if w % 2 = 1 then { s with phase := 6 } else { s with phase := 1, began := w, grp := 0 })
  else if s.phase = 1 then onS { s with ctrl := w, left := equalM w (s.hash % 128) }
  else if s.phase = 2 then (if w = s.key then { s with phase := 3 } else onS { s with left := dropM s.left })
  else if s.phase = 3 then { s with value := w, found := true, phase := 4 }
  else { s with phase := if w = s.began then 5 else 6 }
theorem grpS_lt (s : Sg) : grpS s < 2 := by unfold grpS prB; exact Nat.mod_lt _ (by decide)
theorem firstLane_lt : ∀ m : Fin 256, firstLane m.val < 8 := by decide +kernel
theorem firstLane_lt' {m : Nat} (h : m < 256) : firstLane m < 8 := firstLane_lt ⟨m, h⟩
theorem wordS_lt {s : Sg} (h : SgOk s) : wordS s < 38 := by
  unfold wordS
  have := grpS_lt s
  have := firstLane_lt' h.left
  split
  · omega
  · split
    · omega
    · split <;> omega
theorem dropM_lt (m : Nat) (h : m < 256) : dropM m < 256 := Nat.lt_of_le_of_lt Nat.and_le_left h
theorem dropM_less : ∀ m : Fin 256, m.val ≠ 0 → dropM m.val < m.val := by decide +kernel
theorem onS_ok {s : Sg} (h : SgOk s) (hg : s.grp ≤ 1) : SgOk (onS s) := by
  unfold onS
  split
  · exact ⟨by simp, h.slab, h.key, h.hash, h.began, h.grp, h.ctrl, h.left, h.value⟩
  · split
    · exact ⟨by simp, h.slab, h.key, h.hash, h.began, h.grp, h.ctrl, h.left, h.value⟩
    · exact ⟨by simp, h.slab, h.key, h.hash, h.began, by have := h.grp; simp; omega, h.ctrl, h.left, h.value⟩
theorem takeS_ok {s : Sg} {w : Nat} (h : SgOk s) (hr : SgRight s) (hw : w < 2 ^ 64) : SgOk (takeS s w) := by
  obtain ⟨h1, h2, h3, h4, h5, h6, h7, h8, h9⟩ := h
  have hg := hr.grp
  unfold takeS
  split
  · split
    · exact ⟨by simp, h2, h3, h4, h5, h6, h7, h8, h9⟩
    · exact ⟨by simp, h2, h3, h4, hw, by simp, h7, h8, h9⟩
  · split
    · exact onS_ok ⟨h1, h2, h3, h4, h5, h6, hw, equalM_lt8 _ _, h9⟩ (by simpa using hg.2)
    · split
      · split
        · exact ⟨by simp, h2, h3, h4, h5, h6, h7, h8, h9⟩
        · exact onS_ok ⟨h1, h2, h3, h4, h5, h6, h7, dropM_lt _ h8, h9⟩ (by simpa using hg.2)
      · split
        · exact ⟨by simp, h2, h3, h4, h5, h6, h7, h8, hw⟩
        · exact ⟨by simp only; split <;> simp, h2, h3, h4, h5, h6, h7, h8, h9⟩
theorem onS_right {s : Sg} (hr : SgRight { s with phase := 1 }) : SgRight (onS s) := by
  obtain ⟨h1, h2, h3, h4, h5⟩ := hr
  simp only at h1 h2 h3 h4
  unfold onS
  by_cases hl : s.left = 0
  · rw [if_neg (by simpa using hl)]
    by_cases he : equalM s.ctrl 128 ≠ 0 ∨ s.grp = 1
    · rw [if_pos he]; exact ⟨by simp, h2, h3, h4, by simp⟩
    · rw [if_neg he]
      have : s.grp ≠ 1 := fun e => he (.inr e)
      exact ⟨by simp, h2, h3, by simp; omega, by simp⟩
  · rw [if_pos hl]; exact ⟨by simp, h2, h3, h4, .inl hl⟩
theorem takeS_right {s : Sg} {w : Nat} (hr : SgRight s) : SgRight (takeS s w) := by
  obtain ⟨h1, h2, h3, h4, h5⟩ := hr
  unfold takeS
  by_cases p0 : s.phase = 0
  · rw [if_pos p0]
    split
    · exact ⟨by simp, h2, h3, h4, by simp⟩
    · exact ⟨by simp, h2, by simp only; omega, by simp, by simp⟩
  · rw [if_neg p0]
    by_cases p1 : s.phase = 1
    · rw [if_pos p1]; exact onS_right ⟨by simp, h2, h3, h4, by simp⟩
    · rw [if_neg p1]
      by_cases p2 : s.phase = 2
      · rw [if_pos p2]
        split
        · refine ⟨by simp, h2, h3, h4, .inl ?_⟩
          rcases h5 with h | h
          · exact h
          · exact absurd p2 h.1
        · exact onS_right ⟨by simp, h2, h3, h4, by simp⟩
      · rw [if_neg p2]
        by_cases p3 : s.phase = 3
        · rw [if_pos p3]; exact ⟨by simp, h2, h3, h4, by simp⟩
        · rw [if_neg p3]
          exact ⟨by simp only; split <;> simp, h2, h3, h4, .inr ⟨by simp only; split <;> decide, by simp only; split <;> decide⟩⟩
/-- How much is left to do. -/
def restS (s : Sg) : Nat := if s.phase = 0 then 1000 else if s.phase = 1 then 900 - 300 * s.grp.toNat else if s.phase = 2 then 600 - 300 * s.grp.toNat + s.left else if s.phase = 3 then 2 else if s.phase = 4 then 1 else 0
theorem restS_on {s : Sg} (hg : 0 ≤ s.grp ∧ s.grp ≤ 1) (hl : s.left < 256) : restS (onS s) < 900 - 300 * s.grp.toNat ∧ (s.left = 0 → restS (onS s) ≤ 600 - 300 * s.grp.toNat) ∧ (s.left ≠ 0 → restS (onS s) = 600 - 300 * s.grp.toNat + s.left) := by
  unfold onS
  by_cases h0 : s.left = 0
  · rw [if_neg (by simpa using h0)]
    by_cases he : equalM s.ctrl 128 ≠ 0 ∨ s.grp = 1
    · rw [if_pos he]
      have e : restS { s with phase := 4 } = 1 := by unfold restS; simp
      rw [e]; refine ⟨by omega, fun _ => by omega, fun h => absurd h0 h⟩
    · rw [if_neg he]
      have hg1 : s.grp ≠ 1 := fun e => he (.inr e)
      have hg0 : s.grp = 0 := by omega
      have e : restS { s with phase := 1, grp := s.grp + 1 } = 600 := by unfold restS; simp [hg0]
      rw [e, hg0]; refine ⟨by decide, fun _ => by decide, fun h => absurd h0 h⟩
  · rw [if_pos h0]
    have e : restS { s with phase := 2 } = 600 - 300 * s.grp.toNat + s.left := by unfold restS; simp
    rw [e]; refine ⟨by omega, fun h => absurd h h0, fun _ => rfl⟩
theorem restS_take {s : Sg} {w : Nat} (h : SgOk s) (hr : SgRight s) (hh : hasS s = true) : restS (takeS s w) < restS s := by
  have hl := h.left
  have hg := hr.grp
  have hp := hr.phase
  have h4 : s.phase ≤ 4 := by simpa [hasS] using hh
  by_cases p0 : s.phase = 0
  · have e : restS s = 1000 := by unfold restS; rw [if_pos p0]
    rw [e]
    unfold takeS
    rw [if_pos p0]
    split
    · unfold restS; simp
    · unfold restS; simp
  · by_cases p1 : s.phase = 1
    · have e : restS s = 900 - 300 * s.grp.toNat := by unfold restS; rw [if_neg p0, if_pos p1]
      rw [e]
      unfold takeS
      rw [if_neg p0, if_pos p1]
      exact (restS_on (s := { s with ctrl := w, left := equalM w (s.hash % 128) }) hg (equalM_lt8 _ _)).1
    · by_cases p2 : s.phase = 2
      · have e : restS s = 600 - 300 * s.grp.toNat + s.left := by unfold restS; rw [if_neg p0, if_neg p1, if_pos p2]
        have h0 : s.left ≠ 0 := by rcases hr.left with h | h
                                   · exact h
                                   · exact absurd p2 h.1
        rw [e]
        unfold takeS
        rw [if_neg p0, if_neg p1, if_pos p2]
        split
        · have e3 : restS { s with phase := 3 } = 2 := by unfold restS; simp
          rw [e3]; omega
        · have hd := dropM_less ⟨s.left, hl⟩ h0
          simp only at hd
          obtain ⟨q1, q2, q3⟩ := restS_on (s := { s with left := dropM s.left }) hg (dropM_lt _ hl)
          simp only at q1 q2 q3
          by_cases hd0 : dropM s.left = 0
          · have := q2 hd0; omega
          · have := q3 hd0; omega
      · by_cases p3 : s.phase = 3
        · have e : restS s = 2 := by unfold restS; rw [if_neg p0, if_neg p1, if_neg p2, if_pos p3]
          rw [e]
          unfold takeS
          rw [if_neg p0, if_neg p1, if_neg p2, if_pos p3]
          unfold restS; simp
        · have p4 : s.phase = 4 := by omega
          have e : restS s = 1 := by unfold restS; rw [if_neg p0, if_neg p1, if_neg p2, if_neg p3, if_pos p4]
          rw [e]
          unfold takeS
          rw [if_neg p0, if_neg p1, if_neg p2, if_neg p3]
          by_cases hw : w = s.began
          · rw [if_pos hw]; unfold restS; simp
          · rw [if_neg hw]; unfold restS; simp
theorem rest_pos {s : Sg} (hr : SgRight s) (hh : hasS s = true) : 0 < restS s := by
  have hp := hr.phase
  have hg := hr.grp
  have h4 : s.phase ≤ 4 := by simpa [hasS] using hh
  unfold restS
  split
  · decide
  · split
    · omega
    · split
      · omega
      · split
        · decide
        · rw [if_pos (by omega)]; decide
/-- All its loads. -/
def runF (ws : List Nat) : Nat → Sg → Nat → Sg × Nat
  | 0, s, n => (s, n)
  | q + 1, s, n => if hasS s = true then runF ws q (takeS s (nthN ws (cellS s))) (n + 1) else (s, n)
def beginS (slab : Int) (key hash : Nat) : Sg := ⟨0, slab, key, hash, 0, 0, 0, 0, 0, false⟩
def runS (ws : List Nat) (slab : Int) (key hash : Nat) : Sg × Nat := runF ws 1000 (beginS slab key hash) 0
theorem runF_stop {ws : List Nat} {q n : Nat} {s : Sg} (h : hasS s = false) : runF ws q s n = (s, n) := by
  cases q with
  | zero => rfl
  | succ q => unfold runF; rw [h]; rfl
theorem runF_step {ws : List Nat} {q n : Nat} {s : Sg} (h : hasS s = true) : runF ws (q + 1) s n = runF ws q (takeS s (nthN ws (cellS s))) (n + 1) := by
  rw [runF, if_pos h]
end Go.Proofs.Ytoklgjlmjkhmbaa

/-
  Package probe: Far.
-/
set_option linter.unusedSimpArgs false
set_option linter.unusedVariables false
namespace Go.Proofs.Ytoklgjlmjkhmbaa
open Go.RowKit

def zA (l : List Nat) : Array Value := (zN l).toArray
theorem zero_row (G : Nat) : madeCells #[Value.int .i64 0] G = zA (farL G []) := by
  unfold madeCells zA zN farL farK
  apply Array.ext (by simp)
  intro i h1 h2
  simp
  rw [Nat.mod_one]; rfl
theorem zN_at' {l : List Nat} {j : Nat} (h : j < l.length) : (zN l)[j]? = some (.int .i64 (nthN l j)) := by
  unfold zN; rw [List.getElem?_map, List.getElem?_map, List.getElem?_eq_getElem h, nthN_eq h]; rfl
/-- Between rounds of Far. -/
structure FarM (G B : Nat) (w : World) (l : List Nat) (bs : List Nat) (W : World) : Prop where
  row : W.heap[B]? = some (.cells (zA l) 3 (0, 0))
  var : W.heap[B + 1]? = some (.cells #[.slice (some ⟨B, 0, none⟩) G G] 64 (0, 0))
  nd : bs.Nodup
  marks : ∀ D ∈ bs, B + 2 ≤ D ∧ W.heap[D]? = some (.deferred (some []))
  size : B + 2 ≤ W.heap.size
  old : Below w.heap.size w W
/-- .. and within one. -/
structure FarR (G B : Nat) (w : World) (hs : List Nat) (h : Nat) (bs : List Nat) (j : Nat) (S : Nat → Prop) (W : World) : Prop where
  row : W.heap[B]? = some (.cells (zA (farP G hs h j)) 3 (0, 0))
  mine : ¬ S B
  var : W.heap[B + 1]? = some (.cells #[.slice (some ⟨B, 0, none⟩) G G] 64 (0, 0))
  mine1 : ¬ S (B + 1)
  nd : bs.Nodup
  marks : ∀ D ∈ bs, B + 2 ≤ D ∧ W.heap[D]? = some (.deferred (some [])) ∧ ¬ S D
  size : B + 2 ≤ W.heap.size
  old : Old w.heap.size w S W
theorem FarR.stable (G B : Nat) (w : World) (hs : List Nat) (h : Nat) (bs : List Nat) (j : Nat) : Stable (FarR G B w hs h bs j) := fun S S' W W' i f =>
  ⟨f.heap' i.mine i.row, f.not (lt_of_heap i.row) i.mine, f.heap' i.mine1 i.var, f.not (lt_of_heap i.var) i.mine1, i.nd,
    fun D hD => ⟨(i.marks D hD).1, f.heap' (i.marks D hD).2.2 (i.marks D hD).2.1, f.not (lt_of_heap (i.marks D hD).2.1) (i.marks D hD).2.2⟩, Nat.le_trans i.size f.size, Old.stable _ _ _ _ _ _ i.old f⟩
def farLe (G : Nat) (hs : List Nat) (m : Nat) : Prop := ∀ g, g < G → farK G hs g ≤ m
theorem zA_at {l : List Nat} {i : Nat} (h : i < l.length) : (zA l)[i]? = some (.int .i64 (nthN l i)) := by
  unfold zA; rw [List.getElem?_toArray]; exact zN_at' h
theorem zA_set {l : List Nat} {i x : Nat} : (zA l).setIfInBounds i (.int .i64 x) = zA (l.set i x) := by
  unfold zA zN; rw [List.setIfInBounds_toArray, List.map_set, List.map_set]; rfl
theorem info_i64' : (Try.prog.info? 3).map (fun i => (i.zero, i.size, i.bytes)) = some (some (.int .i64 0), 1, 8) := by kernel_rfl
end Go.Proofs.Ytoklgjlmjkhmbaa

/-
  The document's answers of layer 8, each by its contract.
-/
set_option linter.unusedSimpArgs false
set_option linter.unusedVariables false
namespace Go.Proofs.Ytoklgjlmjkhmbaa
open Go.RowKit

theorem may_end {g : Int} {k : Nat} (hk : k ≤ 6) (hlo : ∀ j, j < k → ((2 ^ j : Nat) : Int) < g) (hend : ¬ (((2 ^ k : Nat) : Int) < g ∧ k < 6)) : (((2 ^ k : Nat) : Int) == g) = goodG g := by
  have h6 : k = 0 ∨ k = 1 ∨ k = 2 ∨ k = 3 ∨ k = 4 ∨ k = 5 ∨ k = 6 := by omega
  rw [Bool.eq_iff_iff, beq_iff_eq]
  unfold goodG
  rw [Bool.and_eq_true, decide_eq_true_eq]
  constructor
  · rintro rfl
    refine ⟨Int.natCast_nonneg _, ?_⟩
    rw [Int.toNat_natCast]
    rcases h6 with h | h | h | h | h | h | h <;> subst h <;> decide
  · rintro ⟨h0, hg⟩
    have hc := good_cases hg
    have hj := fun j (h : j < k) => hlo j h
    have e : g = (g.toNat : Int) := by omega
    rcases h6 with h | h | h | h | h | h | h <;> subst h <;> simp at hend ⊢
    all_goals
      first
        | omega
        | (have := hj 0 (by omega); simp at this; omega)
        | (have := hj 1 (by omega); simp at this; omega)
        | (have := hj 2 (by omega); simp at this; omega)
        | (have := hj 3 (by omega); simp at this; omega)
        | (have := hj 4 (by omega); simp at this; omega)
        | (have := hj 5 (by omega); simp at this; omega)
def twoP (k : Nat) : Nat := 2 ^ k
theorem twoP_64 {k : Nat} (h : k ≤ 6) : ((twoP k : Int) < 64 ↔ k < 6) ∧ twoP k ≤ 64 := by
  have h6 : k = 0 ∨ k = 1 ∨ k = 2 ∨ k = 3 ∨ k = 4 ∨ k = 5 ∨ k = 6 := by omega
  rcases h6 with h | h | h | h | h | h | h <;> subst h <;> decide
def sumK (G h k : Nat) : Nat := h % G + k * (k - 1) / 2
theorem sumK_next (G h k : Nat) : sumK G h (k + 1) = sumK G h k + k := by
  unfold sumK
  cases k with
  | zero => simp
  | succ k => rw [Nat.add_sub_cancel, Nat.add_sub_cancel, Nat.mul_comm (k + 1 + 1), tri_next, Nat.mul_comm (k + 1)]; omega
theorem sumK_end (G h i : Nat) : sumK G h (i + 1) % G = prB G h i := by
  unfold sumK prB; rw [Nat.add_sub_cancel, Nat.mul_comm (i + 1), Nat.mod_add_mod]
theorem sumK_le {G h k : Nat} (hG : 0 < G) (hG1 : G ≤ 64) (hk : k ≤ 64) : sumK G h k ≤ 4160 := by
  have h1 : h % G < G := Nat.mod_lt _ hG
  have h2 : k * (k - 1) ≤ 64 * 63 := Nat.mul_le_mul hk (by omega)
  unfold sumK; omega
theorem ref_at (G h i : Nat) (w : World) (hG : goodB G = true) (hh : h < 2 ^ 64) (hi : i < G) : Calls Try.prog 68 #[.int .i64 G, .int .u64 h, .int .i64 i] w fun e w' => e = .returned (.int .i64 (prB G h i)) ∧ w' = w := by
  have h0 := good_pos hG
  have h1 := good_le hG
  have hend := sumK_end G h i
  have hs0 : sumK G h 0 = h % G := by unfold sumK; simp
  have hle := fun k (hk : k ≤ 64) => sumK_le (h := h) h0 h1 hk
  have hr : Int.tmod (h : Int) (G : Int) = ((h % G : Nat) : Int) := by rw [Int.tmod_eq_emod_of_nonneg (by omega)]; rfl
  have hml : h % G < 64 := by have := Nat.mod_lt h h0; omega
  have hwG : IntKind.u64.wrap (G : Int) = (G : Int) := by rw [IntKind.wrap_u64]; omega
  have hre : Int.tmod (sumK G h (i + 1) : Int) (G : Int) = (prB G h i : Int) := by rw [Int.tmod_eq_emod_of_nonneg (by omega), ← hend]; rfl
  have hre2 : (sumK G h (i + 1) : Int) % (G : Int) = (prB G h i : Int) := by rw [← hend]; rfl
  rw [← hs0] at hr hml
  have hG'h := Lib.hid hG
  have hh'h := Lib.hid hh
  have hend'h := Lib.hid hend
  have hs0'h := Lib.hid hs0
  have hle'h := Lib.hid hle
  have hre'h := Lib.hid hre
  have hre2'h := Lib.hid hre2
  clear hG hh hend hs0 hle hre hre2
  generalize prB G h i = r at *
  go_enter Try.func68, Try.ntmps68
  go_wp2
  go_loopg [7, 16] (i + 1) (fun q o c wr => ∃ k : Nat, k + q = i + 1 ∧ c = .int .i64 k ∧ o = .int .i64 (sumK G h k) ∧ wr = w)
  case atStart => exact ⟨0, by omega, rfl, rfl, rfl⟩
  case round =>
    obtain ⟨k, hk, rfl, rfl, rfl⟩ := hrel
    have hnx := sumK_next G h k
    have hl := hle'h.out k
    by_cases h8 : k < i + 1
    · have hlk := hl (by omega)
      clear hl
      generalize hy : sumK G h (k + 1) = y at *
      have hk'h := Lib.hid hk
      have hnx'h := Lib.hid hnx
      have hy'h := Lib.hid hy
      clear hk hnx hy
      go_wp2
      go_roundg (gk - 1)
      case measure => have := hk'h.out; omega
      case rel => exact ⟨k + 1, by have := hk'h.out; omega, by go_num, by rw [hy'h.out, hnx'h.out] <;> go_num, rfl⟩
    · obtain rfl : k = i + 1 := by omega
      have hr1 := hre'h.out
      have hr2 := hre2'h.out
      have hk'h := Lib.hid hk
      have hnx'h := Lib.hid hnx
      have hl'h := Lib.hid hl
      clear hk hnx hl
      go_wp2
      go_ret
      exact ⟨ret_i64 (by first | rfl | exact hr1 | exact hr2), rfl⟩
theorem info_i64 : (Try.prog.info? 3).map (fun i => (i.zero, i.size, i.bytes)) = some (some (.int .i64 0), 1, 8) := by kernel_rfl
theorem zN_snoc (l : List Nat) (x : Nat) : zN (l ++ [x]) = zN l ++ [.int .i64 x] := by unfold zN; rw [List.map_append, List.map_append]; rfl
theorem zN_at {l : List Nat} {j : Nat} (h : j < l.length) : (zN l)[j]? = some (.int .i64 (nthN l j)) := by
  unfold zN; rw [List.getElem?_map, List.getElem?_map, List.getElem?_eq_getElem h, nthN_eq h]; rfl
theorem nth_row {G h i : Nat} (hi : i < G) : nthN (rowB G h) i = prB G h i := by
  have h1 : i < (rowB G h).length := by rw [rowB_length]; exact hi
  have := rowB_at (h := h) hi
  rw [List.getElem?_eq_getElem h1, nthN_eq h1] at this
  exact Option.some.inj this
theorem row_take_next {G h k : Nat} (hk : k < G) : (rowB G h).take (k + 1) = (rowB G h).take k ++ [prB G h k] := by
  have h1 : k < (rowB G h).length := by rw [rowB_length]; exact hk
  rw [List.take_succ_eq_append_getElem h1, nthN_eq h1, nth_row hk]
set_option maxHeartbeats 1000000 in
theorem ref_row (G h : Nat) (w : World) (hG : goodB G = true) (hh : h < 2 ^ 64) : Calls Try.prog 41 #[.int .i64 G, .int .u64 h] w fun e w' => ∃ sp cap, e = .returned (.slice sp G cap) ∧ Below w.heap.size w w' ∧ w'.ownsRow w.heap.size 3 1 (.slice sp G cap) G (zN (rowB G h)) := by
  obtain ⟨i0, hi, hz0, hz1, hz2⟩ := info_parts info_i64
  have h0 := good_pos hG
  have h1 := good_le hG
  have hA := fun k w (hk : k < G) => ref_at G h k w hG hh hk
  have hnx := fun k (hk : k < G) => row_take_next (h := h) hk
  have hl := fun k => List.length_take_le k (rowB G h)
  have hfull : (rowB G h).take G = rowB G h := List.take_of_length_le (by rw [rowB_length]; omega)
  have hsn := fun k (hk : k < G) => zN_snoc ((rowB G h).take k) (prB G h k)
  generalize hrb : rowB G h = rb at *
  have hG'h := Lib.hid hG
  have hh'h := Lib.hid hh
  have hA'h := Lib.hid hA
  have hnx'h := Lib.hid hnx
  have hfull'h := Lib.hid hfull
  have hl'h := Lib.hid hl
  have hsn'h := Lib.hid hsn
  have hrb'h := Lib.hid hrb
  clear hG hh hA hnx hfull hl hsn hrb
  go_enter Try.func41, Try.ntmps41
  go_wp2
  go_loopg [5, 8] G (fun q v i wr => ∃ k : Nat, k + q = G ∧ i = .int .i64 k ∧ Below w.heap.size w wr ∧ wr.ownsRow w.heap.size 3 1 v k (zN (rb.take k)))
  case atStart => exact ⟨0, by omega, rfl, Below.refl _ _, World.ownsRow_nil _ _ _ _⟩
  case round =>
    obtain ⟨k, hk, rfl, hB, hrow⟩ := hrel
    have hsz := hB.size
    obtain ⟨sp1, cap1, rfl⟩ := row_slice' hrow
    by_cases hlt : k < G
    · have A := hA'h.out k wr hlt
      have hn := hnx'h.out k hlt
      have hs := hsn'h.out k hlt
      generalize prB G h k = x at *
      have hk'h := Lib.hid hk
      have hB'h := Lib.hid hB
      have hrow'h := Lib.hid hrow
      have A'h := Lib.hid A
      have hn'h := Lib.hid hn
      have hs'h := Lib.hid hs
      clear hk hB hrow A hn hs
      go_wp2_with fail
      refine (A'h.out).mono ?_
      rintro e w' ⟨rfl, rfl⟩
      go_wp2_with (first | (at_builtin; refine wpList_append _ rfl (.tmp 11) (.tmp 16) 64 rfl w.heap.size 3 i0 (.int .i64 0) 1 8 Try.underlying64 hi hz0 hz1 hz2 rfl (by decide) _ k _ rfl (hrow'h.out.alloc _) ⟨_, 0, none⟩ 1 1 [.int .i64 x] rfl rfl (cell_one_new _ _ _) (by simp [Value.oneCell']) (by unfold maxLen; omega) (by omega) (by simp; omega) (by decide) ?_; intro v' w1 hown' hgrow hwh))
      go_roundg (gk - 1)
      case measure => have := hk'h.out; omega
      case rel =>
        refine ⟨k + 1, by have := hk'h.out; omega, by go_num, (hB'h.out.alloc hsz _).grown hgrow (by simp; omega) (fun j hj => (hrow'h.out.lt j hj).1), ?_⟩
        rw [hn'h.out, hs'h.out]
        exact hown'
    · obtain rfl : k = G := by omega
      rw [hfull'h.out] at hrow
      have hk'h := Lib.hid hk
      have hB'h := Lib.hid hB
      have hrow'h := Lib.hid hrow
      clear hk hB hrow
      have hlen : ∃ sp cap, (Value.slice sp1 k cap1) = .slice sp cap cap1 := ⟨_, _, rfl⟩
      clear hlen
      go_wp2
      go_ret
      exact ⟨sp1, cap1, rfl, hB'h.out, hrow'h.out⟩
/-! ### Far -/
def farQ (G : Nat) (hs : List Nat) (h k : Nat) : List Nat := (List.range G).map fun g => farK G hs g + if g < k then placeB G h g else 0
theorem farQ_zero (G : Nat) (hs : List Nat) (h : Nat) : farQ G hs h 0 = farL G hs := by unfold farQ farL; simp
theorem farQ_full (G : Nat) (hs : List Nat) (h : Nat) : farQ G hs h G = farL G (hs ++ [h]) := by
  unfold farQ farL
  refine List.map_congr_left fun g hg => ?_
  rw [farK_snoc, if_pos (List.mem_range.1 hg)]
theorem farQ_length (G : Nat) (hs : List Nat) (h k : Nat) : (farQ G hs h k).length = G := by unfold farQ; simp
theorem farQ_at {G : Nat} {hs : List Nat} {h k : Nat} (hk : k < G) : nthN (farQ G hs h k) k = farK G hs k := by
  have h1 : k < (farQ G hs h k).length := by rw [farQ_length]; exact hk
  rw [← nthN_eq h1]
  simp [farQ]
theorem farQ_next {G : Nat} {hs : List Nat} {h k : Nat} (hk : k < G) : (farQ G hs h k).set k (farK G hs k + placeB G h k) = farQ G hs h (k + 1) := by
  unfold farQ
  apply List.ext_getElem (by simp)
  intro i h1 h2
  simp only [List.getElem_map, List.getElem_range, List.getElem_set]
  by_cases e : k = i
  · subst e
    rw [if_pos rfl, if_pos (by omega)]
  · rw [if_neg e]
    by_cases h3 : i < k
    · rw [if_pos h3, if_pos (by omega)]
    · rw [if_neg h3, if_neg (by omega)]
end Go.Proofs.Ytoklgjlmjkhmbaa

/-
  A region that draws its order, in the body of a range over a function: quiet reads ahead of one tail.
-/
set_option linter.unusedSimpArgs false
set_option linter.unusedVariables false
namespace Go.Proofs.Ytoklgjlmjkhmbaa
open Go.RowKit

def noDefer : Op → Bool
  | .defer _ => false
  | _ => true
theorem opIn_of_op {l n : Nat} {P : Program} {o : Oper} {a : Act} {w : World} {K : Act → World → Prop} {Q : Exit → Act → World → Prop} (hd : noDefer o.op = true) (h : o.wp P a w K Q) :
    o.wpIn (Fence.wide.inRound l) n P a w K Q := by
  refine ⟨fun _ _ => trivial, ?_⟩
  rw [Fence.inRound_round, Oper.semAt_eq _ _ _ (fun c hc => by rw [hc] at hd; cases hd)]
  unfold Oper.wp at h
  generalize (execOp a.eval o).run P w = r at *
  have hdep : (Fence.wide.inRound l).depth.isSome = true → 1 ≤ n := fun hh => by simp [Fence.wide] at hh
  cases r with
  | ok x w' =>
    cases x <;> simp only [Oper.upon, Oper.uponIn] at h ⊢ <;>
      first
        | exact h
        | exact ⟨hdep, CallsIn.inRound l (callsIn_wide.2 h)⟩
        | exact ⟨hdep, fun c cs _ => let ⟨v, w', r, s⟩ := h c cs; ⟨v, w', r, stepsIn_wide.2 s⟩⟩
  | halt x w' => cases x <;> simp only [Oper.upon, Oper.uponIn] at h ⊢ <;> exact h
theorem opsIn_of_ops {l n : Nat} {P : Program} {ops : Array Oper} {Q : Exit → Act → World → Prop} {i : Nat} {K K' : Act → World → Prop} {a : Act} {w : World} (hd : ops.all (fun o => noDefer o.op) = true) (hL : ¬ LetsOut Q)
    (hK : ∀ a w, K a w → K' a w) (h : wpOp P ops Q i K a w) : wpOpIn (Fence.wide.inRound l) n P ops Q i K' a w := by
  unfold wpOp at h
  unfold wpOpIn
  cases ho : ops[i]? with
  | none => simp only [ho] at h ⊢; exact hK _ _ h
  | some o =>
    simp only [ho] at h ⊢
    have hdo : noDefer o.op = true := by
      obtain ⟨hi, e⟩ := Array.getElem?_eq_some_iff.1 ho
      have := Array.all_eq_true.1 hd i hi
      rw [e] at this; exact this
    split
    · rename_i hw
      simp only [hw, if_true] at h
      rcases h with h | h
      · exact opIn_of_op hdo (Oper.wp_mono hK h)
      · exact absurd h.2 hL
    · rename_i hw
      simp only [hw] at h
      exact ⟨fun _ _ => trivial, hK _ _ h⟩
theorem anyIn_of_any {l n : Nat} {P : Program} {md : Region.Mode} {ops : Array Oper} {Q : Exit → Act → World → Prop} (hd : ops.all (fun o => noDefer o.op) = true) (hL : ¬ LetsOut Q) :
    ∀ (fuel : Nat) (listed : Array Bool) (a : Act) (w : World), wpAny P md ops Q fuel listed a w → wpAnyIn (Fence.wide.inRound l) n P md ops Q fuel listed a w
  | 0, _, _, _, h => h
  | fuel + 1, listed, a, w, h => ⟨h.1, fun i hi => opsIn_of_ops hd hL (fun a w => anyIn_of_any hd hL fuel _ a w) (h.2 i hi)⟩

/-- Quiet reads and calls, then one tail. -/
theorem wpIn_round_still_tail {l n : Nat} {P : Program} {id : Nat} {Q : Exit → Act → World → Prop} {a : Act} {w : World} {ol : List Oper} (k : Nat) (hm : P.follows .mixedOrders = true) (hB : Region.lexTailB .any ol.toArray k = true)
    (hd : ol.toArray.all (fun o => noDefer o.op) = true) (hL : ¬ LetsOut Q)
    (h : wpStill P ol.toArray { w with drawn := w.drawn + 1 } (fun a' => wpList P ol.toArray Q (ol.drop k) a' { w with drawn := w.drawn + 1 }) (ol.take k) a) :
    (Code.region id ol.toArray true).wpIn (Fence.wide.inRound l) n P Q a w := by
  simp only [Region.lexTailB, Bool.and_eq_true, decide_eq_true_eq] at hB
  obtain ⟨⟨⟨⟨hsel, hn⟩, hs⟩, hc⟩, hlex⟩ := hB
  have hn' : k < ol.length := by simpa using hn
  have htl : (ol.take k).length = k := by simp; omega
  have hdl : (ol.drop k).length = ol.toArray.size - k := by simp
  have inv0 : HeadInv .any ol.toArray k (Array.replicate ol.toArray.size false) :=
    ⟨by simp, fun j oj _ hl => (by rw [getD_replicate_false] at hl; cases hl), fun t _ ht => getD_in (by simpa using ht) (getD_replicate_false _ _)⟩
  have H := wpAnyL_lex (md := .any) (g := ol.toArray.size - k) hsel hs hc hn (ol.take k) 0 _ a (fun j hj => by
    have hj' : j < k := by rw [htl] at hj; exact hj
    simp [hj']) (by simpa using htl) inv0 (by rw [htl]; exact hlex) h
  refine wpIn_region_any hm (anyIn_of_any hd hL _ _ _ _ ?_)
  have := wpAny_of_head (Q' := Q) (g := ol.toArray.size - k) (fun listed a' hLs => by
    have := wpAny_of_seq (md := .any) (Q' := Q) (ol.drop k) k listed a' { w with drawn := w.drawn + 1 } (fun j => by simp [List.getElem?_drop]) (by rw [hdl]; exact hLs.1) hLs.2
    rwa [hdl] at this) _ _ _ H
  rw [htl, show k + (ol.toArray.size - k) = ol.toArray.size by omega] at this
  exact this
theorem rangePost_noLet {Kp : Nat → Prop} {N : (Nat → Prop) → World → Prop} {Ix : Code → (Nat → Prop) → World → Prop} {S : Nat → Prop} {W : World} : ¬ LetsOut (rangePostX Kp N Ix S W) := by
  rintro ⟨_, _, h⟩; exact h
end Go.Proofs.Ytoklgjlmjkhmbaa

/-
  A region that draws its order and ends by writing a cell that it reads: the condition is held up to its last operation.
-/
set_option linter.unusedSimpArgs false
set_option linter.unusedVariables false
namespace Go.Proofs.Ytoklgjlmjkhmbaa
open Go.RowKit

section
variable {P : Program} {ops : Array Oper} {Q : Exit → Act → World → Prop} {md : Region.Mode} {S : World → Prop} {L : Nat}

/-- Whatever order is picked, S holds behind every operation but number L. -/
def wpAnyF (P : Program) (md : Region.Mode) (ops : Array Oper) (Q : Exit → Act → World → Prop) (S : World → Prop) (L : Nat) : Nat → Array Bool → Act → World → Prop
  | 0, listed, a, w => Region.ready md ops listed = [] ∧ Q .normal a w
  | fuel + 1, listed, a, w =>
    (Region.ready md ops listed = [] → Q .normal a w) ∧
    ∀ i ∈ Region.ready md ops listed, wpOp P ops Q i (fun a' w' => (i ≠ L → S w') ∧ wpAnyF P md ops Q S L fuel (listed.setIfInBounds i true) a' w') a w
theorem wpAny_of_heldF : ∀ (fuel : Nat) (listed : Array Bool) (a : Act) (w : World), wpAnyF P md ops Q S L fuel listed a w → wpAny P md ops Q fuel listed a w
  | 0, _, _, _, h => h
  | fuel + 1, _, _, _, h => ⟨h.1, fun i hi => wpOp_mono (fun a' w' h' => wpAny_of_heldF fuel _ a' w' h'.2) (h.2 i hi)⟩
theorem wpAnyF_first {i : Nat} {oi : Oper} {v : Value} (hi : ops[i]? = some oi) (hsel : ∀ (j : Nat) (o : Oper) cs b, ops[j]? = some o → o.op ≠ .select cs b)
    (hQ : ∀ c a w, Q (.panic c) (a.put oi.dst v) w → Q (.panic c) a w) (hL : ∀ oL, ops[L]? = some oL → ∃ e ∈ oL.after, Region.binds md e = true ∧ e.on = i) :
    ∀ (fuel : Nat) (listed : Array Bool) (a : Act) (w : World),
      (∀ j oj, ops[j]? = some oj → j ≠ i → listed.getD j true = false → (∀ e ∈ oj.after, Region.binds md e = true → e.on ≠ i) → oi.apart ops oj = true) →
      i ∈ Region.ready md ops listed → YieldsIf P ops S oi v a → S w →
      wpAnyF P md ops Q S L fuel (listed.setIfInBounds i true) (a.put oi.dst v) w → wpAnyF P md ops Q S L (fuel + 1) listed a w := by
  intro fuel
  induction fuel with
  | zero =>
    intro listed a w _ hr hy hS H
    refine ⟨fun h => (by rw [h] at hr; cases hr), fun j hj => ?_⟩
    by_cases hji : j = i
    · subst hji; exact hy.wpOp hi hS ⟨fun _ => hS, H⟩
    · have := ready_mono hj hji
      rw [H.1] at this
      cases this
  | succ fuel ih =>
    intro listed a w hfree hr hy hS H
    refine ⟨fun h => (by rw [h] at hr; cases hr), fun j hj => ?_⟩
    by_cases hji : j = i
    · subst hji; exact hy.wpOp hi hS ⟨fun _ => hS, H⟩
    · have h1 := H.2 j (ready_mono hj hji)
      obtain ⟨hjun, oj, hoj, hall⟩ := mem_ready.1 hj
      have hnot : ∀ e ∈ oj.after, Region.binds md e = true → e.on ≠ i := fun e he hb heq => by
        have h1 := hall e he hb
        have h0 := (mem_ready.1 hr).1
        rw [heq] at h1
        rcases Nat.lt_or_ge i listed.size with h' | h'
        · simp [h'] at h0 h1; rw [h0] at h1; cases h1
        · simp [Array.getElem?_eq_none h'] at h1
      have hjL : j ≠ L := fun e => by
        subst e
        obtain ⟨e1, he, hb, hon⟩ := hL oj hoj
        exact hnot e1 he hb hon
      have h2 := wpOp_putIf hoj (hfree j oj hoj hji hjun hnot) (fun cs b => hsel i oi cs b hi) (fun cs b => hsel j oj cs b hoj) hQ hy h1
      have hfree' : ∀ k ok, ops[k]? = some ok → k ≠ i → (listed.setIfInBounds j true).getD k true = false →
          (∀ e ∈ ok.after, Region.binds md e = true → e.on ≠ i) → oi.apart ops ok = true := fun k ok hk hki hun hno => by
        refine hfree k ok hk hki ?_ hno
        by_cases hjk : j = k
        · subst hjk; exact hjun
        · rw [getD_set_ne true hjk] at hun; exact hun
      refine wpOp_mono (fun a' w' h3 => ⟨fun _ => h3.2.1 hjL, ih (listed.setIfInBounds j true) a' w' hfree' (ready_mono hr (Ne.symm hji)) h3.1 (h3.2.1 hjL) ?_⟩) h2
      rw [Array.setIfInBounds_comm _ _ hji]
      exact h3.2.2
/-- Number L waits for number i. -/
def waitsB (md : Region.Mode) (ops : Array Oper) (L i : Nat) : Bool := match ops[L]? with | some o => o.after.any (fun e => Region.binds md e && e.on == i) | none => true
theorem waits_spec {md : Region.Mode} {ops : Array Oper} {L i : Nat} (h : waitsB md ops L i = true) : ∀ oL, ops[L]? = some oL → ∃ e ∈ oL.after, Region.binds md e = true ∧ e.on = i := by
  intro oL ho
  unfold waitsB at h
  rw [ho] at h
  obtain ⟨k, hk, h2⟩ := Array.any_eq_true.1 h
  simp only [Bool.and_eq_true, beq_iff_eq] at h2
  exact ⟨_, Array.getElem_mem hk, h2.1, h2.2⟩
theorem wpAnyF_take {i : Nat} {oi : Oper} {v : Value} {fuel : Nat} {listed : Array Bool} {a : Act} {w : World} (hi : ops[i]? = some oi)
    (hs : Region.noSelect ops = true) (hf : Region.free md ops listed i = true) (hr : (Region.ready md ops listed).contains i = true) (hL : waitsB md ops L i = true)
    (hQ : ∀ c a w, Q (.panic c) (a.put oi.dst v) w → Q (.panic c) a w) (hy : YieldsIf P ops S oi v a) (hS : S w)
    (h : wpAnyF P md ops Q S L fuel (listed.setIfInBounds i true) (a.put oi.dst v) w) : wpAnyF P md ops Q S L (fuel + 1) listed a w :=
  wpAnyF_first hi (Region.noSelect_spec hs) hQ (waits_spec hL) fuel listed a w (Region.free_spec hi hf) (by simpa using hr) hy hS h
theorem wpAnyF_one {i : Nat} {o : Oper} {fuel : Nat} {listed : Array Bool} {a : Act} {w : World} (hr : Region.ready md ops listed = [i]) (ho : ops[i]? = some o)
    (h : ∀ K' : Act → World → Prop, Shut (∀ a w, (i ≠ L → S w) → wpAnyF P md ops Q S L fuel (listed.setIfInBounds i true) a w → K' a w) → if Region.wanted o (yielded ops a.tmps) = true then Oper.wp P o a w K' Q else K' (a.put o.dst undef) w) :
    wpAnyF P md ops Q S L (fuel + 1) listed a w :=
  ⟨fun h0 => absurd (hr ▸ h0) (by simp), fun j hj => by
    rw [hr] at hj
    have : j = i := by simpa using hj
    subst this
    exact wpOp_step ho (fun K' hK => h K' (fun a w hS hW => hK a w ⟨hS, hW⟩))⟩
theorem wpAnyF_done {listed : Array Bool} {a : Act} {w : World} (hr : Region.ready md ops listed = []) (h : Q .normal a w) :
    ∀ fuel, wpAnyF P md ops Q S L fuel listed a w
  | 0 => ⟨hr, h⟩
  | _ + 1 => ⟨fun _ => h, by rw [hr]; simp⟩
end
/-- In the body of a range over a function. -/
theorem wpIn_round_heldF {l n : Nat} {P : Program} {id : Nat} {Q : Exit → Act → World → Prop} {a : Act} {w : World} {ol : List Oper} (S : World → Prop) (L : Nat) (hm : P.follows .mixedOrders = true)
    (hd : ol.toArray.all (fun o => noDefer o.op) = true) (hL : ¬ LetsOut Q)
    (h : wpAnyF P .any ol.toArray Q S L ol.toArray.size (Array.replicate ol.toArray.size false) a w.drew) :
    (Code.region id ol.toArray true).wpIn (Fence.wide.inRound l) n P Q a w :=
  wpIn_region_any hm (anyIn_of_any hd hL _ _ _ _ (wpAny_of_heldF _ _ _ _ h))
theorem inBlock_noLet {id : Nat} {Q : Exit → Act → World → Prop} (h : ¬ LetsOut Q) : ¬ LetsOut (Exit.inBlock id Q) := by
  rintro ⟨a, w, h'⟩; exact h ⟨a, w, h'⟩
end Go.Proofs.Ytoklgjlmjkhmbaa

