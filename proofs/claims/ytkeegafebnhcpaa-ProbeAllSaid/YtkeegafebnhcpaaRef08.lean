/-
  The document's answers of layer 8, each by its contract.
-/
import Derived.Test.YtkeegafebnhcpaaFar
import Derived.Deep.RegionHeld3
set_option linter.unusedSimpArgs false
set_option linter.unusedVariables false
namespace Go.Proofs.Ytkeegafebnhcpaa
open Go.RowKit

theorem may_end {g : Int} {k : Nat} (hk : k ≤ 6) (hlo : ∀ j, j < k → ((2 ^ j : Nat) : Int) < g) (hend : ¬ (((2 ^ k : Nat) : Int) < g ∧ k < 6)) : (((2 ^ k : Nat) : Int) == g) = goodG g := by
  have h6 : k = 0 ∨ k = 1 ∨ k = 2 ∨ k = 3 ∨ k = 4 ∨ k = 5 ∨ k = 6 := by omega
  rw [Bool.eq_iff_iff, beq_iff_eq]
  unfold goodG
  rw [Bool.and_eq_true, decide_eq_true_eq]
  constructor
  · rintro rfl
    refine ⟨Int.natCast_nonneg _, ?_⟩
    rw [Int.toNat_natCast]
    rcases h6 with h | h | h | h | h | h | h <;> subst h <;> decide
  · rintro ⟨h0, hg⟩
    have hc := good_cases hg
    have hj := fun j (h : j < k) => hlo j h
    have e : g = (g.toNat : Int) := by omega
    rcases h6 with h | h | h | h | h | h | h <;> subst h <;> simp at hend ⊢
    all_goals
      first
        | omega
        | (have := hj 0 (by omega); simp at this; omega)
        | (have := hj 1 (by omega); simp at this; omega)
        | (have := hj 2 (by omega); simp at this; omega)
        | (have := hj 3 (by omega); simp at this; omega)
        | (have := hj 4 (by omega); simp at this; omega)
        | (have := hj 5 (by omega); simp at this; omega)
def twoP (k : Nat) : Nat := 2 ^ k
theorem twoP_64 {k : Nat} (h : k ≤ 6) : ((twoP k : Int) < 64 ↔ k < 6) ∧ twoP k ≤ 64 := by
  have h6 : k = 0 ∨ k = 1 ∨ k = 2 ∨ k = 3 ∨ k = 4 ∨ k = 5 ∨ k = 6 := by omega
  rcases h6 with h | h | h | h | h | h | h <;> subst h <;> decide
theorem ref_may (g : Int) (w : World) : Calls Try.prog 11 #[.int .i64 g] w fun e w' => e = .returned (.bool (goodG g)) ∧ w' = w := by
  go_enter Try.func11, Try.ntmps11
  go_wp2
  go_loopg [3] 6 (fun q n wr => ∃ k : Nat, k + q = 6 ∧ n = .int .i64 (twoP k) ∧ (∀ j, j < k → ((2 ^ j : Nat) : Int) < g) ∧ wr = w)
  case atStart => exact ⟨0, rfl, rfl, fun j hj => by omega, rfl⟩
  case round =>
    obtain ⟨k, hk, rfl, hlo, rfl⟩ := hrel
    have h64 := (twoP_64 (show k ≤ 6 by omega))
    have hn : twoP (k + 1) = 2 * twoP k := by unfold twoP; rw [Nat.pow_succ]; omega
    by_cases h1 : (twoP k : Int) < g
    · have d1 : decide ((twoP k : Int) < g) = true := by rw [decide_eq_true_eq]; exact h1
      by_cases h2 : k < 6
      · have d2 : decide ((twoP k : Int) < 64) = true := by rw [decide_eq_true_eq]; exact h64.1.2 h2
        have hl2 : ∀ j, j < k + 1 → ((2 ^ j : Nat) : Int) < g := fun j hj => by
          by_cases e : j = k
          · rw [e]; exact h1
          · exact hlo j (by omega)
        have hle := h64.2
        have hn' : 2 * (twoP k : Int) = (twoP (k + 1) : Int) := by omega
        clear hn
        have hk'h := Lib.hid hk
        have hlo'h := Lib.hid hlo
        have h64'h := Lib.hid h64
        have hl2'h := Lib.hid hl2
        have h1'h := Lib.hid h1
        clear hk hlo h64 hl2 h1
        generalize hz : twoP (k + 1) = z at *
        generalize twoP k = y at *
        have hz'h := Lib.hid hz
        have hn''h := Lib.hid hn'
        clear hz hn'
        go_wp2
        go_roundg (gk - 1)
        case measure => have := hk'h.out; omega
        case rel => exact ⟨k + 1, by have := hk'h.out; omega, by rw [hz'h.out, ← hn''h.out], hl2'h.out, rfl⟩
      · have d2 : decide ((twoP k : Int) < 64) = false := by rw [decide_eq_false_iff_not]; exact fun h => h2 (h64.1.1 h)
        have he := may_end (show k ≤ 6 by omega) hlo (fun h => h2 h.2)
        have he' : ((twoP k : Int) == g) = goodG g := he
        generalize twoP k = y at *
        have hk'h := Lib.hid hk
        have hlo'h := Lib.hid hlo
        have h64'h := Lib.hid h64
        have he'h := Lib.hid he
        have he''h := Lib.hid he'
        clear hk hlo h64 he he'
        go_wp2
        go_ret
        exact ⟨ret_bool he''h.out, rfl⟩
    · have d1 : decide ((twoP k : Int) < g) = false := by rw [decide_eq_false_iff_not]; exact h1
      have he := may_end (show k ≤ 6 by omega) hlo (fun h => h1 h.1)
      have he' : ((twoP k : Int) == g) = goodG g := he
      generalize twoP k = y at *
      have hk'h := Lib.hid hk
      have hlo'h := Lib.hid hlo
      have h64'h := Lib.hid h64
      have he'h := Lib.hid he
      have he''h := Lib.hid he'
      have h1'h := Lib.hid h1
      clear hk hlo h64 he he' h1
      go_wp2
      go_ret
      exact ⟨ret_bool he''h.out, rfl⟩

def sumK (G h k : Nat) : Nat := h % G + k * (k - 1) / 2
theorem sumK_next (G h k : Nat) : sumK G h (k + 1) = sumK G h k + k := by
  unfold sumK
  cases k with
  | zero => simp
  | succ k => rw [Nat.add_sub_cancel, Nat.add_sub_cancel, Nat.mul_comm (k + 1 + 1), tri_next, Nat.mul_comm (k + 1)]; omega
theorem sumK_end (G h i : Nat) : sumK G h (i + 1) % G = prB G h i := by
  unfold sumK prB; rw [Nat.add_sub_cancel, Nat.mul_comm (i + 1), Nat.mod_add_mod]
theorem sumK_le {G h k : Nat} (hG : 0 < G) (hG1 : G ≤ 64) (hk : k ≤ 64) : sumK G h k ≤ 4160 := by
  have h1 : h % G < G := Nat.mod_lt _ hG
  have h2 : k * (k - 1) ≤ 64 * 63 := Nat.mul_le_mul hk (by omega)
  unfold sumK; omega
theorem ref_at (G h i : Nat) (w : World) (hG : goodB G = true) (hh : h < 2 ^ 64) (hi : i < G) : Calls Try.prog 18 #[.int .i64 G, .int .u64 h, .int .i64 i] w fun e w' => e = .returned (.int .i64 (prB G h i)) ∧ w' = w := by
  have h0 := good_pos hG
  have h1 := good_le hG
  have hend := sumK_end G h i
  have hs0 : sumK G h 0 = h % G := by unfold sumK; simp
  have hle := fun k (hk : k ≤ 64) => sumK_le (h := h) h0 h1 hk
  have hr : Int.tmod (h : Int) (G : Int) = ((h % G : Nat) : Int) := by rw [Int.tmod_eq_emod_of_nonneg (by omega)]; rfl
  have hml : h % G < 64 := by have := Nat.mod_lt h h0; omega
  have hwG : IntKind.u64.wrap (G : Int) = (G : Int) := by rw [IntKind.wrap_u64]; omega
  have hre : Int.tmod (sumK G h (i + 1) : Int) (G : Int) = (prB G h i : Int) := by rw [Int.tmod_eq_emod_of_nonneg (by omega), ← hend]; rfl
  have hre2 : (sumK G h (i + 1) : Int) % (G : Int) = (prB G h i : Int) := by rw [← hend]; rfl
  rw [← hs0] at hr hml
  have hG'h := Lib.hid hG
  have hh'h := Lib.hid hh
  have hend'h := Lib.hid hend
  have hs0'h := Lib.hid hs0
  have hle'h := Lib.hid hle
  have hre'h := Lib.hid hre
  have hre2'h := Lib.hid hre2
  clear hG hh hend hs0 hle hre hre2
  generalize prB G h i = r at *
  go_enter Try.func18, Try.ntmps18
  go_wp2
  go_loopg [7, 16] (i + 1) (fun q o c wr => ∃ k : Nat, k + q = i + 1 ∧ c = .int .i64 k ∧ o = .int .i64 (sumK G h k) ∧ wr = w)
  case atStart => exact ⟨0, by omega, rfl, rfl, rfl⟩
  case round =>
    obtain ⟨k, hk, rfl, rfl, rfl⟩ := hrel
    have hnx := sumK_next G h k
    have hl := hle'h.out k
    by_cases h8 : k < i + 1
    · have hlk := hl (by omega)
      clear hl
      generalize hy : sumK G h (k + 1) = y at *
      have hk'h := Lib.hid hk
      have hnx'h := Lib.hid hnx
      have hy'h := Lib.hid hy
      clear hk hnx hy
      go_wp2
      go_roundg (gk - 1)
      case measure => have := hk'h.out; omega
      case rel => exact ⟨k + 1, by have := hk'h.out; omega, by go_num, by rw [hy'h.out, hnx'h.out] <;> go_num, rfl⟩
    · obtain rfl : k = i + 1 := by omega
      have hr1 := hre'h.out
      have hr2 := hre2'h.out
      have hk'h := Lib.hid hk
      have hnx'h := Lib.hid hnx
      have hl'h := Lib.hid hl
      clear hk hnx hl
      go_wp2
      go_ret
      exact ⟨ret_i64 (by first | rfl | exact hr1 | exact hr2), rfl⟩
theorem info_i64 : (Try.prog.info? 3).map (fun i => (i.zero, i.size, i.bytes)) = some (some (.int .i64 0), 1, 8) := by kernel_rfl
theorem zN_snoc (l : List Nat) (x : Nat) : zN (l ++ [x]) = zN l ++ [.int .i64 x] := by unfold zN; rw [List.map_append, List.map_append]; rfl
theorem zN_at {l : List Nat} {j : Nat} (h : j < l.length) : (zN l)[j]? = some (.int .i64 (nthN l j)) := by
  unfold zN; rw [List.getElem?_map, List.getElem?_map, List.getElem?_eq_getElem h, nthN_eq h]; rfl
theorem nth_row {G h i : Nat} (hi : i < G) : nthN (rowB G h) i = prB G h i := by
  have h1 : i < (rowB G h).length := by rw [rowB_length]; exact hi
  have := rowB_at (h := h) hi
  rw [List.getElem?_eq_getElem h1, nthN_eq h1] at this
  exact Option.some.inj this
theorem row_take_next {G h k : Nat} (hk : k < G) : (rowB G h).take (k + 1) = (rowB G h).take k ++ [prB G h k] := by
  have h1 : k < (rowB G h).length := by rw [rowB_length]; exact hk
  rw [List.take_succ_eq_append_getElem h1, nthN_eq h1, nth_row hk]
set_option maxHeartbeats 1000000 in
theorem ref_row (G h : Nat) (w : World) (hG : goodB G = true) (hh : h < 2 ^ 64) : Calls Try.prog 26 #[.int .i64 G, .int .u64 h] w fun e w' => ∃ sp cap, e = .returned (.slice sp G cap) ∧ Below w.heap.size w w' ∧ w'.ownsRow w.heap.size 3 1 (.slice sp G cap) G (zN (rowB G h)) := by
  obtain ⟨i0, hi, hz0, hz1, hz2⟩ := info_parts info_i64
  have h0 := good_pos hG
  have h1 := good_le hG
  have hA := fun k w (hk : k < G) => ref_at G h k w hG hh hk
  have hnx := fun k (hk : k < G) => row_take_next (h := h) hk
  have hl := fun k => List.length_take_le k (rowB G h)
  have hfull : (rowB G h).take G = rowB G h := List.take_of_length_le (by rw [rowB_length]; omega)
  have hsn := fun k (hk : k < G) => zN_snoc ((rowB G h).take k) (prB G h k)
  generalize hrb : rowB G h = rb at *
  have hG'h := Lib.hid hG
  have hh'h := Lib.hid hh
  have hA'h := Lib.hid hA
  have hnx'h := Lib.hid hnx
  have hfull'h := Lib.hid hfull
  have hl'h := Lib.hid hl
  have hsn'h := Lib.hid hsn
  have hrb'h := Lib.hid hrb
  clear hG hh hA hnx hfull hl hsn hrb
  go_enter Try.func26, Try.ntmps26
  go_wp2
  go_loopg [5, 8] G (fun q v i wr => ∃ k : Nat, k + q = G ∧ i = .int .i64 k ∧ Below w.heap.size w wr ∧ wr.ownsRow w.heap.size 3 1 v k (zN (rb.take k)))
  case atStart => exact ⟨0, by omega, rfl, Below.refl _ _, World.ownsRow_nil _ _ _ _⟩
  case round =>
    obtain ⟨k, hk, rfl, hB, hrow⟩ := hrel
    have hsz := hB.size
    obtain ⟨sp1, cap1, rfl⟩ := row_slice' hrow
    by_cases hlt : k < G
    · have A := hA'h.out k wr hlt
      have hn := hnx'h.out k hlt
      have hs := hsn'h.out k hlt
      generalize prB G h k = x at *
      have hk'h := Lib.hid hk
      have hB'h := Lib.hid hB
      have hrow'h := Lib.hid hrow
      have A'h := Lib.hid A
      have hn'h := Lib.hid hn
      have hs'h := Lib.hid hs
      clear hk hB hrow A hn hs
      go_wp2_with fail
      refine (A'h.out).mono ?_
      rintro e w' ⟨rfl, rfl⟩
      go_wp2_with (first | (at_builtin; refine wpList_append _ rfl (.tmp 11) (.tmp 16) 29 rfl w.heap.size 3 i0 (.int .i64 0) 1 8 Try.underlying29 hi hz0 hz1 hz2 rfl (by decide) _ k _ rfl (hrow'h.out.alloc _) ⟨_, 0, none⟩ 1 1 [.int .i64 x] rfl rfl (cell_one_new _ _ _) (by simp [Value.oneCell']) (by unfold maxLen; omega) (by omega) (by simp; omega) (by decide) ?_; intro v' w1 hown' hgrow hwh))
      go_roundg (gk - 1)
      case measure => have := hk'h.out; omega
      case rel =>
        refine ⟨k + 1, by have := hk'h.out; omega, by go_num, (hB'h.out.alloc hsz _).grown hgrow (by simp; omega) (fun j hj => (hrow'h.out.lt j hj).1), ?_⟩
        rw [hn'h.out, hs'h.out]
        exact hown'
    · obtain rfl : k = G := by omega
      rw [hfull'h.out] at hrow
      have hk'h := Lib.hid hk
      have hB'h := Lib.hid hB
      have hrow'h := Lib.hid hrow
      clear hk hB hrow
      have hlen : ∃ sp cap, (Value.slice sp1 k cap1) = .slice sp cap cap1 := ⟨_, _, rfl⟩
      clear hlen
      go_wp2
      go_ret
      exact ⟨sp1, cap1, rfl, hB'h.out, hrow'h.out⟩
set_option maxHeartbeats 1000000 in
theorem ref_place (G h g : Nat) (w : World) (hG : goodB G = true) (hh : h < 2 ^ 64) (hg : g < G) : Calls Try.prog 27 #[.int .i64 G, .int .u64 h, .int .i64 g] w fun e w' => e = .returned (.int .i64 (placeB G h g)) ∧ Below w.heap.size w w' := by
  have R := ref_row G h w hG hh
  have h0 := good_pos hG
  have h1 := good_le hG
  have hp := prB_place hG h hg
  have hpl := placeB_lt hG h hg
  have hne := fun k (hk : k < G) (e : prB G h k = g) => (show k = placeB G h g by rw [← e, placeB_pr hG h hk])
  have hat := fun k (hk : k < G) => nth_row (h := h) hk
  have hlen := rowB_length G h
  generalize placeB G h g = p at *
  have hG'h := Lib.hid hG
  have hh'h := Lib.hid hh
  have R'h := Lib.hid R
  have hp'h := Lib.hid hp
  have hne'h := Lib.hid hne
  have hat'h := Lib.hid hat
  have hlen'h := Lib.hid hlen
  clear hG hh R hp hne hat hlen
  go_enter Try.func27, Try.ntmps27
  go_wp2_with fail
  refine (R'h.out).mono ?_
  rintro e w1 ⟨sp, cap, rfl, hB, hrow⟩
  have hsl := Sl.of_row hrow (by unfold maxLen; omega)
  have hB'h := Lib.hid hB
  have hrow'h := Lib.hid hrow
  have hsl'h := Lib.hid hsl
  clear hB hrow hsl
  go_wp2
  go_loopg [13] (p + 1) (fun q i wr => ∃ k : Nat, k + q = p + 1 ∧ k ≤ p ∧ i = .int .i64 k ∧ wr = w1)
  case atStart => exact ⟨0, by omega, by omega, rfl, rfl⟩
  case round =>
    obtain ⟨k, hk, hkp, rfl, rfl⟩ := hrel
    have hkG : k < G := by omega
    obtain ⟨b, off, rfl, hcs⟩ := hsl'h.out.some' (by omega)
    have c1 : wr.cell? ⟨b, off + k, none⟩ = some (.int .i64 (prB G h k)) := by
      have := hcs k _ (zN_at (by rw [hlen'h.out]; exact hkG))
      rwa [hat'h.out k hkG] at this
    have hn := hne'h.out k hkG
    clear hcs
    by_cases hkk : k = p
    · subst hkk
      rw [hp'h.out] at c1
      have he : ((g : Int) == (g : Int)) = true := by simp
      have hk'h := Lib.hid hk
      have hn'h := Lib.hid hn
      clear hk hn
      go_wp2
      go_ret
      exact ⟨rfl, hB'h.out⟩
    · have hx : ((prB G h k : Int) == (g : Int)) = false := by
        rw [beq_eq_false_iff_ne]; intro e; exact hkk (hn (by omega))
      generalize prB G h k = x at *
      have hk'h := Lib.hid hk
      have hn'h := Lib.hid hn
      have hkk'h := Lib.hid hkk
      clear hk hn hkk
      go_wp2
      go_roundg (gk - 1)
      case measure => have := hk'h.out; omega
      case rel => exact ⟨k + 1, by have := hk'h.out; omega, by have := hkk'h.out; omega, by go_num, rfl⟩
set_option maxHeartbeats 1000000 in
theorem ref_first (G h n cap : Nat) (sp : Option Addr) (fl : List Bool) (w : World) (hG : goodB G = true) (hh : h < 2 ^ 64) (hs : Sl w sp n (fl.map Value.bool)) (hn : n = G) :
    Calls Try.prog 17 #[.int .i64 G, .int .u64 h, .slice sp n cap] w fun e w' => e = .returned (.int .i64 (firstB G h fl)) ∧ Below w.heap.size w w' := by
  subst hn
  have R := ref_row n h w hG hh
  have h0 := good_pos hG
  have h1 := good_le hG
  have hat := fun k (hk : k < n) => nth_row (h := h) hk
  have hlen := rowB_length n h
  have hfl : n = fl.length := by have := hs.1; simpa using this
  have hfd : idxZ (atB fl) (rowZ n h) = firstB n h fl := rfl
  have hpl := fun k => prB_lt h k h0
  have hG'h := Lib.hid hG
  have hh'h := Lib.hid hh
  have R'h := Lib.hid R
  have hat'h := Lib.hid hat
  have hlen'h := Lib.hid hlen
  have hs'h := Lib.hid hs
  have hfl'h := Lib.hid hfl
  have hfd'h := Lib.hid hfd
  have hpl'h := Lib.hid hpl
  clear hG hh R hat hlen hs hfl hfd hpl
  go_enter Try.func17, Try.ntmps17
  go_wp2_with fail
  refine (R'h.out).mono ?_
  rintro e w1 ⟨rp, rc, rfl, hB, hrow⟩
  have hsl := Sl.of_row hrow (by unfold maxLen; omega)
  have hs1 := hs'h.out.below hB
  have hB'h := Lib.hid hB
  have hrow'h := Lib.hid hrow
  have hsl'h := Lib.hid hsl
  have hs1'h := Lib.hid hs1
  clear hB hrow hsl hs1
  go_wp2
  go_loopg [13] n (fun q i wr => ∃ k : Nat, k + q = n ∧ i = .int .i64 k ∧ (∀ j, j < k → atB fl (nthZ (rowZ n h) j) = false) ∧ wr = w1)
  case atStart => exact ⟨0, by omega, rfl, fun j hj => by omega, rfl⟩
  case round =>
    obtain ⟨k, hk, rfl, hall, rfl⟩ := hrel
    by_cases hkG : k < n
    · obtain ⟨b, off, rfl, hcs⟩ := hsl'h.out.some' (by omega)
      obtain ⟨b2, off2, rfl, hcs2⟩ := hs1'h.out.some' (by omega)
      have c1 : wr.cell? ⟨b, off + k, none⟩ = some (.int .i64 (prB n h k)) := by
        have := hcs k _ (zN_at (by rw [hlen'h.out]; exact hkG))
        rwa [hat'h.out k hkG] at this
      have hp := hpl'h.out k
      have hpf : prB n h k < fl.length := by have := hfl'h.out; omega
      have c2 : wr.cell? ⟨b2, off2 + prB n h k, none⟩ = some (.bool (atB fl (prB n h k))) := hcs2 _ _ (by
        rw [List.getElem?_map, List.getElem?_eq_getElem hpf]; unfold atB
        rw [Int.toNat_natCast, List.getD_eq_getElem?_getD, List.getElem?_eq_getElem hpf]; rfl)
      have hz := nth_rowZ (h := h) hkG
      have hkl : k < (rowZ n h).length := by rw [rowZ_length]; exact hkG
      have hmax := hs1'h.out.2.1
      unfold maxLen at hmax
      clear hcs hcs2
      cases hv : atB fl (prB n h k) with
      | true =>
        have hr := idxZ_hit hkl hall (by rw [hz]; exact hv)
        rw [hfd'h.out] at hr
        rw [hv] at c2
        generalize prB n h k = y at *
        have hk'h := Lib.hid hk
        have hall'h := Lib.hid hall
        have hv'h := Lib.hid hv
        have hr'h := Lib.hid hr
        have hz'h := Lib.hid hz
        have hkl'h := Lib.hid hkl
        clear hk hall hv hr hz hkl
        go_wp2
        go_ret
        exact ⟨ret_i64 hr'h.out.symm, hB'h.out⟩
      | false =>
        have hall2 : ∀ j, j < k + 1 → atB fl (nthZ (rowZ n h) j) = false := fun j hj => by
          by_cases e : j = k
          · rw [e, hz]; exact hv
          · exact hall j (by omega)
        rw [hv] at c2
        generalize prB n h k = y at *
        have hk'h := Lib.hid hk
        have hall'h := Lib.hid hall
        have hv'h := Lib.hid hv
        have hz'h := Lib.hid hz
        have hkl'h := Lib.hid hkl
        have hall2'h := Lib.hid hall2
        clear hk hall hv hz hkl hall2
        go_wp2
        go_roundg (gk - 1)
        case measure => have := hk'h.out; omega
        case rel => exact ⟨k + 1, by have := hk'h.out; omega, by go_num, hall2'h.out, rfl⟩
    · have hr := idxZ_none (l := rowZ n h) (p := atB fl) (fun j hj => hall j (by rw [rowZ_length] at hj; omega))
      rw [hfd'h.out] at hr
      have hd : ¬ ((k : Int) < (n : Int)) := by omega
      have hk'h := Lib.hid hk
      have hall'h := Lib.hid hall
      have hr'h := Lib.hid hr
      clear hk hall hr
      go_wp2
      go_ret
      exact ⟨ret_i64 hr'h.out.symm, hB'h.out⟩

/-! ### Far -/
def farQ (G : Nat) (hs : List Nat) (h k : Nat) : List Nat := (List.range G).map fun g => farK G hs g + if g < k then placeB G h g else 0
theorem farQ_zero (G : Nat) (hs : List Nat) (h : Nat) : farQ G hs h 0 = farL G hs := by unfold farQ farL; simp
theorem farQ_full (G : Nat) (hs : List Nat) (h : Nat) : farQ G hs h G = farL G (hs ++ [h]) := by
  unfold farQ farL
  refine List.map_congr_left fun g hg => ?_
  rw [farK_snoc, if_pos (List.mem_range.1 hg)]
theorem farQ_length (G : Nat) (hs : List Nat) (h k : Nat) : (farQ G hs h k).length = G := by unfold farQ; simp
theorem farQ_at {G : Nat} {hs : List Nat} {h k : Nat} (hk : k < G) : nthN (farQ G hs h k) k = farK G hs k := by
  have h1 : k < (farQ G hs h k).length := by rw [farQ_length]; exact hk
  rw [← nthN_eq h1]
  simp [farQ]
theorem farQ_next {G : Nat} {hs : List Nat} {h k : Nat} (hk : k < G) : (farQ G hs h k).set k (farK G hs k + placeB G h k) = farQ G hs h (k + 1) := by
  unfold farQ
  apply List.ext_getElem (by simp)
  intro i h1 h2
  simp only [List.getElem_map, List.getElem_range, List.getElem_set]
  by_cases e : k = i
  · subst e
    rw [if_pos rfl, if_pos (by omega)]
  · rw [if_neg e]
    by_cases h3 : i < k
    · rw [if_pos h3, if_pos (by omega)]
    · rw [if_neg h3, if_neg (by omega)]
set_option maxHeartbeats 2000000 in
theorem ref_far (G n cap : Nat) (sp : Option Addr) (hs : List Nat) (w : World) (hG : goodB G = true) (hk : W64 hs) (h : Sl w sp n (u64s hs)) (hn : n ≤ 4096) :
    Calls Try.prog 16 #[.int .i64 G, .slice sp n cap] w fun e w' => ∃ g, e = .returned (.slice (some ⟨g, 0, none⟩) G G) ∧ Below w.heap.size w w' ∧ Sl w' (some ⟨g, 0, none⟩) G (zN (farL G hs)) := by
  have h1 := good_le hG
  have h0 := good_pos hG
  have hlen : n = hs.length := by have := h.1; simpa [u64s] using this
  have hmk := fun w => run_make_row' (P := Try.prog) 29 3 (.int .i64 0) 8 Try.underlying29 info_i64' rfl .i64 .i64 G (by omega) (by omega) w
  obtain ⟨W0, hW0⟩ : ∃ W0, W0 = w.alloc (.cells (zA (farL G [])) 3) := ⟨_, rfl⟩
  have hb0 : Below w.heap.size w W0 := by rw [hW0]; exact (Below.refl _ _).alloc (Nat.le_refl _) _
  have b0 : W0.heap[w.heap.size]? = some (.cells (zA (farL G [])) 3 (0, 0)) := by rw [hW0]; exact World.alloc_heap_new _ _
  have hfull : farL G (hs.take n) = farL G hs := by rw [List.take_of_length_le (by omega)]
  have hG'h := Lib.hid hG
  have hk'h := Lib.hid hk
  have h'h := Lib.hid h
  have hlen'h := Lib.hid hlen
  have hb0'h := Lib.hid hb0
  have b0'h := Lib.hid b0
  have hfull'h := Lib.hid hfull
  clear hG hk h hlen hb0 b0 hfull
  go_enter Try.func16, Try.ntmps16
  go_wp2
  rw [zero_row, ← hW0]
  clear hW0 hmk
  go_loopg [13] n (fun q i wr => ∃ k : Nat, k + q = n ∧ i = .int .i64 k ∧ Below w.heap.size w wr ∧ wr.heap[w.heap.size]? = some (.cells (zA (farL G (hs.take k))) 3 (0, 0)))
  case atStart => exact ⟨0, by omega, rfl, hb0'h.out, b0'h.out⟩
  case round =>
    obtain ⟨k, hkq, rfl, hB, hrow⟩ := hrel
    obtain ⟨gq, hgq⟩ : ∃ g : Nat, g = gk := ⟨gk, rfl⟩
    by_cases hlt : k < n
    · have hkl : k < hs.length := by have := hlen'h.out; omega
      obtain ⟨ab, aoff, rfl, hcs⟩ := (h'h.out.below hB).some' (by omega)
      have c1 : wr.cell? ⟨ab, aoff + k, none⟩ = some (.int .u64 (nthN hs k)) := hcs k _ (u64s_at hkl)
      have hx64 : nthN hs k < 2 ^ 64 := hk'h.out _ (nthN_mem hkl)
      have hnx : hs.take (k + 1) = hs.take k ++ [nthN hs k] := by rw [List.take_succ_eq_append_getElem hkl, nthN_eq hkl]
      have hle : farLe G (hs.take k) 262144 := fun g hg => by have := farK_le hG'h.out (hs.take k) hg; have := List.length_take_le k hs; omega
      have hP := fun W j (hj : j < G) => ref_place G (nthN hs k) j W hG'h.out hx64 hj
      have hpl := fun j (hj : j < G) => placeB_lt hG'h.out (nthN hs k) hj
      clear hcs
      generalize nthN hs k = x at *
      generalize hs.take k = pre at *
      rw [← farQ_zero G pre x] at hrow
      have hwB := lt_of_heap hrow
      have hkq'h := Lib.hid hkq
      have hB'h := Lib.hid hB
      have hrow'h := Lib.hid hrow
      have hx64'h := Lib.hid hx64
      have hnx'h := Lib.hid hnx
      have hkl'h := Lib.hid hkl
      have hle'h := Lib.hid hle
      have hP'h := Lib.hid hP
      have hgq'h := Lib.hid hgq
      have hpl'h := Lib.hid hpl
      clear hkq hB hrow hx64 hnx hkl hle hP hgq hpl
      go_wp2
      go_loopg [18] G (fun q i wv => ∃ j : Nat, j + q = G ∧ i = .int .i64 j ∧ Below w.heap.size w wv ∧ wv.heap[w.heap.size]? = some (.cells (zA (farQ G pre x j)) 3 (0, 0)))
      case atStart => exact ⟨0, by omega, rfl, hB'h.out, hrow'h.out⟩
      case round =>
        obtain ⟨j, hj, rfl, hBj, hrj⟩ := hrel
        by_cases hjG : j < G
        · have P := fun W => hP'h.out W j hjG
          have v2 : wr.cell? ⟨w.heap.size, j, none⟩ = some (.int .i64 (farK G pre j)) := by
            have := blk_cell (i := j) hrj (zA_at (by rw [farQ_length]; exact hjG))
            rwa [farQ_at hjG] at this
          have hwr := lt_of_heap hrj
          have hfl := hle'h.out j hjG
          have hp64 := hpl'h.out j hjG
          have hset := fun (W : World) (hW : W.heap[w.heap.size]? = wr.heap[w.heap.size]?) => blk_set (i := j) (.int .i64 ((farK G pre j + placeB G x j : Nat) : Int)) (hW.trans hrj)
          have hcast : ((farK G pre j + placeB G x j : Nat) : Int) = (farK G pre j : Int) + (placeB G x j : Int) := by omega
          rw [zA_set, farQ_next hjG, hcast] at hset
          have hkeep : ∀ W : World, Below wr.heap.size wr W → (W.cell? ⟨w.heap.size, j, none⟩ = some (.int .i64 (farK G pre j)) ∧ W.frozen? ⟨w.heap.size, j, none⟩ = false ∧ Below wr.heap.size wr W) := fun W h =>
            ⟨(h.cell (p := ⟨w.heap.size, j, none⟩) hwr).trans v2, blk_free j ((h.block _ hwr).trans hrj), h⟩
          generalize placeB G x j = p at *
          generalize farK G pre j = f at *
          obtain ⟨k1, k2, k3⟩ := hkeep wr (Below.refl _ _)
          have hi1 : (j : Int) < (G : Int) := by omega
          have hi2 : (0 : Int) ≤ (j : Int) := by omega
          have hwrap : IntKind.i64.wrap ((f : Int) + (p : Int)) = (f : Int) + (p : Int) := by rw [IntKind.wrap_i64]; omega
          have hj'h := Lib.hid hj
          have hBj'h := Lib.hid hBj
          have hrj'h := Lib.hid hrj
          have P'h := Lib.hid P
          have hset'h := Lib.hid hset
          have hkeep'h := Lib.hid hkeep
          have hcast'h := Lib.hid hcast
          have hwr'h := Lib.hid hwr
          clear hj hBj hrj P hset hkeep hcast hwr
          go_wp2_with fail
          have kd := hkeep'h.out wr.drew k3.drew
          obtain ⟨k4, k5, k6⟩ := kd
          go_region_with (first | (go_at_call 27; refine (P'h.out _).mono ?_; rintro e w8 ⟨rfl, hB8⟩; obtain ⟨q1, q2, q3⟩ := hkeep'h.out w8 (by first | exact below_next k3.drew hB8 | exact below_next k3 hB8 | fail)))
          all_goals
            have hrow2 := hset'h.out w8 ((below_next k3.drew hB8).block _ hwr'h.out)
            have hBf := (hBj'h.out.trans ((below_next k3.drew hB8).mono hBj'h.out.size)).setCell (p := ⟨w.heap.size, j, none⟩) (Nat.le_refl _) (.int .i64 ((f : Int) + (p : Int)))
            clear hB8 q1 q2 q3 k1 k2 k3 k4 k5 k6
            go_wp2
            go_roundg (gk - 1)
            case measure => have := hj'h.out; omega
            case rel => exact ⟨j + 1, by have := hj'h.out; omega, by go_num, hBf, hrow2⟩
        · have hjj : j = G := by omega
          rw [hjj, farQ_full] at hrj
          rw [← hnx'h.out] at hrj
          have hj'h := Lib.hid hj
          have hBj'h := Lib.hid hBj
          have hrj'h := Lib.hid hrj
          have hjj'h := Lib.hid hjj
          clear hj hBj hrj hjj
          go_wp2
          go_roundg (gq - 1)
          case measure => have := hkq'h.out; have := hgq'h.out; omega
          case rel => exact ⟨k + 1, by have := hkq'h.out; have := hgq'h.out; omega, by go_num, hBj'h.out, hrj'h.out⟩
    · have hkk : k = n := by omega
      rw [hkk, hfull'h.out] at hrow
      have hsl : Sl wr (some ⟨w.heap.size, 0, none⟩) G (zN (farL G hs)) := by
        have := Sl.of_blk hrow (by simp [zA, zN, farL, maxLen]; omega)
        simpa [zA, zN_length, farL_length] using this
      have hkq'h := Lib.hid hkq
      have hB'h := Lib.hid hB
      have hrow'h := Lib.hid hrow
      have hsl'h := Lib.hid hsl
      have hkk'h := Lib.hid hkk
      have hgq'h := Lib.hid hgq
      clear hkq hB hrow hsl hkk hgq
      go_wp2
      go_ret
      exact ⟨_, rfl, hB'h.out, hsl'h.out⟩
end Go.Proofs.Ytkeegafebnhcpaa
