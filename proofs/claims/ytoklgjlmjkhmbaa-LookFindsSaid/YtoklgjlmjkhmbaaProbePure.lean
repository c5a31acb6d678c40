/-
  Rows of groups: plain laws, no program in sight.
-/
namespace Go.Proofs.Ytoklgjlmjkhmbaa

/-- So many groups there may be. -/
def goodB (G : Nat) : Bool := G == 1 || G == 2 || G == 4 || G == 8 || G == 16 || G == 32 || G == 64
def goodG (g : Int) : Bool := decide (0 ≤ g) && goodB g.toNat
def prB (G h i : Nat) : Nat := (h + i * (i + 1) / 2) % G
def rowB (G h : Nat) : List Nat := (List.range G).map (prB G h)

theorem good_cases {G : Nat} (h : goodB G = true) : G = 1 ∨ G = 2 ∨ G = 4 ∨ G = 8 ∨ G = 16 ∨ G = 32 ∨ G = 64 := by
  unfold goodB at h; simp only [Bool.or_eq_true, beq_iff_eq] at h; omega
theorem good_pos {G : Nat} (h : goodB G = true) : 0 < G := by have := good_cases h; omega
theorem good_le {G : Nat} (h : goodB G = true) : G ≤ 64 := by have := good_cases h; omega
theorem good_pow {G : Nat} (h : goodB G = true) : ∃ k, G = 2 ^ k := by
  rcases good_cases h with h | h | h | h | h | h | h
  · exact ⟨0, h⟩
  · exact ⟨1, h⟩
  · exact ⟨2, h⟩
  · exact ⟨3, h⟩
  · exact ⟨4, h⟩
  · exact ⟨5, h⟩
  · exact ⟨6, h⟩
theorem and_mask {G : Nat} (x : Nat) (h : goodB G = true) : x &&& (G - 1) = x % G := by
  obtain ⟨k, rfl⟩ := good_pow h
  exact Nat.and_two_pow_sub_one_eq_mod x k
theorem good_fin : ∀ g : Fin 65, 1 ≤ g.val → goodB g.val = (g.val &&& (g.val - 1) == 0) := by decide +kernel
theorem good_and {g : Nat} (h : 1 ≤ g) (h' : g ≤ 64) : goodB g = (g &&& (g - 1) == 0) := good_fin ⟨g, by omega⟩ h

theorem tri_next (i : Nat) : (i + 1) * (i + 1 + 1) / 2 = i * (i + 1) / 2 + (i + 1) := by
  have : (i + 1) * (i + 1 + 1) = i * (i + 1) + (i + 1) * 2 := by
    rw [Nat.mul_comm i, ← Nat.mul_add]
  rw [this, Nat.add_mul_div_right _ _ (by decide)]
theorem prB_next (G h i : Nat) : prB G h (i + 1) = (prB G h i + i + 1) % G := by
  unfold prB; rw [tri_next, Nat.add_assoc (_ % G) i 1, Nat.mod_add_mod, ← Nat.add_assoc]
theorem prB_zero (G h : Nat) : prB G h 0 = h % G := by unfold prB; simp
theorem prB_lt {G : Nat} (h i : Nat) (hG : 0 < G) : prB G h i < G := Nat.mod_lt _ hG
theorem prB_mod (G h i : Nat) : prB G (h % G) i = prB G h i := by unfold prB; rw [Nat.mod_add_mod]
theorem prB_shift (G h i : Nat) : (prB G 0 i + h % G) % G = prB G h i := by
  unfold prB; rw [Nat.zero_add, ← Nat.add_mod, Nat.add_comm]
theorem rowB_length (G h : Nat) : (rowB G h).length = G := by unfold rowB; simp
theorem rowB_at {G h i : Nat} (hi : i < G) : (rowB G h)[i]? = some (prB G h i) := by
  unfold rowB; rw [List.getElem?_map, List.getElem?_range hi]; rfl
theorem rowB_mod (G h : Nat) : rowB G (h % G) = rowB G h := by unfold rowB; exact List.map_congr_left fun i _ => prB_mod G h i

/-- Which one of the row of 0 a group is. -/
def place0 (G g : Nat) : Nat := (rowB G 0).idxOf g
def rowsOnce : Bool := [1, 2, 4, 8, 16, 32, 64].all fun G => (List.range G).all fun g => decide (prB G 0 (place0 G g) = g ∧ place0 G g < G) && decide (place0 G (prB G 0 g) = g)
theorem rows_once : rowsOnce = true := by decide +kernel
theorem rows_at {G : Nat} (h : goodB G = true) {g : Nat} (hg : g < G) : (prB G 0 (place0 G g) = g ∧ place0 G g < G) ∧ place0 G (prB G 0 g) = g := by
  have hall := rows_once
  unfold rowsOnce at hall
  rw [List.all_eq_true] at hall
  have h1 := hall G (by have := good_cases h; simp; omega)
  rw [List.all_eq_true] at h1
  have h3 := h1 g (List.mem_range.2 hg)
  rw [Bool.and_eq_true, decide_eq_true_eq, decide_eq_true_eq] at h3
  exact h3
theorem add_mod_lt {G a c : Nat} (ha : a < G) (hc : c < G) : (a + c) % G = if a + c < G then a + c else a + c - G := by
  split
  · rename_i h; exact Nat.mod_eq_of_lt h
  · rename_i h; rw [Nat.mod_eq_sub_mod (by omega), Nat.mod_eq_of_lt (by omega)]
/-- Which one of a row a group is. -/
def placeB (G h g : Nat) : Nat := place0 G ((g + (G - h % G)) % G)
theorem back_lt {G c g : Nat} (hc : c < G) (hg : g < G) : (g + (G - c)) % G < G ∧ ((g + (G - c)) % G + c) % G = g := by
  refine ⟨Nat.mod_lt _ (by omega), ?_⟩
  rw [Nat.mod_add_mod, show g + (G - c) + c = g + G by omega, Nat.add_mod_right, Nat.mod_eq_of_lt hg]
theorem prB_place {G : Nat} (hG : goodB G = true) (h : Nat) {g : Nat} (hg : g < G) : prB G h (placeB G h g) = g := by
  have hb := back_lt (Nat.mod_lt h (good_pos hG)) hg
  rw [← prB_shift, placeB, (rows_at hG hb.1).1.1]; exact hb.2
theorem placeB_lt {G : Nat} (hG : goodB G = true) (h : Nat) {g : Nat} (hg : g < G) : placeB G h g < G :=
  (rows_at hG (back_lt (Nat.mod_lt h (good_pos hG)) hg).1).1.2
theorem prB_inj {G : Nat} (hG : goodB G = true) (h : Nat) {i j : Nat} (hi : i < G) (hj : j < G) (e : prB G h i = prB G h j) : i = j := by
  have h0 := good_pos hG
  rw [← prB_shift G h i, ← prB_shift G h j, add_mod_lt (prB_lt _ _ h0) (Nat.mod_lt _ h0), add_mod_lt (prB_lt _ _ h0) (Nat.mod_lt _ h0)] at e
  have h1 := prB_lt (G := G) 0 i h0
  have h2 := prB_lt (G := G) 0 j h0
  have h3 := Nat.mod_lt h h0
  have e0 : prB G 0 i = prB G 0 j := by split at e <;> split at e <;> omega
  rw [← (rows_at hG hi).2, e0, (rows_at hG hj).2]
theorem placeB_pr {G : Nat} (hG : goodB G = true) (h : Nat) {i : Nat} (hi : i < G) : placeB G h (prB G h i) = i :=
  prB_inj hG h (placeB_lt hG h (prB_lt h i (good_pos hG))) hi (prB_place hG h (prB_lt h i (good_pos hG)))
theorem placeB_mod (G h g : Nat) : placeB G (h % G) g = placeB G h g := by unfold placeB; rw [Nat.mod_mod]
end Go.Proofs.Ytoklgjlmjkhmbaa
