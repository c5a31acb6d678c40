/-
  The library's Delete over slots: one slot is taken out of a row of one's own.
-/
import Derived.Test.YtfoohdjgnphdgaaGroupLib
import Derived.Shelf.RegionOpenPlain
set_option linter.unusedSimpArgs false
set_option linter.unusedVariables false
set_option maxRecDepth 100000
namespace Go.Proofs.Ytfoohdjgnphdgaa
open Go.RowKit

theorem zero_slot (w : World) : (zeroValue 38).run Try.prog w = .ok (.agg #[.int .u64 0, .int .u64 0, .int .u8 0]) w := by kernel_rfl
def zero3 : List Value := [.int .u64 0, .int .u64 0, .int .u8 0]
theorem run_clear_one (w : World) (ty : TypeId) (b o c : Nat) (hc : ∀ j, j < 3 → (w.cell? ⟨b, o + j, none⟩).isSome = true) (hf : ∀ j, j < 3 → w.frozen? ⟨b, o + j, none⟩ = false) :
    (Builtin.clear_ #[26] ty #[.slice (some ⟨b, o, none⟩) 1 c]).run Try.prog w = .ok (.tuple #[]) (w.setCells b o zero3) := by
  have hst := run_storeCells_cells (P := Try.prog) b o zero3 0 w hc hf (by decide)
  simp only [Nat.add_zero] at hst
  have hz : (Builtin.zeroCells (Value.agg #[.int .u64 0, .int .u64 0, .int .u8 0]).cells 1).toList = zero3 := by kernel_rfl
  simp [Builtin.clear_, run_underlying Try.underlying26, zero_slot, hz, hst]
theorem only_setCells {g : Nat} {w : World} : ∀ (vs : List Value) (o : Nat) (w1 : World), Only g w w1 → Only g w (w1.setCells g o vs)
  | [], _, _, h => h
  | v :: vs, o, w1, h => only_setCells vs (o + 1) _ ⟨fun B hB => (h.1 B hB).setCell hB _, fun b hb hlt => (Below.heap_setCell _ _ _ _ hb).trans (h.2 b hb hlt)⟩
theorem sls_one (l : List Sl3) : ∀ v ∈ sls l, v.oneCell' = true := by
  intro v hv
  obtain ⟨s, _, hs⟩ := List.mem_flatMap.1 hv
  simp [slL] at hs
  rcases hs with rfl | rfl | rfl <;> rfl
set_option maxHeartbeats 2000000 in
theorem deleteS_any (g cap n : Nat) (A B : List Sl3) (s : Sl3) (cur : Array Value) (w : World) (hg : w.heap[g]? = some (.cells cur 38 (0, 0))) (hsz : cur.size = cap * 3) (ki k1 : Int) (hki : ki = A.length) (hk1 : k1 = (A.length : Int) + 1) (hn : n = (A ++ s :: B).length) (hnc : n ≤ cap) (hcm : cap ≤ maxLen) (ht : cur.toList.take (n * 3) = sls (A ++ s :: B)) :
    Calls Try.prog 37 #[.slice (some ⟨g, 0, none⟩) n cap, .int .i64 ki, .int .i64 k1] w fun e w' => e = .returned (.slice (some ⟨g, 0, none⟩) (A.length + B.length) cap) ∧ Only g w w' ∧ SlK w' 3 (some ⟨g, 0, none⟩) (A.length + B.length) (sls (A ++ B)) := by
  have hkk : k1 = ((A.length + 1 : Nat) : Int) := by omega
  rw [hki, hkk]
  clear hki hk1 hkk
  obtain ⟨k, hk⟩ : ∃ k, k = A.length := ⟨_, rfl⟩
  obtain ⟨m, hm⟩ : ∃ m, m = B.length := ⟨_, rfl⟩
  have hnk : n = k + 1 + m := by rw [hn, hk, hm]; simp; omega
  have hcell : ∀ i, i < cap * 3 → ∃ v, cur[i]? = some v ∧ w.cell? ⟨g, i, none⟩ = some v := fun i hi => by
    have hi' : i < cur.size := by omega
    exact ⟨cur[i], Array.getElem?_eq_getElem hi', blk_cell hg (Array.getElem?_eq_getElem hi')⟩
  have hsome : ∀ i, i < cap * 3 → (w.cell? ⟨g, i, none⟩).isSome = true := fun i hi => by
    obtain ⟨v, _, h⟩ := hcell i hi; rw [h]; rfl
  have hfree : ∀ i, w.frozen? ⟨g, i, none⟩ = false := fun i => blk_free i hg
  have hrow : ∀ i, i < n * 3 → w.cell? ⟨g, i, none⟩ = (sls (A ++ s :: B))[i]? := fun i hi => by
    obtain ⟨v, h1, h2⟩ := hcell i (by omega)
    rw [h2, ← ht, List.getElem?_take, if_pos hi, ← h1]; simp
  have lA : (sls A).length = k * 3 := by rw [sls_length, hk]
  have lB : (sls B).length = m * 3 := by rw [sls_length, hm]
  have hall : sls (A ++ s :: B) = sls A ++ (slL s ++ sls B) := by unfold sls; rw [List.flatMap_append, List.flatMap_cons]
  have hlast : ∀ j u, (sls B)[j]? = some u → w.cell? ⟨g, (k + 1) * 3 + j, none⟩ = some u := fun j u hu => by
    have hj : j < (sls B).length := (List.getElem?_eq_some_iff.1 hu).1
    rw [hrow _ (by omega), hall, List.getElem?_append_right (by omega), lA, List.getElem?_append_right (by show 3 ≤ _; omega), show (k + 1) * 3 + j - k * 3 - (slL s).length = j by show _ - 3 = j; omega, hu]
  obtain ⟨W1, hW1⟩ : ∃ W1, W1 = w.drew.setCells g (k * 3) (sls B) := ⟨_, rfl⟩
  obtain ⟨W2, hW2⟩ : ∃ W2, W2 = W1.setCells g ((k + m) * 3) zero3 := ⟨_, rfl⟩
  have f1 : ∀ i, W1.frozen? ⟨g, i, none⟩ = false := fun i => by rw [hW1, World.frozen?_setCells]; exact hfree i
  have s1 : ∀ i, i < cap * 3 → (W1.cell? ⟨g, i, none⟩).isSome = true := fun i hi => by rw [hW1]; exact World.isSome_setCells _ _ _ _ _ (hsome i hi)
  have o2 : Only g w W2 := by
    rw [hW2, hW1]
    exact only_setCells _ _ _ (only_setCells _ _ _ ⟨fun B _ => Below.drew (Below.refl _ _), fun _ _ _ => rfl⟩)
  have r2 : SlK W2 3 (some ⟨g, 0, none⟩) (k + m) (sls (A ++ B)) := by
    refine ⟨by rw [sls_length, List.length_append, ← hk, ← hm], by omega, .inr ⟨g, 0, rfl, fun j u hu => ?_⟩⟩
    have hj : j < (sls (A ++ B)).length := (List.getElem?_eq_some_iff.1 hu).1
    rw [sls_length, List.length_append, ← hk, ← hm] at hj
    rw [Nat.zero_add, hW2, World.cell?_setCells_out _ _ _ _ _ (fun _ _ => .inl (by show j < _; omega)), hW1]
    have hsp : sls (A ++ B) = sls A ++ sls B := by unfold sls; rw [List.flatMap_append]
    rw [hsp] at hu
    by_cases c : j < k * 3
    · rw [World.cell?_setCells_out _ _ _ _ _ (fun _ _ => .inl (by show j < _; omega))]
      show w.cell? _ = _
      rw [hrow j (by omega), hall, List.getElem?_append_left (by omega)]
      rwa [List.getElem?_append_left (by omega)] at hu
    · rw [List.getElem?_append_right (by omega), lA] at hu
      have hj2 : j - k * 3 < (sls B).length := (List.getElem?_eq_some_iff.1 hu).1
      have := World.cell?_setCells_in g (sls B) (k * 3) w.drew (fun t ht => hsome _ (by omega)) (j - k * 3) hj2
      rw [show k * 3 + (j - k * 3) = j by omega] at this
      rw [this, ← hu, List.getElem?_eq_getElem hj2]
  have hcl : ∀ ty, (Builtin.clear_ #[26] ty #[.slice (some ⟨g, (k + m) * 3, none⟩) 1 (cap - (k + m))]).run Try.prog W1 = .ok (.tuple #[]) (W1.setCells g ((k + m) * 3) zero3) := fun ty =>
    run_clear_one W1 ty g ((k + m) * 3) _ (fun j hj => s1 _ (by omega)) (fun j _ => f1 _)
  rw [← hW2] at hcl
  obtain ⟨Ad, hA, hsrc⟩ : ∃ Ad : Addr, (if cap = k + 1 then some (⟨g, 0, none⟩ : Addr) else some ⟨g, (k + 1) * 3, none⟩) = some Ad ∧ (∀ t u, (sls B)[t]? = some u → w.drew.cell? (Ad.add t) = some u) := by
    by_cases h : cap = k + 1
    · refine ⟨⟨g, 0, none⟩, by simp [h], fun t u hu => ?_⟩
      have h0 : (sls B).length = 0 := by omega
      rw [List.length_eq_zero_iff.1 h0] at hu
      simp at hu
    · refine ⟨⟨g, (k + 1) * 3, none⟩, by simp [h], fun t u hu => ?_⟩
      have hadd : (⟨g, (k + 1) * 3, none⟩ : Addr).add t = ⟨g, (k + 1) * 3 + t, none⟩ := by unfold Addr.add; split <;> simp_all
      rw [hadd]
      exact hlast t u hu
  have sp3 : ∀ t, t < (sls B).length → (w.drew.cell? ⟨g, 0 + k * 3 + t, none⟩).isSome = true ∧ w.drew.frozen? ⟨g, 0 + k * 3 + t, none⟩ = false := fun t ht => ⟨hsome _ (by omega), hfree _⟩
  obtain ⟨i0, hi, hz0, hz1, hz2⟩ := info_parts infoSl3
  have hic : k ≤ cap := by omega
  have hjc : k + 1 ≤ cap := by omega
  have hkn1 : k + 1 ≤ n := by omega
  unfold maxLen at hcm
  have hone := sls_one B
  rw [← hk, ← hm]
  clear hn ht hcell hsome hfree hrow hall hlast f1 s1 hg hsz
  subst hnk
  generalize sls (A ++ B) = VS at *
  generalize sls B = news at *
  clear lA hk hm A B
  have hcl2 : ∀ ty, (Builtin.clear_ #[26] ty #[.slice (some ⟨g, (k + m) * 3, none⟩) (k + 1 + m - (k + m)) (cap - (k + m))]).run Try.prog (w.drew.setCells g (k * 3) news) = .ok (.tuple #[]) W2 := fun ty => by
    rw [show k + 1 + m - (k + m) = 1 by omega, ← hW1]; exact hcl ty
  have hW1 : W1 = w.drew.setCells g (0 + k * 3) news := by rw [Nat.zero_add]; exact hW1
  clear hcl
  have mixed : Try.prog.follows .mixedOrders = true := by kernel_rfl
  have z1 : (0 : Int) ≤ (k : Int) + 1 := by omega
  have z2 : (k : Int) + 1 ≤ (k : Int) + 1 + (m : Int) := by omega
  have z3 : (0 : Int) ≤ (k : Int) := by omega
  have z4 : (k : Int) ≤ (k : Int) + 1 + (m : Int) := by omega
  have z5 : (0 : Int) ≤ (k : Int) + (m : Int) := by omega
  have z6 : (k : Int) + (m : Int) ≤ (k : Int) + 1 + (m : Int) := by omega
  have lB'h := Lib.hid lB
  have hW1'h := Lib.hid hW1
  have o2'h := Lib.hid o2
  have r2'h := Lib.hid r2
  have hsrc'h := Lib.hid hsrc
  have sp3'h := Lib.hid sp3
  have hone'h := Lib.hid hone
  have hW2'h := Lib.hid hW2
  clear lB hW1 o2 r2 hsrc sp3 hone hW2
  go_enter Try.func37, Try.ntmps37
  go_wp2_with fail
  go_region_law_o (refine step_append_room rfl (.tmp 22) (.tmp 25) 26 rfl 38 i0 3 Try.underlying26 hi hz1 g 0 k cap (by simp [Act.eval, Act.put]) Ad m (cap - (k + 1)) news (by simp [Act.eval, Act.put]) lB'h.out hsrc'h.out hone'h.out (by omega) sp3'h.out ?_; rw [← hW1'h.out])
  go_wp2
  go_ret
  exact ⟨rfl, o2'h.out, r2'h.out⟩
end Go.Proofs.Ytfoohdjgnphdgaa
