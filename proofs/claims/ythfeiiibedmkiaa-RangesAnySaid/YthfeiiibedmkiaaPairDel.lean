/-
  The library's Delete over pairs: one pair is taken out of a row of one's own.
-/
import Derived.Test.YthfeiiibedmkiaaPr3
import Derived.Test.YthfeiiibedmkiaaPr0
import Derived.Deep.RegionLaw
import Derived.Lib.SliceRun
import Derived.Shelf.RegionOpenPlain
set_option linter.unusedSimpArgs false
set_option linter.unusedVariables false
set_option maxRecDepth 100000
namespace Go.Proofs.Ythfeiiibedmkiaa
open Go.RowKit

theorem zero_pair (w : World) : (zeroValue 38).run Try.prog w = .ok (.agg #[.int .u64 0, .int .u64 0]) w := by kernel_rfl
def zeroP2 : List Value := [.int .u64 0, .int .u64 0]
theorem run_clear_pair (w : World) (ty : TypeId) (b o c : Nat) (hc : ∀ j, j < 2 → (w.cell? ⟨b, o + j, none⟩).isSome = true) (hf : ∀ j, j < 2 → w.frozen? ⟨b, o + j, none⟩ = false) :
    (Builtin.clear_ #[24] ty #[.slice (some ⟨b, o, none⟩) 1 c]).run Try.prog w = .ok (.tuple #[]) (w.setCells b o zeroP2) := by
  have hst := run_storeCells_cells (P := Try.prog) b o zeroP2 0 w hc hf (by decide)
  simp only [Nat.add_zero] at hst
  have hz : (Builtin.zeroCells (Value.agg #[.int .u64 0, .int .u64 0]).cells 1).toList = zeroP2 := by kernel_rfl
  simp [Builtin.clear_, run_underlying Try.underlying24, zero_pair, hz, hst]
theorem only_setCellsP {g : Nat} {w : World} : ∀ (vs : List Value) (o : Nat) (w1 : World), OnlyB g w w1 → OnlyB g w (w1.setCells g o vs)
  | [], _, _, h => h
  | v :: vs, o, w1, h => only_setCellsP vs (o + 1) _ ⟨fun B hB => (h.1 B hB).setCell hB _, fun b hb hlt => (Below.heap_setCell _ _ _ _ hb).trans (h.2 b hb hlt)⟩
set_option maxHeartbeats 2000000 in
theorem deleteP_any (g cap n : Nat) (A B : Ps) (s : Nat × Nat) (cur : Array Value) (w : World) (hg : w.heap[g]? = some (.cells cur 38 (0, 0))) (hsz : cur.size = cap * 2) (ki k1 : Int) (hki : ki = A.length) (hk1 : k1 = (A.length : Int) + 1) (hn : n = (A ++ s :: B).length) (hnc : n ≤ cap) (hcm : cap ≤ maxLen) (ht : cur.toList.take (n * 2) = prs (A ++ s :: B)) :
    Calls Try.prog 38 #[.slice (some ⟨g, 0, none⟩) n cap, .int .i64 ki, .int .i64 k1] w fun e w' => e = .returned (.slice (some ⟨g, 0, none⟩) (A.length + B.length) cap) ∧ OnlyB g w w' ∧ SlK w' 2 (some ⟨g, 0, none⟩) (A.length + B.length) (prs (A ++ B)) := by
  have hkk : k1 = ((A.length + 1 : Nat) : Int) := by omega
  rw [hki, hkk]
  clear hki hk1 hkk
  obtain ⟨k, hk⟩ : ∃ k, k = A.length := ⟨_, rfl⟩
  obtain ⟨m, hm⟩ : ∃ m, m = B.length := ⟨_, rfl⟩
  have hnk : n = k + 1 + m := by rw [hn, hk, hm]; simp; omega
  have hcell : ∀ i, i < cap * 2 → ∃ v, cur[i]? = some v ∧ w.cell? ⟨g, i, none⟩ = some v := fun i hi => by
    have hi' : i < cur.size := by omega
    exact ⟨cur[i], Array.getElem?_eq_getElem hi', blk_cell hg (Array.getElem?_eq_getElem hi')⟩
  have hsome : ∀ i, i < cap * 2 → (w.cell? ⟨g, i, none⟩).isSome = true := fun i hi => by
    obtain ⟨v, _, h⟩ := hcell i hi; rw [h]; rfl
  have hfree : ∀ i, w.frozen? ⟨g, i, none⟩ = false := fun i => blk_free i hg
  have hrow : ∀ i, i < n * 2 → w.cell? ⟨g, i, none⟩ = (prs (A ++ s :: B))[i]? := fun i hi => by
    obtain ⟨v, h1, h2⟩ := hcell i (by omega)
    rw [h2, ← ht, List.getElem?_take, if_pos hi, ← h1]; simp
  have lA : (prs A).length = k * 2 := by rw [prs_length, hk]
  have lB : (prs B).length = m * 2 := by rw [prs_length, hm]
  have hall : prs (A ++ s :: B) = prs A ++ (prL s ++ prs B) := by unfold prs; rw [List.flatMap_append, List.flatMap_cons]
  have hlast : ∀ j u, (prs B)[j]? = some u → w.cell? ⟨g, (k + 1) * 2 + j, none⟩ = some u := fun j u hu => by
    have hj : j < (prs B).length := (List.getElem?_eq_some_iff.1 hu).1
    rw [hrow _ (by omega), hall, List.getElem?_append_right (by omega), lA, List.getElem?_append_right (by show 2 ≤ _; omega), show (k + 1) * 2 + j - k * 2 - (prL s).length = j by show _ - 2 = j; omega, hu]
  obtain ⟨W1, hW1⟩ : ∃ W1, W1 = w.drew.setCells g (k * 2) (prs B) := ⟨_, rfl⟩
  obtain ⟨W2, hW2⟩ : ∃ W2, W2 = W1.setCells g ((k + m) * 2) zeroP2 := ⟨_, rfl⟩
  have f1 : ∀ i, W1.frozen? ⟨g, i, none⟩ = false := fun i => by rw [hW1, World.frozen?_setCells]; exact hfree i
  have s1 : ∀ i, i < cap * 2 → (W1.cell? ⟨g, i, none⟩).isSome = true := fun i hi => by rw [hW1]; exact World.isSome_setCells _ _ _ _ _ (hsome i hi)
  have o2 : OnlyB g w W2 := by
    rw [hW2, hW1]
    exact only_setCellsP _ _ _ (only_setCellsP _ _ _ ⟨fun B _ => Below.drew (Below.refl _ _), fun _ _ _ => rfl⟩)
  have r2 : SlK W2 2 (some ⟨g, 0, none⟩) (k + m) (prs (A ++ B)) := by
    refine ⟨by rw [prs_length, List.length_append, ← hk, ← hm], by omega, .inr ⟨g, 0, rfl, fun j u hu => ?_⟩⟩
    have hj : j < (prs (A ++ B)).length := (List.getElem?_eq_some_iff.1 hu).1
    rw [prs_length, List.length_append, ← hk, ← hm] at hj
    rw [Nat.zero_add, hW2, World.cell?_setCells_out _ _ _ _ _ (fun _ _ => .inl (by show j < _; omega)), hW1]
    have hsp : prs (A ++ B) = prs A ++ prs B := by unfold prs; rw [List.flatMap_append]
    rw [hsp] at hu
    by_cases c : j < k * 2
    · rw [World.cell?_setCells_out _ _ _ _ _ (fun _ _ => .inl (by show j < _; omega))]
      show w.cell? _ = _
      rw [hrow j (by omega), hall, List.getElem?_append_left (by omega)]
      rwa [List.getElem?_append_left (by omega)] at hu
    · rw [List.getElem?_append_right (by omega), lA] at hu
      have hj2 : j - k * 2 < (prs B).length := (List.getElem?_eq_some_iff.1 hu).1
      have := World.cell?_setCells_in g (prs B) (k * 2) w.drew (fun t ht => hsome _ (by omega)) (j - k * 2) hj2
      rw [show k * 2 + (j - k * 2) = j by omega] at this
      rw [this, ← hu, List.getElem?_eq_getElem hj2]
  have hcl : ∀ ty, (Builtin.clear_ #[24] ty #[.slice (some ⟨g, (k + m) * 2, none⟩) 1 (cap - (k + m))]).run Try.prog W1 = .ok (.tuple #[]) (W1.setCells g ((k + m) * 2) zeroP2) := fun ty =>
    run_clear_pair W1 ty g ((k + m) * 2) _ (fun j hj => s1 _ (by omega)) (fun j _ => f1 _)
  rw [← hW2] at hcl
  obtain ⟨Ad, hA, hsrc⟩ : ∃ Ad : Addr, (if cap = k + 1 then some (⟨g, 0, none⟩ : Addr) else some ⟨g, (k + 1) * 2, none⟩) = some Ad ∧ (∀ t u, (prs B)[t]? = some u → w.drew.cell? (Ad.add t) = some u) := by
    by_cases h : cap = k + 1
    · refine ⟨⟨g, 0, none⟩, by simp [h], fun t u hu => ?_⟩
      have h0 : (prs B).length = 0 := by omega
      rw [List.length_eq_zero_iff.1 h0] at hu
      simp at hu
    · refine ⟨⟨g, (k + 1) * 2, none⟩, by simp [h], fun t u hu => ?_⟩
      have hadd : (⟨g, (k + 1) * 2, none⟩ : Addr).add t = ⟨g, (k + 1) * 2 + t, none⟩ := by unfold Addr.add; split <;> simp_all
      rw [hadd]
      exact hlast t u hu
  have sp3 : ∀ t, t < (prs B).length → (w.drew.cell? ⟨g, 0 + k * 2 + t, none⟩).isSome = true ∧ w.drew.frozen? ⟨g, 0 + k * 2 + t, none⟩ = false := fun t ht => ⟨hsome _ (by omega), hfree _⟩
  obtain ⟨i0, hi, hz0, hz1, hz2⟩ := info_parts info_pair
  have hic : k ≤ cap := by omega
  have hjc : k + 1 ≤ cap := by omega
  have hkn1 : k + 1 ≤ n := by omega
  unfold maxLen at hcm
  have hone := prs_one B
  rw [← hk, ← hm]
  clear hn ht hcell hsome hfree hrow hall hlast f1 s1 hg hsz
  subst hnk
  generalize prs (A ++ B) = VS at *
  generalize prs B = news at *
  clear lA hk hm A B
  have hcl2 : ∀ ty, (Builtin.clear_ #[24] ty #[.slice (some ⟨g, (k + m) * 2, none⟩) (k + 1 + m - (k + m)) (cap - (k + m))]).run Try.prog (w.drew.setCells g (k * 2) news) = .ok (.tuple #[]) W2 := fun ty => by
    rw [show k + 1 + m - (k + m) = 1 by omega, ← hW1]; exact hcl ty
  have hW1 : W1 = w.drew.setCells g (0 + k * 2) news := by rw [Nat.zero_add]; exact hW1
  clear hcl
  have mixed : Try.prog.follows .mixedOrders = true := by kernel_rfl
  have z1 : (0 : Int) ≤ (k : Int) + 1 := by omega
  have z2 : (k : Int) + 1 ≤ (k : Int) + 1 + (m : Int) := by omega
  have z3 : (0 : Int) ≤ (k : Int) := by omega
  have z4 : (k : Int) ≤ (k : Int) + 1 + (m : Int) := by omega
  have z5 : (0 : Int) ≤ (k : Int) + (m : Int) := by omega
  have z6 : (k : Int) + (m : Int) ≤ (k : Int) + 1 + (m : Int) := by omega
  have lB'h := Lib.hid lB
  have hW1'h := Lib.hid hW1
  have o2'h := Lib.hid o2
  have r2'h := Lib.hid r2
  have hsrc'h := Lib.hid hsrc
  have sp3'h := Lib.hid sp3
  have hone'h := Lib.hid hone
  have hW2'h := Lib.hid hW2
  clear lB hW1 o2 r2 hsrc sp3 hone hW2
  go_enter Try.func38, Try.ntmps38
  go_wp2_with fail
  go_region_law_o (refine step_append_room rfl (.tmp 22) (.tmp 25) 24 rfl 38 i0 2 Try.underlying24 hi hz1 g 0 k cap (by simp [Act.eval, Act.put]) Ad m (cap - (k + 1)) news (by simp [Act.eval, Act.put]) lB'h.out hsrc'h.out hone'h.out (by omega) sp3'h.out ?_; rw [← hW1'h.out])
  go_wp2
  go_ret
  exact ⟨rfl, o2'h.out, r2'h.out⟩
end Go.Proofs.Ythfeiiibedmkiaa
