/-
  Several texts of mine in one: GroupR GroupS GroupT GroupU GroupV GroupX GroupEq GroupW GroupCmp GroupLaw GroupLawB.
-/
import Derived.Test.YtfoohdjgnphdgaaGroupJ
import Derived.Test.YtfoohdjgnphdgaaRef09
import Derived.Test.YtfoohdjgnphdgaaLanesT
import Derived.WalkSpells
import Derived.DeepKeys
/-
  The document's groups: which may be, which are the same.
-/
set_option linter.unusedSimpArgs false
set_option linter.unusedVariables false
set_option maxRecDepth 100000
namespace Go.Proofs.Ytfoohdjgnphdgaa
open Go.RowKit

theorem rgfull_any (g : Gp) (n : Nat) (w : World) (hg : GpOk g) (hn : n < 8) : Calls Try.prog 27 #[.agg (gpA g), .int .i64 n] w fun e w' => e = .returned (.bool (fullAt g.c n)) ∧ Below w.heap.size w w' := by
  have F := fun w => rfull_any g.c n w hg.c hn
  obtain ⟨W, hW⟩ : ∃ W, W = w.alloc (.cells (gpA g) 25) := ⟨_, rfl⟩
  have hO := (Hs.nil w).new (gpA g) 25
  rw [← hW] at hO
  have c0 := gp_ctrl hO.rows.1
  have F'h := Lib.hid F
  have hO'h := Lib.hid hO
  have hg'h := Lib.hid hg
  clear F hO hg
  go_enter Try.func27, Try.ntmps27
  go_upto_region 1 with fail
  rw [← hW]
  clear hW
  go_wp2_with (first | (go_at_call 53; refine (F'h.out _).mono ?_; rintro e w2 ⟨rfl, hw2⟩; obtain rfl := hw2.symm))
  go_ret
  exact ⟨rfl, hO'h.out.old⟩
def pairB (g : Gp) (i k : Nat) : Bool := fullAt g.c i && (fullAt g.c k && g.k i == g.k k)
theorem pair_bad {g : Gp} {i k : Nat} (hi : i < 8) (hk : k < i) (h : pairB g i k = true) : rightG g = false := by
  unfold rightG
  have : distinctG g = false := by
    rw [← Bool.not_eq_true, distinctG_iff]
    intro hd
    unfold pairB at h
    simp at h
    exact hd i hi k hk h.1 h.2.1 h.2.2
  rw [this]; rfl
theorem pair_good {g : Gp} (h : ∀ i, i < 8 → ∀ k, k < i → pairB g i k = false) : rightG g = rightW g.c := by
  unfold rightG
  have : distinctG g = true := by
    rw [distinctG_iff]
    intro i hi j hj f1 f2 e
    have := h i hi j hj
    unfold pairB at this
    rw [f1, f2, e] at this
    simp at this
  rw [this]; rfl
set_option maxHeartbeats 10000000 in
theorem rgright_any (g : Gp) (w : World) (hg : GpOk g) : Calls Try.prog 9 #[.agg (gpA g)] w fun e w' => e = .returned (.bool (rightG g)) ∧ Below w.heap.size w w' := by
  have R := fun w => rright_any g.c w hg.c
  have F := fun n w hn => rgfull_any g n w hg hn
  have hO := (Hs.nil w).new (gpA g) 25
  have hbad := fun i k hi hk h => @pair_bad g i k hi hk h
  have hgood := @pair_good g
  obtain ⟨z, hz⟩ : ∃ z, z = rightG g := ⟨_, rfl⟩
  rw [← hz]
  rw [← hz] at hgood
  simp only [← hz] at hbad
  have R'h := Lib.hid R
  have F'h := Lib.hid F
  have hO'h := Lib.hid hO
  have hbad'h := Lib.hid hbad
  have hgood'h := Lib.hid hgood
  have hg'h := Lib.hid hg
  have hz'h := Lib.hid hz
  clear R F hO hbad hgood hg hz
  go_enter Try.func9, Try.ntmps9
  go_wp2
  have hO := hO'h.out
  generalize w.alloc _ = W0 at hO ⊢
  have hO'h := Lib.hid hO
  clear hO
  go_loopg [5] 8 (fun q i wr => ∃ k : Nat, k + q = 8 ∧ i = .int .i64 k ∧ (∀ i', i' < k → ∀ j, j < i' → pairB g i' j = false) ∧ Hs w [(w.heap.size, gpA g, 25)] wr)
  case atStart => exact ⟨0, rfl, rfl, fun i hi => absurd hi (by omega), hO'h.out⟩
  case round =>
    obtain ⟨i, hq, rfl, hno, hH⟩ := hrel
    by_cases hi8 : i < 8
    · have hi1 : (i : Int) < 8 := by omega
      have hq'h := Lib.hid hq
      have hno'h := Lib.hid hno
      have hi8'h := Lib.hid hi8
      clear hq hno hi8
      have hH'h := Lib.hid hH
      clear hH
      go_wp2
      obtain ⟨go, rfl⟩ : ∃ go : Nat, go = gk := ⟨gk, rfl⟩
      go_loopg [9] i (fun q' k wr' => ∃ j : Nat, j + q' = i ∧ k = .int .i64 j ∧ (∀ j', j' < j → pairB g i j' = false) ∧ Hs w [(w.heap.size, gpA g, 25)] wr')
      case atStart => exact ⟨0, by omega, rfl, fun j hj => absurd hj (by omega), hH'h.out⟩
      case round =>
        obtain ⟨j, hq2, rfl, hno2, hH2⟩ := hrel
        by_cases hji : j < i
        · have hj1 : (j : Int) < (i : Int) := by omega
          have hj8 : j < 8 := by have := hi8'h.out; omega
          have hj18 : (j : Int) < 8 := by omega
          have h0i : (0 : Int) ≤ (i : Int) := by omega
          have h0j : (0 : Int) ≤ (j : Int) := by omega
          have hq2'h := Lib.hid hq2
          have hno2'h := Lib.hid hno2
          have hji'h := Lib.hid hji
          clear hq2 hno2 hji
          have hH2'h := Lib.hid hH2
          clear hH2
          go_upto_region 7 with fail
          have H7 := hH2'h.out.drew
          have FI := fun w => F'h.out i w hi8'h.out
          have FJ := fun w => F'h.out j w hj8
          cases hfi : fullAt g.c i with
          | false =>
            have hp : pairB g i j = false := by unfold pairB; rw [hfi]; rfl
            rw [hfi] at FI
            clear hfi
            have hp'h := Lib.hid hp
            have FI'h := Lib.hid FI
            have FJ'h := Lib.hid FJ
            clear hp FI FJ
            refine wp_region_heldQ (fun w' => w'.heap[w.heap.size]? = some (.cells (gpA g) 25 (0, 0))) 99 (by kernel_rfl) ?_
            refine wpAnyF_take (i := 0) (v := .agg (gpA g)) rfl (by kernel_rfl) (by kernel_rfl) (by kernel_rfl) (by kernel_rfl) (fun _ _ _ h => h) (Or.inl ⟨by kernel_rfl, fun w hSw => run_load_agg (by rfl) (by rfl) hSw Try.underlying25 rfl infoGp⟩) H7.rows.1 ?_; try simp only [Act.put, List.getElem_toArray, List.getElem_cons_succ, List.getElem_cons_zero, List.setIfInBounds_toArray, List.set_cons_zero, List.set_cons_succ]
            refine wpAnyF_take (i := 1) (v := .int .i64 i) rfl (by kernel_rfl) (by kernel_rfl) (by kernel_rfl) (by kernel_rfl) (fun _ _ _ h => h) (Or.inl ⟨by kernel_rfl, fun w hSw => by (try dsimp only at hSw); go_simp⟩) H7.rows.1 ?_; try simp only [Act.put, List.getElem_toArray, List.getElem_cons_succ, List.getElem_cons_zero, List.setIfInBounds_toArray, List.set_cons_zero, List.set_cons_succ]
            refine wpAnyF_one (i := 2) (by kernel_rfl) rfl (fun K hK => ?_); go_simp
            refine (FI'h.out _).mono ?_
            rintro e w5 ⟨rfl, hb⟩
            dsimp only
            have H8 := H7.next hb
            clear hb
            refine hK.out _ _ (fun _ => H8.rows.1) ?_; clear hK K; try simp only [Act.put, List.getElem_toArray, List.getElem_cons_succ, List.getElem_cons_zero, List.setIfInBounds_toArray, List.set_cons_zero, List.set_cons_succ]
            refine wpAnyF_take (i := 3) (v := .bool false) rfl (by kernel_rfl) (by kernel_rfl) (by kernel_rfl) (by kernel_rfl) (fun _ _ _ h => h) (Or.inl ⟨by kernel_rfl, fun w hSw => by (try dsimp only at hSw); go_simp⟩) H8.rows.1 ?_; try simp only [Act.put, List.getElem_toArray, List.getElem_cons_succ, List.getElem_cons_zero, List.setIfInBounds_toArray, List.set_cons_zero, List.set_cons_succ]
            refine wpAnyF_take (i := 4) (v := undef) rfl (by kernel_rfl) (by kernel_rfl) (by kernel_rfl) (by kernel_rfl) (fun _ _ _ h => h) (Or.inr ⟨by kernel_rfl, rfl⟩) H8.rows.1 ?_; try simp only [Act.put, List.getElem_toArray, List.getElem_cons_succ, List.getElem_cons_zero, List.setIfInBounds_toArray, List.set_cons_zero, List.set_cons_succ]
            refine wpAnyF_take (i := 5) (v := undef) rfl (by kernel_rfl) (by kernel_rfl) (by kernel_rfl) (by kernel_rfl) (fun _ _ _ h => h) (Or.inr ⟨by kernel_rfl, rfl⟩) H8.rows.1 ?_; try simp only [Act.put, List.getElem_toArray, List.getElem_cons_succ, List.getElem_cons_zero, List.setIfInBounds_toArray, List.set_cons_zero, List.set_cons_succ]
            refine wpAnyF_take (i := 6) (v := undef) rfl (by kernel_rfl) (by kernel_rfl) (by kernel_rfl) (by kernel_rfl) (fun _ _ _ h => h) (Or.inr ⟨by kernel_rfl, rfl⟩) H8.rows.1 ?_; try simp only [Act.put, List.getElem_toArray, List.getElem_cons_succ, List.getElem_cons_zero, List.setIfInBounds_toArray, List.set_cons_zero, List.set_cons_succ]
            refine wpAnyF_take (i := 7) (v := .bool false) rfl (by kernel_rfl) (by kernel_rfl) (by kernel_rfl) (by kernel_rfl) (fun _ _ _ h => h) (Or.inl ⟨by kernel_rfl, fun w hSw => by (try dsimp only at hSw); go_simp⟩) H8.rows.1 ?_; try simp only [Act.put, List.getElem_toArray, List.getElem_cons_succ, List.getElem_cons_zero, List.setIfInBounds_toArray, List.set_cons_zero, List.set_cons_succ]
            refine wpAnyF_take (i := 8) (v := .bool false) rfl (by kernel_rfl) (by kernel_rfl) (by kernel_rfl) (by kernel_rfl) (fun _ _ _ h => h) (Or.inl ⟨by kernel_rfl, fun w hSw => by (try dsimp only at hSw); go_simp⟩) H8.rows.1 ?_; try simp only [Act.put, List.getElem_toArray, List.getElem_cons_succ, List.getElem_cons_zero, List.setIfInBounds_toArray, List.set_cons_zero, List.set_cons_succ]
            refine wpAnyF_take (i := 9) (v := undef) rfl (by kernel_rfl) (by kernel_rfl) (by kernel_rfl) (by kernel_rfl) (fun _ _ _ h => h) (Or.inr ⟨by kernel_rfl, rfl⟩) H8.rows.1 ?_; try simp only [Act.put, List.getElem_toArray, List.getElem_cons_succ, List.getElem_cons_zero, List.setIfInBounds_toArray, List.set_cons_zero, List.set_cons_succ]
            refine wpAnyF_take (i := 10) (v := undef) rfl (by kernel_rfl) (by kernel_rfl) (by kernel_rfl) (by kernel_rfl) (fun _ _ _ h => h) (Or.inr ⟨by kernel_rfl, rfl⟩) H8.rows.1 ?_; try simp only [Act.put, List.getElem_toArray, List.getElem_cons_succ, List.getElem_cons_zero, List.setIfInBounds_toArray, List.set_cons_zero, List.set_cons_succ]
            refine wpAnyF_take (i := 11) (v := undef) rfl (by kernel_rfl) (by kernel_rfl) (by kernel_rfl) (by kernel_rfl) (fun _ _ _ h => h) (Or.inr ⟨by kernel_rfl, rfl⟩) H8.rows.1 ?_; try simp only [Act.put, List.getElem_toArray, List.getElem_cons_succ, List.getElem_cons_zero, List.setIfInBounds_toArray, List.set_cons_zero, List.set_cons_succ]
            refine wpAnyF_take (i := 12) (v := undef) rfl (by kernel_rfl) (by kernel_rfl) (by kernel_rfl) (by kernel_rfl) (fun _ _ _ h => h) (Or.inr ⟨by kernel_rfl, rfl⟩) H8.rows.1 ?_; try simp only [Act.put, List.getElem_toArray, List.getElem_cons_succ, List.getElem_cons_zero, List.setIfInBounds_toArray, List.set_cons_zero, List.set_cons_succ]
            refine wpAnyF_take (i := 13) (v := undef) rfl (by kernel_rfl) (by kernel_rfl) (by kernel_rfl) (by kernel_rfl) (fun _ _ _ h => h) (Or.inr ⟨by kernel_rfl, rfl⟩) H8.rows.1 ?_; try simp only [Act.put, List.getElem_toArray, List.getElem_cons_succ, List.getElem_cons_zero, List.setIfInBounds_toArray, List.set_cons_zero, List.set_cons_succ]
            refine wpAnyF_take (i := 14) (v := undef) rfl (by kernel_rfl) (by kernel_rfl) (by kernel_rfl) (by kernel_rfl) (fun _ _ _ h => h) (Or.inr ⟨by kernel_rfl, rfl⟩) H8.rows.1 ?_; try simp only [Act.put, List.getElem_toArray, List.getElem_cons_succ, List.getElem_cons_zero, List.setIfInBounds_toArray, List.set_cons_zero, List.set_cons_succ]
            refine wpAnyF_take (i := 15) (v := undef) rfl (by kernel_rfl) (by kernel_rfl) (by kernel_rfl) (by kernel_rfl) (fun _ _ _ h => h) (Or.inr ⟨by kernel_rfl, rfl⟩) H8.rows.1 ?_; try simp only [Act.put, List.getElem_toArray, List.getElem_cons_succ, List.getElem_cons_zero, List.setIfInBounds_toArray, List.set_cons_zero, List.set_cons_succ]
            refine wpAnyF_take (i := 16) (v := undef) rfl (by kernel_rfl) (by kernel_rfl) (by kernel_rfl) (by kernel_rfl) (fun _ _ _ h => h) (Or.inr ⟨by kernel_rfl, rfl⟩) H8.rows.1 ?_; try simp only [Act.put, List.getElem_toArray, List.getElem_cons_succ, List.getElem_cons_zero, List.setIfInBounds_toArray, List.set_cons_zero, List.set_cons_succ]
            refine wpAnyF_take (i := 17) (v := undef) rfl (by kernel_rfl) (by kernel_rfl) (by kernel_rfl) (by kernel_rfl) (fun _ _ _ h => h) (Or.inr ⟨by kernel_rfl, rfl⟩) H8.rows.1 ?_; try simp only [Act.put, List.getElem_toArray, List.getElem_cons_succ, List.getElem_cons_zero, List.setIfInBounds_toArray, List.set_cons_zero, List.set_cons_succ]
            refine wpAnyF_take (i := 18) (v := .bool false) rfl (by kernel_rfl) (by kernel_rfl) (by kernel_rfl) (by kernel_rfl) (fun _ _ _ h => h) (Or.inl ⟨by kernel_rfl, fun w hSw => by (try dsimp only at hSw); go_simp⟩) H8.rows.1 ?_; try simp only [Act.put, List.getElem_toArray, List.getElem_cons_succ, List.getElem_cons_zero, List.setIfInBounds_toArray, List.set_cons_zero, List.set_cons_succ]
            refine wpAnyF_done (by kernel_rfl) ?_ _
            refine noPanic_normal ?_
            have H8'h := Lib.hid H8
            clear H8 H7
            go_wp2
            go_roundg (gk - 1)
            case measure => have := hq2'h.out; omega
            case rel => exact ⟨j + 1, by have := hq2'h.out; omega, by go_num, fun j' hj' => by
              by_cases e : j' = j
              · subst e; exact hp'h.out
              · exact hno2'h.out j' (by omega), H8'h.out⟩
          | true =>
            rw [hfi] at FI
            cases hfj : fullAt g.c j with
            | false =>
              have hp : pairB g i j = false := by unfold pairB; rw [hfi, hfj]; rfl
              rw [hfj] at FJ
              clear hfi hfj
              have hp'h := Lib.hid hp
              have FI'h := Lib.hid FI
              have FJ'h := Lib.hid FJ
              clear hp FI FJ
              refine wp_region_heldQ (fun w' => w'.heap[w.heap.size]? = some (.cells (gpA g) 25 (0, 0))) 99 (by kernel_rfl) ?_
              refine wpAnyF_take (i := 0) (v := .agg (gpA g)) rfl (by kernel_rfl) (by kernel_rfl) (by kernel_rfl) (by kernel_rfl) (fun _ _ _ h => h) (Or.inl ⟨by kernel_rfl, fun w hSw => run_load_agg (by rfl) (by rfl) hSw Try.underlying25 rfl infoGp⟩) H7.rows.1 ?_; try simp only [Act.put, List.getElem_toArray, List.getElem_cons_succ, List.getElem_cons_zero, List.setIfInBounds_toArray, List.set_cons_zero, List.set_cons_succ]
              refine wpAnyF_take (i := 1) (v := .int .i64 i) rfl (by kernel_rfl) (by kernel_rfl) (by kernel_rfl) (by kernel_rfl) (fun _ _ _ h => h) (Or.inl ⟨by kernel_rfl, fun w hSw => by (try dsimp only at hSw); go_simp⟩) H7.rows.1 ?_; try simp only [Act.put, List.getElem_toArray, List.getElem_cons_succ, List.getElem_cons_zero, List.setIfInBounds_toArray, List.set_cons_zero, List.set_cons_succ]
              refine wpAnyF_one (i := 2) (by kernel_rfl) rfl (fun K hK => ?_); go_simp
              refine (FI'h.out _).mono ?_
              rintro e w5 ⟨rfl, hb⟩
              dsimp only
              have H8 := H7.next hb
              clear hb
              refine hK.out _ _ (fun _ => H8.rows.1) ?_; clear hK K; try simp only [Act.put, List.getElem_toArray, List.getElem_cons_succ, List.getElem_cons_zero, List.setIfInBounds_toArray, List.set_cons_zero, List.set_cons_succ]
              refine wpAnyF_take (i := 3) (v := .bool true) rfl (by kernel_rfl) (by kernel_rfl) (by kernel_rfl) (by kernel_rfl) (fun _ _ _ h => h) (Or.inl ⟨by kernel_rfl, fun w hSw => by (try dsimp only at hSw); go_simp⟩) H8.rows.1 ?_; try simp only [Act.put, List.getElem_toArray, List.getElem_cons_succ, List.getElem_cons_zero, List.setIfInBounds_toArray, List.set_cons_zero, List.set_cons_succ]
              refine wpAnyF_take (i := 4) (v := .agg (gpA g)) rfl (by kernel_rfl) (by kernel_rfl) (by kernel_rfl) (by kernel_rfl) (fun _ _ _ h => h) (Or.inl ⟨by kernel_rfl, fun w hSw => run_load_agg (by rfl) (by rfl) hSw Try.underlying25 rfl infoGp⟩) H8.rows.1 ?_; try simp only [Act.put, List.getElem_toArray, List.getElem_cons_succ, List.getElem_cons_zero, List.setIfInBounds_toArray, List.set_cons_zero, List.set_cons_succ]
              refine wpAnyF_take (i := 5) (v := .int .i64 j) rfl (by kernel_rfl) (by kernel_rfl) (by kernel_rfl) (by kernel_rfl) (fun _ _ _ h => h) (Or.inl ⟨by kernel_rfl, fun w hSw => by (try dsimp only at hSw); go_simp⟩) H8.rows.1 ?_; try simp only [Act.put, List.getElem_toArray, List.getElem_cons_succ, List.getElem_cons_zero, List.setIfInBounds_toArray, List.set_cons_zero, List.set_cons_succ]
              refine wpAnyF_one (i := 6) (by kernel_rfl) rfl (fun K hK => ?_); go_simp
              refine (FJ'h.out _).mono ?_
              rintro e w6 ⟨rfl, hb⟩
              dsimp only
              have H9 := H8.next hb
              clear hb
              refine hK.out _ _ (fun _ => H9.rows.1) ?_; clear hK K; try simp only [Act.put, List.getElem_toArray, List.getElem_cons_succ, List.getElem_cons_zero, List.setIfInBounds_toArray, List.set_cons_zero, List.set_cons_succ]
              refine wpAnyF_take (i := 7) (v := .bool false) rfl (by kernel_rfl) (by kernel_rfl) (by kernel_rfl) (by kernel_rfl) (fun _ _ _ h => h) (Or.inl ⟨by kernel_rfl, fun w hSw => by (try dsimp only at hSw); go_simp⟩) H9.rows.1 ?_; try simp only [Act.put, List.getElem_toArray, List.getElem_cons_succ, List.getElem_cons_zero, List.setIfInBounds_toArray, List.set_cons_zero, List.set_cons_succ]
              refine wpAnyF_take (i := 8) (v := .bool false) rfl (by kernel_rfl) (by kernel_rfl) (by kernel_rfl) (by kernel_rfl) (fun _ _ _ h => h) (Or.inl ⟨by kernel_rfl, fun w hSw => by (try dsimp only at hSw); go_simp⟩) H9.rows.1 ?_; try simp only [Act.put, List.getElem_toArray, List.getElem_cons_succ, List.getElem_cons_zero, List.setIfInBounds_toArray, List.set_cons_zero, List.set_cons_succ]
              refine wpAnyF_take (i := 9) (v := undef) rfl (by kernel_rfl) (by kernel_rfl) (by kernel_rfl) (by kernel_rfl) (fun _ _ _ h => h) (Or.inr ⟨by kernel_rfl, rfl⟩) H9.rows.1 ?_; try simp only [Act.put, List.getElem_toArray, List.getElem_cons_succ, List.getElem_cons_zero, List.setIfInBounds_toArray, List.set_cons_zero, List.set_cons_succ]
              refine wpAnyF_take (i := 10) (v := undef) rfl (by kernel_rfl) (by kernel_rfl) (by kernel_rfl) (by kernel_rfl) (fun _ _ _ h => h) (Or.inr ⟨by kernel_rfl, rfl⟩) H9.rows.1 ?_; try simp only [Act.put, List.getElem_toArray, List.getElem_cons_succ, List.getElem_cons_zero, List.setIfInBounds_toArray, List.set_cons_zero, List.set_cons_succ]
              refine wpAnyF_take (i := 11) (v := undef) rfl (by kernel_rfl) (by kernel_rfl) (by kernel_rfl) (by kernel_rfl) (fun _ _ _ h => h) (Or.inr ⟨by kernel_rfl, rfl⟩) H9.rows.1 ?_; try simp only [Act.put, List.getElem_toArray, List.getElem_cons_succ, List.getElem_cons_zero, List.setIfInBounds_toArray, List.set_cons_zero, List.set_cons_succ]
              refine wpAnyF_take (i := 12) (v := undef) rfl (by kernel_rfl) (by kernel_rfl) (by kernel_rfl) (by kernel_rfl) (fun _ _ _ h => h) (Or.inr ⟨by kernel_rfl, rfl⟩) H9.rows.1 ?_; try simp only [Act.put, List.getElem_toArray, List.getElem_cons_succ, List.getElem_cons_zero, List.setIfInBounds_toArray, List.set_cons_zero, List.set_cons_succ]
              refine wpAnyF_take (i := 13) (v := undef) rfl (by kernel_rfl) (by kernel_rfl) (by kernel_rfl) (by kernel_rfl) (fun _ _ _ h => h) (Or.inr ⟨by kernel_rfl, rfl⟩) H9.rows.1 ?_; try simp only [Act.put, List.getElem_toArray, List.getElem_cons_succ, List.getElem_cons_zero, List.setIfInBounds_toArray, List.set_cons_zero, List.set_cons_succ]
              refine wpAnyF_take (i := 14) (v := undef) rfl (by kernel_rfl) (by kernel_rfl) (by kernel_rfl) (by kernel_rfl) (fun _ _ _ h => h) (Or.inr ⟨by kernel_rfl, rfl⟩) H9.rows.1 ?_; try simp only [Act.put, List.getElem_toArray, List.getElem_cons_succ, List.getElem_cons_zero, List.setIfInBounds_toArray, List.set_cons_zero, List.set_cons_succ]
              refine wpAnyF_take (i := 15) (v := undef) rfl (by kernel_rfl) (by kernel_rfl) (by kernel_rfl) (by kernel_rfl) (fun _ _ _ h => h) (Or.inr ⟨by kernel_rfl, rfl⟩) H9.rows.1 ?_; try simp only [Act.put, List.getElem_toArray, List.getElem_cons_succ, List.getElem_cons_zero, List.setIfInBounds_toArray, List.set_cons_zero, List.set_cons_succ]
              refine wpAnyF_take (i := 16) (v := undef) rfl (by kernel_rfl) (by kernel_rfl) (by kernel_rfl) (by kernel_rfl) (fun _ _ _ h => h) (Or.inr ⟨by kernel_rfl, rfl⟩) H9.rows.1 ?_; try simp only [Act.put, List.getElem_toArray, List.getElem_cons_succ, List.getElem_cons_zero, List.setIfInBounds_toArray, List.set_cons_zero, List.set_cons_succ]
              refine wpAnyF_take (i := 17) (v := undef) rfl (by kernel_rfl) (by kernel_rfl) (by kernel_rfl) (by kernel_rfl) (fun _ _ _ h => h) (Or.inr ⟨by kernel_rfl, rfl⟩) H9.rows.1 ?_; try simp only [Act.put, List.getElem_toArray, List.getElem_cons_succ, List.getElem_cons_zero, List.setIfInBounds_toArray, List.set_cons_zero, List.set_cons_succ]
              refine wpAnyF_take (i := 18) (v := .bool false) rfl (by kernel_rfl) (by kernel_rfl) (by kernel_rfl) (by kernel_rfl) (fun _ _ _ h => h) (Or.inl ⟨by kernel_rfl, fun w hSw => by (try dsimp only at hSw); go_simp⟩) H9.rows.1 ?_; try simp only [Act.put, List.getElem_toArray, List.getElem_cons_succ, List.getElem_cons_zero, List.setIfInBounds_toArray, List.set_cons_zero, List.set_cons_succ]
              refine wpAnyF_done (by kernel_rfl) ?_ _
              refine noPanic_normal ?_
              have H9'h := Lib.hid H9
              clear H9 H7 H8
              go_wp2
              go_roundg (gk - 1)
              case measure => have := hq2'h.out; omega
              case rel => exact ⟨j + 1, by have := hq2'h.out; omega, by go_num, fun j' hj' => by
                by_cases e : j' = j
                · subst e; exact hp'h.out
                · exact hno2'h.out j' (by omega), H9'h.out⟩
            | true =>
              rw [hfj] at FJ
              cases hd : ((g.k i : Int) == (g.k j : Int)) with
              | false =>
                have hp : pairB g i j = false := by unfold pairB; rw [hfi, hfj]; simp at hd ⊢; omega
                clear hfi hfj
                have hp'h := Lib.hid hp
                have FI'h := Lib.hid FI
                have FJ'h := Lib.hid FJ
                clear hp FI FJ
                refine wp_region_heldQ (fun w' => w'.heap[w.heap.size]? = some (.cells (gpA g) 25 (0, 0))) 99 (by kernel_rfl) ?_
                refine wpAnyF_take (i := 0) (v := .agg (gpA g)) rfl (by kernel_rfl) (by kernel_rfl) (by kernel_rfl) (by kernel_rfl) (fun _ _ _ h => h) (Or.inl ⟨by kernel_rfl, fun w hSw => run_load_agg (by rfl) (by rfl) hSw Try.underlying25 rfl infoGp⟩) H7.rows.1 ?_; try simp only [Act.put, List.getElem_toArray, List.getElem_cons_succ, List.getElem_cons_zero, List.setIfInBounds_toArray, List.set_cons_zero, List.set_cons_succ]
                refine wpAnyF_take (i := 1) (v := .int .i64 i) rfl (by kernel_rfl) (by kernel_rfl) (by kernel_rfl) (by kernel_rfl) (fun _ _ _ h => h) (Or.inl ⟨by kernel_rfl, fun w hSw => by (try dsimp only at hSw); go_simp⟩) H7.rows.1 ?_; try simp only [Act.put, List.getElem_toArray, List.getElem_cons_succ, List.getElem_cons_zero, List.setIfInBounds_toArray, List.set_cons_zero, List.set_cons_succ]
                refine wpAnyF_one (i := 2) (by kernel_rfl) rfl (fun K hK => ?_); go_simp
                refine (FI'h.out _).mono ?_
                rintro e w5 ⟨rfl, hb⟩
                dsimp only
                have H8 := H7.next hb
                clear hb
                refine hK.out _ _ (fun _ => H8.rows.1) ?_; clear hK K; try simp only [Act.put, List.getElem_toArray, List.getElem_cons_succ, List.getElem_cons_zero, List.setIfInBounds_toArray, List.set_cons_zero, List.set_cons_succ]
                refine wpAnyF_take (i := 3) (v := .bool true) rfl (by kernel_rfl) (by kernel_rfl) (by kernel_rfl) (by kernel_rfl) (fun _ _ _ h => h) (Or.inl ⟨by kernel_rfl, fun w hSw => by (try dsimp only at hSw); go_simp⟩) H8.rows.1 ?_; try simp only [Act.put, List.getElem_toArray, List.getElem_cons_succ, List.getElem_cons_zero, List.setIfInBounds_toArray, List.set_cons_zero, List.set_cons_succ]
                refine wpAnyF_take (i := 4) (v := .agg (gpA g)) rfl (by kernel_rfl) (by kernel_rfl) (by kernel_rfl) (by kernel_rfl) (fun _ _ _ h => h) (Or.inl ⟨by kernel_rfl, fun w hSw => run_load_agg (by rfl) (by rfl) hSw Try.underlying25 rfl infoGp⟩) H8.rows.1 ?_; try simp only [Act.put, List.getElem_toArray, List.getElem_cons_succ, List.getElem_cons_zero, List.setIfInBounds_toArray, List.set_cons_zero, List.set_cons_succ]
                refine wpAnyF_take (i := 5) (v := .int .i64 j) rfl (by kernel_rfl) (by kernel_rfl) (by kernel_rfl) (by kernel_rfl) (fun _ _ _ h => h) (Or.inl ⟨by kernel_rfl, fun w hSw => by (try dsimp only at hSw); go_simp⟩) H8.rows.1 ?_; try simp only [Act.put, List.getElem_toArray, List.getElem_cons_succ, List.getElem_cons_zero, List.setIfInBounds_toArray, List.set_cons_zero, List.set_cons_succ]
                refine wpAnyF_one (i := 6) (by kernel_rfl) rfl (fun K hK => ?_); go_simp
                refine (FJ'h.out _).mono ?_
                rintro e w6 ⟨rfl, hb⟩
                dsimp only
                have H9 := H8.next hb
                clear hb
                refine hK.out _ _ (fun _ => H9.rows.1) ?_; clear hK K; try simp only [Act.put, List.getElem_toArray, List.getElem_cons_succ, List.getElem_cons_zero, List.setIfInBounds_toArray, List.set_cons_zero, List.set_cons_succ]
                refine wpAnyF_take (i := 7) (v := .bool true) rfl (by kernel_rfl) (by kernel_rfl) (by kernel_rfl) (by kernel_rfl) (fun _ _ _ h => h) (Or.inl ⟨by kernel_rfl, fun w hSw => by (try dsimp only at hSw); go_simp⟩) H9.rows.1 ?_; try simp only [Act.put, List.getElem_toArray, List.getElem_cons_succ, List.getElem_cons_zero, List.setIfInBounds_toArray, List.set_cons_zero, List.set_cons_succ]
                refine wpAnyF_take (i := 8) (v := .bool true) rfl (by kernel_rfl) (by kernel_rfl) (by kernel_rfl) (by kernel_rfl) (fun _ _ _ h => h) (Or.inl ⟨by kernel_rfl, fun w hSw => by (try dsimp only at hSw); go_simp⟩) H9.rows.1 ?_; try simp only [Act.put, List.getElem_toArray, List.getElem_cons_succ, List.getElem_cons_zero, List.setIfInBounds_toArray, List.set_cons_zero, List.set_cons_succ]
                refine wpAnyF_take (i := 9) (v := .int .i64 i) rfl (by kernel_rfl) (by kernel_rfl) (by kernel_rfl) (by kernel_rfl) (fun _ _ _ h => h) (Or.inl ⟨by kernel_rfl, fun w hSw => by (try dsimp only at hSw); go_simp⟩) H9.rows.1 ?_; try simp only [Act.put, List.getElem_toArray, List.getElem_cons_succ, List.getElem_cons_zero, List.setIfInBounds_toArray, List.set_cons_zero, List.set_cons_succ]
                refine wpAnyF_take (i := 10) (v := .pointer (some ⟨w.heap.size, 1, none⟩)) rfl (by kernel_rfl) (by kernel_rfl) (by kernel_rfl) (by kernel_rfl) (fun _ _ _ h => h) (Or.inl ⟨by kernel_rfl, fun w hSw => by (try dsimp only at hSw); go_simp⟩) H9.rows.1 ?_; try simp only [Act.put, List.getElem_toArray, List.getElem_cons_succ, List.getElem_cons_zero, List.setIfInBounds_toArray, List.set_cons_zero, List.set_cons_succ]
                refine wpAnyF_take (i := 11) (v := .pointer (some ⟨w.heap.size, 1 + i, none⟩)) rfl (by kernel_rfl) (by kernel_rfl) (by kernel_rfl) (by kernel_rfl) (fun _ _ _ h => h) (Or.inl ⟨by kernel_rfl, fun w hSw => by (try dsimp only at hSw); go_simp⟩) H9.rows.1 ?_; try simp only [Act.put, List.getElem_toArray, List.getElem_cons_succ, List.getElem_cons_zero, List.setIfInBounds_toArray, List.set_cons_zero, List.set_cons_succ]
                refine wpAnyF_take (i := 12) (v := .int .u64 (g.k i)) rfl (by kernel_rfl) (by kernel_rfl) (by kernel_rfl) (by kernel_rfl) (fun _ _ _ h => h) (Or.inl ⟨by kernel_rfl, fun w hSw => by have hcc := gp_key hSw hi8'h.out; (try dsimp only at hSw); go_simp⟩) H9.rows.1 ?_; try simp only [Act.put, List.getElem_toArray, List.getElem_cons_succ, List.getElem_cons_zero, List.setIfInBounds_toArray, List.set_cons_zero, List.set_cons_succ]
                refine wpAnyF_take (i := 13) (v := .int .i64 j) rfl (by kernel_rfl) (by kernel_rfl) (by kernel_rfl) (by kernel_rfl) (fun _ _ _ h => h) (Or.inl ⟨by kernel_rfl, fun w hSw => by (try dsimp only at hSw); go_simp⟩) H9.rows.1 ?_; try simp only [Act.put, List.getElem_toArray, List.getElem_cons_succ, List.getElem_cons_zero, List.setIfInBounds_toArray, List.set_cons_zero, List.set_cons_succ]
                refine wpAnyF_take (i := 14) (v := .pointer (some ⟨w.heap.size, 1, none⟩)) rfl (by kernel_rfl) (by kernel_rfl) (by kernel_rfl) (by kernel_rfl) (fun _ _ _ h => h) (Or.inl ⟨by kernel_rfl, fun w hSw => by (try dsimp only at hSw); go_simp⟩) H9.rows.1 ?_; try simp only [Act.put, List.getElem_toArray, List.getElem_cons_succ, List.getElem_cons_zero, List.setIfInBounds_toArray, List.set_cons_zero, List.set_cons_succ]
                refine wpAnyF_take (i := 15) (v := .pointer (some ⟨w.heap.size, 1 + j, none⟩)) rfl (by kernel_rfl) (by kernel_rfl) (by kernel_rfl) (by kernel_rfl) (fun _ _ _ h => h) (Or.inl ⟨by kernel_rfl, fun w hSw => by (try dsimp only at hSw); go_simp⟩) H9.rows.1 ?_; try simp only [Act.put, List.getElem_toArray, List.getElem_cons_succ, List.getElem_cons_zero, List.setIfInBounds_toArray, List.set_cons_zero, List.set_cons_succ]
                refine wpAnyF_take (i := 16) (v := .int .u64 (g.k j)) rfl (by kernel_rfl) (by kernel_rfl) (by kernel_rfl) (by kernel_rfl) (fun _ _ _ h => h) (Or.inl ⟨by kernel_rfl, fun w hSw => by have hcc := gp_key hSw hj8; (try dsimp only at hSw); go_simp⟩) H9.rows.1 ?_; try simp only [Act.put, List.getElem_toArray, List.getElem_cons_succ, List.getElem_cons_zero, List.setIfInBounds_toArray, List.set_cons_zero, List.set_cons_succ]
                refine wpAnyF_take (i := 17) (v := .bool false) rfl (by kernel_rfl) (by kernel_rfl) (by kernel_rfl) (by kernel_rfl) (fun _ _ _ h => h) (Or.inl ⟨by kernel_rfl, fun w hSw => by (try dsimp only at hSw); go_simp⟩) H9.rows.1 ?_; try simp only [Act.put, List.getElem_toArray, List.getElem_cons_succ, List.getElem_cons_zero, List.setIfInBounds_toArray, List.set_cons_zero, List.set_cons_succ]
                refine wpAnyF_take (i := 18) (v := .bool false) rfl (by kernel_rfl) (by kernel_rfl) (by kernel_rfl) (by kernel_rfl) (fun _ _ _ h => h) (Or.inl ⟨by kernel_rfl, fun w hSw => by (try dsimp only at hSw); go_simp⟩) H9.rows.1 ?_; try simp only [Act.put, List.getElem_toArray, List.getElem_cons_succ, List.getElem_cons_zero, List.setIfInBounds_toArray, List.set_cons_zero, List.set_cons_succ]
                refine wpAnyF_done (by kernel_rfl) ?_ _
                refine noPanic_normal ?_
                have H9'h := Lib.hid H9
                clear H9 H7 H8
                go_wp2
                go_roundg (gk - 1)
                case measure => have := hq2'h.out; omega
                case rel => exact ⟨j + 1, by have := hq2'h.out; omega, by go_num, fun j' hj' => by
                  by_cases e : j' = j
                  · subst e; exact hp'h.out
                  · exact hno2'h.out j' (by omega), H9'h.out⟩
              | true =>
                have hp := hbad'h.out i j hi8'h.out hji'h.out (by unfold pairB; rw [hfi, hfj]; simp at hd ⊢; omega)
                clear hfi hfj
                have hp'h := Lib.hid hp
                have FI'h := Lib.hid FI
                have FJ'h := Lib.hid FJ
                clear hp FI FJ
                refine wp_region_heldQ (fun w' => w'.heap[w.heap.size]? = some (.cells (gpA g) 25 (0, 0))) 99 (by kernel_rfl) ?_
                refine wpAnyF_take (i := 0) (v := .agg (gpA g)) rfl (by kernel_rfl) (by kernel_rfl) (by kernel_rfl) (by kernel_rfl) (fun _ _ _ h => h) (Or.inl ⟨by kernel_rfl, fun w hSw => run_load_agg (by rfl) (by rfl) hSw Try.underlying25 rfl infoGp⟩) H7.rows.1 ?_; try simp only [Act.put, List.getElem_toArray, List.getElem_cons_succ, List.getElem_cons_zero, List.setIfInBounds_toArray, List.set_cons_zero, List.set_cons_succ]
                refine wpAnyF_take (i := 1) (v := .int .i64 i) rfl (by kernel_rfl) (by kernel_rfl) (by kernel_rfl) (by kernel_rfl) (fun _ _ _ h => h) (Or.inl ⟨by kernel_rfl, fun w hSw => by (try dsimp only at hSw); go_simp⟩) H7.rows.1 ?_; try simp only [Act.put, List.getElem_toArray, List.getElem_cons_succ, List.getElem_cons_zero, List.setIfInBounds_toArray, List.set_cons_zero, List.set_cons_succ]
                refine wpAnyF_one (i := 2) (by kernel_rfl) rfl (fun K hK => ?_); go_simp
                refine (FI'h.out _).mono ?_
                rintro e w5 ⟨rfl, hb⟩
                dsimp only
                have H8 := H7.next hb
                clear hb
                refine hK.out _ _ (fun _ => H8.rows.1) ?_; clear hK K; try simp only [Act.put, List.getElem_toArray, List.getElem_cons_succ, List.getElem_cons_zero, List.setIfInBounds_toArray, List.set_cons_zero, List.set_cons_succ]
                refine wpAnyF_take (i := 3) (v := .bool true) rfl (by kernel_rfl) (by kernel_rfl) (by kernel_rfl) (by kernel_rfl) (fun _ _ _ h => h) (Or.inl ⟨by kernel_rfl, fun w hSw => by (try dsimp only at hSw); go_simp⟩) H8.rows.1 ?_; try simp only [Act.put, List.getElem_toArray, List.getElem_cons_succ, List.getElem_cons_zero, List.setIfInBounds_toArray, List.set_cons_zero, List.set_cons_succ]
                refine wpAnyF_take (i := 4) (v := .agg (gpA g)) rfl (by kernel_rfl) (by kernel_rfl) (by kernel_rfl) (by kernel_rfl) (fun _ _ _ h => h) (Or.inl ⟨by kernel_rfl, fun w hSw => run_load_agg (by rfl) (by rfl) hSw Try.underlying25 rfl infoGp⟩) H8.rows.1 ?_; try simp only [Act.put, List.getElem_toArray, List.getElem_cons_succ, List.getElem_cons_zero, List.setIfInBounds_toArray, List.set_cons_zero, List.set_cons_succ]
                refine wpAnyF_take (i := 5) (v := .int .i64 j) rfl (by kernel_rfl) (by kernel_rfl) (by kernel_rfl) (by kernel_rfl) (fun _ _ _ h => h) (Or.inl ⟨by kernel_rfl, fun w hSw => by (try dsimp only at hSw); go_simp⟩) H8.rows.1 ?_; try simp only [Act.put, List.getElem_toArray, List.getElem_cons_succ, List.getElem_cons_zero, List.setIfInBounds_toArray, List.set_cons_zero, List.set_cons_succ]
                refine wpAnyF_one (i := 6) (by kernel_rfl) rfl (fun K hK => ?_); go_simp
                refine (FJ'h.out _).mono ?_
                rintro e w6 ⟨rfl, hb⟩
                dsimp only
                have H9 := H8.next hb
                clear hb
                refine hK.out _ _ (fun _ => H9.rows.1) ?_; clear hK K; try simp only [Act.put, List.getElem_toArray, List.getElem_cons_succ, List.getElem_cons_zero, List.setIfInBounds_toArray, List.set_cons_zero, List.set_cons_succ]
                refine wpAnyF_take (i := 7) (v := .bool true) rfl (by kernel_rfl) (by kernel_rfl) (by kernel_rfl) (by kernel_rfl) (fun _ _ _ h => h) (Or.inl ⟨by kernel_rfl, fun w hSw => by (try dsimp only at hSw); go_simp⟩) H9.rows.1 ?_; try simp only [Act.put, List.getElem_toArray, List.getElem_cons_succ, List.getElem_cons_zero, List.setIfInBounds_toArray, List.set_cons_zero, List.set_cons_succ]
                refine wpAnyF_take (i := 8) (v := .bool true) rfl (by kernel_rfl) (by kernel_rfl) (by kernel_rfl) (by kernel_rfl) (fun _ _ _ h => h) (Or.inl ⟨by kernel_rfl, fun w hSw => by (try dsimp only at hSw); go_simp⟩) H9.rows.1 ?_; try simp only [Act.put, List.getElem_toArray, List.getElem_cons_succ, List.getElem_cons_zero, List.setIfInBounds_toArray, List.set_cons_zero, List.set_cons_succ]
                refine wpAnyF_take (i := 9) (v := .int .i64 i) rfl (by kernel_rfl) (by kernel_rfl) (by kernel_rfl) (by kernel_rfl) (fun _ _ _ h => h) (Or.inl ⟨by kernel_rfl, fun w hSw => by (try dsimp only at hSw); go_simp⟩) H9.rows.1 ?_; try simp only [Act.put, List.getElem_toArray, List.getElem_cons_succ, List.getElem_cons_zero, List.setIfInBounds_toArray, List.set_cons_zero, List.set_cons_succ]
                refine wpAnyF_take (i := 10) (v := .pointer (some ⟨w.heap.size, 1, none⟩)) rfl (by kernel_rfl) (by kernel_rfl) (by kernel_rfl) (by kernel_rfl) (fun _ _ _ h => h) (Or.inl ⟨by kernel_rfl, fun w hSw => by (try dsimp only at hSw); go_simp⟩) H9.rows.1 ?_; try simp only [Act.put, List.getElem_toArray, List.getElem_cons_succ, List.getElem_cons_zero, List.setIfInBounds_toArray, List.set_cons_zero, List.set_cons_succ]
                refine wpAnyF_take (i := 11) (v := .pointer (some ⟨w.heap.size, 1 + i, none⟩)) rfl (by kernel_rfl) (by kernel_rfl) (by kernel_rfl) (by kernel_rfl) (fun _ _ _ h => h) (Or.inl ⟨by kernel_rfl, fun w hSw => by (try dsimp only at hSw); go_simp⟩) H9.rows.1 ?_; try simp only [Act.put, List.getElem_toArray, List.getElem_cons_succ, List.getElem_cons_zero, List.setIfInBounds_toArray, List.set_cons_zero, List.set_cons_succ]
                refine wpAnyF_take (i := 12) (v := .int .u64 (g.k i)) rfl (by kernel_rfl) (by kernel_rfl) (by kernel_rfl) (by kernel_rfl) (fun _ _ _ h => h) (Or.inl ⟨by kernel_rfl, fun w hSw => by have hcc := gp_key hSw hi8'h.out; (try dsimp only at hSw); go_simp⟩) H9.rows.1 ?_; try simp only [Act.put, List.getElem_toArray, List.getElem_cons_succ, List.getElem_cons_zero, List.setIfInBounds_toArray, List.set_cons_zero, List.set_cons_succ]
                refine wpAnyF_take (i := 13) (v := .int .i64 j) rfl (by kernel_rfl) (by kernel_rfl) (by kernel_rfl) (by kernel_rfl) (fun _ _ _ h => h) (Or.inl ⟨by kernel_rfl, fun w hSw => by (try dsimp only at hSw); go_simp⟩) H9.rows.1 ?_; try simp only [Act.put, List.getElem_toArray, List.getElem_cons_succ, List.getElem_cons_zero, List.setIfInBounds_toArray, List.set_cons_zero, List.set_cons_succ]
                refine wpAnyF_take (i := 14) (v := .pointer (some ⟨w.heap.size, 1, none⟩)) rfl (by kernel_rfl) (by kernel_rfl) (by kernel_rfl) (by kernel_rfl) (fun _ _ _ h => h) (Or.inl ⟨by kernel_rfl, fun w hSw => by (try dsimp only at hSw); go_simp⟩) H9.rows.1 ?_; try simp only [Act.put, List.getElem_toArray, List.getElem_cons_succ, List.getElem_cons_zero, List.setIfInBounds_toArray, List.set_cons_zero, List.set_cons_succ]
                refine wpAnyF_take (i := 15) (v := .pointer (some ⟨w.heap.size, 1 + j, none⟩)) rfl (by kernel_rfl) (by kernel_rfl) (by kernel_rfl) (by kernel_rfl) (fun _ _ _ h => h) (Or.inl ⟨by kernel_rfl, fun w hSw => by (try dsimp only at hSw); go_simp⟩) H9.rows.1 ?_; try simp only [Act.put, List.getElem_toArray, List.getElem_cons_succ, List.getElem_cons_zero, List.setIfInBounds_toArray, List.set_cons_zero, List.set_cons_succ]
                refine wpAnyF_take (i := 16) (v := .int .u64 (g.k j)) rfl (by kernel_rfl) (by kernel_rfl) (by kernel_rfl) (by kernel_rfl) (fun _ _ _ h => h) (Or.inl ⟨by kernel_rfl, fun w hSw => by have hcc := gp_key hSw hj8; (try dsimp only at hSw); go_simp⟩) H9.rows.1 ?_; try simp only [Act.put, List.getElem_toArray, List.getElem_cons_succ, List.getElem_cons_zero, List.setIfInBounds_toArray, List.set_cons_zero, List.set_cons_succ]
                refine wpAnyF_take (i := 17) (v := .bool true) rfl (by kernel_rfl) (by kernel_rfl) (by kernel_rfl) (by kernel_rfl) (fun _ _ _ h => h) (Or.inl ⟨by kernel_rfl, fun w hSw => by (try dsimp only at hSw); go_simp⟩) H9.rows.1 ?_; try simp only [Act.put, List.getElem_toArray, List.getElem_cons_succ, List.getElem_cons_zero, List.setIfInBounds_toArray, List.set_cons_zero, List.set_cons_succ]
                refine wpAnyF_take (i := 18) (v := .bool true) rfl (by kernel_rfl) (by kernel_rfl) (by kernel_rfl) (by kernel_rfl) (fun _ _ _ h => h) (Or.inl ⟨by kernel_rfl, fun w hSw => by (try dsimp only at hSw); go_simp⟩) H9.rows.1 ?_; try simp only [Act.put, List.getElem_toArray, List.getElem_cons_succ, List.getElem_cons_zero, List.setIfInBounds_toArray, List.set_cons_zero, List.set_cons_succ]
                refine wpAnyF_done (by kernel_rfl) ?_ _
                refine noPanic_normal ?_
                have H9'h := Lib.hid H9
                clear H9 H7 H8
                go_wp2
                go_ret
                exact ⟨by rw [hp'h.out]; rfl, H9'h.out.old⟩
        · have hjj : j = i := by omega
          subst hjj
          have hno2'h := Lib.hid hno2
          have hH2'h := Lib.hid hH2
          have hq2'h := Lib.hid hq2
          clear hno2 hH2 hq2
          clear hji
          go_wp2
          go_roundg (go - 1)
          case measure => have := hq'h.out; omega
          case rel => exact ⟨j + 1, by have := hq'h.out; omega, by go_num, fun i' hi' k hk => by
            by_cases e : i' = j
            · subst e; exact hno2'h.out k hk
            · exact hno'h.out i' (by omega) k hk, hH2'h.out⟩
    · have hi9 : i = 8 := by omega
      subst hi9
      have hgd := hgood'h.out hno
      have c0 := gp_ctrl hH.rows.1
      obtain ⟨rw9, hrw9⟩ : ∃ b, b = rightW g.c := ⟨_, rfl⟩
      have R2 := R'h.out
      rw [← hrw9] at R2 hgd
      have hgd'h := Lib.hid hgd
      have R2'h := Lib.hid R2
      have hH'h := Lib.hid hH
      have hno'h := Lib.hid hno
      have hq'h := Lib.hid hq
      have hrw9'h := Lib.hid hrw9
      clear hgd R2 hH hno hq hrw9
      clear hi8
      go_wp2_with (first | (go_at_call 39; refine (R2'h.out _).mono ?_; rintro e w5 ⟨rfl, hb5⟩))
      go_ret
      exact ⟨by rw [hgd'h.out]; rfl, below_next hH'h.out.old hb5⟩
end Go.Proofs.Ytfoohdjgnphdgaa

/-
  The document's groups: which are the same.
-/
set_option linter.unusedSimpArgs false
set_option linter.unusedVariables false
set_option maxRecDepth 100000
namespace Go.Proofs.Ytfoohdjgnphdgaa
open Go.RowKit

def badB (a b : Gp) (i : Nat) : Bool := fullAt a.c i && (a.k i != b.k i || a.v i != b.v i)
theorem bad_no {a b : Gp} {i : Nat} (hi : i < 8) (h : badB a b i = true) : sameG a b = false := by
  rw [← Bool.not_eq_true]
  unfold sameG
  rw [Bool.and_eq_true, List.all_eq_true]
  rintro ⟨h1, h2⟩
  have := h1 i (List.mem_range.2 hi)
  unfold badB at h
  rw [h] at this
  cases this
theorem bad_yes {a b : Gp} (h : ∀ i, i < 8 → badB a b i = false) : sameG a b = ((a.c : Int) == (b.c : Int)) := by
  have e : sameG a b = (a.c == b.c) := by
    unfold sameG
    have : ((List.range 8).all fun i => !(fullAt a.c i && (a.k i != b.k i || a.v i != b.v i))) = true := by
      rw [List.all_eq_true]
      intro i hi
      have := h i (List.mem_range.1 hi)
      unfold badB at this
      rw [this]; rfl
    rw [this, Bool.true_and]
  rw [e, Bool.eq_iff_iff]; simp; omega
set_option maxHeartbeats 10000000 in
theorem rgsame_any (a b : Gp) (w : World) (ha : GpOk a) (hb : GpOk b) : Calls Try.prog 14 #[.agg (gpA a), .agg (gpA b)] w fun e w' => e = .returned (.bool (sameG a b)) ∧ Below w.heap.size w w' := by
  have F := fun n w hn => rgfull_any a n w ha hn
  have hO := (Hs.nil w).new2 (gpA a) (gpA b) 25 25
  have hbad := fun i hi h => @bad_no a b i hi h
  have hgood := @bad_yes a b
  obtain ⟨z, hz⟩ : ∃ z, z = sameG a b := ⟨_, rfl⟩
  rw [← hz]
  rw [← hz] at hgood
  simp only [← hz] at hbad
  have F'h := Lib.hid F
  have hO'h := Lib.hid hO
  have hbad'h := Lib.hid hbad
  have hgood'h := Lib.hid hgood
  have ha'h := Lib.hid ha
  have hb'h := Lib.hid hb
  have hz'h := Lib.hid hz
  clear F hO hbad hgood ha hb hz
  go_enter Try.func14, Try.ntmps14
  go_wp2
  have hO := hO'h.out
  change Code.wp _ _ _ _ ((w.alloc (.cells (gpA a) 25)).alloc (.cells (gpA b) 25))
  generalize World.alloc (World.alloc _ _) _ = W0 at hO ⊢
  have hO'h := Lib.hid hO
  clear hO
  go_loopg [6] 8 (fun q i wr => ∃ k : Nat, k + q = 8 ∧ i = .int .i64 k ∧ (∀ i', i' < k → badB a b i' = false) ∧ Hs w [(w.heap.size + 1, gpA b, 25), (w.heap.size, gpA a, 25)] wr)
  case atStart => exact ⟨0, rfl, rfl, fun i hi => absurd hi (by omega), hO'h.out⟩
  case round =>
    obtain ⟨i, hq, rfl, hno, hH⟩ := hrel
    by_cases hi8 : i < 8
    · have hi1 : (i : Int) < 8 := by omega
      have h0i : (0 : Int) ≤ (i : Int) := by omega
      have hq'h := Lib.hid hq
      have hno'h := Lib.hid hno
      have hi8'h := Lib.hid hi8
      clear hq hno hi8
      have hH'h := Lib.hid hH
      clear hH
      go_upto_region 4 with fail
      have H7 := hH'h.out.drew
      have FI := fun w => F'h.out i w hi8'h.out
      cases hfi : fullAt a.c i with
      | false =>
        have hp : badB a b i = false := by unfold badB; rw [hfi]; rfl
        rw [hfi] at FI
        clear hfi
        have hp'h := Lib.hid hp
        have FI'h := Lib.hid FI
        clear hp FI
        refine wp_region_heldQ (fun w' => w'.heap[w.heap.size]? = some (.cells (gpA a) 25 (0, 0)) ∧ w'.heap[w.heap.size + 1]? = some (.cells (gpA b) 25 (0, 0))) 99 (by kernel_rfl) ?_
        refine wpAnyF_take (i := 0) (v := .agg (gpA a)) rfl (by kernel_rfl) (by kernel_rfl) (by kernel_rfl) (by kernel_rfl) (fun _ _ _ h => h) (Or.inl ⟨by kernel_rfl, fun w hSw => run_load_agg (by rfl) (by rfl) hSw.1 Try.underlying25 rfl infoGp⟩) ⟨H7.rows.2.1, H7.rows.1⟩ ?_; try simp only [Act.put, List.getElem_toArray, List.getElem_cons_succ, List.getElem_cons_zero, List.setIfInBounds_toArray, List.set_cons_zero, List.set_cons_succ]
        refine wpAnyF_take (i := 1) (v := .int .i64 i) rfl (by kernel_rfl) (by kernel_rfl) (by kernel_rfl) (by kernel_rfl) (fun _ _ _ h => h) (Or.inl ⟨by kernel_rfl, fun w hSw => by (try dsimp only at hSw); go_simp⟩) ⟨H7.rows.2.1, H7.rows.1⟩ ?_; try simp only [Act.put, List.getElem_toArray, List.getElem_cons_succ, List.getElem_cons_zero, List.setIfInBounds_toArray, List.set_cons_zero, List.set_cons_succ]
        refine wpAnyF_one (i := 2) (by kernel_rfl) rfl (fun K hK => ?_); go_simp
        refine (FI'h.out _).mono ?_
        rintro e w5 ⟨rfl, hb⟩
        dsimp only
        have H8 := H7.next hb
        clear hb
        refine hK.out _ _ (fun _ => ⟨H8.rows.2.1, H8.rows.1⟩) ?_; clear hK K; try simp only [Act.put, List.getElem_toArray, List.getElem_cons_succ, List.getElem_cons_zero, List.setIfInBounds_toArray, List.set_cons_zero, List.set_cons_succ]
        refine wpAnyF_take (i := 3) (v := .bool false) rfl (by kernel_rfl) (by kernel_rfl) (by kernel_rfl) (by kernel_rfl) (fun _ _ _ h => h) (Or.inl ⟨by kernel_rfl, fun w hSw => by (try dsimp only at hSw); go_simp⟩) ⟨H8.rows.2.1, H8.rows.1⟩ ?_; try simp only [Act.put, List.getElem_toArray, List.getElem_cons_succ, List.getElem_cons_zero, List.setIfInBounds_toArray, List.set_cons_zero, List.set_cons_succ]
        refine wpAnyF_take (i := 4) (v := undef) rfl (by kernel_rfl) (by kernel_rfl) (by kernel_rfl) (by kernel_rfl) (fun _ _ _ h => h) (Or.inr ⟨by kernel_rfl, rfl⟩) ⟨H8.rows.2.1, H8.rows.1⟩ ?_; try simp only [Act.put, List.getElem_toArray, List.getElem_cons_succ, List.getElem_cons_zero, List.setIfInBounds_toArray, List.set_cons_zero, List.set_cons_succ]
        refine wpAnyF_take (i := 5) (v := undef) rfl (by kernel_rfl) (by kernel_rfl) (by kernel_rfl) (by kernel_rfl) (fun _ _ _ h => h) (Or.inr ⟨by kernel_rfl, rfl⟩) ⟨H8.rows.2.1, H8.rows.1⟩ ?_; try simp only [Act.put, List.getElem_toArray, List.getElem_cons_succ, List.getElem_cons_zero, List.setIfInBounds_toArray, List.set_cons_zero, List.set_cons_succ]
        refine wpAnyF_take (i := 6) (v := undef) rfl (by kernel_rfl) (by kernel_rfl) (by kernel_rfl) (by kernel_rfl) (fun _ _ _ h => h) (Or.inr ⟨by kernel_rfl, rfl⟩) ⟨H8.rows.2.1, H8.rows.1⟩ ?_; try simp only [Act.put, List.getElem_toArray, List.getElem_cons_succ, List.getElem_cons_zero, List.setIfInBounds_toArray, List.set_cons_zero, List.set_cons_succ]
        refine wpAnyF_take (i := 7) (v := undef) rfl (by kernel_rfl) (by kernel_rfl) (by kernel_rfl) (by kernel_rfl) (fun _ _ _ h => h) (Or.inr ⟨by kernel_rfl, rfl⟩) ⟨H8.rows.2.1, H8.rows.1⟩ ?_; try simp only [Act.put, List.getElem_toArray, List.getElem_cons_succ, List.getElem_cons_zero, List.setIfInBounds_toArray, List.set_cons_zero, List.set_cons_succ]
        refine wpAnyF_take (i := 8) (v := undef) rfl (by kernel_rfl) (by kernel_rfl) (by kernel_rfl) (by kernel_rfl) (fun _ _ _ h => h) (Or.inr ⟨by kernel_rfl, rfl⟩) ⟨H8.rows.2.1, H8.rows.1⟩ ?_; try simp only [Act.put, List.getElem_toArray, List.getElem_cons_succ, List.getElem_cons_zero, List.setIfInBounds_toArray, List.set_cons_zero, List.set_cons_succ]
        refine wpAnyF_take (i := 9) (v := undef) rfl (by kernel_rfl) (by kernel_rfl) (by kernel_rfl) (by kernel_rfl) (fun _ _ _ h => h) (Or.inr ⟨by kernel_rfl, rfl⟩) ⟨H8.rows.2.1, H8.rows.1⟩ ?_; try simp only [Act.put, List.getElem_toArray, List.getElem_cons_succ, List.getElem_cons_zero, List.setIfInBounds_toArray, List.set_cons_zero, List.set_cons_succ]
        refine wpAnyF_take (i := 10) (v := undef) rfl (by kernel_rfl) (by kernel_rfl) (by kernel_rfl) (by kernel_rfl) (fun _ _ _ h => h) (Or.inr ⟨by kernel_rfl, rfl⟩) ⟨H8.rows.2.1, H8.rows.1⟩ ?_; try simp only [Act.put, List.getElem_toArray, List.getElem_cons_succ, List.getElem_cons_zero, List.setIfInBounds_toArray, List.set_cons_zero, List.set_cons_succ]
        refine wpAnyF_take (i := 11) (v := undef) rfl (by kernel_rfl) (by kernel_rfl) (by kernel_rfl) (by kernel_rfl) (fun _ _ _ h => h) (Or.inr ⟨by kernel_rfl, rfl⟩) ⟨H8.rows.2.1, H8.rows.1⟩ ?_; try simp only [Act.put, List.getElem_toArray, List.getElem_cons_succ, List.getElem_cons_zero, List.setIfInBounds_toArray, List.set_cons_zero, List.set_cons_succ]
        refine wpAnyF_take (i := 12) (v := undef) rfl (by kernel_rfl) (by kernel_rfl) (by kernel_rfl) (by kernel_rfl) (fun _ _ _ h => h) (Or.inr ⟨by kernel_rfl, rfl⟩) ⟨H8.rows.2.1, H8.rows.1⟩ ?_; try simp only [Act.put, List.getElem_toArray, List.getElem_cons_succ, List.getElem_cons_zero, List.setIfInBounds_toArray, List.set_cons_zero, List.set_cons_succ]
        refine wpAnyF_take (i := 13) (v := undef) rfl (by kernel_rfl) (by kernel_rfl) (by kernel_rfl) (by kernel_rfl) (fun _ _ _ h => h) (Or.inr ⟨by kernel_rfl, rfl⟩) ⟨H8.rows.2.1, H8.rows.1⟩ ?_; try simp only [Act.put, List.getElem_toArray, List.getElem_cons_succ, List.getElem_cons_zero, List.setIfInBounds_toArray, List.set_cons_zero, List.set_cons_succ]
        refine wpAnyF_take (i := 14) (v := undef) rfl (by kernel_rfl) (by kernel_rfl) (by kernel_rfl) (by kernel_rfl) (fun _ _ _ h => h) (Or.inr ⟨by kernel_rfl, rfl⟩) ⟨H8.rows.2.1, H8.rows.1⟩ ?_; try simp only [Act.put, List.getElem_toArray, List.getElem_cons_succ, List.getElem_cons_zero, List.setIfInBounds_toArray, List.set_cons_zero, List.set_cons_succ]
        refine wpAnyF_take (i := 15) (v := undef) rfl (by kernel_rfl) (by kernel_rfl) (by kernel_rfl) (by kernel_rfl) (fun _ _ _ h => h) (Or.inr ⟨by kernel_rfl, rfl⟩) ⟨H8.rows.2.1, H8.rows.1⟩ ?_; try simp only [Act.put, List.getElem_toArray, List.getElem_cons_succ, List.getElem_cons_zero, List.setIfInBounds_toArray, List.set_cons_zero, List.set_cons_succ]
        refine wpAnyF_take (i := 16) (v := undef) rfl (by kernel_rfl) (by kernel_rfl) (by kernel_rfl) (by kernel_rfl) (fun _ _ _ h => h) (Or.inr ⟨by kernel_rfl, rfl⟩) ⟨H8.rows.2.1, H8.rows.1⟩ ?_; try simp only [Act.put, List.getElem_toArray, List.getElem_cons_succ, List.getElem_cons_zero, List.setIfInBounds_toArray, List.set_cons_zero, List.set_cons_succ]
        refine wpAnyF_take (i := 17) (v := undef) rfl (by kernel_rfl) (by kernel_rfl) (by kernel_rfl) (by kernel_rfl) (fun _ _ _ h => h) (Or.inr ⟨by kernel_rfl, rfl⟩) ⟨H8.rows.2.1, H8.rows.1⟩ ?_; try simp only [Act.put, List.getElem_toArray, List.getElem_cons_succ, List.getElem_cons_zero, List.setIfInBounds_toArray, List.set_cons_zero, List.set_cons_succ]
        refine wpAnyF_take (i := 18) (v := undef) rfl (by kernel_rfl) (by kernel_rfl) (by kernel_rfl) (by kernel_rfl) (fun _ _ _ h => h) (Or.inr ⟨by kernel_rfl, rfl⟩) ⟨H8.rows.2.1, H8.rows.1⟩ ?_; try simp only [Act.put, List.getElem_toArray, List.getElem_cons_succ, List.getElem_cons_zero, List.setIfInBounds_toArray, List.set_cons_zero, List.set_cons_succ]
        refine wpAnyF_take (i := 19) (v := undef) rfl (by kernel_rfl) (by kernel_rfl) (by kernel_rfl) (by kernel_rfl) (fun _ _ _ h => h) (Or.inr ⟨by kernel_rfl, rfl⟩) ⟨H8.rows.2.1, H8.rows.1⟩ ?_; try simp only [Act.put, List.getElem_toArray, List.getElem_cons_succ, List.getElem_cons_zero, List.setIfInBounds_toArray, List.set_cons_zero, List.set_cons_succ]
        refine wpAnyF_take (i := 20) (v := undef) rfl (by kernel_rfl) (by kernel_rfl) (by kernel_rfl) (by kernel_rfl) (fun _ _ _ h => h) (Or.inr ⟨by kernel_rfl, rfl⟩) ⟨H8.rows.2.1, H8.rows.1⟩ ?_; try simp only [Act.put, List.getElem_toArray, List.getElem_cons_succ, List.getElem_cons_zero, List.setIfInBounds_toArray, List.set_cons_zero, List.set_cons_succ]
        refine wpAnyF_take (i := 21) (v := undef) rfl (by kernel_rfl) (by kernel_rfl) (by kernel_rfl) (by kernel_rfl) (fun _ _ _ h => h) (Or.inr ⟨by kernel_rfl, rfl⟩) ⟨H8.rows.2.1, H8.rows.1⟩ ?_; try simp only [Act.put, List.getElem_toArray, List.getElem_cons_succ, List.getElem_cons_zero, List.setIfInBounds_toArray, List.set_cons_zero, List.set_cons_succ]
        refine wpAnyF_take (i := 22) (v := undef) rfl (by kernel_rfl) (by kernel_rfl) (by kernel_rfl) (by kernel_rfl) (fun _ _ _ h => h) (Or.inr ⟨by kernel_rfl, rfl⟩) ⟨H8.rows.2.1, H8.rows.1⟩ ?_; try simp only [Act.put, List.getElem_toArray, List.getElem_cons_succ, List.getElem_cons_zero, List.setIfInBounds_toArray, List.set_cons_zero, List.set_cons_succ]
        refine wpAnyF_take (i := 23) (v := undef) rfl (by kernel_rfl) (by kernel_rfl) (by kernel_rfl) (by kernel_rfl) (fun _ _ _ h => h) (Or.inr ⟨by kernel_rfl, rfl⟩) ⟨H8.rows.2.1, H8.rows.1⟩ ?_; try simp only [Act.put, List.getElem_toArray, List.getElem_cons_succ, List.getElem_cons_zero, List.setIfInBounds_toArray, List.set_cons_zero, List.set_cons_succ]
        refine wpAnyF_take (i := 24) (v := .bool false) rfl (by kernel_rfl) (by kernel_rfl) (by kernel_rfl) (by kernel_rfl) (fun _ _ _ h => h) (Or.inl ⟨by kernel_rfl, fun w hSw => by (try dsimp only at hSw); go_simp⟩) ⟨H8.rows.2.1, H8.rows.1⟩ ?_; try simp only [Act.put, List.getElem_toArray, List.getElem_cons_succ, List.getElem_cons_zero, List.setIfInBounds_toArray, List.set_cons_zero, List.set_cons_succ]
        refine wpAnyF_done (by kernel_rfl) ?_ _
        refine noPanic_normal ?_
        have H8'h := Lib.hid H8
        clear H8 H7
        go_wp2
        go_roundg (gk - 1)
        case measure => have := hq'h.out; omega
        case rel => exact ⟨i + 1, by have := hq'h.out; omega, by go_num, fun i' hi' => by
          by_cases e : i' = i
          · subst e; exact hp'h.out
          · exact hno'h.out i' (by omega), H8'h.out⟩
      | true =>
        rw [hfi] at FI
        cases hk : ((a.k i : Int) != (b.k i : Int)) with
        | true =>
          have hp := hbad'h.out i hi8'h.out (by unfold badB; rw [hfi]; simp at hk ⊢; omega)
          clear hfi
          have hp'h := Lib.hid hp
          have FI'h := Lib.hid FI
          clear hp FI
          refine wp_region_heldQ (fun w' => w'.heap[w.heap.size]? = some (.cells (gpA a) 25 (0, 0)) ∧ w'.heap[w.heap.size + 1]? = some (.cells (gpA b) 25 (0, 0))) 99 (by kernel_rfl) ?_
          refine wpAnyF_take (i := 0) (v := .agg (gpA a)) rfl (by kernel_rfl) (by kernel_rfl) (by kernel_rfl) (by kernel_rfl) (fun _ _ _ h => h) (Or.inl ⟨by kernel_rfl, fun w hSw => run_load_agg (by rfl) (by rfl) hSw.1 Try.underlying25 rfl infoGp⟩) ⟨H7.rows.2.1, H7.rows.1⟩ ?_; try simp only [Act.put, List.getElem_toArray, List.getElem_cons_succ, List.getElem_cons_zero, List.setIfInBounds_toArray, List.set_cons_zero, List.set_cons_succ]
          refine wpAnyF_take (i := 1) (v := .int .i64 i) rfl (by kernel_rfl) (by kernel_rfl) (by kernel_rfl) (by kernel_rfl) (fun _ _ _ h => h) (Or.inl ⟨by kernel_rfl, fun w hSw => by (try dsimp only at hSw); go_simp⟩) ⟨H7.rows.2.1, H7.rows.1⟩ ?_; try simp only [Act.put, List.getElem_toArray, List.getElem_cons_succ, List.getElem_cons_zero, List.setIfInBounds_toArray, List.set_cons_zero, List.set_cons_succ]
          refine wpAnyF_one (i := 2) (by kernel_rfl) rfl (fun K hK => ?_); go_simp
          refine (FI'h.out _).mono ?_
          rintro e w5 ⟨rfl, hb⟩
          dsimp only
          have H8 := H7.next hb
          clear hb
          refine hK.out _ _ (fun _ => ⟨H8.rows.2.1, H8.rows.1⟩) ?_; clear hK K; try simp only [Act.put, List.getElem_toArray, List.getElem_cons_succ, List.getElem_cons_zero, List.setIfInBounds_toArray, List.set_cons_zero, List.set_cons_succ]
          refine wpAnyF_take (i := 3) (v := .bool true) rfl (by kernel_rfl) (by kernel_rfl) (by kernel_rfl) (by kernel_rfl) (fun _ _ _ h => h) (Or.inl ⟨by kernel_rfl, fun w hSw => by (try dsimp only at hSw); go_simp⟩) ⟨H8.rows.2.1, H8.rows.1⟩ ?_; try simp only [Act.put, List.getElem_toArray, List.getElem_cons_succ, List.getElem_cons_zero, List.setIfInBounds_toArray, List.set_cons_zero, List.set_cons_succ]
          refine wpAnyF_take (i := 4) (v := .int .i64 i) rfl (by kernel_rfl) (by kernel_rfl) (by kernel_rfl) (by kernel_rfl) (fun _ _ _ h => h) (Or.inl ⟨by kernel_rfl, fun w hSw => by (try dsimp only at hSw); go_simp⟩) ⟨H8.rows.2.1, H8.rows.1⟩ ?_; try simp only [Act.put, List.getElem_toArray, List.getElem_cons_succ, List.getElem_cons_zero, List.setIfInBounds_toArray, List.set_cons_zero, List.set_cons_succ]
          refine wpAnyF_take (i := 5) (v := .pointer (some ⟨w.heap.size, 1, none⟩)) rfl (by kernel_rfl) (by kernel_rfl) (by kernel_rfl) (by kernel_rfl) (fun _ _ _ h => h) (Or.inl ⟨by kernel_rfl, fun w hSw => by (try dsimp only at hSw); go_simp⟩) ⟨H8.rows.2.1, H8.rows.1⟩ ?_; try simp only [Act.put, List.getElem_toArray, List.getElem_cons_succ, List.getElem_cons_zero, List.setIfInBounds_toArray, List.set_cons_zero, List.set_cons_succ]
          refine wpAnyF_take (i := 6) (v := .pointer (some ⟨w.heap.size, 1 + i, none⟩)) rfl (by kernel_rfl) (by kernel_rfl) (by kernel_rfl) (by kernel_rfl) (fun _ _ _ h => h) (Or.inl ⟨by kernel_rfl, fun w hSw => by (try dsimp only at hSw); go_simp⟩) ⟨H8.rows.2.1, H8.rows.1⟩ ?_; try simp only [Act.put, List.getElem_toArray, List.getElem_cons_succ, List.getElem_cons_zero, List.setIfInBounds_toArray, List.set_cons_zero, List.set_cons_succ]
          refine wpAnyF_take (i := 7) (v := .int .u64 (a.k i)) rfl (by kernel_rfl) (by kernel_rfl) (by kernel_rfl) (by kernel_rfl) (fun _ _ _ h => h) (Or.inl ⟨by kernel_rfl, fun w hSw => by have hcc := gp_key hSw.1 hi8'h.out; (try dsimp only at hSw); go_simp⟩) ⟨H8.rows.2.1, H8.rows.1⟩ ?_; try simp only [Act.put, List.getElem_toArray, List.getElem_cons_succ, List.getElem_cons_zero, List.setIfInBounds_toArray, List.set_cons_zero, List.set_cons_succ]
          refine wpAnyF_take (i := 8) (v := .int .i64 i) rfl (by kernel_rfl) (by kernel_rfl) (by kernel_rfl) (by kernel_rfl) (fun _ _ _ h => h) (Or.inl ⟨by kernel_rfl, fun w hSw => by (try dsimp only at hSw); go_simp⟩) ⟨H8.rows.2.1, H8.rows.1⟩ ?_; try simp only [Act.put, List.getElem_toArray, List.getElem_cons_succ, List.getElem_cons_zero, List.setIfInBounds_toArray, List.set_cons_zero, List.set_cons_succ]
          refine wpAnyF_take (i := 9) (v := .pointer (some ⟨w.heap.size + 1, 1, none⟩)) rfl (by kernel_rfl) (by kernel_rfl) (by kernel_rfl) (by kernel_rfl) (fun _ _ _ h => h) (Or.inl ⟨by kernel_rfl, fun w hSw => by (try dsimp only at hSw); go_simp⟩) ⟨H8.rows.2.1, H8.rows.1⟩ ?_; try simp only [Act.put, List.getElem_toArray, List.getElem_cons_succ, List.getElem_cons_zero, List.setIfInBounds_toArray, List.set_cons_zero, List.set_cons_succ]
          refine wpAnyF_take (i := 10) (v := .pointer (some ⟨w.heap.size + 1, 1 + i, none⟩)) rfl (by kernel_rfl) (by kernel_rfl) (by kernel_rfl) (by kernel_rfl) (fun _ _ _ h => h) (Or.inl ⟨by kernel_rfl, fun w hSw => by (try dsimp only at hSw); go_simp⟩) ⟨H8.rows.2.1, H8.rows.1⟩ ?_; try simp only [Act.put, List.getElem_toArray, List.getElem_cons_succ, List.getElem_cons_zero, List.setIfInBounds_toArray, List.set_cons_zero, List.set_cons_succ]
          refine wpAnyF_take (i := 11) (v := .int .u64 (b.k i)) rfl (by kernel_rfl) (by kernel_rfl) (by kernel_rfl) (by kernel_rfl) (fun _ _ _ h => h) (Or.inl ⟨by kernel_rfl, fun w hSw => by have hcc := gp_key hSw.2 hi8'h.out; (try dsimp only at hSw); go_simp⟩) ⟨H8.rows.2.1, H8.rows.1⟩ ?_; try simp only [Act.put, List.getElem_toArray, List.getElem_cons_succ, List.getElem_cons_zero, List.setIfInBounds_toArray, List.set_cons_zero, List.set_cons_succ]
          refine wpAnyF_take (i := 12) (v := .bool true) rfl (by kernel_rfl) (by kernel_rfl) (by kernel_rfl) (by kernel_rfl) (fun _ _ _ h => h) (Or.inl ⟨by kernel_rfl, fun w hSw => by (try dsimp only at hSw); go_simp⟩) ⟨H8.rows.2.1, H8.rows.1⟩ ?_; try simp only [Act.put, List.getElem_toArray, List.getElem_cons_succ, List.getElem_cons_zero, List.setIfInBounds_toArray, List.set_cons_zero, List.set_cons_succ]
          refine wpAnyF_take (i := 13) (v := .bool true) rfl (by kernel_rfl) (by kernel_rfl) (by kernel_rfl) (by kernel_rfl) (fun _ _ _ h => h) (Or.inl ⟨by kernel_rfl, fun w hSw => by (try dsimp only at hSw); go_simp⟩) ⟨H8.rows.2.1, H8.rows.1⟩ ?_; try simp only [Act.put, List.getElem_toArray, List.getElem_cons_succ, List.getElem_cons_zero, List.setIfInBounds_toArray, List.set_cons_zero, List.set_cons_succ]
          refine wpAnyF_take (i := 14) (v := undef) rfl (by kernel_rfl) (by kernel_rfl) (by kernel_rfl) (by kernel_rfl) (fun _ _ _ h => h) (Or.inr ⟨by kernel_rfl, rfl⟩) ⟨H8.rows.2.1, H8.rows.1⟩ ?_; try simp only [Act.put, List.getElem_toArray, List.getElem_cons_succ, List.getElem_cons_zero, List.setIfInBounds_toArray, List.set_cons_zero, List.set_cons_succ]
          refine wpAnyF_take (i := 15) (v := undef) rfl (by kernel_rfl) (by kernel_rfl) (by kernel_rfl) (by kernel_rfl) (fun _ _ _ h => h) (Or.inr ⟨by kernel_rfl, rfl⟩) ⟨H8.rows.2.1, H8.rows.1⟩ ?_; try simp only [Act.put, List.getElem_toArray, List.getElem_cons_succ, List.getElem_cons_zero, List.setIfInBounds_toArray, List.set_cons_zero, List.set_cons_succ]
          refine wpAnyF_take (i := 16) (v := undef) rfl (by kernel_rfl) (by kernel_rfl) (by kernel_rfl) (by kernel_rfl) (fun _ _ _ h => h) (Or.inr ⟨by kernel_rfl, rfl⟩) ⟨H8.rows.2.1, H8.rows.1⟩ ?_; try simp only [Act.put, List.getElem_toArray, List.getElem_cons_succ, List.getElem_cons_zero, List.setIfInBounds_toArray, List.set_cons_zero, List.set_cons_succ]
          refine wpAnyF_take (i := 17) (v := undef) rfl (by kernel_rfl) (by kernel_rfl) (by kernel_rfl) (by kernel_rfl) (fun _ _ _ h => h) (Or.inr ⟨by kernel_rfl, rfl⟩) ⟨H8.rows.2.1, H8.rows.1⟩ ?_; try simp only [Act.put, List.getElem_toArray, List.getElem_cons_succ, List.getElem_cons_zero, List.setIfInBounds_toArray, List.set_cons_zero, List.set_cons_succ]
          refine wpAnyF_take (i := 18) (v := undef) rfl (by kernel_rfl) (by kernel_rfl) (by kernel_rfl) (by kernel_rfl) (fun _ _ _ h => h) (Or.inr ⟨by kernel_rfl, rfl⟩) ⟨H8.rows.2.1, H8.rows.1⟩ ?_; try simp only [Act.put, List.getElem_toArray, List.getElem_cons_succ, List.getElem_cons_zero, List.setIfInBounds_toArray, List.set_cons_zero, List.set_cons_succ]
          refine wpAnyF_take (i := 19) (v := undef) rfl (by kernel_rfl) (by kernel_rfl) (by kernel_rfl) (by kernel_rfl) (fun _ _ _ h => h) (Or.inr ⟨by kernel_rfl, rfl⟩) ⟨H8.rows.2.1, H8.rows.1⟩ ?_; try simp only [Act.put, List.getElem_toArray, List.getElem_cons_succ, List.getElem_cons_zero, List.setIfInBounds_toArray, List.set_cons_zero, List.set_cons_succ]
          refine wpAnyF_take (i := 20) (v := undef) rfl (by kernel_rfl) (by kernel_rfl) (by kernel_rfl) (by kernel_rfl) (fun _ _ _ h => h) (Or.inr ⟨by kernel_rfl, rfl⟩) ⟨H8.rows.2.1, H8.rows.1⟩ ?_; try simp only [Act.put, List.getElem_toArray, List.getElem_cons_succ, List.getElem_cons_zero, List.setIfInBounds_toArray, List.set_cons_zero, List.set_cons_succ]
          refine wpAnyF_take (i := 21) (v := undef) rfl (by kernel_rfl) (by kernel_rfl) (by kernel_rfl) (by kernel_rfl) (fun _ _ _ h => h) (Or.inr ⟨by kernel_rfl, rfl⟩) ⟨H8.rows.2.1, H8.rows.1⟩ ?_; try simp only [Act.put, List.getElem_toArray, List.getElem_cons_succ, List.getElem_cons_zero, List.setIfInBounds_toArray, List.set_cons_zero, List.set_cons_succ]
          refine wpAnyF_take (i := 22) (v := undef) rfl (by kernel_rfl) (by kernel_rfl) (by kernel_rfl) (by kernel_rfl) (fun _ _ _ h => h) (Or.inr ⟨by kernel_rfl, rfl⟩) ⟨H8.rows.2.1, H8.rows.1⟩ ?_; try simp only [Act.put, List.getElem_toArray, List.getElem_cons_succ, List.getElem_cons_zero, List.setIfInBounds_toArray, List.set_cons_zero, List.set_cons_succ]
          refine wpAnyF_take (i := 23) (v := .bool true) rfl (by kernel_rfl) (by kernel_rfl) (by kernel_rfl) (by kernel_rfl) (fun _ _ _ h => h) (Or.inl ⟨by kernel_rfl, fun w hSw => by (try dsimp only at hSw); go_simp⟩) ⟨H8.rows.2.1, H8.rows.1⟩ ?_; try simp only [Act.put, List.getElem_toArray, List.getElem_cons_succ, List.getElem_cons_zero, List.setIfInBounds_toArray, List.set_cons_zero, List.set_cons_succ]
          refine wpAnyF_take (i := 24) (v := .bool true) rfl (by kernel_rfl) (by kernel_rfl) (by kernel_rfl) (by kernel_rfl) (fun _ _ _ h => h) (Or.inl ⟨by kernel_rfl, fun w hSw => by (try dsimp only at hSw); go_simp⟩) ⟨H8.rows.2.1, H8.rows.1⟩ ?_; try simp only [Act.put, List.getElem_toArray, List.getElem_cons_succ, List.getElem_cons_zero, List.setIfInBounds_toArray, List.set_cons_zero, List.set_cons_succ]
          refine wpAnyF_done (by kernel_rfl) ?_ _
          refine noPanic_normal ?_
          have H8'h := Lib.hid H8
          clear H8 H7
          go_wp2
          go_ret
          exact ⟨by rw [hp'h.out]; rfl, H8'h.out.old⟩
        | false =>
          cases hv : ((a.v i : Int) != (b.v i : Int)) with
          | true =>
            have hp := hbad'h.out i hi8'h.out (by unfold badB; rw [hfi]; simp at hk hv ⊢; omega)
            clear hfi
            have hp'h := Lib.hid hp
            have FI'h := Lib.hid FI
            clear hp FI
            refine wp_region_heldQ (fun w' => w'.heap[w.heap.size]? = some (.cells (gpA a) 25 (0, 0)) ∧ w'.heap[w.heap.size + 1]? = some (.cells (gpA b) 25 (0, 0))) 99 (by kernel_rfl) ?_
            refine wpAnyF_take (i := 0) (v := .agg (gpA a)) rfl (by kernel_rfl) (by kernel_rfl) (by kernel_rfl) (by kernel_rfl) (fun _ _ _ h => h) (Or.inl ⟨by kernel_rfl, fun w hSw => run_load_agg (by rfl) (by rfl) hSw.1 Try.underlying25 rfl infoGp⟩) ⟨H7.rows.2.1, H7.rows.1⟩ ?_; try simp only [Act.put, List.getElem_toArray, List.getElem_cons_succ, List.getElem_cons_zero, List.setIfInBounds_toArray, List.set_cons_zero, List.set_cons_succ]
            refine wpAnyF_take (i := 1) (v := .int .i64 i) rfl (by kernel_rfl) (by kernel_rfl) (by kernel_rfl) (by kernel_rfl) (fun _ _ _ h => h) (Or.inl ⟨by kernel_rfl, fun w hSw => by (try dsimp only at hSw); go_simp⟩) ⟨H7.rows.2.1, H7.rows.1⟩ ?_; try simp only [Act.put, List.getElem_toArray, List.getElem_cons_succ, List.getElem_cons_zero, List.setIfInBounds_toArray, List.set_cons_zero, List.set_cons_succ]
            refine wpAnyF_one (i := 2) (by kernel_rfl) rfl (fun K hK => ?_); go_simp
            refine (FI'h.out _).mono ?_
            rintro e w5 ⟨rfl, hb⟩
            dsimp only
            have H8 := H7.next hb
            clear hb
            refine hK.out _ _ (fun _ => ⟨H8.rows.2.1, H8.rows.1⟩) ?_; clear hK K; try simp only [Act.put, List.getElem_toArray, List.getElem_cons_succ, List.getElem_cons_zero, List.setIfInBounds_toArray, List.set_cons_zero, List.set_cons_succ]
            refine wpAnyF_take (i := 3) (v := .bool true) rfl (by kernel_rfl) (by kernel_rfl) (by kernel_rfl) (by kernel_rfl) (fun _ _ _ h => h) (Or.inl ⟨by kernel_rfl, fun w hSw => by (try dsimp only at hSw); go_simp⟩) ⟨H8.rows.2.1, H8.rows.1⟩ ?_; try simp only [Act.put, List.getElem_toArray, List.getElem_cons_succ, List.getElem_cons_zero, List.setIfInBounds_toArray, List.set_cons_zero, List.set_cons_succ]
            refine wpAnyF_take (i := 4) (v := .int .i64 i) rfl (by kernel_rfl) (by kernel_rfl) (by kernel_rfl) (by kernel_rfl) (fun _ _ _ h => h) (Or.inl ⟨by kernel_rfl, fun w hSw => by (try dsimp only at hSw); go_simp⟩) ⟨H8.rows.2.1, H8.rows.1⟩ ?_; try simp only [Act.put, List.getElem_toArray, List.getElem_cons_succ, List.getElem_cons_zero, List.setIfInBounds_toArray, List.set_cons_zero, List.set_cons_succ]
            refine wpAnyF_take (i := 5) (v := .pointer (some ⟨w.heap.size, 1, none⟩)) rfl (by kernel_rfl) (by kernel_rfl) (by kernel_rfl) (by kernel_rfl) (fun _ _ _ h => h) (Or.inl ⟨by kernel_rfl, fun w hSw => by (try dsimp only at hSw); go_simp⟩) ⟨H8.rows.2.1, H8.rows.1⟩ ?_; try simp only [Act.put, List.getElem_toArray, List.getElem_cons_succ, List.getElem_cons_zero, List.setIfInBounds_toArray, List.set_cons_zero, List.set_cons_succ]
            refine wpAnyF_take (i := 6) (v := .pointer (some ⟨w.heap.size, 1 + i, none⟩)) rfl (by kernel_rfl) (by kernel_rfl) (by kernel_rfl) (by kernel_rfl) (fun _ _ _ h => h) (Or.inl ⟨by kernel_rfl, fun w hSw => by (try dsimp only at hSw); go_simp⟩) ⟨H8.rows.2.1, H8.rows.1⟩ ?_; try simp only [Act.put, List.getElem_toArray, List.getElem_cons_succ, List.getElem_cons_zero, List.setIfInBounds_toArray, List.set_cons_zero, List.set_cons_succ]
            refine wpAnyF_take (i := 7) (v := .int .u64 (a.k i)) rfl (by kernel_rfl) (by kernel_rfl) (by kernel_rfl) (by kernel_rfl) (fun _ _ _ h => h) (Or.inl ⟨by kernel_rfl, fun w hSw => by have hcc := gp_key hSw.1 hi8'h.out; (try dsimp only at hSw); go_simp⟩) ⟨H8.rows.2.1, H8.rows.1⟩ ?_; try simp only [Act.put, List.getElem_toArray, List.getElem_cons_succ, List.getElem_cons_zero, List.setIfInBounds_toArray, List.set_cons_zero, List.set_cons_succ]
            refine wpAnyF_take (i := 8) (v := .int .i64 i) rfl (by kernel_rfl) (by kernel_rfl) (by kernel_rfl) (by kernel_rfl) (fun _ _ _ h => h) (Or.inl ⟨by kernel_rfl, fun w hSw => by (try dsimp only at hSw); go_simp⟩) ⟨H8.rows.2.1, H8.rows.1⟩ ?_; try simp only [Act.put, List.getElem_toArray, List.getElem_cons_succ, List.getElem_cons_zero, List.setIfInBounds_toArray, List.set_cons_zero, List.set_cons_succ]
            refine wpAnyF_take (i := 9) (v := .pointer (some ⟨w.heap.size + 1, 1, none⟩)) rfl (by kernel_rfl) (by kernel_rfl) (by kernel_rfl) (by kernel_rfl) (fun _ _ _ h => h) (Or.inl ⟨by kernel_rfl, fun w hSw => by (try dsimp only at hSw); go_simp⟩) ⟨H8.rows.2.1, H8.rows.1⟩ ?_; try simp only [Act.put, List.getElem_toArray, List.getElem_cons_succ, List.getElem_cons_zero, List.setIfInBounds_toArray, List.set_cons_zero, List.set_cons_succ]
            refine wpAnyF_take (i := 10) (v := .pointer (some ⟨w.heap.size + 1, 1 + i, none⟩)) rfl (by kernel_rfl) (by kernel_rfl) (by kernel_rfl) (by kernel_rfl) (fun _ _ _ h => h) (Or.inl ⟨by kernel_rfl, fun w hSw => by (try dsimp only at hSw); go_simp⟩) ⟨H8.rows.2.1, H8.rows.1⟩ ?_; try simp only [Act.put, List.getElem_toArray, List.getElem_cons_succ, List.getElem_cons_zero, List.setIfInBounds_toArray, List.set_cons_zero, List.set_cons_succ]
            refine wpAnyF_take (i := 11) (v := .int .u64 (b.k i)) rfl (by kernel_rfl) (by kernel_rfl) (by kernel_rfl) (by kernel_rfl) (fun _ _ _ h => h) (Or.inl ⟨by kernel_rfl, fun w hSw => by have hcc := gp_key hSw.2 hi8'h.out; (try dsimp only at hSw); go_simp⟩) ⟨H8.rows.2.1, H8.rows.1⟩ ?_; try simp only [Act.put, List.getElem_toArray, List.getElem_cons_succ, List.getElem_cons_zero, List.setIfInBounds_toArray, List.set_cons_zero, List.set_cons_succ]
            refine wpAnyF_take (i := 12) (v := .bool false) rfl (by kernel_rfl) (by kernel_rfl) (by kernel_rfl) (by kernel_rfl) (fun _ _ _ h => h) (Or.inl ⟨by kernel_rfl, fun w hSw => by (try dsimp only at hSw); go_simp⟩) ⟨H8.rows.2.1, H8.rows.1⟩ ?_; try simp only [Act.put, List.getElem_toArray, List.getElem_cons_succ, List.getElem_cons_zero, List.setIfInBounds_toArray, List.set_cons_zero, List.set_cons_succ]
            refine wpAnyF_take (i := 13) (v := .bool false) rfl (by kernel_rfl) (by kernel_rfl) (by kernel_rfl) (by kernel_rfl) (fun _ _ _ h => h) (Or.inl ⟨by kernel_rfl, fun w hSw => by (try dsimp only at hSw); go_simp⟩) ⟨H8.rows.2.1, H8.rows.1⟩ ?_; try simp only [Act.put, List.getElem_toArray, List.getElem_cons_succ, List.getElem_cons_zero, List.setIfInBounds_toArray, List.set_cons_zero, List.set_cons_succ]
            refine wpAnyF_take (i := 14) (v := .int .i64 i) rfl (by kernel_rfl) (by kernel_rfl) (by kernel_rfl) (by kernel_rfl) (fun _ _ _ h => h) (Or.inl ⟨by kernel_rfl, fun w hSw => by (try dsimp only at hSw); go_simp⟩) ⟨H8.rows.2.1, H8.rows.1⟩ ?_; try simp only [Act.put, List.getElem_toArray, List.getElem_cons_succ, List.getElem_cons_zero, List.setIfInBounds_toArray, List.set_cons_zero, List.set_cons_succ]
            refine wpAnyF_take (i := 15) (v := .pointer (some ⟨w.heap.size, 9, none⟩)) rfl (by kernel_rfl) (by kernel_rfl) (by kernel_rfl) (by kernel_rfl) (fun _ _ _ h => h) (Or.inl ⟨by kernel_rfl, fun w hSw => by (try dsimp only at hSw); go_simp⟩) ⟨H8.rows.2.1, H8.rows.1⟩ ?_; try simp only [Act.put, List.getElem_toArray, List.getElem_cons_succ, List.getElem_cons_zero, List.setIfInBounds_toArray, List.set_cons_zero, List.set_cons_succ]
            refine wpAnyF_take (i := 16) (v := .pointer (some ⟨w.heap.size, 9 + i, none⟩)) rfl (by kernel_rfl) (by kernel_rfl) (by kernel_rfl) (by kernel_rfl) (fun _ _ _ h => h) (Or.inl ⟨by kernel_rfl, fun w hSw => by (try dsimp only at hSw); go_simp⟩) ⟨H8.rows.2.1, H8.rows.1⟩ ?_; try simp only [Act.put, List.getElem_toArray, List.getElem_cons_succ, List.getElem_cons_zero, List.setIfInBounds_toArray, List.set_cons_zero, List.set_cons_succ]
            refine wpAnyF_take (i := 17) (v := .int .u64 (a.v i)) rfl (by kernel_rfl) (by kernel_rfl) (by kernel_rfl) (by kernel_rfl) (fun _ _ _ h => h) (Or.inl ⟨by kernel_rfl, fun w hSw => by have hcc := gp_val hSw.1 hi8'h.out; (try dsimp only at hSw); go_simp⟩) ⟨H8.rows.2.1, H8.rows.1⟩ ?_; try simp only [Act.put, List.getElem_toArray, List.getElem_cons_succ, List.getElem_cons_zero, List.setIfInBounds_toArray, List.set_cons_zero, List.set_cons_succ]
            refine wpAnyF_take (i := 18) (v := .int .i64 i) rfl (by kernel_rfl) (by kernel_rfl) (by kernel_rfl) (by kernel_rfl) (fun _ _ _ h => h) (Or.inl ⟨by kernel_rfl, fun w hSw => by (try dsimp only at hSw); go_simp⟩) ⟨H8.rows.2.1, H8.rows.1⟩ ?_; try simp only [Act.put, List.getElem_toArray, List.getElem_cons_succ, List.getElem_cons_zero, List.setIfInBounds_toArray, List.set_cons_zero, List.set_cons_succ]
            refine wpAnyF_take (i := 19) (v := .pointer (some ⟨w.heap.size + 1, 9, none⟩)) rfl (by kernel_rfl) (by kernel_rfl) (by kernel_rfl) (by kernel_rfl) (fun _ _ _ h => h) (Or.inl ⟨by kernel_rfl, fun w hSw => by (try dsimp only at hSw); go_simp⟩) ⟨H8.rows.2.1, H8.rows.1⟩ ?_; try simp only [Act.put, List.getElem_toArray, List.getElem_cons_succ, List.getElem_cons_zero, List.setIfInBounds_toArray, List.set_cons_zero, List.set_cons_succ]
            refine wpAnyF_take (i := 20) (v := .pointer (some ⟨w.heap.size + 1, 9 + i, none⟩)) rfl (by kernel_rfl) (by kernel_rfl) (by kernel_rfl) (by kernel_rfl) (fun _ _ _ h => h) (Or.inl ⟨by kernel_rfl, fun w hSw => by (try dsimp only at hSw); go_simp⟩) ⟨H8.rows.2.1, H8.rows.1⟩ ?_; try simp only [Act.put, List.getElem_toArray, List.getElem_cons_succ, List.getElem_cons_zero, List.setIfInBounds_toArray, List.set_cons_zero, List.set_cons_succ]
            refine wpAnyF_take (i := 21) (v := .int .u64 (b.v i)) rfl (by kernel_rfl) (by kernel_rfl) (by kernel_rfl) (by kernel_rfl) (fun _ _ _ h => h) (Or.inl ⟨by kernel_rfl, fun w hSw => by have hcc := gp_val hSw.2 hi8'h.out; (try dsimp only at hSw); go_simp⟩) ⟨H8.rows.2.1, H8.rows.1⟩ ?_; try simp only [Act.put, List.getElem_toArray, List.getElem_cons_succ, List.getElem_cons_zero, List.setIfInBounds_toArray, List.set_cons_zero, List.set_cons_succ]
            refine wpAnyF_take (i := 22) (v := .bool true) rfl (by kernel_rfl) (by kernel_rfl) (by kernel_rfl) (by kernel_rfl) (fun _ _ _ h => h) (Or.inl ⟨by kernel_rfl, fun w hSw => by (try dsimp only at hSw); go_simp⟩) ⟨H8.rows.2.1, H8.rows.1⟩ ?_; try simp only [Act.put, List.getElem_toArray, List.getElem_cons_succ, List.getElem_cons_zero, List.setIfInBounds_toArray, List.set_cons_zero, List.set_cons_succ]
            refine wpAnyF_take (i := 23) (v := .bool true) rfl (by kernel_rfl) (by kernel_rfl) (by kernel_rfl) (by kernel_rfl) (fun _ _ _ h => h) (Or.inl ⟨by kernel_rfl, fun w hSw => by (try dsimp only at hSw); go_simp⟩) ⟨H8.rows.2.1, H8.rows.1⟩ ?_; try simp only [Act.put, List.getElem_toArray, List.getElem_cons_succ, List.getElem_cons_zero, List.setIfInBounds_toArray, List.set_cons_zero, List.set_cons_succ]
            refine wpAnyF_take (i := 24) (v := .bool true) rfl (by kernel_rfl) (by kernel_rfl) (by kernel_rfl) (by kernel_rfl) (fun _ _ _ h => h) (Or.inl ⟨by kernel_rfl, fun w hSw => by (try dsimp only at hSw); go_simp⟩) ⟨H8.rows.2.1, H8.rows.1⟩ ?_; try simp only [Act.put, List.getElem_toArray, List.getElem_cons_succ, List.getElem_cons_zero, List.setIfInBounds_toArray, List.set_cons_zero, List.set_cons_succ]
            refine wpAnyF_done (by kernel_rfl) ?_ _
            refine noPanic_normal ?_
            have H8'h := Lib.hid H8
            clear H8 H7
            go_wp2
            go_ret
            exact ⟨by rw [hp'h.out]; rfl, H8'h.out.old⟩
          | false =>
            have hp : badB a b i = false := by unfold badB; rw [hfi]; simp at hk hv ⊢; omega
            clear hfi
            have hp'h := Lib.hid hp
            have FI'h := Lib.hid FI
            clear hp FI
            refine wp_region_heldQ (fun w' => w'.heap[w.heap.size]? = some (.cells (gpA a) 25 (0, 0)) ∧ w'.heap[w.heap.size + 1]? = some (.cells (gpA b) 25 (0, 0))) 99 (by kernel_rfl) ?_
            refine wpAnyF_take (i := 0) (v := .agg (gpA a)) rfl (by kernel_rfl) (by kernel_rfl) (by kernel_rfl) (by kernel_rfl) (fun _ _ _ h => h) (Or.inl ⟨by kernel_rfl, fun w hSw => run_load_agg (by rfl) (by rfl) hSw.1 Try.underlying25 rfl infoGp⟩) ⟨H7.rows.2.1, H7.rows.1⟩ ?_; try simp only [Act.put, List.getElem_toArray, List.getElem_cons_succ, List.getElem_cons_zero, List.setIfInBounds_toArray, List.set_cons_zero, List.set_cons_succ]
            refine wpAnyF_take (i := 1) (v := .int .i64 i) rfl (by kernel_rfl) (by kernel_rfl) (by kernel_rfl) (by kernel_rfl) (fun _ _ _ h => h) (Or.inl ⟨by kernel_rfl, fun w hSw => by (try dsimp only at hSw); go_simp⟩) ⟨H7.rows.2.1, H7.rows.1⟩ ?_; try simp only [Act.put, List.getElem_toArray, List.getElem_cons_succ, List.getElem_cons_zero, List.setIfInBounds_toArray, List.set_cons_zero, List.set_cons_succ]
            refine wpAnyF_one (i := 2) (by kernel_rfl) rfl (fun K hK => ?_); go_simp
            refine (FI'h.out _).mono ?_
            rintro e w5 ⟨rfl, hb⟩
            dsimp only
            have H8 := H7.next hb
            clear hb
            refine hK.out _ _ (fun _ => ⟨H8.rows.2.1, H8.rows.1⟩) ?_; clear hK K; try simp only [Act.put, List.getElem_toArray, List.getElem_cons_succ, List.getElem_cons_zero, List.setIfInBounds_toArray, List.set_cons_zero, List.set_cons_succ]
            refine wpAnyF_take (i := 3) (v := .bool true) rfl (by kernel_rfl) (by kernel_rfl) (by kernel_rfl) (by kernel_rfl) (fun _ _ _ h => h) (Or.inl ⟨by kernel_rfl, fun w hSw => by (try dsimp only at hSw); go_simp⟩) ⟨H8.rows.2.1, H8.rows.1⟩ ?_; try simp only [Act.put, List.getElem_toArray, List.getElem_cons_succ, List.getElem_cons_zero, List.setIfInBounds_toArray, List.set_cons_zero, List.set_cons_succ]
            refine wpAnyF_take (i := 4) (v := .int .i64 i) rfl (by kernel_rfl) (by kernel_rfl) (by kernel_rfl) (by kernel_rfl) (fun _ _ _ h => h) (Or.inl ⟨by kernel_rfl, fun w hSw => by (try dsimp only at hSw); go_simp⟩) ⟨H8.rows.2.1, H8.rows.1⟩ ?_; try simp only [Act.put, List.getElem_toArray, List.getElem_cons_succ, List.getElem_cons_zero, List.setIfInBounds_toArray, List.set_cons_zero, List.set_cons_succ]
            refine wpAnyF_take (i := 5) (v := .pointer (some ⟨w.heap.size, 1, none⟩)) rfl (by kernel_rfl) (by kernel_rfl) (by kernel_rfl) (by kernel_rfl) (fun _ _ _ h => h) (Or.inl ⟨by kernel_rfl, fun w hSw => by (try dsimp only at hSw); go_simp⟩) ⟨H8.rows.2.1, H8.rows.1⟩ ?_; try simp only [Act.put, List.getElem_toArray, List.getElem_cons_succ, List.getElem_cons_zero, List.setIfInBounds_toArray, List.set_cons_zero, List.set_cons_succ]
            refine wpAnyF_take (i := 6) (v := .pointer (some ⟨w.heap.size, 1 + i, none⟩)) rfl (by kernel_rfl) (by kernel_rfl) (by kernel_rfl) (by kernel_rfl) (fun _ _ _ h => h) (Or.inl ⟨by kernel_rfl, fun w hSw => by (try dsimp only at hSw); go_simp⟩) ⟨H8.rows.2.1, H8.rows.1⟩ ?_; try simp only [Act.put, List.getElem_toArray, List.getElem_cons_succ, List.getElem_cons_zero, List.setIfInBounds_toArray, List.set_cons_zero, List.set_cons_succ]
            refine wpAnyF_take (i := 7) (v := .int .u64 (a.k i)) rfl (by kernel_rfl) (by kernel_rfl) (by kernel_rfl) (by kernel_rfl) (fun _ _ _ h => h) (Or.inl ⟨by kernel_rfl, fun w hSw => by have hcc := gp_key hSw.1 hi8'h.out; (try dsimp only at hSw); go_simp⟩) ⟨H8.rows.2.1, H8.rows.1⟩ ?_; try simp only [Act.put, List.getElem_toArray, List.getElem_cons_succ, List.getElem_cons_zero, List.setIfInBounds_toArray, List.set_cons_zero, List.set_cons_succ]
            refine wpAnyF_take (i := 8) (v := .int .i64 i) rfl (by kernel_rfl) (by kernel_rfl) (by kernel_rfl) (by kernel_rfl) (fun _ _ _ h => h) (Or.inl ⟨by kernel_rfl, fun w hSw => by (try dsimp only at hSw); go_simp⟩) ⟨H8.rows.2.1, H8.rows.1⟩ ?_; try simp only [Act.put, List.getElem_toArray, List.getElem_cons_succ, List.getElem_cons_zero, List.setIfInBounds_toArray, List.set_cons_zero, List.set_cons_succ]
            refine wpAnyF_take (i := 9) (v := .pointer (some ⟨w.heap.size + 1, 1, none⟩)) rfl (by kernel_rfl) (by kernel_rfl) (by kernel_rfl) (by kernel_rfl) (fun _ _ _ h => h) (Or.inl ⟨by kernel_rfl, fun w hSw => by (try dsimp only at hSw); go_simp⟩) ⟨H8.rows.2.1, H8.rows.1⟩ ?_; try simp only [Act.put, List.getElem_toArray, List.getElem_cons_succ, List.getElem_cons_zero, List.setIfInBounds_toArray, List.set_cons_zero, List.set_cons_succ]
            refine wpAnyF_take (i := 10) (v := .pointer (some ⟨w.heap.size + 1, 1 + i, none⟩)) rfl (by kernel_rfl) (by kernel_rfl) (by kernel_rfl) (by kernel_rfl) (fun _ _ _ h => h) (Or.inl ⟨by kernel_rfl, fun w hSw => by (try dsimp only at hSw); go_simp⟩) ⟨H8.rows.2.1, H8.rows.1⟩ ?_; try simp only [Act.put, List.getElem_toArray, List.getElem_cons_succ, List.getElem_cons_zero, List.setIfInBounds_toArray, List.set_cons_zero, List.set_cons_succ]
            refine wpAnyF_take (i := 11) (v := .int .u64 (b.k i)) rfl (by kernel_rfl) (by kernel_rfl) (by kernel_rfl) (by kernel_rfl) (fun _ _ _ h => h) (Or.inl ⟨by kernel_rfl, fun w hSw => by have hcc := gp_key hSw.2 hi8'h.out; (try dsimp only at hSw); go_simp⟩) ⟨H8.rows.2.1, H8.rows.1⟩ ?_; try simp only [Act.put, List.getElem_toArray, List.getElem_cons_succ, List.getElem_cons_zero, List.setIfInBounds_toArray, List.set_cons_zero, List.set_cons_succ]
            refine wpAnyF_take (i := 12) (v := .bool false) rfl (by kernel_rfl) (by kernel_rfl) (by kernel_rfl) (by kernel_rfl) (fun _ _ _ h => h) (Or.inl ⟨by kernel_rfl, fun w hSw => by (try dsimp only at hSw); go_simp⟩) ⟨H8.rows.2.1, H8.rows.1⟩ ?_; try simp only [Act.put, List.getElem_toArray, List.getElem_cons_succ, List.getElem_cons_zero, List.setIfInBounds_toArray, List.set_cons_zero, List.set_cons_succ]
            refine wpAnyF_take (i := 13) (v := .bool false) rfl (by kernel_rfl) (by kernel_rfl) (by kernel_rfl) (by kernel_rfl) (fun _ _ _ h => h) (Or.inl ⟨by kernel_rfl, fun w hSw => by (try dsimp only at hSw); go_simp⟩) ⟨H8.rows.2.1, H8.rows.1⟩ ?_; try simp only [Act.put, List.getElem_toArray, List.getElem_cons_succ, List.getElem_cons_zero, List.setIfInBounds_toArray, List.set_cons_zero, List.set_cons_succ]
            refine wpAnyF_take (i := 14) (v := .int .i64 i) rfl (by kernel_rfl) (by kernel_rfl) (by kernel_rfl) (by kernel_rfl) (fun _ _ _ h => h) (Or.inl ⟨by kernel_rfl, fun w hSw => by (try dsimp only at hSw); go_simp⟩) ⟨H8.rows.2.1, H8.rows.1⟩ ?_; try simp only [Act.put, List.getElem_toArray, List.getElem_cons_succ, List.getElem_cons_zero, List.setIfInBounds_toArray, List.set_cons_zero, List.set_cons_succ]
            refine wpAnyF_take (i := 15) (v := .pointer (some ⟨w.heap.size, 9, none⟩)) rfl (by kernel_rfl) (by kernel_rfl) (by kernel_rfl) (by kernel_rfl) (fun _ _ _ h => h) (Or.inl ⟨by kernel_rfl, fun w hSw => by (try dsimp only at hSw); go_simp⟩) ⟨H8.rows.2.1, H8.rows.1⟩ ?_; try simp only [Act.put, List.getElem_toArray, List.getElem_cons_succ, List.getElem_cons_zero, List.setIfInBounds_toArray, List.set_cons_zero, List.set_cons_succ]
            refine wpAnyF_take (i := 16) (v := .pointer (some ⟨w.heap.size, 9 + i, none⟩)) rfl (by kernel_rfl) (by kernel_rfl) (by kernel_rfl) (by kernel_rfl) (fun _ _ _ h => h) (Or.inl ⟨by kernel_rfl, fun w hSw => by (try dsimp only at hSw); go_simp⟩) ⟨H8.rows.2.1, H8.rows.1⟩ ?_; try simp only [Act.put, List.getElem_toArray, List.getElem_cons_succ, List.getElem_cons_zero, List.setIfInBounds_toArray, List.set_cons_zero, List.set_cons_succ]
            refine wpAnyF_take (i := 17) (v := .int .u64 (a.v i)) rfl (by kernel_rfl) (by kernel_rfl) (by kernel_rfl) (by kernel_rfl) (fun _ _ _ h => h) (Or.inl ⟨by kernel_rfl, fun w hSw => by have hcc := gp_val hSw.1 hi8'h.out; (try dsimp only at hSw); go_simp⟩) ⟨H8.rows.2.1, H8.rows.1⟩ ?_; try simp only [Act.put, List.getElem_toArray, List.getElem_cons_succ, List.getElem_cons_zero, List.setIfInBounds_toArray, List.set_cons_zero, List.set_cons_succ]
            refine wpAnyF_take (i := 18) (v := .int .i64 i) rfl (by kernel_rfl) (by kernel_rfl) (by kernel_rfl) (by kernel_rfl) (fun _ _ _ h => h) (Or.inl ⟨by kernel_rfl, fun w hSw => by (try dsimp only at hSw); go_simp⟩) ⟨H8.rows.2.1, H8.rows.1⟩ ?_; try simp only [Act.put, List.getElem_toArray, List.getElem_cons_succ, List.getElem_cons_zero, List.setIfInBounds_toArray, List.set_cons_zero, List.set_cons_succ]
            refine wpAnyF_take (i := 19) (v := .pointer (some ⟨w.heap.size + 1, 9, none⟩)) rfl (by kernel_rfl) (by kernel_rfl) (by kernel_rfl) (by kernel_rfl) (fun _ _ _ h => h) (Or.inl ⟨by kernel_rfl, fun w hSw => by (try dsimp only at hSw); go_simp⟩) ⟨H8.rows.2.1, H8.rows.1⟩ ?_; try simp only [Act.put, List.getElem_toArray, List.getElem_cons_succ, List.getElem_cons_zero, List.setIfInBounds_toArray, List.set_cons_zero, List.set_cons_succ]
            refine wpAnyF_take (i := 20) (v := .pointer (some ⟨w.heap.size + 1, 9 + i, none⟩)) rfl (by kernel_rfl) (by kernel_rfl) (by kernel_rfl) (by kernel_rfl) (fun _ _ _ h => h) (Or.inl ⟨by kernel_rfl, fun w hSw => by (try dsimp only at hSw); go_simp⟩) ⟨H8.rows.2.1, H8.rows.1⟩ ?_; try simp only [Act.put, List.getElem_toArray, List.getElem_cons_succ, List.getElem_cons_zero, List.setIfInBounds_toArray, List.set_cons_zero, List.set_cons_succ]
            refine wpAnyF_take (i := 21) (v := .int .u64 (b.v i)) rfl (by kernel_rfl) (by kernel_rfl) (by kernel_rfl) (by kernel_rfl) (fun _ _ _ h => h) (Or.inl ⟨by kernel_rfl, fun w hSw => by have hcc := gp_val hSw.2 hi8'h.out; (try dsimp only at hSw); go_simp⟩) ⟨H8.rows.2.1, H8.rows.1⟩ ?_; try simp only [Act.put, List.getElem_toArray, List.getElem_cons_succ, List.getElem_cons_zero, List.setIfInBounds_toArray, List.set_cons_zero, List.set_cons_succ]
            refine wpAnyF_take (i := 22) (v := .bool false) rfl (by kernel_rfl) (by kernel_rfl) (by kernel_rfl) (by kernel_rfl) (fun _ _ _ h => h) (Or.inl ⟨by kernel_rfl, fun w hSw => by (try dsimp only at hSw); go_simp⟩) ⟨H8.rows.2.1, H8.rows.1⟩ ?_; try simp only [Act.put, List.getElem_toArray, List.getElem_cons_succ, List.getElem_cons_zero, List.setIfInBounds_toArray, List.set_cons_zero, List.set_cons_succ]
            refine wpAnyF_take (i := 23) (v := .bool false) rfl (by kernel_rfl) (by kernel_rfl) (by kernel_rfl) (by kernel_rfl) (fun _ _ _ h => h) (Or.inl ⟨by kernel_rfl, fun w hSw => by (try dsimp only at hSw); go_simp⟩) ⟨H8.rows.2.1, H8.rows.1⟩ ?_; try simp only [Act.put, List.getElem_toArray, List.getElem_cons_succ, List.getElem_cons_zero, List.setIfInBounds_toArray, List.set_cons_zero, List.set_cons_succ]
            refine wpAnyF_take (i := 24) (v := .bool false) rfl (by kernel_rfl) (by kernel_rfl) (by kernel_rfl) (by kernel_rfl) (fun _ _ _ h => h) (Or.inl ⟨by kernel_rfl, fun w hSw => by (try dsimp only at hSw); go_simp⟩) ⟨H8.rows.2.1, H8.rows.1⟩ ?_; try simp only [Act.put, List.getElem_toArray, List.getElem_cons_succ, List.getElem_cons_zero, List.setIfInBounds_toArray, List.set_cons_zero, List.set_cons_succ]
            refine wpAnyF_done (by kernel_rfl) ?_ _
            refine noPanic_normal ?_
            have H8'h := Lib.hid H8
            clear H8 H7
            go_wp2
            go_roundg (gk - 1)
            case measure => have := hq'h.out; omega
            case rel => exact ⟨i + 1, by have := hq'h.out; omega, by go_num, fun i' hi' => by
              by_cases e : i' = i
              · subst e; exact hp'h.out
              · exact hno'h.out i' (by omega), H8'h.out⟩
    · have hi9 : i = 8 := by omega
      subst hi9
      have hgd := hgood'h.out hno
      have c0 := gp_ctrl hH.rows.2.1
      have c1 := gp_ctrl hH.rows.1
      have hgd'h := Lib.hid hgd
      have hH'h := Lib.hid hH
      have hno'h := Lib.hid hno
      have hq'h := Lib.hid hq
      clear hgd hH hno hq
      clear hi8
      go_wp2
      go_ret
      exact ⟨by rw [hgd'h.out]; rfl, hH'h.out.old⟩
end Go.Proofs.Ytfoohdjgnphdgaa

/-
  The document's groups: New, the lanes that are looked at, Find, what full slots are, how many are free.
-/
set_option linter.unusedSimpArgs false
set_option linter.unusedVariables false
set_option maxRecDepth 100000
namespace Go.Proofs.Ytfoohdjgnphdgaa
open Go.RowKit

theorem Hs.grown {w0 : World} {l : List Blk3} {W W' : World} (h : Hs w0 l W) {row : Option Nat} (hg : W.grownBy W' row) (hr : ∀ k, row = some k → w0.heap.size ≤ k ∧ ∀ x ∈ l, x.1 ≠ k) : Hs w0 l W' :=
  ⟨HasL.of fun x hx => (hg.block _ (h.lt x hx) (fun e => (hr _ e.symm).2 x hx rfl)).trans (h.rows.mem x hx), h.old.grown hg h.old.size (fun k hk => (hr k hk).1), h.low, h.desc⟩
/-! ### New -/
def newC (k : Nat) : Nat := (List.range k).foldl (fun c i => setLane c i 128) 0
theorem newC_succ (k : Nat) : newC (k + 1) = setLane (newC k) k 128 := by unfold newC; rw [List.range_succ, List.foldl_append]; rfl
theorem newC_full : newC 8 = fillW 128 := by decide +kernel
theorem newC_lt : ∀ k, newC k < 2 ^ 64
  | 0 => by decide
  | k + 1 => by rw [newC_succ]; exact setLane_lt _ _ _ (by decide)
theorem rgnew_any (w : World) : Calls Try.prog 12 #[] w fun e w' => e = .returned (.agg (gpA gpNew)) ∧ Below w.heap.size w w' := by
  have P := fun c i w hc hi => refPut_any c 128 i w hc (by decide) hi
  have hO := (Hs.nil w).new2 (gpA gpZ) (gpA gpZ) 25 25
  have P'h := Lib.hid P
  have hO'h := Lib.hid hO
  clear P hO
  go_enter Try.func12, Try.ntmps12
  go_wp2
  have hO := hO'h.out
  change Code.wp _ _ _ _ ((w.alloc (.cells (gpA gpZ) 25)).alloc (.cells (gpA gpZ) 25))
  generalize World.alloc (World.alloc _ _) _ = W0 at hO ⊢
  have hO'h := Lib.hid hO
  clear hO
  go_loopg [3] 8 (fun q i wr => ∃ k : Nat, k + q = 8 ∧ i = .int .i64 k ∧ Hs w [(w.heap.size + 1, gpA ⟨newC k, fun _ => 0, fun _ => 0⟩, 25), (w.heap.size, gpA gpZ, 25)] wr)
  case atStart => exact ⟨0, rfl, rfl, hO'h.out⟩
  case round =>
    obtain ⟨k, hq, rfl, hH⟩ := hrel
    by_cases h8 : k < 8
    · have hi1 : (k : Int) < 8 := by omega
      have c0 := gp_ctrl hH.rows.1
      have PK := fun w => P'h.out (newC k) k w (newC_lt k) h8
      rw [← newC_succ] at PK
      obtain ⟨y, hy⟩ : ∃ y, y = newC (k + 1) := ⟨_, rfl⟩
      rw [← hy] at PK
      have hq'h := Lib.hid hq
      have h8'h := Lib.hid h8
      have PK'h := Lib.hid PK
      have hy'h := Lib.hid hy
      clear hq h8 PK hy
      have hH'h := Lib.hid hH
      clear hH
      go_wp2_with (first | (go_at_call 43; refine (PK'h.out _).mono ?_; rintro e w2 ⟨rfl, hb2⟩; clear c0; have hH2 := hH'h.out.next hb2; have c2 := gp_ctrl hH2.rows.1; have f2 := blk_free 0 hH2.rows.1; have hH2'h := Lib.hid hH2; clear hH2 hb2))
      have hH3 := hH2'h.out.put 0 rfl 0 (.int .u64 y)
      go_roundg (gk - 1)
      case measure => have := hq'h.out; omega
      case rel =>
        refine ⟨k + 1, by have := hq'h.out; omega, by go_num, ?_⟩
        rw [← hy'h.out]; exact hH3
    · obtain rfl : k = 8 := by omega
      rw [newC_full] at hH
      change Hs w [(w.heap.size + 1, gpA gpNew, 25), (w.heap.size, gpA gpZ, 25)] wr at hH
      have hH'h := Lib.hid hH
      have hq'h := Lib.hid hq
      clear hH hq
      clear h8
      go_wp2_with (first | (refine wpList_load_row rfl _ _ rfl (w.heap.size + 1) rfl 25 (gpA gpNew) (0, 0) _ hH'h.out.rows.1 Try.underlying25 rfl infoGp ?_) | (refine wpList_store_row rfl _ _ _ rfl w.heap.size (gpA gpNew) rfl rfl 25 _ hH'h.out.rows.2.1 infoGp rfl (gpA_one _) ?_))
      have hH3 := hH'h.out.set 1 rfl (gpA gpNew)
      change bodyPost _ _ _ _ _ (wr.setRow w.heap.size (gpA gpNew))
      generalize World.setRow _ _ _ = W5 at hH3 ⊢
      refine bodyPost_ret (results_cell_row rfl _ _ w.heap.size 25 (gpA gpNew) (0, 0) _ rfl hH3.rows.2.1 Try.underlying25 rfl infoGp) rfl ⟨rfl, hH3.old⟩
/-! ### Looks -/
def looksK (g : Gp) (h k : Nat) : List Nat := (List.range k).filter fun i => byteAt g.c i == h
theorem looksK_yes {g : Gp} {h k : Nat} (e : (byteAt g.c k == h) = true) : looksK g h (k + 1) = looksK g h k ++ [k] := by unfold looksK; rw [List.range_succ, List.filter_append]; simp at e; simp [e]
theorem looksK_no {g : Gp} {h k : Nat} (e : (byteAt g.c k == h) = false) : looksK g h (k + 1) = looksK g h k := by unfold looksK; rw [List.range_succ, List.filter_append]; simp at e; simp [e]
theorem looksK_le (g : Gp) (h k : Nat) : (looksK g h k).length ≤ k := by unfold looksK; exact Nat.le_trans (List.length_filter_le _ _) (by simp)
theorem ints_snoc (l : List Nat) (k : Nat) : ints l ++ [.int .i64 (k : Int)] = ints (l ++ [k]) := by unfold ints; rw [List.map_append]; rfl
def IntRow1 (base : Nat) (l : List Nat) (w : World) (e : Ending) (w' : World) : Prop :=
  ∃ sp n cap, e = .returned (.slice sp n cap) ∧ Below base w w' ∧ w'.ownsRow base 3 1 (.slice sp n cap) l.length (ints l)
theorem rglooks_any (g : Gp) (h : Nat) (w : World) (hg : GpOk g) : Calls Try.prog 22 #[.agg (gpA g), .int .u8 h] w (IntRow1 w.heap.size (looksG g h) w) := by
  obtain ⟨i0, hi, hz0, hz1, hz2⟩ := info_parts info_int
  have A := fun n w (hn : n < 8) => refAt_any g.c n w hg.c (by omega)
  have hO := (Hs.nil w).new (gpA g) 25
  have A'h := Lib.hid A
  have hO'h := Lib.hid hO
  have hg'h := Lib.hid hg
  clear A hO hg
  go_enter Try.func22, Try.ntmps22
  go_wp2
  have hO := hO'h.out
  generalize w.alloc _ = W0 at hO ⊢
  have hO'h := Lib.hid hO
  clear hO
  go_loopg [5, 7] 8 (fun q v i wr => ∃ k : Nat, k + q = 8 ∧ i = .int .i64 k ∧ Hs w [(w.heap.size, gpA g, 25)] wr ∧ wr.ownsRow (w.heap.size + 1) 3 1 v (looksK g h k).length (ints (looksK g h k)))
  case atStart => exact ⟨0, rfl, rfl, hO'h.out, World.ownsRow_nil _ _ _ _⟩
  case round =>
    obtain ⟨k, hq, rfl, hH, hrow⟩ := hrel
    have hlk := looksK_le g h k
    have hsz := hH.lt _ (List.mem_cons_self ..)
    simp only at hsz
    by_cases h8 : k < 8
    · have hi1 : (k : Int) < 8 := by omega
      have c0 := gp_ctrl hH.rows.1
      have AK := fun w => A'h.out k w h8
      have e : (byteAt g.c k == h) = ((byteAt g.c k : Int) == (h : Int)) := by rw [Bool.eq_iff_iff]; simp; omega
      cases hf : byteAt g.c k == h with
      | true =>
        have hs := looksK_yes hf
        rw [hf] at e
        have e2 := e.symm
        clear e hf
        have hq'h := Lib.hid hq
        have h8'h := Lib.hid h8
        have AK'h := Lib.hid AK
        have hs'h := Lib.hid hs
        have hH'h := Lib.hid hH
        clear hq h8 AK hs hH
        go_wp2_with (first | (go_at_call 45; refine (AK'h.out _).mono ?_; rintro e w2 ⟨rfl, hw2⟩; obtain rfl := hw2.symm) | (at_builtin; refine wpList_append _ rfl (.tmp 16) (.tmp 18) 39 rfl (w.heap.size + 1) 3 i0 (.int .i64 0) 1 8 Try.underlying39 hi hz0 hz1 hz2 rfl (by decide) _ (looksK g h k).length _ rfl (hrow.alloc _) ⟨_, 0, none⟩ 1 1 [.int .i64 k] rfl rfl (cell_one_new _ _ _) (by simp [Value.oneCell']) (by unfold maxLen; omega) (by omega) (by simp; omega) (by decide) ?_; intro v' w1 hown' hgrow hwh))
        go_roundg (gk - 1)
        case measure => have := hq'h.out; omega
        case rel =>
          refine ⟨k + 1, by have := hq'h.out; omega, by go_num, (hH'h.out.next ((Below.refl _ _).alloc (Nat.le_refl _) _)).grown hgrow (fun j hj => ?_), ?_⟩
          · have := (hrow.lt j hj).1
            exact ⟨by omega, fun x hx => by simp at hx; rw [hx]; simp; omega⟩
          · rw [hs'h.out]
            have h5 := hown'
            rw [ints_snoc, show (looksK g h k).length + 1 = (looksK g h k ++ [k]).length by simp] at h5
            exact h5
      | false =>
        have hs := looksK_no hf
        rw [hf] at e
        have e2 := e.symm
        clear e hf
        have hq'h := Lib.hid hq
        have h8'h := Lib.hid h8
        have AK'h := Lib.hid AK
        have hs'h := Lib.hid hs
        have hH'h := Lib.hid hH
        clear hq h8 AK hs hH
        go_wp2_with (first | (go_at_call 45; refine (AK'h.out _).mono ?_; rintro e w2 ⟨rfl, hw2⟩; obtain rfl := hw2.symm))
        go_roundg (gk - 1)
        case measure => have := hq'h.out; omega
        case rel => exact ⟨k + 1, by have := hq'h.out; omega, by go_num, hH'h.out, by rw [hs'h.out]; exact hrow⟩
    · obtain rfl : k = 8 := by omega
      change wr.ownsRow (w.heap.size + 1) 3 1 _ (looksG g h).length (ints (looksG g h)) at hrow
      obtain ⟨sp, cap, rfl⟩ := row_slice' hrow
      have hrow'h := Lib.hid hrow
      have hH'h := Lib.hid hH
      have hq'h := Lib.hid hq
      clear hrow hH hq
      clear h8 hlk hsz
      go_wp2
      go_ret
      exact ⟨sp, _, cap, rfl, hH'h.out.old, ownsRow_mono hrow'h.out (by omega)⟩
end Go.Proofs.Ytfoohdjgnphdgaa

/-
  The document's groups: Find, how many are free, what full slots are.
-/
set_option linter.unusedSimpArgs false
set_option linter.unusedVariables false
set_option maxRecDepth 100000
namespace Go.Proofs.Ytfoohdjgnphdgaa
open Go.RowKit

def rfindL (g : Gp) (key h : Nat) : Int := if foundG g key h = true then (laneG g key h : Int) else -1
def rfindN (g : Gp) (key h : Nat) : Nat := if foundG g key h = true then placeG g key h + 1 else 0
theorem rgfind_any (g : Gp) (key h : Nat) (w : World) (hg : GpOk g) : Calls Try.prog 23 #[.agg (gpA g), .int .u64 key, .int .u8 h] w fun e w' => e = .returned (.tuple #[.int .i64 (rfindL g key h), .int .i64 (rfindN g key h)]) ∧ Below w.heap.size w w' := by
  have L := fun w => rglooks_any g h w hg
  obtain ⟨W, hW⟩ : ∃ W, W = w.alloc (.cells (gpA g) 25) := ⟨_, rfl⟩
  have hO := (Hs.nil w).new (gpA g) 25
  rw [← hW] at hO
  have hlt := fun i (hi : i ∈ looksG g h) => looksG_lt hi
  have hyes : ∀ k, k < (looksG g h).length → (∀ j, j < k → (g.k (nthN (looksG g h) j) == key) = false) → (g.k (nthN (looksG g h) k) == key) = true → rfindN g key h = k + 1 ∧ rfindL g key h = (nthN (looksG g h) k : Int) := fun k hk' hno hy => by
    have hp : placeG g key h = k := findIdx_hit hk' hno hy
    have e : foundG g key h = true := by unfold foundG; rw [hp]; simpa using hk'
    refine ⟨by unfold rfindN; rw [if_pos e, hp], by unfold rfindL laneG; rw [if_pos e, hp]⟩
  have hmiss : (∀ j, j < (looksG g h).length → (g.k (nthN (looksG g h) j) == key) = false) → rfindN g key h = 0 ∧ rfindL g key h = -1 := fun hno => by
    have hp : placeG g key h = (looksG g h).length := findIdx_miss hno
    have e : ¬ foundG g key h = true := by unfold foundG; rw [hp]; simp
    refine ⟨by unfold rfindN; rw [if_neg e], by unfold rfindL; rw [if_neg e]⟩
  have hlen : (looksG g h).length ≤ 8 := Nat.le_trans (List.length_filter_le _ _) (by simp)
  generalize rfindN g key h = zn at *
  generalize rfindL g key h = zl at *
  generalize looksG g h = l at *
  have L'h := Lib.hid L
  have hO'h := Lib.hid hO
  have hlt'h := Lib.hid hlt
  have hyes'h := Lib.hid hyes
  have hmiss'h := Lib.hid hmiss
  have hg'h := Lib.hid hg
  have hlen'h := Lib.hid hlen
  clear L hO hlt hyes hmiss hg hlen
  go_enter Try.func23, Try.ntmps23
  go_upto_region 1 with fail
  rw [← hW]
  clear hW
  go_wp2_with (first | (refine wpList_load_row rfl _ _ rfl w.heap.size rfl 25 (gpA g) (0, 0) _ hO'h.out.rows.1 Try.underlying25 rfl infoGp ?_) | (go_at_call 22; refine (L'h.out _).mono ?_; rintro e w2 ⟨sp, n, cap, rfl, hb2, hrow⟩; obtain rfl := row_len' hrow))
  have hO2 := hO'h.out.next hb2
  have hrw : ∀ j, j < l.length → ∃ rb ro, sp = some ⟨rb, ro, none⟩ ∧ w2.cell? ⟨rb, ro + j, none⟩ = some (.int .i64 (nthN l j)) := fun j hj => by
    obtain ⟨b, off, e, hc⟩ := (Sl.of_row hrow (by have := hlen'h.out; unfold maxLen; omega)).some' (by omega)
    exact ⟨b, off, e, hc j _ (ints_at hj)⟩
  clear hb2 hrow
  have hO2'h := Lib.hid hO2
  have hrw'h := Lib.hid hrw
  clear hO2 hrw
  go_loopg [14] l.length (fun q i wr => ∃ k : Nat, k + q = l.length ∧ i = .int .i64 k ∧ (∀ j, j < k → (g.k (nthN l j) == key) = false) ∧ wr = w2)
  case atStart => exact ⟨0, by omega, rfl, fun j hj => absurd hj (by omega), rfl⟩
  case round =>
    obtain ⟨k, hq, rfl, hno, rfl⟩ := hrel
    by_cases hlt : k < l.length
    · have hi1 : (k : Int) < (l.length : Int) := by omega
      obtain ⟨rb, ro, rfl, hc⟩ := hrw'h.out k hlt
      have hn8 := hlt'h.out _ (nthN_mem hlt)
      have ck := gp_key hO2'h.out.rows.1 hn8
      have h0n : (0 : Int) ≤ (nthN l k : Int) := by omega
      have hn88 : (nthN l k : Int) < 8 := by omega
      have hk9 : k < 9 := by have := hlen'h.out; omega
      have e : (g.k (nthN l k) == key) = ((g.k (nthN l k) : Int) == (key : Int)) := by rw [Bool.eq_iff_iff]; simp; omega
      cases hy : g.k (nthN l k) == key with
      | true =>
        obtain ⟨z2, z3⟩ := hyes'h.out k hlt hno hy
        rw [hy] at e
        have e2 := e.symm
        clear e
        have hno'h := Lib.hid hno
        have hq'h := Lib.hid hq
        have hlt'h := Lib.hid hlt
        have hy'h := Lib.hid hy
        have z2'h := Lib.hid z2
        have z3'h := Lib.hid z3
        clear hno hq hlt hy z2 z3
        go_wp2
        refine bodyPost_ret (v := .tuple #[.int .i64 (nthN l k), .int .i64 (k + 1)]) (by simp [results, Try.results23, go_sem]) rfl ⟨by rw [z2'h.out, z3'h.out]; rfl, hO2'h.out.old⟩
      | false =>
        rw [hy] at e
        have e2 := e.symm
        clear e
        have hno'h := Lib.hid hno
        have hq'h := Lib.hid hq
        have hlt'h := Lib.hid hlt
        have hy'h := Lib.hid hy
        clear hno hq hlt hy
        go_wp2
        go_roundg (gk - 1)
        case measure => have := hq'h.out; omega
        case rel => exact ⟨k + 1, by have := hq'h.out; omega, by go_num, fun j hj => by
          by_cases e : j = k
          · subst e; exact hy'h.out
          · exact hno'h.out j (by omega), rfl⟩
    · have hkk : k = l.length := by omega
      obtain ⟨z2, z3⟩ := hmiss'h.out (by rw [← hkk]; exact hno)
      subst hkk
      have hno'h := Lib.hid hno
      have hq'h := Lib.hid hq
      have z2'h := Lib.hid z2
      have z3'h := Lib.hid z3
      clear hno hq z2 z3
      clear hlt
      go_wp2
      refine bodyPost_ret (v := .tuple #[.int .i64 (-1), .int .i64 0]) (by simp [results, Try.results23, go_sem]) rfl ⟨by rw [z2'h.out, z3'h.out]; rfl, hO2'h.out.old⟩
/-! ### Free -/
def cntK (g : Gp) (b k : Nat) : Nat := ((List.range k).filter fun i => byteAt g.c i == b).length
theorem cntK_succ (g : Gp) (b k : Nat) : cntK g b (k + 1) = cntK g b k + (if (byteAt g.c k == b) = true then 1 else 0) := filt_succ _ k
theorem cntK_le (g : Gp) (b k : Nat) : cntK g b k ≤ k := by unfold cntK; exact Nat.le_trans (List.length_filter_le _ _) (by simp)
theorem rgfree_any (g : Gp) (w : World) (hg : GpOk g) : Calls Try.prog 16 #[.agg (gpA g)] w fun e w' => e = .returned (.tuple #[.int .i64 (emptyN g), .int .i64 (deadN g)]) ∧ Below w.heap.size w w' := by
  have A := fun n w (hn : n < 8) => refAt_any g.c n w hg.c (by omega)
  have hO := (Hs.nil w).new (gpA g) 25
  have e1 : emptyN g = cntK g 128 8 := rfl
  have e2 : deadN g = cntK g 254 8 := rfl
  rw [e1, e2]
  have A'h := Lib.hid A
  have hO'h := Lib.hid hO
  have hg'h := Lib.hid hg
  have e1'h := Lib.hid e1
  have e2'h := Lib.hid e2
  clear A hO hg e1 e2
  go_enter Try.func16, Try.ntmps16
  go_wp2
  have hO := hO'h.out
  generalize w.alloc _ = W0 at hO ⊢
  have hO'h := Lib.hid hO
  clear hO
  go_loopg [4, 5, 7] 8 (fun q a b i wr => ∃ k : Nat, k + q = 8 ∧ i = .int .i64 k ∧ a = .int .i64 (cntK g 128 k) ∧ b = .int .i64 (cntK g 254 k) ∧ wr = W0)
  case atStart => exact ⟨0, rfl, rfl, rfl, rfl, rfl⟩
  case round =>
    obtain ⟨k, hq, rfl, rfl, rfl, rfl⟩ := hrel
    have l1 := cntK_le g 128 k
    have l2 := cntK_le g 254 k
    by_cases h8 : k < 8
    · have hi1 : (k : Int) < 8 := by omega
      have c0 := gp_ctrl hO'h.out.rows.1
      have AK := fun w => A'h.out k w h8
      have s1 := cntK_succ g 128 k
      have s2 := cntK_succ g 254 k
      have l3 : (cntK g 128 k : Int) ≤ 8 := by omega
      have l4 : (cntK g 254 k : Int) ≤ 8 := by omega
      generalize byteAt g.c k = bb at *
      by_cases h1 : bb = 128
      · subst h1
        simp at s1 s2
        have g1 : (((128 : Nat) : Int) == 128) = true := rfl
        have hq'h := Lib.hid hq
        have h8'h := Lib.hid h8
        have AK'h := Lib.hid AK
        have s1'h := Lib.hid s1
        have s2'h := Lib.hid s2
        clear hq h8 AK s1 s2
        go_wp2_with (first | (go_at_call 45; refine (AK'h.out _).mono ?_; rintro e w2 ⟨rfl, hw2⟩; obtain rfl := hw2.symm))
        go_roundg (gk - 1)
        case measure => have := hq'h.out; omega
        case rel => exact ⟨k + 1, by have := hq'h.out; omega, by go_num, by rw [s1'h.out]; go_num, by rw [s2'h.out], rfl⟩
      · have g1 : ((bb : Int) == 128) = false := by simp; omega
        have t1 : cntK g 128 (k + 1) = cntK g 128 k := by rw [s1, if_neg (by simpa using h1)]; rfl
        by_cases h2 : bb = 254
        · have g2 : ((bb : Int) == 254) = true := by simp; omega
          have t2 : cntK g 254 (k + 1) = cntK g 254 k + 1 := by rw [s2, if_pos (by simpa using h2)]
          clear h1 h2 s1 s2
          have hq'h := Lib.hid hq
          have h8'h := Lib.hid h8
          have AK'h := Lib.hid AK
          have t1'h := Lib.hid t1
          have t2'h := Lib.hid t2
          clear hq h8 AK t1 t2
          go_wp2_with (first | (go_at_call 45; refine (AK'h.out _).mono ?_; rintro e w2 ⟨rfl, hw2⟩; obtain rfl := hw2.symm))
          go_roundg (gk - 1)
          case measure => have := hq'h.out; omega
          case rel => exact ⟨k + 1, by have := hq'h.out; omega, by go_num, by rw [t1'h.out], by rw [t2'h.out]; go_num, rfl⟩
        · have g2 : ((bb : Int) == 254) = false := by simp; omega
          have t2 : cntK g 254 (k + 1) = cntK g 254 k := by rw [s2, if_neg (by simpa using h2)]; rfl
          clear h1 h2 s1 s2
          have hq'h := Lib.hid hq
          have h8'h := Lib.hid h8
          have AK'h := Lib.hid AK
          have t1'h := Lib.hid t1
          have t2'h := Lib.hid t2
          clear hq h8 AK t1 t2
          go_wp2_with (first | (go_at_call 45; refine (AK'h.out _).mono ?_; rintro e w2 ⟨rfl, hw2⟩; obtain rfl := hw2.symm))
          go_roundg (gk - 1)
          case measure => have := hq'h.out; omega
          case rel => exact ⟨k + 1, by have := hq'h.out; omega, by go_num, by rw [t1'h.out], by rw [t2'h.out], rfl⟩
    · obtain rfl : k = 8 := by omega
      clear h8
      have hq'h := Lib.hid hq
      clear hq
      go_wp2
      refine bodyPost_ret (v := .tuple #[.int .i64 (cntK g 128 8), .int .i64 (cntK g 254 8)]) (by simp [results, Try.results16, go_sem]) rfl ⟨rfl, hO'h.out.old⟩
end Go.Proofs.Ytfoohdjgnphdgaa

/-
  The document's groups: what full slots are; Put; Drop.
-/
set_option linter.unusedSimpArgs false
set_option linter.unusedVariables false
set_option maxRecDepth 100000
namespace Go.Proofs.Ytfoohdjgnphdgaa
open Go.RowKit

def liveK (g : Gp) (k : Nat) : List Sl3 := ((List.range k).filter fun i => fullAt g.c i).map (slotAt g)
theorem liveK_yes {g : Gp} {k : Nat} (e : fullAt g.c k = true) : liveK g (k + 1) = liveK g k ++ [slotAt g k] := by unfold liveK; rw [List.range_succ, List.filter_append]; simp [e]
theorem liveK_no {g : Gp} {k : Nat} (e : fullAt g.c k = false) : liveK g (k + 1) = liveK g k := by unfold liveK; rw [List.range_succ, List.filter_append]; simp [e]
theorem liveK_le (g : Gp) (k : Nat) : (liveK g k).length ≤ k := by unfold liveK; rw [List.length_map]; exact Nat.le_trans (List.length_filter_le _ _) (by simp)
theorem sls_snoc (l : List Sl3) (s : Sl3) : sls l ++ slL s = sls (l ++ [s]) := by unfold sls; rw [List.flatMap_append]; simp
theorem infoSl3 : (Try.prog.info? 38).map (fun i => (i.zero, i.size, i.bytes)) = some (some (.agg #[.int .u64 0, .int .u64 0, .int .u8 0]), 3, 24) := by kernel_rfl
set_option maxHeartbeats 1000000 in
theorem rglive_any (g : Gp) (w : World) (hg : GpOk g) : Calls Try.prog 15 #[.agg (gpA g)] w (SlRow w.heap.size (liveG g) w) := by
  obtain ⟨i0, hi, hz0, hz1, hz2⟩ := info_parts infoSl3
  have A := fun n w (hn : n < 8) => refAt_any g.c n w hg.c (by omega)
  have F := fun n w hn => rgfull_any g n w hg hn
  have hO := (Hs.nil w).new (gpA g) 25
  have A'h := Lib.hid A
  have F'h := Lib.hid F
  have hO'h := Lib.hid hO
  have hg'h := Lib.hid hg
  clear A F hO hg
  go_enter Try.func15, Try.ntmps15
  go_wp2
  have hO := hO'h.out
  generalize w.alloc _ = W0 at hO ⊢
  have hO'h := Lib.hid hO
  clear hO
  go_loopg [3, 5] 8 (fun q v i wr => ∃ k : Nat, k + q = 8 ∧ i = .int .i64 k ∧ Hs w [(w.heap.size, gpA g, 25)] wr ∧ wr.ownsRow (w.heap.size + 1) 38 3 v (liveK g k).length (sls (liveK g k)))
  case atStart => exact ⟨0, rfl, rfl, hO'h.out, World.ownsRow_nil _ _ _ _⟩
  case round =>
    obtain ⟨k, hq, rfl, hH, hrow⟩ := hrel
    have hlk := liveK_le g k
    have hsz := hH.lt _ (List.mem_cons_self ..)
    simp only at hsz
    by_cases h8 : k < 8
    · have hi1 : (k : Int) < 8 := by omega
      have h0k : (0 : Int) ≤ (k : Int) := by omega
      have AK := fun w => A'h.out k w h8
      have FK := fun w => F'h.out k w h8
      cases hf : fullAt g.c k with
      | true =>
        have hs := liveK_yes hf
        rw [hf] at FK
        clear hf
        have hq'h := Lib.hid hq
        have h8'h := Lib.hid h8
        have AK'h := Lib.hid AK
        have FK'h := Lib.hid FK
        have hs'h := Lib.hid hs
        have hH'h := Lib.hid hH
        have hrow'h := Lib.hid hrow
        clear hq h8 AK FK hs hH hrow
        go_upto_region 6 with (first | (refine wpList_load_row rfl _ _ rfl w.heap.size rfl 25 (gpA g) (0, 0) _ hH'h.out.rows.1 Try.underlying25 rfl infoGp ?_) | (go_at_call 27; refine (FK'h.out _).mono ?_; rintro e w2 ⟨rfl, hb2⟩))
        have H7 := (hH'h.out.next hb2).drew
        have hrow2 : w2.drew.ownsRow (w.heap.size + 1) 38 3 _ (liveK g k).length (sls (liveK g k)) := ownsRow_next hrow'h.out (hb2.trans (Below.drew (Below.refl _ _)))
        have hsz2 := hb2.size
        refine wp_region_heldQ (fun w' => w'.heap[w.heap.size]? = some (.cells (gpA g) 25 (0, 0))) 99 (by kernel_rfl) ?_
        generalize w2.drew = V at H7 hrow2 ⊢
        refine wpAnyF_take (i := 0) rfl (by kernel_rfl) (by kernel_rfl) (by kernel_rfl) (by kernel_rfl) (fun _ _ _ h => h) (Or.inl ⟨by kernel_rfl, fun w hSw => by (try dsimp only at hSw); go_simp; rfl⟩) H7.rows.1 ?_; try simp only [Act.put, List.getElem_toArray, List.getElem_cons_succ, List.getElem_cons_zero, List.setIfInBounds_toArray, List.set_cons_zero, List.set_cons_succ]
        refine wpAnyF_take (i := 1) (v := .int .i64 k) rfl (by kernel_rfl) (by kernel_rfl) (by kernel_rfl) (by kernel_rfl) (fun _ _ _ h => h) (Or.inl ⟨by kernel_rfl, fun w hSw => by (try dsimp only at hSw); go_simp⟩) H7.rows.1 ?_; try simp only [Act.put, List.getElem_toArray, List.getElem_cons_succ, List.getElem_cons_zero, List.setIfInBounds_toArray, List.set_cons_zero, List.set_cons_succ]
        refine wpAnyF_take (i := 2) (v := .pointer (some ⟨w.heap.size, 1, none⟩)) rfl (by kernel_rfl) (by kernel_rfl) (by kernel_rfl) (by kernel_rfl) (fun _ _ _ h => h) (Or.inl ⟨by kernel_rfl, fun w hSw => by (try dsimp only at hSw); go_simp⟩) H7.rows.1 ?_; try simp only [Act.put, List.getElem_toArray, List.getElem_cons_succ, List.getElem_cons_zero, List.setIfInBounds_toArray, List.set_cons_zero, List.set_cons_succ]
        refine wpAnyF_take (i := 3) (v := .pointer (some ⟨w.heap.size, 1 + k, none⟩)) rfl (by kernel_rfl) (by kernel_rfl) (by kernel_rfl) (by kernel_rfl) (fun _ _ _ h => h) (Or.inl ⟨by kernel_rfl, fun w hSw => by (try dsimp only at hSw); go_simp⟩) H7.rows.1 ?_; try simp only [Act.put, List.getElem_toArray, List.getElem_cons_succ, List.getElem_cons_zero, List.setIfInBounds_toArray, List.set_cons_zero, List.set_cons_succ]
        refine wpAnyF_take (i := 4) (v := .int .u64 (g.k k)) rfl (by kernel_rfl) (by kernel_rfl) (by kernel_rfl) (by kernel_rfl) (fun _ _ _ h => h) (Or.inl ⟨by kernel_rfl, fun w hSw => by have hcc := gp_key hSw h8'h.out; (try dsimp only at hSw); go_simp⟩) H7.rows.1 ?_; try simp only [Act.put, List.getElem_toArray, List.getElem_cons_succ, List.getElem_cons_zero, List.setIfInBounds_toArray, List.set_cons_zero, List.set_cons_succ]
        refine wpAnyF_take (i := 5) (v := .int .i64 k) rfl (by kernel_rfl) (by kernel_rfl) (by kernel_rfl) (by kernel_rfl) (fun _ _ _ h => h) (Or.inl ⟨by kernel_rfl, fun w hSw => by (try dsimp only at hSw); go_simp⟩) H7.rows.1 ?_; try simp only [Act.put, List.getElem_toArray, List.getElem_cons_succ, List.getElem_cons_zero, List.setIfInBounds_toArray, List.set_cons_zero, List.set_cons_succ]
        refine wpAnyF_take (i := 6) (v := .pointer (some ⟨w.heap.size, 9, none⟩)) rfl (by kernel_rfl) (by kernel_rfl) (by kernel_rfl) (by kernel_rfl) (fun _ _ _ h => h) (Or.inl ⟨by kernel_rfl, fun w hSw => by (try dsimp only at hSw); go_simp⟩) H7.rows.1 ?_; try simp only [Act.put, List.getElem_toArray, List.getElem_cons_succ, List.getElem_cons_zero, List.setIfInBounds_toArray, List.set_cons_zero, List.set_cons_succ]
        refine wpAnyF_take (i := 7) (v := .pointer (some ⟨w.heap.size, 9 + k, none⟩)) rfl (by kernel_rfl) (by kernel_rfl) (by kernel_rfl) (by kernel_rfl) (fun _ _ _ h => h) (Or.inl ⟨by kernel_rfl, fun w hSw => by (try dsimp only at hSw); go_simp⟩) H7.rows.1 ?_; try simp only [Act.put, List.getElem_toArray, List.getElem_cons_succ, List.getElem_cons_zero, List.setIfInBounds_toArray, List.set_cons_zero, List.set_cons_succ]
        refine wpAnyF_take (i := 8) (v := .int .u64 (g.v k)) rfl (by kernel_rfl) (by kernel_rfl) (by kernel_rfl) (by kernel_rfl) (fun _ _ _ h => h) (Or.inl ⟨by kernel_rfl, fun w hSw => by have hcc := gp_val hSw h8'h.out; (try dsimp only at hSw); go_simp⟩) H7.rows.1 ?_; try simp only [Act.put, List.getElem_toArray, List.getElem_cons_succ, List.getElem_cons_zero, List.setIfInBounds_toArray, List.set_cons_zero, List.set_cons_succ]
        refine wpAnyF_take (i := 9) (v := .pointer (some ⟨w.heap.size, 0, none⟩)) rfl (by kernel_rfl) (by kernel_rfl) (by kernel_rfl) (by kernel_rfl) (fun _ _ _ h => h) (Or.inl ⟨by kernel_rfl, fun w hSw => by (try dsimp only at hSw); go_simp⟩) H7.rows.1 ?_; try simp only [Act.put, List.getElem_toArray, List.getElem_cons_succ, List.getElem_cons_zero, List.setIfInBounds_toArray, List.set_cons_zero, List.set_cons_succ]
        refine wpAnyF_take (i := 10) (v := .int .u64 g.c) rfl (by kernel_rfl) (by kernel_rfl) (by kernel_rfl) (by kernel_rfl) (fun _ _ _ h => h) (Or.inl ⟨by kernel_rfl, fun w hSw => by have hcc := gp_ctrl hSw; (try dsimp only at hSw); go_simp⟩) H7.rows.1 ?_; try simp only [Act.put, List.getElem_toArray, List.getElem_cons_succ, List.getElem_cons_zero, List.setIfInBounds_toArray, List.set_cons_zero, List.set_cons_succ]
        refine wpAnyF_take (i := 11) (v := .int .i64 k) rfl (by kernel_rfl) (by kernel_rfl) (by kernel_rfl) (by kernel_rfl) (fun _ _ _ h => h) (Or.inl ⟨by kernel_rfl, fun w hSw => by (try dsimp only at hSw); go_simp⟩) H7.rows.1 ?_; try simp only [Act.put, List.getElem_toArray, List.getElem_cons_succ, List.getElem_cons_zero, List.setIfInBounds_toArray, List.set_cons_zero, List.set_cons_succ]
        refine wpAnyF_one (i := 12) (by kernel_rfl) rfl (fun K hK => ?_); go_simp
        refine (AK'h.out _).mono ?_
        rintro e V ⟨rfl, rfl⟩
        dsimp only
        refine hK.out _ _ (fun _ => H7.rows.1) ?_; clear hK K; try simp only [Act.put, List.getElem_toArray, List.getElem_cons_succ, List.getElem_cons_zero, List.setIfInBounds_toArray, List.set_cons_zero, List.set_cons_succ]
        refine wpAnyF_take (i := 13) (v := .agg #[.int .u64 (g.k k), .int .u64 (g.v k), .int .u8 (byteAt g.c k)]) rfl (by kernel_rfl) (by kernel_rfl) (by kernel_rfl) (by kernel_rfl) (fun _ _ _ h => h) (Or.inl ⟨by kernel_rfl, fun w hSw => by (try dsimp only at hSw); go_simp⟩) H7.rows.1 ?_; try simp only [Act.put, List.getElem_toArray, List.getElem_cons_succ, List.getElem_cons_zero, List.setIfInBounds_toArray, List.set_cons_zero, List.set_cons_succ]
        refine wpAnyF_one (i := 14) (by kernel_rfl) rfl (fun K hK => ?_); go_simp
        refine hK.out _ _ (fun _ => (H7.next ((Below.refl _ _).alloc (Nat.le_refl _) _)).rows.1) ?_
        clear hK K
        try simp only [Act.put, List.getElem_toArray, List.getElem_cons_succ, List.getElem_cons_zero, List.setIfInBounds_toArray, List.set_cons_zero, List.set_cons_succ]
        refine wpAnyF_one (i := 15) (by kernel_rfl) rfl (fun K hK => ?_)
        refine step_append_slk _ rfl (.tmp 11) (.tmp 25) 26 rfl (w.heap.size + 1) 38 i0 (.agg #[.int .u64 0, .int .u64 0, .int .u8 0]) 3 24 Try.underlying26 hi hz0 hz1 hz2 rfl (by decide) _ (liveK g k).length _ rfl (ownsRow_next hrow2 ((Below.refl _ _).alloc (Nat.le_refl _) _)) (some ⟨V.heap.size, 0, none⟩) 1 1 (slL (slotAt g k)) rfl (SlK.of_blk (k := 3) (n := 1) (World.alloc_heap_new V (.cells #[.int .u64 (g.k k), .int .u64 (g.v k), .int .u8 (byteAt g.c k)] 38)) rfl (by decide)) (by intro u hu; simp [slL] at hu; rcases hu with rfl | rfl | rfl <;> rfl) (by unfold maxLen; omega) (by omega) (by rw [World.size_alloc]; have := (H7.lt _ (List.mem_cons_self ..)); simp only at this; omega) ?_
        intro v' w6 hown' hgrow hat
        have H8 := (H7.next ((Below.refl _ _).alloc (Nat.le_refl _) (.cells #[.int .u64 (g.k k), .int .u64 (g.v k), .int .u8 (byteAt g.c k)] 38))).grown hgrow (fun j hj => by
          have h1 := (hrow2.lt j hj).1
          exact ⟨by omega, fun x hx => by simp at hx; rw [hx]; simp; omega⟩)
        refine hK.out _ _ (fun _ => H8.rows.1) ?_
        clear hK K
        try simp only [Act.put, List.getElem_toArray, List.getElem_cons_succ, List.getElem_cons_zero, List.setIfInBounds_toArray, List.set_cons_zero, List.set_cons_succ]
        obtain ⟨sp', cap', rfl⟩ := row_slice' hown'
        refine wpAnyF_take (i := 16) (v := .slice sp' ((liveK g k).length + 1) cap') rfl (by kernel_rfl) (by kernel_rfl) (by kernel_rfl) (by kernel_rfl) (fun _ _ _ h => h) (Or.inl ⟨by kernel_rfl, fun w hSw => by (try dsimp only at hSw); go_simp⟩) H8.rows.1 ?_; try simp only [Act.put, List.getElem_toArray, List.getElem_cons_succ, List.getElem_cons_zero, List.setIfInBounds_toArray, List.set_cons_zero, List.set_cons_succ]
        refine wpAnyF_done (by kernel_rfl) ?_ _
        refine noPanic_normal ?_
        clear H7 hrow2 hgrow hat
        have H8'h := Lib.hid H8
        have hown''h := Lib.hid hown'
        clear H8 hown'
        go_wp2
        go_roundg (gk - 1)
        case measure => have := hq'h.out; omega
        case rel =>
          refine ⟨k + 1, by have := hq'h.out; omega, by go_num, H8'h.out, ?_⟩
          rw [hs'h.out]
          have h5 := hown''h.out
          rw [sls_snoc, show (liveK g k).length + 1 = (liveK g k ++ [slotAt g k]).length by simp] at h5
          rw [show (liveK g k).length + 1 = (liveK g k ++ [slotAt g k]).length by simp]
          exact h5
      | false =>
        have hs := liveK_no hf
        rw [hf] at FK
        clear hf
        have hq'h := Lib.hid hq
        have h8'h := Lib.hid h8
        have AK'h := Lib.hid AK
        have FK'h := Lib.hid FK
        have hs'h := Lib.hid hs
        have hH'h := Lib.hid hH
        have hrow'h := Lib.hid hrow
        clear hq h8 AK FK hs hH hrow
        go_wp2_with (first | (refine wpList_load_row rfl _ _ rfl w.heap.size rfl 25 (gpA g) (0, 0) _ hH'h.out.rows.1 Try.underlying25 rfl infoGp ?_) | (go_at_call 27; refine (FK'h.out _).mono ?_; rintro e w2 ⟨rfl, hb2⟩))
        go_roundg (gk - 1)
        case measure => have := hq'h.out; omega
        case rel => exact ⟨k + 1, by have := hq'h.out; omega, by go_num, hH'h.out.next hb2, by rw [hs'h.out]; exact ownsRow_next hrow'h.out hb2⟩
    · obtain rfl : k = 8 := by omega
      change wr.ownsRow (w.heap.size + 1) 38 3 _ (liveG g).length (sls (liveG g)) at hrow
      obtain ⟨sp, cap, rfl⟩ := row_slice' hrow
      have hrow'h := Lib.hid hrow
      have hH'h := Lib.hid hH
      have hq'h := Lib.hid hq
      clear hrow hH hq
      clear h8 hlk hsz
      go_wp2
      go_ret
      exact ⟨sp, _, cap, rfl, hH'h.out.old, ownsRow_mono hrow'h.out (by omega)⟩
/-! ### Drop -/
def rdropE (g : Gp) (key h : Nat) : Nat := if h ≤ 127 then (if foundG g key h = true then 0 else 4) else 2
def rdropG (g : Gp) (key h : Nat) : Gp := if rdropE g key h = 0 then dropTo g (laneG g key h) else gpZ
def rdropL (g : Gp) (key h : Nat) : Nat := if rdropE g key h = 0 then laneG g key h else 0
theorem found_full {g : Gp} {key h : Nat} (h127 : h ≤ 127) (hf : foundG g key h = true) : laneG g key h < 8 ∧ fullAt g.c (laneG g key h) = true := by
  have hp : placeG g key h < (looksG g h).length := by unfold foundG at hf; simpa using hf
  have hm := nthN_mem hp
  unfold looksG at hm
  rw [List.mem_filter] at hm
  have hb : byteAt g.c (laneG g key h) = h := beq_iff_eq.1 hm.2
  exact ⟨List.mem_range.1 hm.1, by unfold fullAt; rw [hb]; simp; omega⟩
theorem rgdrop_any (g : Gp) (key h : Nat) (w : World) (hg : GpOk g) (hh : h < 256) : Calls Try.prog 29 #[.agg (gpA g), .int .u64 key, .int .u8 h] w fun e w' =>
    e = .returned (.tuple #[.agg (gpA (rdropG g key h)), .int .i64 (rdropL g key h), .int .i64 (rdropE g key h)]) ∧ Below w.heap.size w w' := by
  have F := fun w => rgfind_any g key h w hg
  have hO := (Hs.nil w).new2 (gpA g) (gpA gpZ) 25 25
  obtain ⟨W, hW⟩ : ∃ W, W = (w.alloc (.cells (gpA g) 25)).alloc (.cells (gpA gpZ) 25) := ⟨_, rfl⟩
  rw [← hW] at hO
  by_cases h127 : h ≤ 127
  · have hd : decide ((h : Int) > 127) = false := by simp; omega
    cases hf : foundG g key h with
    | true =>
      obtain ⟨hl8, hfa⟩ := found_full h127 hf
      have e1 : rdropE g key h = 0 := by unfold rdropE; rw [if_pos h127, if_pos hf]
      have e2 : rdropG g key h = dropTo g (laneG g key h) := by unfold rdropG; rw [if_pos e1]
      have e3 : rdropL g key h = laneG g key h := by unfold rdropL; rw [if_pos e1]
      have e4 : rfindL g key h = (laneG g key h : Int) := by unfold rfindL; rw [if_pos hf]
      have heE : eraseE g.c (laneG g key h : Int) = 0 := by
        unfold eraseE
        rw [if_neg (by simp; omega), Int.toNat_natCast, if_neg (by simp [hfa])]
      have E := fun w => rerase_any g.c (laneG g key h : Int) w hg.c
      rw [heE, if_pos rfl, Int.toNat_natCast] at E
      rw [e1, e2, e3]
      rw [e4] at F
      obtain ⟨y, hy⟩ : ∃ y, y = (dropTo g (laneG g key h)).c := ⟨_, rfl⟩
      change ∀ w, Calls _ _ _ _ (fun e w' => e = .returned (.tuple #[.int .u64 ((dropTo g (laneG g key h)).c : Nat), .int .i64 ((0 : Nat) : Int)]) ∧ _) at E
      rw [← hy] at E
      have hgy : ({ g with c := y } : Gp) = dropTo g (laneG g key h) := by rw [hy]; rfl
      generalize laneG g key h = ln at *
      generalize rfindN g key h = zn at *
      have F'h := Lib.hid F
      have hO'h := Lib.hid hO
      have hf'h := Lib.hid hf
      have hl8'h := Lib.hid hl8
      have hfa'h := Lib.hid hfa
      have e1'h := Lib.hid e1
      have e2'h := Lib.hid e2
      have e3'h := Lib.hid e3
      have e4'h := Lib.hid e4
      have heE'h := Lib.hid heE
      have E'h := Lib.hid E
      have hy'h := Lib.hid hy
      have hgy'h := Lib.hid hgy
      have hg'h := Lib.hid hg
      have hh'h := Lib.hid hh
      have h127'h := Lib.hid h127
      clear F hO hf hl8 hfa e1 e2 e3 e4 heE E hy hgy hg hh h127
      go_enter Try.func29, Try.ntmps29
      go_upto_region 1 with fail
      change Code.wp _ _ _ _ ((w.alloc (.cells (gpA g) 25)).alloc (.cells (gpA gpZ) 25))
      rw [← hW]
      clear hW
      go_wp2_with (first | (refine wpList_load_row rfl _ _ rfl w.heap.size rfl 25 (gpA g) (0, 0) _ hO'h.out.rows.2.1 Try.underlying25 rfl infoGp ?_) | (go_at_call 23; refine (F'h.out _).mono ?_; rintro e w2 ⟨rfl, hb2⟩; have hO2 := hO'h.out.next hb2; have c2 := gp_ctrl hO2.rows.2.1; have hO2'h := Lib.hid hO2; clear hO2 hb2) | (go_at_call 55; refine (E'h.out _).mono ?_; rintro e w3 ⟨rfl, hb3⟩; clear c2; have hO3 := hO2'h.out.next hb3; have c3 := gp_ctrl hO3.rows.2.1; have f3 := blk_free 0 hO3.rows.2.1; have hO4 := hO3.put 1 rfl 0 (.int .u64 y); have hO4'h := Lib.hid hO4; clear hO3 hb3 hO4) | (refine wpList_load_row rfl _ _ rfl w.heap.size rfl 25 (gpA (dropTo g ln)) (0, 0) _ (by rw [← hgy'h.out, ← gpA_setC]; exact hO4'h.out.rows.2.1) Try.underlying25 rfl infoGp ?_) | (refine wpList_store_row rfl _ _ _ rfl (w.heap.size + 1) (gpA (dropTo g ln)) rfl rfl 25 _ hO4'h.out.rows.1 infoGp rfl (gpA_one _) ?_))
      have hO5 := hO4'h.out.set 0 rfl (gpA (dropTo g ln))
      change bodyPost _ _ _ _ _ ((w3.setCell ⟨w.heap.size, 0, none⟩ (.int .u64 y)).setRow (w.heap.size + 1) (gpA (dropTo g ln)))
      generalize World.setRow _ _ _ = W5 at hO5 ⊢
      exact bodyPost_ret (results_row_tmp2 rfl _ _ (w.heap.size + 1) 25 (gpA (dropTo g ln)) (0, 0) _ rfl hO5.rows.1 Try.underlying25 rfl infoGp) rfl ⟨rfl, hO5.old⟩
    | false =>
      have e1 : rdropE g key h = 4 := by unfold rdropE; rw [if_pos h127, if_neg (by rw [hf]; decide)]
      have e2 : rdropG g key h = gpZ := by unfold rdropG; rw [if_neg (by rw [e1]; decide)]
      have e3 : rdropL g key h = 0 := by unfold rdropL; rw [if_neg (by rw [e1]; decide)]
      have e4 : rfindL g key h = -1 := by unfold rfindL; rw [if_neg (by rw [hf]; decide)]
      rw [e1, e2, e3]
      rw [e4] at F
      generalize rfindN g key h = zn at *
      have F'h := Lib.hid F
      have hO'h := Lib.hid hO
      have hf'h := Lib.hid hf
      have e1'h := Lib.hid e1
      have e2'h := Lib.hid e2
      have e3'h := Lib.hid e3
      have e4'h := Lib.hid e4
      have hg'h := Lib.hid hg
      have hh'h := Lib.hid hh
      have h127'h := Lib.hid h127
      clear F hO hf e1 e2 e3 e4 hg hh h127
      go_enter Try.func29, Try.ntmps29
      go_upto_region 1 with fail
      change Code.wp _ _ _ _ ((w.alloc (.cells (gpA g) 25)).alloc (.cells (gpA gpZ) 25))
      rw [← hW]
      clear hW
      go_wp2_with (first | (refine wpList_load_row rfl _ _ rfl w.heap.size rfl 25 (gpA g) (0, 0) _ hO'h.out.rows.2.1 Try.underlying25 rfl infoGp ?_) | (go_at_call 23; refine (F'h.out _).mono ?_; rintro e w2 ⟨rfl, hb2⟩; have hO2 := hO'h.out.next hb2; have hO2'h := Lib.hid hO2; clear hO2 hb2) | (refine wpList_store_row rfl _ _ _ rfl (w.heap.size + 1) (gpA gpZ) rfl rfl 25 _ hO2'h.out.rows.1 infoGp rfl (gpA_one _) ?_))
      have hO5 := hO2'h.out.set 0 rfl (gpA gpZ)
      change bodyPost _ _ _ _ _ (w2.setRow (w.heap.size + 1) (gpA gpZ))
      generalize World.setRow _ _ _ = W5 at hO5 ⊢
      exact bodyPost_ret (results_row_tmp2 rfl _ _ (w.heap.size + 1) 25 (gpA gpZ) (0, 0) _ rfl hO5.rows.1 Try.underlying25 rfl infoGp) rfl ⟨rfl, hO5.old⟩
  · have hd : decide ((h : Int) > 127) = true := by simp; omega
    have e1 : rdropE g key h = 2 := by unfold rdropE; rw [if_neg h127]
    have e2 : rdropG g key h = gpZ := by unfold rdropG; rw [if_neg (by rw [e1]; decide)]
    have e3 : rdropL g key h = 0 := by unfold rdropL; rw [if_neg (by rw [e1]; decide)]
    rw [e1, e2, e3]
    clear h127
    have F'h := Lib.hid F
    have hO'h := Lib.hid hO
    have e1'h := Lib.hid e1
    have e2'h := Lib.hid e2
    have e3'h := Lib.hid e3
    have hg'h := Lib.hid hg
    have hh'h := Lib.hid hh
    clear F hO e1 e2 e3 hg hh
    go_enter Try.func29, Try.ntmps29
    go_upto_region 1 with fail
    change Code.wp _ _ _ _ ((w.alloc (.cells (gpA g) 25)).alloc (.cells (gpA gpZ) 25))
    rw [← hW]
    clear hW
    go_wp2_with (first | (refine wpList_store_row rfl _ _ _ rfl (w.heap.size + 1) (gpA gpZ) rfl rfl 25 _ hO'h.out.rows.1 infoGp rfl (gpA_one _) ?_))
    have hO5 := hO'h.out.set 0 rfl (gpA gpZ)
    change bodyPost _ _ _ _ _ (W.setRow (w.heap.size + 1) (gpA gpZ))
    generalize World.setRow _ _ _ = W5 at hO5 ⊢
    exact bodyPost_ret (results_row_tmp2 rfl _ _ (w.heap.size + 1) 25 (gpA gpZ) (0, 0) _ rfl hO5.rows.1 Try.underlying25 rfl infoGp) rfl ⟨rfl, hO5.old⟩
end Go.Proofs.Ytfoohdjgnphdgaa

/-
  The document's groups: Put.
-/
set_option linter.unusedSimpArgs false
set_option linter.unusedVariables false
set_option maxRecDepth 100000
namespace Go.Proofs.Ytfoohdjgnphdgaa
open Go.RowKit

/-- The first free one of the last n lanes. -/
def freeU (f : Nat → Bool) : Nat → Int
  | 0 => -1
  | n + 1 => if f (7 - n) = true then freeU f n else ((7 - n : Nat) : Int)
theorem freeU_eq (g : Gp) : freeU (fullAt g.c) 8 = if freeLane g = 8 then -1 else (freeLane g : Int) := by
  have key : ∀ b0 b1 b2 b3 b4 b5 b6 b7 : Bool, freeU (fun i => [b0, b1, b2, b3, b4, b5, b6, b7].getD i false) 8 = if (List.range 8).findIdx (fun i => ![b0, b1, b2, b3, b4, b5, b6, b7].getD i false) = 8 then -1 else (((List.range 8).findIdx (fun i => ![b0, b1, b2, b3, b4, b5, b6, b7].getD i false) : Nat) : Int) := by decide +kernel
  have h := key (fullAt g.c 0) (fullAt g.c 1) (fullAt g.c 2) (fullAt g.c 3) (fullAt g.c 4) (fullAt g.c 5) (fullAt g.c 6) (fullAt g.c 7)
  exact h
theorem gthere_no {g : Gp} {key : Nat} (h : ∀ j, j < 8 → (fullAt g.c j && g.k j == key) = false) : thereG g key = false := by
  unfold thereG
  rw [← Bool.not_eq_true, List.any_eq_true]
  rintro ⟨j, hj, h1⟩
  rw [h j (List.mem_range.1 hj)] at h1; cases h1
theorem gthere_yes {g : Gp} {key j : Nat} (hj : j < 8) (h1 : fullAt g.c j = true) (h2 : g.k j = key) : thereG g key = true := by
  unfold thereG
  rw [List.any_eq_true]
  exact ⟨j, List.mem_range.2 hj, by rw [h1, h2]; simp⟩
def RPutL (g h : Gp) (s : Sl3) (w : World) : List Blk3 := [(w.heap.size + 2, gpA h, 25), (w.heap.size + 1, slA s, 38), (w.heap.size, gpA g, 25)]
theorem RPutL.start (g : Gp) (s : Sl3) (w : World) : Hs w (RPutL g gpZ s w) (((w.alloc (.cells (gpA g) 25)).alloc (.cells (slA s) 38)).alloc (.cells (gpA gpZ) 25)) := by
  have hO := ((Hs.nil w).new2 (gpA g) (slA s) 25 38).new (gpA gpZ) 25
  simp only [World.size_alloc, Nat.add_assoc, Nat.reduceAdd] at hO
  exact hO
def RPutEnd (g : Gp) (s : Sl3) (w : World) (e : Ending) (w' : World) : Prop := e = .returned (.tuple #[.agg (gpA (putG g s)), .int .i64 (putLane g s), .int .i64 (putE g s)]) ∧ Below w.heap.size w w'
theorem RPutEnd.no {g : Gp} {s : Sl3} {w w' : World} {z : Nat} (hz : putE g s = z) (h0 : z ≠ 0) (hb : Below w.heap.size w w') : RPutEnd g s w (.returned (.tuple #[.agg (gpA gpZ), .int .i64 0, .int .i64 z])) w' := by
  have hn : putE g s ≠ 0 := by omega
  exact ⟨by unfold putG putLane; rw [if_neg hn, if_neg hn, hz]; rfl, hb⟩
theorem rgput_big (g : Gp) (s : Sl3) (w : World) (hh : 127 < s.h2) : Calls Try.prog 31 #[.agg (gpA g), .agg (slA s)] w (RPutEnd g s w) := by
  have hO := RPutL.start g s w
  obtain ⟨W, hW⟩ : ∃ W, W = ((w.alloc (.cells (gpA g) 25)).alloc (.cells (slA s) 38)).alloc (.cells (gpA gpZ) 25) := ⟨_, rfl⟩
  rw [← hW] at hO
  have c2 : W.cell? ⟨w.heap.size + 1, 2, none⟩ = some (.int .u8 s.h2) := blk_cell hO.rows.2.1 rfl
  have hd : decide ((s.h2 : Int) > 127) = true := by simp; omega
  have hz : putE g s = 2 := by unfold putE; rw [if_pos hh]
  clear hh
  have hO'h := Lib.hid hO
  have hz'h := Lib.hid hz
  clear hO hz
  go_enter Try.func31, Try.ntmps31
  go_upto_region 1 with fail
  simp only [Nat.add_assoc, Nat.reduceAdd]
  change Code.wp _ _ _ _ (((w.alloc (.cells (gpA g) 25)).alloc (.cells (slA s) 38)).alloc (.cells (gpA gpZ) 25))
  rw [← hW]
  clear hW
  go_wp2_with (first | (refine wpList_store_row rfl _ _ _ rfl (w.heap.size + 2) (gpA gpZ) rfl rfl 25 _ hO'h.out.rows.1 infoGp rfl (gpA_one _) ?_))
  have hO5 := hO'h.out.set 0 rfl (gpA gpZ)
  change bodyPost _ _ _ _ _ (W.setRow (w.heap.size + 2) (gpA gpZ))
  generalize World.setRow _ _ _ = W5 at hO5 ⊢
  refine bodyPost_ret (results_row_tmp2 rfl _ _ (w.heap.size + 2) 25 (gpA gpZ) (0, 0) _ rfl hO5.rows.1 Try.underlying25 rfl infoGp) rfl ?_; exact RPutEnd.no hz'h.out (by decide) hO5.old
set_option maxHeartbeats 1000000 in
theorem rgput_any (g : Gp) (s : Sl3) (w : World) (hg : GpOk g) (hs : Sl3Ok s) : Calls Try.prog 31 #[.agg (gpA g), .agg (slA s)] w (RPutEnd g s w) := by
  by_cases hh : 127 < s.h2
  · exact rgput_big g s w hh
  have F := fun n w hn => rgfull_any g n w hg hn
  have hO := RPutL.start g s w
  obtain ⟨W, hW⟩ : ∃ W, W = ((w.alloc (.cells (gpA g) 25)).alloc (.cells (slA s) 38)).alloc (.cells (gpA gpZ) 25) := ⟨_, rfl⟩
  rw [← hW] at hO
  have c2 : W.cell? ⟨w.heap.size + 1, 2, none⟩ = some (.int .u8 s.h2) := blk_cell hO.rows.2.1 rfl
  have hd : decide ((s.h2 : Int) > 127) = false := by simp; omega
  have hyes : ∀ j, j < 8 → fullAt g.c j = true → g.k j = s.key → putE g s = 5 := fun j hj h1 h2 => by unfold putE; rw [if_neg hh, if_pos (gthere_yes hj h1 h2)]
  have hno : (∀ j, j < 8 → (fullAt g.c j && g.k j == s.key) = false) → putE g s = if freeLane g = 8 then 6 else 0 := fun h => by unfold putE; rw [if_neg hh, if_neg (by rw [gthere_no h]; decide)]
  have hO'h := Lib.hid hO
  have F'h := Lib.hid F
  have hyes'h := Lib.hid hyes
  have hno'h := Lib.hid hno
  have hg'h := Lib.hid hg
  have hs'h := Lib.hid hs
  have hh'h := Lib.hid hh
  clear hO F hyes hno hg hs hh
  go_enter Try.func31, Try.ntmps31
  go_upto_region 1 with fail
  simp only [Nat.add_assoc, Nat.reduceAdd]
  change Code.wp _ _ _ _ (((w.alloc (.cells (gpA g) 25)).alloc (.cells (slA s) 38)).alloc (.cells (gpA gpZ) 25))
  rw [← hW]
  clear hW
  go_wp2
  go_loopg [7, 8] 8 (fun q f i wr => ∃ n : Nat, n + q = 8 ∧ i = .int .i64 (7 - (n : Int)) ∧ f = .int .i64 (freeU (fullAt g.c) n) ∧ (∀ j, 8 - n ≤ j → j < 8 → (fullAt g.c j && g.k j == s.key) = false) ∧ Hs w (RPutL g gpZ s w) wr)
  case atStart => exact ⟨0, rfl, rfl, rfl, fun j h1 h2 => absurd h1 (by omega), hO'h.out⟩
  case round =>
    obtain ⟨n, hq, rfl, rfl, hnn, hH⟩ := hrel
    clear c2
    by_cases hn8 : n < 8
    · obtain ⟨ln, hln⟩ : ∃ ln : Nat, ln = 7 - n := ⟨_, rfl⟩
      have hl8 : ln < 8 := by omega
      have e7 : (7 : Int) - (n : Int) = (ln : Int) := by omega
      rw [e7]
      have h0l : (0 : Int) ≤ (ln : Int) := by omega
      have hl88 : (ln : Int) < 8 := by omega
      have ck := gp_key hH.rows.2.2.1 hl8
      have cs : wr.cell? ⟨w.heap.size + 1, 0, none⟩ = some (.int .u64 s.key) := blk_cell hH.rows.2.1 rfl
      have FL := fun w => F'h.out ln w hl8
      have hu : freeU (fullAt g.c) (n + 1) = if fullAt g.c ln = true then freeU (fullAt g.c) n else (ln : Int) := by rw [hln]; rfl
      have e8 : (ln : Int) - 1 = 7 - ((n + 1 : Nat) : Int) := by omega
      cases hf : fullAt g.c ln with
      | false =>
        rw [hf] at FL hu
        simp only [Bool.false_eq_true, if_false] at hu
        have hnx : (fullAt g.c ln && g.k ln == s.key) = false := by rw [hf]; rfl
        clear hf ck cs
        have hq'h := Lib.hid hq
        have hnn'h := Lib.hid hnn
        have hH'h := Lib.hid hH
        have hl8'h := Lib.hid hl8
        have FL'h := Lib.hid FL
        have hu'h := Lib.hid hu
        have e8'h := Lib.hid e8
        have e7'h := Lib.hid e7
        have hln'h := Lib.hid hln
        have hnx'h := Lib.hid hnx
        have hn8'h := Lib.hid hn8
        clear hq hnn hH hl8 FL hu e8 e7 hln hnx hn8
        go_wp2_with (first | (refine wpList_load_row rfl _ _ rfl w.heap.size rfl 25 (gpA g) (0, 0) _ hH'h.out.rows.2.2.1 Try.underlying25 rfl infoGp ?_) | (go_at_call 27; refine (FL'h.out _).mono ?_; rintro e w2 ⟨rfl, hb2⟩))
        go_roundg (gk - 1)
        case measure => have := hq'h.out; have := hn8'h.out; omega
        case rel => exact ⟨n + 1, by have := hq'h.out; have := hn8'h.out; omega, by rw [← e8'h.out], by rw [hu'h.out], fun j h1 h2 => by
          by_cases e : j = ln
          · subst e; exact hnx'h.out
          · exact hnn'h.out j (by have := hln'h.out; have := hn8'h.out; omega) h2, hH'h.out.next hb2⟩
      | true =>
        rw [hf] at FL hu
        simp only [if_true] at hu
        cases hkk : ((g.k ln : Int) == (s.key : Int)) with
        | true =>
          have hz := hyes'h.out ln hl8 hf (by simp at hkk; omega)
          clear hf
          have hq'h := Lib.hid hq
          have hnn'h := Lib.hid hnn
          have hH'h := Lib.hid hH
          have hl8'h := Lib.hid hl8
          have FL'h := Lib.hid FL
          have hu'h := Lib.hid hu
          have e8'h := Lib.hid e8
          have e7'h := Lib.hid e7
          have hln'h := Lib.hid hln
          have hn8'h := Lib.hid hn8
          have hz'h := Lib.hid hz
          clear hq hnn hH hl8 FL hu e8 e7 hln hn8 hz
          go_wp2_with (first | (refine wpList_load_row rfl _ _ rfl w.heap.size rfl 25 (gpA g) (0, 0) _ hH'h.out.rows.2.2.1 Try.underlying25 rfl infoGp ?_) | (go_at_call 27; refine (FL'h.out _).mono ?_; rintro e w2 ⟨rfl, hb2⟩; have hH2 := hH'h.out.next hb2; have ck2 := gp_key hH2.rows.2.2.1 hl8'h.out; have cs2 : w2.cell? ⟨w.heap.size + 1, 0, none⟩ = some (.int .u64 s.key) := blk_cell hH2.rows.2.1 rfl; have hH2'h := Lib.hid hH2; clear hH2 hb2 ck cs))
          go_quiet (fail)
          go_wp2_with (first | (refine wpList_store_row rfl _ _ _ rfl (w.heap.size + 2) (gpA gpZ) rfl rfl 25 _ (hH2'h.out.drewN _).rows.1 infoGp rfl (gpA_one _) ?_))
          have hO5 := (hH2'h.out.drewN nq).set 0 rfl (gpA gpZ)
          change bodyPost _ _ _ _ _ ((w2.drewN nq).setRow (w.heap.size + 2) (gpA gpZ))
          generalize World.setRow _ _ _ = W5 at hO5 ⊢
          refine bodyPost_ret (results_row_tmp2 rfl _ _ (w.heap.size + 2) 25 (gpA gpZ) (0, 0) _ rfl hO5.rows.1 Try.underlying25 rfl infoGp) rfl ?_; exact RPutEnd.no hz'h.out (by decide) hO5.old
        | false =>
          have hnx : (fullAt g.c ln && g.k ln == s.key) = false := by rw [hf, Bool.true_and]; simp at hkk ⊢; omega
          clear hf
          have hq'h := Lib.hid hq
          have hnn'h := Lib.hid hnn
          have hH'h := Lib.hid hH
          have hl8'h := Lib.hid hl8
          have FL'h := Lib.hid FL
          have hu'h := Lib.hid hu
          have e8'h := Lib.hid e8
          have e7'h := Lib.hid e7
          have hln'h := Lib.hid hln
          have hn8'h := Lib.hid hn8
          have hnx'h := Lib.hid hnx
          clear hq hnn hH hl8 FL hu e8 e7 hln hn8 hnx
          go_wp2_with (first | (refine wpList_load_row rfl _ _ rfl w.heap.size rfl 25 (gpA g) (0, 0) _ hH'h.out.rows.2.2.1 Try.underlying25 rfl infoGp ?_) | (go_at_call 27; refine (FL'h.out _).mono ?_; rintro e w2 ⟨rfl, hb2⟩; have hH2 := hH'h.out.next hb2; have ck2 := gp_key hH2.rows.2.2.1 hl8'h.out; have cs2 : w2.cell? ⟨w.heap.size + 1, 0, none⟩ = some (.int .u64 s.key) := blk_cell hH2.rows.2.1 rfl; have hH2'h := Lib.hid hH2; clear hH2 hb2 ck cs))
          go_quiet (fail)
          go_wp2
          go_roundg (gk - 1)
          case measure => have := hq'h.out; have := hn8'h.out; omega
          case rel => exact ⟨n + 1, by have := hq'h.out; have := hn8'h.out; omega, by rw [← e8'h.out], by rw [hu'h.out], fun j h1 h2 => by
            by_cases e : j = ln
            · subst e; exact hnx'h.out
            · exact hnn'h.out j (by have := hln'h.out; have := hn8'h.out; omega) h2, hH2'h.out.drewN _⟩
    · obtain rfl : n = 8 := by omega
      have hz := hno'h.out (fun j hj => hnn j (by omega) hj)
      rw [freeU_eq]
      have hfl := freeLane_le g
      by_cases h8 : freeLane g = 8
      · rw [if_pos h8] at hz ⊢
        clear hn8 hfl h8
        have hH'h := Lib.hid hH
        have hz'h := Lib.hid hz
        have hnn'h := Lib.hid hnn
        have hq'h := Lib.hid hq
        clear hH hz hnn hq
        go_wp2_with (first | (refine wpList_store_row rfl _ _ _ rfl (w.heap.size + 2) (gpA gpZ) rfl rfl 25 _ hH'h.out.rows.1 infoGp rfl (gpA_one _) ?_))
        have hO5 := hH'h.out.set 0 rfl (gpA gpZ)
        change bodyPost _ _ _ _ _ (wr.setRow (w.heap.size + 2) (gpA gpZ))
        generalize World.setRow _ _ _ = W5 at hO5 ⊢
        refine bodyPost_ret (results_row_tmp2 rfl _ _ (w.heap.size + 2) 25 (gpA gpZ) (0, 0) _ rfl hO5.rows.1 Try.underlying25 rfl infoGp) rfl ?_
        exact RPutEnd.no hz'h.out (by decide) hO5.old
      · rw [if_neg h8] at hz ⊢
        have hpl : putLane g s = freeLane g := by unfold putLane; rw [if_pos hz]
        have hpg : putG g s = putTo g s := by unfold putG; rw [if_pos hz]
        have hpt : putTo g s = ⟨setLane g.c (freeLane g) s.h2, upd g.k (freeLane g) s.key, upd g.v (freeLane g) s.val⟩ := rfl
        have P := fun w => refPut_any g.c s.h2 (freeLane g) w hg'h.out.c hs'h.out.h2 (by omega)
        generalize freeLane g = ln at *
        generalize setLane g.c ln s.h2 = y at *
        have hl8 : ln < 8 := by omega
        have h0l : (0 : Int) ≤ (ln : Int) := by omega
        have hl88 : (ln : Int) < 8 := by omega
        have c0 := gp_ctrl hH.rows.2.2.1
        have c2 : wr.cell? ⟨w.heap.size + 1, 2, none⟩ = some (.int .u8 s.h2) := blk_cell hH.rows.2.1 rfl
        clear hn8 hfl h8
        have hH'h := Lib.hid hH
        have hz'h := Lib.hid hz
        have hnn'h := Lib.hid hnn
        have hq'h := Lib.hid hq
        have hpl'h := Lib.hid hpl
        have hpg'h := Lib.hid hpg
        have hpt'h := Lib.hid hpt
        have P'h := Lib.hid P
        have hl8'h := Lib.hid hl8
        clear hH hz hnn hq hpl hpg hpt P hl8
        go_upto_region 14 with (first | (go_at_call 43; refine (P'h.out _).mono ?_; rintro e w2 ⟨rfl, hb2⟩; have hH2 := hH'h.out.next hb2; clear c0 c2; have c0 := gp_ctrl hH2.rows.2.2.1; have f0 := blk_free 0 hH2.rows.2.2.1; have hH2'h := Lib.hid hH2; clear hH2 hb2))
        have hH3 := hH2'h.out.put 2 rfl 0 (.int .u64 y)
        rw [gpA_setC] at hH3
        clear c0 f0
        generalize World.setCell _ _ _ = W3 at hH3 ⊢
        have hG3 : W3.heap[w.heap.size]? = some (.cells (gpA { g with c := y }) 25 (0, 0)) := hH3.rows.2.2.1
        have y1 : W3.cell? ⟨w.heap.size, 1 + ln, none⟩ = some (.int .u64 (g.k ln)) := gp_key hG3 hl8'h.out
        have y2 : W3.cell? ⟨w.heap.size, 9 + ln, none⟩ = some (.int .u64 (g.v ln)) := gp_val hG3 hl8'h.out
        have x1 : W3.frozen? ⟨w.heap.size, 1 + ln, none⟩ = false := blk_free _ hG3
        have x2 : W3.frozen? ⟨w.heap.size, 9 + ln, none⟩ = false := blk_free _ hG3
        have j1 : W3.cell? ⟨w.heap.size + 1, 0, none⟩ = some (.int .u64 s.key) := blk_cell hH3.rows.2.1 rfl
        have j2 : W3.cell? ⟨w.heap.size + 1, 1, none⟩ = some (.int .u64 s.val) := blk_cell hH3.rows.2.1 rfl
        have hkeep : ∀ W' : World, W'.heap[w.heap.size + 1]? = W3.heap[w.heap.size + 1]? → (W'.cell? ⟨w.heap.size + 1, 0, none⟩ = some (.int .u64 s.key) ∧ W'.cell? ⟨w.heap.size + 1, 1, none⟩ = some (.int .u64 s.val)) := fun W' h => ⟨cell_of_heap (W := W3) h j1, cell_of_heap (W := W3) h j2⟩
        have hH3'h := Lib.hid hH3
        have hG3'h := Lib.hid hG3
        have hkeep'h := Lib.hid hkeep
        clear hH3 hG3 hkeep
        go_region_held3 (fun W' => W'.cell? ⟨w.heap.size + 1, 0, none⟩ = some (.int .u64 s.key) ∧ W'.cell? ⟨w.heap.size + 1, 1, none⟩ = some (.int .u64 s.val)) (first | exact hkeep'h.out _ rfl | exact hkeep'h.out _ (Below.heap_setCell _ _ _ _ (by simp)) | exact hkeep'h.out _ ((Below.heap_setCell _ _ _ _ (by simp)).trans (Below.heap_setCell _ _ _ _ (by simp))) | fail) (fail)
        have hH5 := ((hH3'h.out.put 2 rfl (1 + ln) (.int .u64 s.key)).put 2 rfl (9 + ln) (.int .u64 s.val)).drew
        have hG5 : (((W3.setCell ⟨w.heap.size, 1 + ln, none⟩ (.int .u64 s.key)).setCell ⟨w.heap.size, 9 + ln, none⟩ (.int .u64 s.val)).drew).heap[w.heap.size]? = some (.cells (gpA (putTo g s)) 25 (0, 0)) := by
          have h2 := blk_set (i := 1 + ln) (.int .u64 s.key) hG3'h.out
          rw [gpA_setK _ hl8'h.out] at h2
          have h3 := blk_set (i := 9 + ln) (.int .u64 s.val) h2
          rw [gpA_setV _ hl8'h.out] at h3
          rw [hpt'h.out]; exact h3
        clear y1 y2 x1 x2 j1 j2
        generalize World.drew _ = W5 at hH5 hG5 ⊢
        have hH6 := hH5.set 0 rfl (gpA (putTo g s))
        have hR5 : W5.heap[w.heap.size + 2]? = some (.cells (gpA gpZ) 25 (0, 0)) := hH5.rows.1
        have hH5'h := Lib.hid hH5
        have hG5'h := Lib.hid hG5
        have hH6'h := Lib.hid hH6
        have hR5'h := Lib.hid hR5
        clear hH5 hG5 hH6 hR5
        go_wp2_with (first | (refine wpList_load_row rfl _ _ rfl w.heap.size rfl 25 (gpA (putTo g s)) (0, 0) _ hG5'h.out Try.underlying25 rfl infoGp ?_) | (refine wpList_store_row rfl _ _ _ rfl (w.heap.size + 2) (gpA (putTo g s)) rfl rfl 25 _ hR5'h.out infoGp rfl (gpA_one _) ?_))
        have hO6 := hH6'h.out
        change bodyPost _ _ _ _ _ (W5.setRow (w.heap.size + 2) (gpA (putTo g s)))
        generalize World.setRow _ _ _ = W6 at hO6 ⊢
        refine bodyPost_ret (results_row_tmp2 rfl _ _ (w.heap.size + 2) 25 (gpA (putTo g s)) (0, 0) _ rfl hO6.rows.1 Try.underlying25 rfl infoGp) rfl ?_
        refine ⟨?_, hO6.old⟩
        rw [hpg'h.out, hpl'h.out, hz'h.out]; rfl
end Go.Proofs.Ytfoohdjgnphdgaa

/-
  The library's Equal, Index, Clone over slots and numbers.
-/
set_option linter.unusedSimpArgs false
set_option linter.unusedVariables false
set_option maxRecDepth 100000
namespace Go.Proofs.Ytfoohdjgnphdgaa
open Go.RowKit

theorem sls_len {w : World} {sp : Option Addr} {n : Nat} {ps : List Sl3} (h : SlK w 3 sp n (sls ps)) : n = ps.length := by
  have := h.1; rw [sls_length] at this; omega
theorem sls_some {w : World} {sp : Option Addr} {n : Nat} {ps : List Sl3} (h : SlK w 3 sp n (sls ps)) (hn : 0 < n) : ∃ b off, sp = some ⟨b, off, none⟩ := by
  obtain ⟨b, off, e, _⟩ := h.some' hn; exact ⟨b, off, e⟩
/-! ### slices.Equal at []int, of one kind of numbers -/
theorem equalI_any (sp sp' : Option Addr) (n n' cap cap' : Nat) (l l' : List Int) (w : World) (h : Sl w sp n (l.map (Value.int .i64))) (h' : Sl w sp' n' (l'.map (Value.int .i64))) :
    Calls Try.prog 24 #[.slice sp n cap, .slice sp' n' cap'] w fun e w' => e = .returned (.bool (l == l')) ∧ ∃ d, w' = w.drewN d := by
  have hlen : n = l.length := by have := h.1; simpa using this
  have hlen' : n' = l'.length := by have := h'.1; simpa using this
  have hmax := h.2.1
  unfold maxLen at hmax
  by_cases hnn : n = n'
  · subst hnn
    have hne : ((n : Int) != (n : Int)) = false := by simp
    have hlen'h := Lib.hid hlen
    have hlen''h := Lib.hid hlen'
    have h'h := Lib.hid h
    have h''h := Lib.hid h'
    clear hlen hlen' h h'
    go_enter Try.func24, Try.ntmps24
    go_wp2
    go_loopg [13] n (fun q i wr => ∃ k : Nat, k + q = n ∧ i = .int .i64 k ∧ (∀ j, j < k → nthZ l j = nthZ l' j) ∧ ∃ d, wr = w.drewN d)
    case atStart => exact ⟨0, by omega, rfl, fun j hj => by omega, 0, rfl⟩
    case round =>
      obtain ⟨k, hk, rfl, hall, d, rfl⟩ := hrel
      have hkn : k ≤ n := by omega
      have hk'h := Lib.hid hk
      have hall'h := Lib.hid hall
      clear hk hall
      by_cases hlt : k < n
      · obtain ⟨b, off, rfl, hc1⟩ := h'h.out.some' (by omega)
        obtain ⟨b', off', rfl, hc2⟩ := h''h.out.some' (by omega)
        have hkl : k < l.length := by have := hlen'h.out; omega
        have hkl' : k < l'.length := by have := hlen''h.out; omega
        have c1 := hc1 k _ (i64s_at hkl)
        have c2 := hc2 k _ (i64s_at hkl')
        have c1' : ∀ q, (w.drewN q).cell? ⟨b, off + k, none⟩ = some (.int .i64 (nthZ l k)) := fun q => c1
        have c2' : ∀ q, (w.drewN q).cell? ⟨b', off' + k, none⟩ = some (.int .i64 (nthZ l' k)) := fun q => c2
        have i1 : (k : Int) < (n : Int) := by omega
        have i2 : (0 : Int) ≤ (k : Int) := by omega
        clear hc1 hc2
        by_cases he : nthZ l k = nthZ l' k
        · have hx : (nthZ l k != nthZ l' k) = false := by simp [he]
          have he'h := Lib.hid he
          clear he
          go_wp2_with fail
          go_quiet (fail)
          go_wp2
          go_roundg (gk - 1)
          case measure => have := hk'h.out; omega
          case rel =>
            refine ⟨k + 1, by have := hk'h.out; omega, by go_num, fun j hj => ?_, d + nq, rfl⟩
            by_cases e : j = k
            · rw [e]; exact he'h.out
            · exact hall'h.out j (by omega)
        · have hx : (nthZ l k != nthZ l' k) = true := by simp [he]
          have hf : (l == l') = false := by
            rw [beq_eq_false_iff_ne]; intro e; exact he (by rw [e])
          have he'h := Lib.hid he
          have hf'h := Lib.hid hf
          clear he hf
          go_wp2_with fail
          go_quiet (fail)
          go_wp2
          go_ret
          exact ⟨ret_bool hf'h.out.symm, d + nq, by first | rfl | exact World.drewN_drewN ..⟩
      · have hn : ¬ (k : Int) < (n : Int) := by omega
        have ht : (l == l') = true := by
          rw [beq_iff_eq]
          refine List.ext_getElem (by have := hlen'h.out; have := hlen''h.out; omega) fun j h1 h2 => ?_
          rw [nthZ_eq h1, nthZ_eq h2]
          exact hall'h.out j (by have := hlen'h.out; omega)
        have ht'h := Lib.hid ht
        clear ht
        go_wp2
        go_ret
        exact ⟨ret_bool ht'h.out.symm, d, rfl⟩
  · have hne : ((n : Int) != (n' : Int)) = true := by simp; omega
    have hf : (l == l') = false := by
      rw [beq_eq_false_iff_ne]; intro e; subst e; omega
    have hlen'h := Lib.hid hlen
    have hlen''h := Lib.hid hlen'
    have h'h := Lib.hid h
    have h''h := Lib.hid h'
    have hnn'h := Lib.hid hnn
    have hf'h := Lib.hid hf
    clear hlen hlen' h h' hnn hf
    go_enter Try.func24, Try.ntmps24
    go_wp2
    go_ret
    exact ⟨ret_bool hf'h.out.symm, 0, rfl⟩
set_option maxHeartbeats 1000000 in
theorem equalS_any (sp sp' : Option Addr) (n n' cap cap' : Nat) (l l' : List Sl3) (w : World) (h : SlK w 3 sp n (sls l)) (h' : SlK w 3 sp' n' (sls l')) :
    Calls Try.prog 18 #[.slice sp n cap, .slice sp' n' cap'] w fun e w' => e = .returned (.bool (decide (l = l'))) ∧ ∃ d, w' = w.drewN d := by
  have hlen := sls_len h
  have hlen' := sls_len h'
  have hmax := h.2.1
  unfold maxLen at hmax
  by_cases hnn : n = n'
  · subst hnn
    have hne : ((n : Int) != (n : Int)) = false := by simp
    have hlen'h := Lib.hid hlen
    have hlen''h := Lib.hid hlen'
    have h'h := Lib.hid h
    have h''h := Lib.hid h'
    clear hlen hlen' h h'
    go_enter Try.func18, Try.ntmps18
    go_wp2
    go_loopg [13] n (fun q i wr => ∃ k : Nat, k + q = n ∧ i = .int .i64 k ∧ (∀ j, j < k → nthS l j = nthS l' j) ∧ ∃ d, wr = w.drewN d)
    case atStart => exact ⟨0, by omega, rfl, fun j hj => by omega, 0, rfl⟩
    case round =>
      obtain ⟨k, hk, rfl, hall, d, rfl⟩ := hrel
      have hkn : k ≤ n := by omega
      have hk'h := Lib.hid hk
      have hall'h := Lib.hid hall
      clear hk hall
      by_cases hlt : k < n
      · obtain ⟨b, off, rfl⟩ := sls_some h'h.out (by omega)
        obtain ⟨b', off', rfl⟩ := sls_some h''h.out (by omega)
        have hkl : k < l.length := by have := hlen'h.out; omega
        have hkl' : k < l'.length := by have := hlen''h.out; omega
        obtain ⟨c1, c2, c3⟩ := sls_cells h'h.out hkl
        obtain ⟨d1, d2, d3⟩ := sls_cells h''h.out hkl'
        have c1' : ∀ q, (w.drewN q).cell? ⟨b, off + k * 3, none⟩ = some (.int .u64 ((nthS l k).key : Int)) := fun q => c1
        have c2' : ∀ q, (w.drewN q).cell? ⟨b, off + k * 3 + 1, none⟩ = some (.int .u64 ((nthS l k).val : Int)) := fun q => c2
        have c3' : ∀ q, (w.drewN q).cell? ⟨b, off + k * 3 + 2, none⟩ = some (.int .u8 ((nthS l k).h2 : Int)) := fun q => c3
        have d1' : ∀ q, (w.drewN q).cell? ⟨b', off' + k * 3, none⟩ = some (.int .u64 ((nthS l' k).key : Int)) := fun q => d1
        have d2' : ∀ q, (w.drewN q).cell? ⟨b', off' + k * 3 + 1, none⟩ = some (.int .u64 ((nthS l' k).val : Int)) := fun q => d2
        have d3' : ∀ q, (w.drewN q).cell? ⟨b', off' + k * 3 + 2, none⟩ = some (.int .u8 ((nthS l' k).h2 : Int)) := fun q => d3
        have i1 : (k : Int) < (n : Int) := by omega
        have i2 : (0 : Int) ≤ (k : Int) := by omega
        have hq : ∀ w, (binOp .neq 38 (.agg #[.int .u64 ((nthS l k).key : Int), .int .u64 ((nthS l k).val : Int), .int .u8 ((nthS l k).h2 : Int)]) (.agg #[.int .u64 ((nthS l' k).key : Int), .int .u64 ((nthS l' k).val : Int), .int .u8 ((nthS l' k).h2 : Int)])).run Try.prog w = .ok (.bool (!decide (nthS l k = nthS l' k))) w := fun w => neq_sl3 (nthS l k) (nthS l' k) w
        clear c1 c2 c3 d1 d2 d3
        by_cases he : nthS l k = nthS l' k
        · have hx : (!decide (nthS l k = nthS l' k)) = false := by rw [he]; simp
          rw [hx] at hq
          generalize (nthS l k).key = x1 at *
          generalize (nthS l k).val = x2 at *
          generalize (nthS l k).h2 = x3 at *
          generalize (nthS l' k).key = y1 at *
          generalize (nthS l' k).val = y2 at *
          generalize (nthS l' k).h2 = y3 at *
          have he'h := Lib.hid he
          clear he
          clear hx
          go_wp2_with fail
          go_quiet (fail)
          go_wp2
          go_roundg (gk - 1)
          case measure => have := hk'h.out; omega
          case rel =>
            refine ⟨k + 1, by have := hk'h.out; omega, by go_num, fun j hj => ?_, d + nq, rfl⟩
            by_cases e : j = k
            · rw [e]; exact he'h.out
            · exact hall'h.out j (by omega)
        · have hx : (!decide (nthS l k = nthS l' k)) = true := by
            simp only [Bool.not_eq_true', decide_eq_false_iff_not]
            exact he
          rw [hx] at hq
          have hf : decide (l = l') = false := by
            rw [decide_eq_false_iff_not]; intro e; exact he (by rw [e])
          generalize (nthS l k).key = x1 at *
          generalize (nthS l k).val = x2 at *
          generalize (nthS l k).h2 = x3 at *
          generalize (nthS l' k).key = y1 at *
          generalize (nthS l' k).val = y2 at *
          generalize (nthS l' k).h2 = y3 at *
          have he'h := Lib.hid he
          have hf'h := Lib.hid hf
          clear he hf
          clear hx
          go_wp2_with fail
          go_quiet (fail)
          go_wp2
          go_ret
          exact ⟨ret_bool hf'h.out.symm, d + nq, by first | rfl | exact World.drewN_drewN ..⟩
      · have hn : ¬ (k : Int) < (n : Int) := by omega
        have ht : decide (l = l') = true := by
          rw [decide_eq_true_eq]
          refine List.ext_getElem (by have := hlen'h.out; have := hlen''h.out; omega) fun j h1 h2 => ?_
          rw [nthS_eq h1, nthS_eq h2]
          exact hall'h.out j (by have := hlen'h.out; omega)
        have ht'h := Lib.hid ht
        clear ht
        go_wp2
        go_ret
        exact ⟨ret_bool ht'h.out.symm, d, rfl⟩
  · have hne : ((n : Int) != (n' : Int)) = true := by simp; omega
    have hf : decide (l = l') = false := by
      rw [decide_eq_false_iff_not]; intro e; subst e; omega
    have hlen'h := Lib.hid hlen
    have hlen''h := Lib.hid hlen'
    have h'h := Lib.hid h
    have h''h := Lib.hid h'
    have hnn'h := Lib.hid hnn
    have hf'h := Lib.hid hf
    clear hlen hlen' h h' hnn hf
    go_enter Try.func18, Try.ntmps18
    go_wp2
    go_ret
    exact ⟨ret_bool hf'h.out.symm, 0, rfl⟩
/-! ### slices.Clone at []api.Slot: 3 cells an element -/
theorem info_cloneS : (Try.prog.info? 38).map (fun i => (i.zero, i.size, i.bytes)) = some (some (.agg #[.int .u64 0, .int .u64 0, .int .u8 0]), 3, 24) := by kernel_rfl
theorem cloneS_nil (w : World) : Calls Try.prog 38 #[.slice none 0 0] w fun e w' => e = .returned (.slice none 0 0) ∧ w' = w := by
  have hnil := Lib.run_eql_slice_nil (P := Try.prog)
  go_enter Try.func38, Try.ntmps38
  go_wp2
  go_ret
  exact ⟨rfl, rfl⟩
theorem cloneS_some (ad : Addr) (n cap : Nat) (vs : List Value) (w : World) (hn : n ≤ 4096) (hone : ∀ v ∈ vs, v.oneCell' = true) (h : SlK w 3 (some ad) n vs) :
    Calls Try.prog 38 #[.slice (some ad) n cap] w fun e w' => ∃ sp' cap', e = .returned (.slice sp' n cap') ∧ Below w.heap.size w w' ∧ w'.ownsRow w.heap.size 38 3 (.slice sp' n cap') n vs := by
  have hnil := Lib.run_eql_slice_nil (P := Try.prog)
  obtain ⟨i0, hi, hz0, hz1, hz2⟩ := info_parts info_cloneS
  have hown0 : (w.alloc (.cells #[] 38)).ownsRow w.heap.size 38 3 (.slice (some ⟨w.heap.size, 0, none⟩) 0 0) 0 [] :=
    ⟨by simp, .inr ⟨w.heap.size, 0, #[], rfl, Nat.le_refl _, World.alloc_heap_new _ _, Nat.le_refl _, Nat.zero_le _, by simp, by simp⟩⟩
  have hS2 : SlK (w.alloc (.cells #[] 38)) 3 (some ad) n vs := h.below ((Below.refl _ w).alloc (Nat.le_refl _) _)
  have hS2'h := Lib.hid hS2
  have hone'h := Lib.hid hone
  clear hS2 hone
  clear h
  go_enter Try.func38, Try.ntmps38
  go_wp2_with (at_builtin; refine wpList_append_slk _ rfl (.tmp 5) (.tmp 6) 26 rfl w.heap.size 38 i0 (.agg #[.int .u64 0, .int .u64 0, .int .u8 0]) 3 24 Try.underlying26 hi hz0 hz1 hz2 rfl (by decide) _ 0 [] rfl hown0 (some ad) n cap vs rfl hS2'h.out hone'h.out (by unfold maxLen; omega) (by omega) (by simp) ?_; intro v' w1 hown' hgrow hwh)
  rw [Nat.zero_add, List.nil_append] at hown'
  obtain ⟨sp', cap', rfl⟩ := row_slice' hown'
  have hown''h := Lib.hid hown'
  have hwh'h := Lib.hid hwh
  clear hown' hwh
  go_wp2
  go_ret
  exact ⟨sp', cap', rfl, ((Below.refl _ w).alloc (Nat.le_refl _) _).grown hgrow (by simp) (fun j hj => by cases hj; exact Nat.le_refl _), hown''h.out⟩
theorem cloneS_any (sp : Option Addr) (n cap : Nat) (vs : List Value) (w : World) (hn : n ≤ 4096) (hone : ∀ v ∈ vs, v.oneCell' = true) (hc : sp = none → cap = 0) (h : SlK w 3 sp n vs) :
    Calls Try.prog 38 #[.slice sp n cap] w fun e w' => ∃ sp' cap', e = .returned (.slice sp' n cap') ∧ Below w.heap.size w w' ∧ w'.ownsRow w.heap.size 38 3 (.slice sp' n cap') n vs := by
  cases sp with
  | some ad => exact cloneS_some ad n cap vs w hn hone h
  | none =>
    obtain rfl : cap = 0 := hc rfl
    have h0 : n = 0 := by
      rcases h.2.2 with h0 | ⟨b, off, he, _⟩
      · exact h0
      · cases he
    subst h0
    have hl : vs = [] := List.eq_nil_of_length_eq_zero (by have := h.1; simpa using this)
    refine (cloneS_nil w).mono ?_
    rintro e w' ⟨rfl, rfl⟩
    exact ⟨none, 0, rfl, Below.refl _ _, by rw [hl]; exact World.ownsRow_nil _ _ _ _⟩
end Go.Proofs.Ytfoohdjgnphdgaa

/-
  Chapter 10: does the layer do anything?
-/
set_option linter.unusedSimpArgs false
set_option linter.unusedVariables false
set_option maxRecDepth 100000
namespace Go.Proofs.Ytfoohdjgnphdgaa
open Go.RowKit

def wSlots : List Sl3 := [⟨5, 50, 1⟩, ⟨6, 60, 1⟩, ⟨7, 70, 2⟩]
def wG3 : Gp := ⟨(putsR gpNew wSlots).1.c, fun i => [5, 6, 7].getD i 0, fun i => [50, 60, 70].getD i 0⟩
def wG4 : Gp := dropTo wG3 0
theorem wSlots_ok : ∀ s ∈ wSlots, Sl3Ok s := by
  intro s hs
  simp [wSlots] at hs
  rcases hs with rfl | rfl | rfl <;> exact ⟨by decide, by decide, by decide⟩
theorem w_puts : gpA (putsR gpNew wSlots).1 = gpA wG3 ∧ (putsR gpNew wSlots).2 = 0 := ⟨by kernel_rfl, by kernel_rfl⟩
theorem wG3_c : wG3.c < 2 ^ 64 := by decide +kernel
theorem wgetD_lt (l : List Nat) (i : Nat) (h : ∀ x ∈ l, x < 2 ^ 64) : l.getD i 0 < 2 ^ 64 := by
  by_cases hi : i < l.length
  · rw [List.getD_eq_getElem?_getD, List.getElem?_eq_getElem hi]; exact h _ (List.getElem_mem hi)
  · rw [List.getD_eq_getElem?_getD, List.getElem?_eq_none (by omega)]; decide
theorem wG3_ok : GpOk wG3 := ⟨wG3_c, fun i => wgetD_lt _ _ (by decide), fun i => wgetD_lt _ _ (by decide)⟩
theorem wG4_ok : GpOk wG4 := dropTo_ok wG3_ok 0
theorem w_looks : looksE wG3 1 = 0 ∧ looksR wG3 1 = [0, 1] := by decide +kernel
theorem w_find : findL wG3 6 1 = 1 ∧ findN wG3 6 1 = 2 ∧ findE wG3 6 1 = 0 ∧ findE wG3 6 2 = 4 := by decide +kernel
theorem w_drop : findL wG3 5 1 = 0 ∧ findE wG3 5 1 = 0 := by decide +kernel
theorem w_drop2 : gpA (dropRG wG3 5 1) = gpA wG4 := by
  have h : laneG wG3 5 1 = 0 := by decide +kernel
  unfold dropRG; rw [if_pos w_drop.2, h]; rfl
theorem w_free : freeN wG4 0 = 6 ∧ freeN wG4 1 = 0 := by decide +kernel
theorem w_put : putRL wG4 ⟨8, 80, 3⟩ = 0 ∧ putZ wG4 ⟨8, 80, 3⟩ = 0 := by decide +kernel
theorem w_live : (liveR wG3).length = 3 := by decide +kernel
set_option maxHeartbeats 1000000 in
theorem wakes10_any (w : World) : Calls Try.prog 8 #[] w fun e w' => e = .returned (.bool true) ∧ Below w.heap.size w w' := by
  have N := fun w => gnew_any w
  have P := fun sp w hS => puts_any gpNew sp 3 3 wSlots w gpNew_ok wSlots_ok hS (by decide)
  rw [w_puts.1, w_puts.2] at P
  have hSl : ∀ W' : World, SlK (W'.alloc (.cells #[.int .u64 5, .int .u64 50, .int .u8 1, .int .u64 6, .int .u64 60, .int .u8 1, .int .u64 7, .int .u64 70, .int .u8 2] 38)) 3 (some ⟨W'.heap.size, 0, none⟩) 3 (sls wSlots) := fun W' => SlK.of_blk (k := 3) (n := 3) (World.alloc_heap_new _ _) rfl (show 3 ≤ maxLen by decide)
  have L := fun w => looks_any wG3 1 w wG3_ok (by decide)
  rw [w_looks.1, w_looks.2] at L
  have F1 := fun w => find_any wG3 6 1 w wG3_ok (by decide) (by decide)
  rw [w_find.1, w_find.2.1, w_find.2.2.1] at F1
  have F2 := fun w => find_any wG3 6 2 w wG3_ok (by decide) (by decide)
  rw [w_find.2.2.2] at F2
  have D := fun w => drop_any wG3 5 1 w wG3_ok (by decide) (by decide)
  rw [w_drop2, w_drop.1, w_drop.2] at D
  have FR := fun w => gfree_any wG4 w wG4_ok
  rw [w_free.1, w_free.2] at FR
  have PT := fun w => gput_any wG4 ⟨8, 80, 3⟩ w wG4_ok ⟨by decide, by decide, by decide⟩
  rw [w_put.1, w_put.2] at PT
  have LV := fun w => live_any wG3 w wG3_ok
  generalize putRG wG4 ⟨8, 80, 3⟩ = g5 at *
  generalize findL wG3 6 2 = q1 at *
  generalize findN wG3 6 2 = q2 at *
  have N'h := Lib.hid N
  have P'h := Lib.hid P
  have hSl'h := Lib.hid hSl
  have L'h := Lib.hid L
  have F1'h := Lib.hid F1
  have F2'h := Lib.hid F2
  have D'h := Lib.hid D
  have FR'h := Lib.hid FR
  have PT'h := Lib.hid PT
  have LV'h := Lib.hid LV
  clear N P hSl L F1 F2 D FR PT LV
  go_enter Try.func8, Try.ntmps8
  go_upto_region 2 with (first | (go_at_call 11; refine (N'h.out _).mono ?_; rintro e w1 ⟨rfl, hb1⟩) | (go_at_call 32; refine (P'h.out _ _ (hSl'h.out _)).mono ?_; rintro e w2 ⟨rfl, hb2⟩) | (refine wpList_store_row rfl _ _ _ rfl w2.heap.size (gpA wG3) rfl rfl 25 _ (World.alloc_heap_new _ _) infoGp rfl (gpA_one _) ?_))
  have hB2 : Below w.heap.size w w2 := (hb1.alloc hb1.size _).trans (hb2.mono (by have := hb1.size; simp; omega))
  have H2 := (((Hs.nil w).next hB2).new (gpA gpZ) 25).set 0 rfl (gpA wG3)
  change Code.wp _ _ _ _ ((w2.alloc (.cells (gpA gpZ) 25)).setRow w2.heap.size (gpA wG3))
  generalize World.setRow _ _ _ = W2 at H2 ⊢
  clear hb1 hb2 hB2
  have H2'h := Lib.hid H2
  clear H2
  go_upto_region 3 with (first | (refine wpList_load_row rfl _ _ rfl w2.heap.size rfl 25 (gpA wG3) (0, 0) _ H2'h.out.rows.1 Try.underlying25 rfl infoGp ?_) | (go_at_call 20; refine (L'h.out _).mono ?_; rintro e w3 ⟨sp3, n3, cap3, rfl, hb3, hrow3⟩; obtain rfl : n3 = 2 := row_len' hrow3))
  have H3 := H2'h.out.next hb3
  have hS3 := Sl.of_row hrow3 (show 2 ≤ maxLen by decide)
  clear hb3 hrow3
  have H3'h := Lib.hid H3
  have hS3'h := Lib.hid hS3
  clear H3 hS3
  go_upto_region 4 with (first | (refine wpList_load_row rfl _ _ rfl w2.heap.size rfl 25 (gpA wG3) (0, 0) _ H3'h.out.rows.1 Try.underlying25 rfl infoGp ?_) | (go_at_call 21; refine (F1'h.out _).mono ?_; rintro e w4 ⟨rfl, hb4⟩))
  have H4 := H3'h.out.next hb4
  have hS4 := hS3'h.out.below hb4
  clear hb4
  have H4'h := Lib.hid H4
  have hS4'h := Lib.hid hS4
  clear H4 hS4
  go_upto_region 5 with (first | (refine wpList_load_row rfl _ _ rfl w2.heap.size rfl 25 (gpA wG3) (0, 0) _ H4'h.out.rows.1 Try.underlying25 rfl infoGp ?_) | (go_at_call 21; refine (F2'h.out _).mono ?_; rintro e w5 ⟨rfl, hb5⟩))
  have H5 := H4'h.out.next hb5
  have hS5 := hS4'h.out.below hb5
  clear hb5
  have H5'h := Lib.hid H5
  have hS5'h := Lib.hid hS5
  clear H5 hS5
  go_upto_region 6 with (first | (refine wpList_load_row rfl _ _ rfl w2.heap.size rfl 25 (gpA wG3) (0, 0) _ H5'h.out.rows.1 Try.underlying25 rfl infoGp ?_) | (go_at_call 28; refine (D'h.out _).mono ?_; rintro e w6 ⟨rfl, hb6⟩) | (refine wpList_store_row rfl _ _ _ rfl w6.heap.size (gpA wG4) rfl rfl 25 _ (World.alloc_heap_new _ _) infoGp rfl (gpA_one _) ?_))
  have H6 := ((H5'h.out.next hb6).new (gpA gpZ) 25).set 0 rfl (gpA wG4)
  have hS6 : Sl ((w6.alloc (.cells (gpA gpZ) 25)).setRow w6.heap.size (gpA wG4)) sp3 2 (ints [0, 1]) := (hS5'h.out.below hb6).below (below_setRow' ((Below.refl _ _).alloc (Nat.le_refl _) _) (Nat.le_refl _) _)
  change Code.wp _ _ _ _ ((w6.alloc (.cells (gpA gpZ) 25)).setRow w6.heap.size (gpA wG4))
  generalize World.setRow _ _ _ = W6 at H6 hS6 ⊢
  clear hb6
  have H6'h := Lib.hid H6
  have hS6'h := Lib.hid hS6
  clear H6 hS6
  go_upto_region 7 with (first | (refine wpList_load_row rfl _ _ rfl w6.heap.size rfl 25 (gpA wG4) (0, 0) _ H6'h.out.rows.1 Try.underlying25 rfl infoGp ?_) | (go_at_call 17; refine (FR'h.out _).mono ?_; rintro e w7 ⟨rfl, hb7⟩))
  have H7 := H6'h.out.next hb7
  have hS7 := hS6'h.out.below hb7
  clear hb7
  have H7'h := Lib.hid H7
  have hS7'h := Lib.hid hS7
  clear H7 hS7
  go_upto_region 8 with (first | (refine wpList_load_row rfl _ _ rfl w6.heap.size rfl 25 (gpA wG4) (0, 0) _ H7'h.out.rows.1 Try.underlying25 rfl infoGp ?_) | (go_at_call 30; refine (PT'h.out _).mono ?_; rintro e w8 ⟨rfl, hb8⟩) | (refine wpList_store_row rfl _ _ _ rfl w8.heap.size (gpA g5) rfl rfl 25 _ (World.alloc_heap_new _ _) infoGp rfl (gpA_one _) ?_))
  have H8 := ((H7'h.out.next hb8).new (gpA gpZ) 25).set 0 rfl (gpA g5)
  have hS8 : Sl ((w8.alloc (.cells (gpA gpZ) 25)).setRow w8.heap.size (gpA g5)) sp3 2 (ints [0, 1]) := (hS7'h.out.below hb8).below (below_setRow' ((Below.refl _ _).alloc (Nat.le_refl _) _) (Nat.le_refl _) _)
  change Code.wp _ _ _ _ ((w8.alloc (.cells (gpA gpZ) 25)).setRow w8.heap.size (gpA g5))
  generalize World.setRow _ _ _ = W8 at H8 hS8 ⊢
  clear hb8
  have hO9 := H8.new #[.int .i64 0, .int .i64 1] 3
  have hS9 : Sl (W8.alloc (.cells #[.int .i64 0, .int .i64 1] 3)) sp3 2 ([(0 : Int), 1].map (Value.int .i64)) := hS8.below ((Below.refl _ _).alloc (Nat.le_refl _) _)
  have hS9' : Sl (W8.alloc (.cells #[.int .i64 0, .int .i64 1] 3)) (some ⟨W8.heap.size, 0, none⟩) 2 ([(0 : Int), 1].map (Value.int .i64)) := Sl.of_blk (cs := #[.int .i64 0, .int .i64 1]) (World.alloc_heap_new _ _) (by decide)
  have EQ := equalI_any sp3 (some ⟨W8.heap.size, 0, none⟩) 2 2 cap3 2 [0, 1] [0, 1] (W8.alloc (.cells #[.int .i64 0, .int .i64 1] 3)) hS9 hS9'
  rw [show (([0, 1] : List Int) == [0, 1]) = true by decide] at EQ
  have H8'h := Lib.hid H8
  have hS8'h := Lib.hid hS8
  have hO9'h := Lib.hid hO9
  have hS9'h := Lib.hid hS9
  have hS9''h := Lib.hid hS9'
  have EQ'h := Lib.hid EQ
  clear H8 hS8 hO9 hS9 hS9' EQ
  go_wp2_with (first | (go_at_call 24; refine (EQ'h.out).mono ?_; rintro e w9 ⟨rfl, d9, rfl⟩) | (refine wpList_load_row_w (by kernel_rfl) _ _ rfl w2.heap.size rfl 25 (gpA wG3) (0, 0) _ (hO9'h.out.drewN d9).rows.2.2.2.1 Try.underlying25 rfl infoGp ?_) | (go_at_call 19; refine (LV'h.out _).mono ?_; rintro e w10 ⟨sp, n, cap, rfl, hb10, hrow⟩; obtain rfl := row_len' hrow))
  go_ret
  have hO10 := (hO9'h.out.drewN d9).next hb10
  exact ⟨by rw [w_live]; rfl, hO10.old⟩
end Go.Proofs.Ytfoohdjgnphdgaa

/-
  Groups that are compared.
-/
set_option linter.unusedSimpArgs false
set_option linter.unusedVariables false
set_option maxRecDepth 100000
namespace Go.Proofs.Ytfoohdjgnphdgaa
open Go.RowKit

theorem key_one {d x : Nat} (hx : x < 2 ^ 64) : Try.prog.keyLits (d + 1) 22 [.int .u64 (x : Int)] = some [.int .u64 (x : Int)] := by
  have hw : (Lit.int .u64 (x : Int)).wf = true := wf_u64 hx
  simp [Program.keyLits, Try.underlying22, hw]
theorem key_eight {d : Nat} {f : Nat → Nat} (hf : ∀ i, f i < 2 ^ 64) : Try.prog.keyLits (d + 2) 23 [.int .u64 (f 0 : Int), .int .u64 (f 1 : Int), .int .u64 (f 2 : Int), .int .u64 (f 3 : Int), .int .u64 (f 4 : Int), .int .u64 (f 5 : Int), .int .u64 (f 6 : Int), .int .u64 (f 7 : Int)]
    = some [.int .u64 (f 0 : Int), .int .u64 (f 1 : Int), .int .u64 (f 2 : Int), .int .u64 (f 3 : Int), .int .u64 (f 4 : Int), .int .u64 (f 5 : Int), .int .u64 (f 6 : Int), .int .u64 (f 7 : Int)] := by
  have c8 : Try.prog.cellsOf 23 = 8 := by kernel_rfl
  have c1 : Try.prog.cellsOf 22 = 1 := by kernel_rfl
  rw [show d + 2 = (d + 1) + 1 from rfl]
  unfold Program.keyLits
  simp only [Try.underlying23, c8, c1, List.length_cons, List.length_nil, if_true]
  rw [show List.range 8 = [0, 1, 2, 3, 4, 5, 6, 7] from rfl]
  simp [List.mapM_cons, key_one (hf _)]
def gpLits (g : Gp) : List Lit := [.int .u64 (g.c : Int), .int .u64 (g.k 0 : Int), .int .u64 (g.k 1 : Int), .int .u64 (g.k 2 : Int), .int .u64 (g.k 3 : Int), .int .u64 (g.k 4 : Int), .int .u64 (g.k 5 : Int), .int .u64 (g.k 6 : Int), .int .u64 (g.k 7 : Int),
  .int .u64 (g.v 0 : Int), .int .u64 (g.v 1 : Int), .int .u64 (g.v 2 : Int), .int .u64 (g.v 3 : Int), .int .u64 (g.v 4 : Int), .int .u64 (g.v 5 : Int), .int .u64 (g.v 6 : Int), .int .u64 (g.v 7 : Int)]
theorem gpLits_val (g : Gp) : ((gpLits g).map Lit.value).toArray = gpA g := rfl
theorem gpLits_iff (a b : Gp) : gpLits a = gpLits b ↔ sameA a b = true := by
  constructor
  · intro h
    rw [← gpA_eq, ← gpLits_val, ← gpLits_val, h]
  · intro h
    rw [sameA_iff] at h
    obtain ⟨h0, h1, h2⟩ := h
    unfold gpLits
    rw [h0, h1 0 (by omega), h1 1 (by omega), h1 2 (by omega), h1 3 (by omega), h1 4 (by omega), h1 5 (by omega), h1 6 (by omega), h1 7 (by omega), h2 0 (by omega), h2 1 (by omega), h2 2 (by omega), h2 3 (by omega), h2 4 (by omega), h2 5 (by omega), h2 6 (by omega), h2 7 (by omega)]
theorem key_group {d : Nat} {g : Gp} (hg : GpOk g) : Try.prog.keyLits (d + 3) 25 (gpA g).toList = some (gpLits g) := by
  have c17 : Try.prog.cellsOf 25 = 17 := by kernel_rfl
  have c8 : Try.prog.cellsOf 23 = 8 := by kernel_rfl
  have c1 : Try.prog.cellsOf 22 = 1 := by kernel_rfl
  rw [show d + 3 = (d + 2) + 1 from rfl]
  unfold Program.keyLits
  have hn : (gpA g).toList.length = 17 := rfl
  simp only [Try.underlying25, c17, hn]
  simp [List.mapM_cons, c8, c1, gpA, key_one hg.c, key_eight hg.k, key_eight hg.v, gpLits]
theorem gp_formed (g : Gp) : (Value.agg (gpA g)).formed Try.prog 25 = true := by kernel_rfl
theorem run_eq_group {a b : Gp} (ha : GpOk a) (hb : GpOk b) (w : World) : (Op.equalIn 10000 25 (.agg (gpA a)) (.agg (gpA b))).run Try.prog w = .ok (sameA a b) w := by
  obtain ⟨r, hr, hiff⟩ := run_equalIn_deep (P := Try.prog) 9990 10 25 (by kernel_rfl) w 3 3 (.agg (gpA a)) (.agg (gpA b)) (gpLits a) (gpLits b) (gp_formed a) (gp_formed b) (key_group (d := 0) ha) (key_group (d := 0) hb)
  have e : r = sameA a b := by rw [Bool.eq_iff_iff, hiff, gpLits_iff]
  rw [← e]; exact hr
theorem eql_group {a b : Gp} (ha : GpOk a) (hb : GpOk b) (w : World) : (binOp .eql 25 (.agg (gpA a)) (.agg (gpA b))).run Try.prog w = .ok (.bool (sameA a b)) w := by
  rw [run_eql_struct, run_eq_group ha hb]; rfl
theorem neq_group {a b : Gp} (ha : GpOk a) (hb : GpOk b) (w : World) : (binOp .neq 25 (.agg (gpA a)) (.agg (gpA b))).run Try.prog w = .ok (.bool (!sameA a b)) w := by
  rw [run_neq_struct, run_eq_group ha hb]; rfl
end Go.Proofs.Ytfoohdjgnphdgaa

/-
  Groups, the plain law: what is put is found, what is dropped is not, all others stay.
-/
set_option linter.unusedSimpArgs false
set_option linter.unusedVariables false
set_option maxRecDepth 100000
namespace Go.Proofs.Ytfoohdjgnphdgaa
open Go.RowKit

theorem okB_three {b : Nat} (h : okB b = true) : b < 128 ∨ b = 128 ∨ b = 254 := by unfold okB at h; simp at h; omega
theorem full_le {x i : Nat} (h : fullAt x i = true) : byteAt x i ≤ 127 := by unfold fullAt at h; simp at h; omega
theorem right_apart {g : Gp} (hr : rightG g = true) {i j : Nat} (hi : i < 8) (hj : j < 8) (hf : fullAt g.c i = true) (hf' : fullAt g.c j = true) (hk : g.k i = g.k j) : i = j := by
  have hd : distinctG g = true := by unfold rightG at hr; simp at hr; exact hr.1
  rw [distinctG_iff] at hd
  rcases Nat.lt_trichotomy i j with h | h | h
  · exact absurd hk.symm (hd j hj i h hf' hf)
  · exact h
  · exact absurd hk (hd i hi j h hf hf')
theorem right_of {g : Gp} (h1 : rightW g.c = true) (h2 : ∀ i, i < 8 → ∀ j, j < 8 → i ≠ j → fullAt g.c i = true → fullAt g.c j = true → g.k i ≠ g.k j) : rightG g = true := by
  unfold rightG
  rw [h1, Bool.and_true, distinctG_iff]
  exact fun i hi j hj f1 f2 => h2 i hi j (by omega) (by omega) f1 f2
theorem right_setTo (g : Gp) (i x : Nat) : rightG (setTo g i x) = rightG g := rfl
theorem find_live {g : Gp} (hr : rightG g = true) {i : Nat} (hi : i < 8) (hf : fullAt g.c i = true) : findE g (g.k i) (byteAt g.c i) = 0 ∧ findL g (g.k i) (byteAt g.c i) = i := by
  have hb := full_le hf
  have h0 : looksE g (byteAt g.c i) = 0 := by unfold looksE; rw [if_pos hr, if_pos hb]
  have hm : i ∈ looksG g (byteAt g.c i) := by unfold looksG; simp [hi]
  have hp : placeG g (g.k i) (byteAt g.c i) < (looksG g (byteAt g.c i)).length := by unfold placeG; exact List.findIdx_lt_length_of_exists ⟨i, hm, by simp⟩
  have hfd : foundG g (g.k i) (byteAt g.c i) = true := by unfold foundG; simpa using hp
  have he : findE g (g.k i) (byteAt g.c i) = 0 := by unfold findE; rw [if_pos h0, if_pos hfd]
  obtain ⟨_, _, h8, hbl, hkl, _, hL, _⟩ := find_zero he
  refine ⟨he, ?_⟩
  rw [hL]
  exact right_apart hr h8 hi (by unfold fullAt; rw [hbl]; simpa [fullAt] using hf) hf hkl
theorem filt_parts (p : Nat → Bool) {i n : Nat} (hi : i < n) : (List.range n).filter p = (List.range i).filter p ++ ((if p i = true then [i] else []) ++ (List.range' (i + 1) (n - i - 1)).filter p) := by
  have e : List.range n = List.range i ++ (i :: List.range' (i + 1) (n - i - 1)) := by
    have h2 : List.range' (0 + i) (n - i) = i :: List.range' (i + 1) (n - i - 1) := by rw [show n - i = (n - i - 1) + 1 by omega, List.range'_succ]; simp
    have h1 := List.range'_append_1 (s := 0) (m := i) (n := n - i)
    rw [show i + (n - i) = n by omega] at h1
    rw [List.range_eq_range', List.range_eq_range', ← h2, h1]
  rw [e, List.filter_append, List.filter_cons]
  split <;> simp
theorem freeLane_not {g : Gp} (h : freeLane g < 8) : fullAt g.c (freeLane g) = false := by
  have := List.findIdx_getElem (p := fun i => !fullAt g.c i) (xs := List.range 8) (w := by rw [List.length_range]; exact h)
  rw [List.getElem_range] at this
  change (!fullAt g.c (freeLane g)) = true at this
  simpa using this
theorem freeLane_low {g : Gp} {j : Nat} (h : j < freeLane g) (h8 : j < 8) : fullAt g.c j = true := by
  have := List.not_of_lt_findIdx (p := fun i => !fullAt g.c i) (xs := List.range 8) h
  simpa using this
theorem put_zero {g : Gp} {s : Sl3} (h : putE g s = 0) : s.h2 ≤ 127 ∧ thereG g s.key = false ∧ freeLane g < 8 := by
  unfold putE at h
  split at h
  · cases h
  · split at h
    · cases h
    · split at h
      · cases h
      · rename_i h1 h2 h3
        have := freeLane_le g
        exact ⟨by omega, by simpa using h2, by omega⟩
theorem there_not {g : Gp} {key : Nat} (h : thereG g key = false) {i : Nat} (hi : i < 8) (hf : fullAt g.c i = true) : g.k i ≠ key := by
  unfold thereG at h
  simp only [List.any_eq_false, List.mem_range, Bool.and_eq_true, beq_iff_eq, not_and] at h
  exact h i hi hf
section
variable {g : Gp} {s : Sl3} (hr : rightG g = true) (he : putE g s = 0)
include he
theorem put_byte {i : Nat} (hi : i < 8) : byteAt (putTo g s).c i = if i = freeLane g then s.h2 else byteAt g.c i := by
  obtain ⟨h1, _, h3⟩ := put_zero he
  exact byteAt_set g.c (freeLane g) s.h2 i (by omega) hi h3
theorem put_full {i : Nat} (hi : i < 8) : fullAt (putTo g s).c i = (fullAt g.c i || i == freeLane g) := by
  obtain ⟨h1, _, h3⟩ := put_zero he
  unfold fullAt
  rw [put_byte he hi]
  by_cases e : i = freeLane g
  · rw [if_pos e, e]; simp; omega
  · rw [if_neg e]; simp [e]
theorem put_slot {i : Nat} (hi : i < 8) : slotAt (putTo g s) i = if i = freeLane g then s else slotAt g i := by
  unfold slotAt
  rw [put_byte he hi]
  unfold putTo upd
  by_cases e : i = freeLane g <;> simp [e]
include hr
theorem put_right : rightG (putTo g s) = true := by
  obtain ⟨h1, h2, h3⟩ := put_zero he
  refine right_of (putTo_word (rightG_word hr) he) fun i hi j hj hij f1 f2 => ?_
  rw [put_full he hi] at f1
  rw [put_full he hj] at f2
  have ki : (putTo g s).k i = if i = freeLane g then s.key else g.k i := rfl
  have kj : (putTo g s).k j = if j = freeLane g then s.key else g.k j := rfl
  rw [ki, kj]
  by_cases e1 : i = freeLane g
  · have e2 : j ≠ freeLane g := fun e => hij (e1.trans e.symm)
    rw [if_pos e1, if_neg e2]
    exact fun h => there_not h2 hj (by simpa [e2] using f2) h.symm
  · rw [if_neg e1]
    by_cases e2 : j = freeLane g
    · rw [if_pos e2]
      exact there_not h2 hi (by simpa [e1] using f1)
    · rw [if_neg e2]
      exact fun h => hij (right_apart hr hi hj (by simpa [e1] using f1) (by simpa [e2] using f2) h)
theorem put_find : findE (putTo g s) s.key s.h2 = 0 ∧ findL (putTo g s) s.key s.h2 = freeLane g := by
  obtain ⟨h1, h2, h3⟩ := put_zero he
  have hf : fullAt (putTo g s).c (freeLane g) = true := by rw [put_full he h3]; simp
  have := find_live (put_right hr he) h3 hf
  rw [put_byte he h3, if_pos rfl, show (putTo g s).k (freeLane g) = s.key from upd_same _ _ _] at this
  exact this
omit hr
/-- The slot comes into the row of those that are there. -/
theorem put_live : ∃ A B, liveG (putTo g s) = A ++ s :: B ∧ liveG g = A ++ B ∧ ∀ t ∈ A, t ≠ s := by
  obtain ⟨h1, h2, h3⟩ := put_zero he
  refine ⟨((List.range (freeLane g)).filter fun i => fullAt g.c i).map (slotAt g), ((List.range' (freeLane g + 1) (8 - freeLane g - 1)).filter fun i => fullAt g.c i).map (slotAt g), ?_, ?_, ?_⟩
  · unfold liveG fullL
    rw [filt_parts _ h3, if_pos (by rw [put_full he h3]; simp), List.map_append, List.map_append]
    have a1 : (List.range (freeLane g)).filter (fun i => fullAt (putTo g s).c i) = (List.range (freeLane g)).filter fun i => fullAt g.c i := by
      refine List.filter_congr fun i hi => ?_
      rw [List.mem_range] at hi
      rw [put_full he (by omega), show (i == freeLane g) = false by simp; omega, Bool.or_false]
    have a2 : (List.range' (freeLane g + 1) (8 - freeLane g - 1)).filter (fun i => fullAt (putTo g s).c i) = (List.range' (freeLane g + 1) (8 - freeLane g - 1)).filter fun i => fullAt g.c i := by
      refine List.filter_congr fun i hi => ?_
      rw [List.mem_range'_1] at hi
      rw [put_full he (by omega), show (i == freeLane g) = false by simp; omega, Bool.or_false]
    rw [a1, a2]
    congr 1
    · refine List.map_congr_left fun i hi => ?_
      have := List.mem_range.1 (List.mem_filter.1 hi).1
      rw [put_slot he (by omega), if_neg (by omega)]
    · rw [List.map_cons, List.map_nil, put_slot he h3, if_pos rfl, List.singleton_append]
      congr 1
      refine List.map_congr_left fun i hi => ?_
      have := List.mem_range'_1.1 (List.mem_filter.1 hi).1
      rw [put_slot he (by omega), if_neg (by omega)]
  · unfold liveG fullL
    rw [filt_parts _ h3, if_neg (by rw [freeLane_not h3]; decide), List.nil_append, List.map_append]
  · intro t ht e
    obtain ⟨i, hi, rfl⟩ := List.mem_map.1 ht
    obtain ⟨hi1, hi2⟩ := List.mem_filter.1 hi
    have hi1 := List.mem_range.1 hi1
    exact there_not h2 (by omega) hi2 (by rw [← e]; rfl)
end
theorem full_count {x : Nat} (hr : rightW x = true) : (fullL x).length + ((List.range 8).filter fun i => byteAt x i == 128).length + ((List.range 8).filter fun i => byteAt x i == 254).length = 8 := by
  rw [rightW_iff] at hr
  unfold fullL
  have : ∀ l : List Nat, (∀ i ∈ l, i < 8) → (l.filter fun i => fullAt x i).length + (l.filter fun i => byteAt x i == 128).length + (l.filter fun i => byteAt x i == 254).length = l.length := by
    intro l
    induction l with
    | nil => intro _; rfl
    | cons a l ih =>
      intro h
      have ih := ih fun i hi => h i (List.mem_cons_of_mem _ hi)
      rcases okB_three (hr a (h a (List.mem_cons_self ..))) with h1 | h1 | h1
      · have : fullAt x a = true := by unfold fullAt; simpa using h1
        simp [List.filter_cons, this, show ¬ byteAt x a = 128 by omega, show ¬ byteAt x a = 254 by omega]; omega
      · have : fullAt x a = false := by unfold fullAt; simp; omega
        simp [List.filter_cons, this, h1]; omega
      · have : fullAt x a = false := by unfold fullAt; simp; omega
        simp [List.filter_cons, this, h1]; omega
  have h := this (List.range 8) fun i hi => List.mem_range.1 hi
  rwa [List.length_range] at h
end Go.Proofs.Ytfoohdjgnphdgaa

/-
  Groups, the plain law, part two: what is dropped, what is counted, keys that are not there.
-/
set_option linter.unusedSimpArgs false
set_option linter.unusedVariables false
set_option maxRecDepth 100000
namespace Go.Proofs.Ytfoohdjgnphdgaa
open Go.RowKit

theorem filt_more {p q : Nat → Bool} {m n : Nat} (hm : m < n) (hpq : ∀ i, i < n → i ≠ m → p i = q i) (hp : p m = false) (hq : q m = true) : ((List.range n).filter q).length = ((List.range n).filter p).length + 1 := by
  rw [filt_parts p hm, filt_parts q hm, if_pos hq, if_neg (by rw [hp]; decide)]
  have a1 : (List.range m).filter p = (List.range m).filter q := List.filter_congr fun i hi => by
    rw [List.mem_range] at hi
    exact hpq i (by omega) (by omega)
  have a2 : (List.range' (m + 1) (n - m - 1)).filter p = (List.range' (m + 1) (n - m - 1)).filter q := List.filter_congr fun i hi => by
    rw [List.mem_range'_1] at hi
    exact hpq i (by omega) (by omega)
  rw [a1, a2]
  simp; omega
theorem filt_same {p q : Nat → Bool} {n : Nat} (hpq : ∀ i, i < n → p i = q i) : ((List.range n).filter q).length = ((List.range n).filter p).length := by
  rw [List.filter_congr fun i hi => hpq i (List.mem_range.1 hi)]
theorem emptyN_iff (g : Gp) : stopsW g.c = true ↔ emptyN g ≠ 0 := by
  rw [stopsW_iff]
  unfold emptyN
  constructor
  · rintro ⟨i, hi, h⟩ e
    have : i ∈ (List.range 8).filter fun i => byteAt g.c i == 128 := by simp [hi, h]
    rw [List.eq_nil_of_length_eq_zero e] at this
    cases this
  · intro h
    have : 0 < ((List.range 8).filter fun i => byteAt g.c i == 128).length := by omega
    obtain ⟨i, hi⟩ := List.exists_mem_of_length_pos this
    simp at hi
    exact ⟨i, hi.1, hi.2⟩
theorem drop_byte {g : Gp} {m i : Nat} (hm : m < 8) (hi : i < 8) : byteAt (dropTo g m).c i = if i = m then eraseB g.c else byteAt g.c i :=
  byteAt_set g.c m (eraseB g.c) i (eraseB_lt _) hi hm
theorem erase_two (x : Nat) : eraseB x = 128 ∨ eraseB x = 254 := by unfold eraseB; split <;> simp
theorem drop_full {g : Gp} {m i : Nat} (hm : m < 8) (hi : i < 8) : fullAt (dropTo g m).c i = (fullAt g.c i && !(i == m)) := by
  unfold fullAt
  rw [drop_byte hm hi]
  by_cases e : i = m
  · rw [if_pos e, e]; rcases erase_two g.c with h | h <;> rw [h] <;> simp
  · rw [if_neg e]; simp [e]
theorem drop_right {g : Gp} (hr : rightG g = true) {m : Nat} (hm : m < 8) : rightG (dropTo g m) = true := by
  refine right_of (set_right (rightG_word hr) ?_ (eraseB_lt _) hm) fun i hi j hj hij f1 f2 => ?_
  · rcases erase_two g.c with h | h <;> rw [h] <;> decide
  · rw [drop_full hm hi] at f1
    rw [drop_full hm hj] at f2
    simp at f1 f2
    exact fun h => hij (right_apart hr hi hj f1.1 f2.1 h)
theorem drop_free {g : Gp} {m : Nat} (hm : m < 8) (hf : fullAt g.c m = true) :
    emptyN (dropTo g m) = (if emptyN g = 0 then 0 else emptyN g + 1) ∧ deadN (dropTo g m) = (if emptyN g = 0 then deadN g + 1 else deadN g) := by
  have hb := full_le hf
  by_cases h : emptyN g = 0
  · rw [if_pos h, if_pos h]
    have he : eraseB g.c = 254 := by unfold eraseB; rw [if_neg (by rw [emptyN_iff]; omega)]
    constructor
    · rw [← h]
      unfold emptyN
      refine filt_same fun i hi => ?_
      rw [drop_byte hm hi]
      by_cases e : i = m
      · rw [if_pos e, e, he]; simp; omega
      · rw [if_neg e]
    · unfold deadN
      refine filt_more hm (fun i hi e => ?_) ?_ ?_
      · rw [drop_byte hm hi, if_neg e]
      · simp; omega
      · rw [drop_byte hm hm, if_pos rfl, he]; rfl
  · rw [if_neg h, if_neg h]
    have he : eraseB g.c = 128 := by unfold eraseB; rw [if_pos (by rw [emptyN_iff]; omega)]
    constructor
    · unfold emptyN
      refine filt_more hm (fun i hi e => ?_) ?_ ?_
      · rw [drop_byte hm hi, if_neg e]
      · simp; omega
      · rw [drop_byte hm hm, if_pos rfl, he]; rfl
    · unfold deadN
      refine filt_same fun i hi => ?_
      rw [drop_byte hm hi]
      by_cases e : i = m
      · rw [if_pos e, e, he]; simp; omega
      · rw [if_neg e]
theorem drop_none {g : Gp} (hr : rightG g = true) {m : Nat} (hm : m < 8) (hf : fullAt g.c m = true) : findE (dropTo g m) (g.k m) (byteAt g.c m) = 4 := by
  have hr' := drop_right hr hm
  have hb := full_le hf
  have h0 : looksE (dropTo g m) (byteAt g.c m) = 0 := by unfold looksE; rw [if_pos hr', if_pos hb]
  unfold findE
  rw [if_pos h0, if_neg]
  intro h
  unfold foundG at h
  have h := of_decide_eq_true h
  unfold placeG at h
  obtain ⟨i, hi, hk⟩ := List.findIdx_lt_length.1 h
  have hi8 := looksG_lt hi
  unfold looksG at hi
  simp at hi hk
  have hi2 := hi.2
  rw [drop_byte hm hi8] at hi2
  by_cases e : i = m
  · rw [if_pos e] at hi2
    rcases erase_two g.c with h | h <;> omega
  · rw [if_neg e] at hi2
    have hfi : fullAt g.c i = true := by unfold fullAt; rw [hi2]; exact hf
    exact e (right_apart hr hi8 hm hfi hf hk)
section
variable {g : Gp} {s : Sl3} (hr : rightG g = true) (he : putE g s = 0)
include he hr
theorem put_many : findE (putTo g s) s.key s.h2 = 0 ∧ findL (putTo g s) s.key s.h2 = freeLane g ∧ 1 ≤ findN (putTo g s) s.key s.h2 ∧ findN (putTo g s) s.key s.h2 ≤ (looksG (putTo g s) s.h2).length ∧
    nthN (looksG (putTo g s) s.h2) (findN (putTo g s) s.key s.h2 - 1) = freeLane g := by
  obtain ⟨h1, h2⟩ := put_find hr he
  obtain ⟨_, _, _, _, _, hp, hL, hN⟩ := find_zero h1
  refine ⟨h1, h2, by omega, by omega, ?_⟩
  rw [hN, Nat.add_sub_cancel, ← h2, hL]; rfl
omit hr in
theorem put_drop_live : liveG (dropTo (putTo g s) (freeLane g)) = liveG g := by
  obtain ⟨h1, h2, h3⟩ := put_zero he
  unfold liveG fullL
  have a : (List.range 8).filter (fun i => fullAt (dropTo (putTo g s) (freeLane g)).c i) = (List.range 8).filter fun i => fullAt g.c i := by
    refine List.filter_congr fun i hi => ?_
    rw [List.mem_range] at hi
    rw [drop_full h3 hi, put_full he hi]
    by_cases e : i = freeLane g
    · rw [e, freeLane_not h3]; simp
    · have e' : (i == freeLane g) = false := by simpa using e
      rw [e', Bool.or_false, Bool.not_false, Bool.and_true]
  rw [a]
  refine List.map_congr_left fun i hi => ?_
  obtain ⟨hi1, hi2⟩ := List.mem_filter.1 hi
  have hi8 := List.mem_range.1 hi1
  have e : i ≠ freeLane g := fun e => by rw [e, freeLane_not h3] at hi2; cases hi2
  have p := put_slot he hi8
  rw [if_neg e] at p
  rw [← p]
  unfold slotAt
  rw [drop_byte h3 hi8, if_neg e]; rfl
theorem put_keeps : findE (putTo g s) s.key s.h2 = 0 ∧ findL (putTo g s) s.key s.h2 = freeLane g ∧ rightG (putTo g s) = true ∧ rightG (dropTo (putTo g s) (freeLane g)) = true ∧
    findE (dropTo (putTo g s) (freeLane g)) s.key s.h2 = 4 ∧
    emptyN (dropTo (putTo g s) (freeLane g)) = (if emptyN (putTo g s) = 0 then 0 else emptyN (putTo g s) + 1) ∧ deadN (dropTo (putTo g s) (freeLane g)) = (if emptyN (putTo g s) = 0 then deadN (putTo g s) + 1 else deadN (putTo g s)) := by
  obtain ⟨h1, h2, h3⟩ := put_zero he
  have hf : fullAt (putTo g s).c (freeLane g) = true := by rw [put_full he h3]; simp
  have hr' := put_right hr he
  obtain ⟨f1, f2⟩ := put_find hr he
  obtain ⟨d1, d2⟩ := drop_free h3 hf
  have dn := drop_none hr' h3 hf
  rw [put_byte he h3, if_pos rfl, show (putTo g s).k (freeLane g) = s.key from upd_same _ _ _] at dn
  exact ⟨f1, f2, hr', drop_right hr' h3, dn, d1, d2⟩
end
theorem live_count {g : Gp} (hr : rightG g = true) : (liveG g).length + emptyN g + deadN g = 8 := by
  have := full_count (rightG_word hr)
  unfold liveG emptyN deadN
  rw [List.length_map]; exact this
theorem freeLane_iff (g : Gp) : freeLane g < 8 ↔ (liveG g).length < 8 := by
  have hle := freeLane_le g
  unfold liveG fullL
  rw [List.length_map]
  constructor
  · intro h
    have := filt_more (p := fun i => fullAt g.c i) (q := fun i => fullAt g.c i || i == freeLane g) h (fun i _ e => by simp [e]) (freeLane_not h) (by simp)
    have h2 : ((List.range 8).filter fun i => fullAt g.c i || i == freeLane g).length ≤ 8 := Nat.le_trans (List.length_filter_le _ _) (by simp)
    omega
  · intro h
    refine Classical.byContradiction fun hn => ?_
    have e : freeLane g = 8 := by omega
    have : (List.range 8).filter (fun i => fullAt g.c i) = List.range 8 := List.filter_eq_self.2 fun i hi => freeLane_low (by rw [e]; exact List.mem_range.1 hi) (List.mem_range.1 hi)
    rw [this] at h
    simp at h
def liveHas (g : Gp) (key : Nat) : Bool := (liveG g).any fun s => s.key == key
theorem liveHas_eq (g : Gp) (key : Nat) : liveHas g key = thereG g key := by
  unfold liveHas thereG liveG fullL
  rw [Bool.eq_iff_iff]
  simp only [List.any_eq_true, List.mem_map, List.mem_filter, List.mem_range, beq_iff_eq, Bool.and_eq_true]
  constructor
  · rintro ⟨s, ⟨i, ⟨hi, hf⟩, rfl⟩, hk⟩
    exact ⟨i, hi, hf, hk⟩
  · rintro ⟨i, hi, hf, hk⟩
    exact ⟨_, ⟨i, ⟨hi, hf⟩, rfl⟩, hk⟩
theorem fill_putE {g : Gp} {key h : Nat} (hh : h < 128) (hn : liveHas g key = false) : putE g ⟨key, key, h⟩ = if (liveG g).length < 8 then 0 else 6 := by
  rw [liveHas_eq] at hn
  have hle := freeLane_le g
  have hi := freeLane_iff g
  unfold putE
  rw [if_neg (by show ¬ 127 < h; omega), if_neg (by rw [show (⟨key, key, h⟩ : Sl3).key = key from rfl, hn]; decide)]
  by_cases e : (liveG g).length < 8
  · rw [if_pos e, if_neg (by rw [← hi] at e; omega)]
  · rw [if_neg e, if_pos (by rw [← hi] at e; omega)]
theorem put_length {g : Gp} {s : Sl3} (he : putE g s = 0) : (liveG (putTo g s)).length = (liveG g).length + 1 := by
  obtain ⟨A, B, h1, h2, _⟩ := put_live he
  rw [h1, h2]; simp; omega
/-- As many as are there from a key on. -/
def keysFrom (g : Gp) (k : Nat) : Nat := ((liveG g).filter fun s => decide (k ≤ s.key)).length
theorem keysFrom_le (g : Gp) (k : Nat) : keysFrom g k ≤ 8 := by
  unfold keysFrom
  refine Nat.le_trans (List.length_filter_le _ _) ?_
  unfold liveG fullL
  rw [List.length_map]
  exact Nat.le_trans (List.length_filter_le _ _) (by simp)
theorem filt_lt {α : Type} {p q : α → Bool} : ∀ {l : List α}, (∀ a ∈ l, q a = true → p a = true) → (∃ a ∈ l, p a = true ∧ q a = false) → (l.filter q).length < (l.filter p).length
  | [], _, h => by obtain ⟨a, ha, _⟩ := h; cases ha
  | a :: l, h, hx => by
    have hle : ∀ l : List α, (∀ a ∈ l, q a = true → p a = true) → (l.filter q).length ≤ (l.filter p).length := by
      intro l
      induction l with
      | nil => intro _; exact Nat.le_refl _
      | cons b l ih =>
        intro h
        have ih := ih fun a ha => h a (List.mem_cons_of_mem _ ha)
        have hb := h b (List.mem_cons_self ..)
        rw [List.filter_cons, List.filter_cons]
        cases e : q b with
        | true => rw [hb e]; simpa using ih
        | false => cases p b <;> simp <;> omega
    have hl := hle l fun a ha => h a (List.mem_cons_of_mem _ ha)
    obtain ⟨b, hb, h1, h2⟩ := hx
    have ha := h a (List.mem_cons_self ..)
    rw [List.filter_cons, List.filter_cons]
    rcases List.mem_cons.1 hb with rfl | hb
    · rw [h1, h2]; simp; omega
    · have ih := filt_lt (fun a ha => h a (List.mem_cons_of_mem _ ha)) ⟨b, hb, h1, h2⟩
      cases e : q a with
      | true => rw [ha e]; simpa using ih
      | false => cases p a <;> simp <;> omega
theorem keysFrom_lt {g : Gp} {k : Nat} (h : liveHas g k = true) : keysFrom g (k + 1) < keysFrom g k := by
  unfold liveHas at h
  simp only [List.any_eq_true, beq_iff_eq] at h
  obtain ⟨s, hs, hk⟩ := h
  unfold keysFrom
  exact filt_lt (fun a _ h => by simp at h ⊢; omega) ⟨s, hs, by simp [hk], by simp [hk]⟩
theorem looksG_contains (g : Gp) (h i : Nat) (hi : i < 8) : (looksG g h).contains i = (byteAt g.c i == h) := by
  unfold looksG
  rw [Bool.eq_iff_iff]
  simp [hi]
end Go.Proofs.Ytfoohdjgnphdgaa

