/-
  Several texts of mine in one: DocN DocO DocP DocQ DocR.
-/
import Derived.Test.YtogeohjeabbmaaaDoorZj
import Derived.Deep.LoopGhost
import Derived.DeepKeys
import Derived.BigQuiet
/-
  The document's answer for layer 27: the pairs that are free of each other.
-/
set_option linter.unusedSimpArgs false
set_option linter.unusedVariables false
set_option maxRecDepth 100000
namespace Go.Proofs.YtogeohjeabbmaaaDoor
open Go.RowKit

def FreD (w : World) (l : List Mm) (n i k : Nat) (v : Value) (wr : World) : Prop :=
  ∃ out : List (Nat × Nat), Below w.heap.size w wr ∧ out.length ≤ i * 80 + k ∧ wr.ownsRow w.heap.size 53 2 v out.length (pairsN out) ∧ (out ++ freeRow l i (n - (i + 1) - (k - (i + 1))) (k - (i + 1))) ++ freeFrom l (n - (i + 1)) (i + 1) = freeFrom l n 0
set_option maxHeartbeats 8000000 in
theorem dfree_any (sp : Option Addr) (n cap : Nat) (l : List Mm) (w : World) (h : MsIn w sp n l) (h80 : n ≤ 80) :
    Calls Tryd.prog 20 #[.slice sp n cap] w fun e w' => ∃ s' c', e = .returned (.slice s' (freeFrom l n 0).length c') ∧ Below w.heap.size w w' ∧ w'.ownsRow w.heap.size 53 2 (.slice s' (freeFrom l n 0).length c') (freeFrom l n 0).length (pairsN (freeFrom l n 0)) := by
  have hlen := h.len
  have hinf := infoP2
  obtain ⟨i0, hi, hz⟩ := Option.map_eq_some_iff.1 hinf
  have hz0 : i0.zero = some (.agg #[.int .i64 0, .int .i64 0]) := (Prod.mk.inj hz).1
  have hz1 : i0.size = 2 := (Prod.mk.inj (Prod.mk.inj hz).2).1
  have hz2 : i0.bytes = 16 := (Prod.mk.inj (Prod.mk.inj hz).2).2
  clear hz hinf
  have h'h := Lib.hid h
  have h80'h := Lib.hid h80
  have hlen'h := Lib.hid hlen
  clear h h80 hlen
  go_enter Tryd.func20, Tryd.ntmps20
  go_wp2
  go_loopg [3, 8] n (fun q v3 v8 wr => ∃ i : Nat, i + q = n ∧ v8 = .int .i64 (i : Int) ∧ FreO w l n i v3 wr)
  case atStart => exact ⟨0, by omega, rfl, [], Below.refl _ _, Nat.zero_le _, World.ownsRow_nil _ _ _ _, rfl⟩
  case round =>
    obtain ⟨i, hj, rfl, out, hB, hol, hrow, htot⟩ := hrel
    obtain ⟨s3, c3, rfl⟩ := row_slice' hrow
    by_cases hlt : i < n
    · have i3 : (i : Int) < (n : Int) := by omega
      have i4 : (0 : Int) ≤ (i : Int) := by omega
      have i5 : (i : Int) + 1 ≤ 5000 := by have := h80'h.out; omega
      rw [freeFrom_step hlt hlen'h.out, ← List.append_assoc] at htot
      obtain ⟨go, hgo⟩ : ∃ go : Nat, go = gk := ⟨_, rfl⟩
      have hil : i < l.length := by have := hlen'h.out; omega
      have hsl : ∃ b off, sp = some ⟨b, off, none⟩ := by
        obtain ⟨b, off, e⟩ := slk_some h'h.out.sl (by omega)
        exact ⟨b, off, e⟩
      obtain ⟨b, off, rfl⟩ := hsl
      have hj'h := Lib.hid hj
      have hB'h := Lib.hid hB
      have hol'h := Lib.hid hol
      have hrow'h := Lib.hid hrow
      have htot'h := Lib.hid htot
      have hil'h := Lib.hid hil
      have hlt'h := Lib.hid hlt
      have hgo'h := Lib.hid hgo
      clear hj hB hol hrow htot hil hlt hgo
      go_wp2
      go_loopg [3, 13] n (fun q v3 v13 wq => ∃ k : Nat, k + q = n ∧ v13 = .int .i64 (k : Int) ∧ FreD w l n i k v3 wq)
      case atStart => exact ⟨0, by omega, rfl, out, hB'h.out, by have := hol'h.out; omega, hrow'h.out, by have h := htot'h.out; simpa using h⟩
      case round =>
        obtain ⟨k, hk, rfl, out, hB, hol2, hrow, htot2⟩ := hrel
        obtain ⟨s3, c3, rfl⟩ := row_slice' hrow
        by_cases hlt2 : k < n
        · have j1 : (k : Int) < (n : Int) := by omega
          have j2 : (0 : Int) ≤ (k : Int) := by omega
          have j3 : (k : Int) + 1 ≤ 5000 := by have := h80'h.out; omega
          by_cases hik : i < k
          rotate_left
          · have c1 : decide ((i : Int) < (k : Int)) = false := decide_eq_false (by omega)
            have c2 : decide (i < k) = false := decide_eq_false hik
            have htot3 : (out ++ freeRow l i (n - (i + 1) - (k + 1 - (i + 1))) (k + 1 - (i + 1))) ++ freeFrom l (n - (i + 1)) (i + 1) = freeFrom l n 0 := by
              have h := htot2
              rw [show k - (i + 1) = 0 by omega] at h
              rw [show k + 1 - (i + 1) = 0 by omega]
              exact h
            clear hik htot2
            have hk'h := Lib.hid hk
            have hlt2'h := Lib.hid hlt2
            have hB'h := Lib.hid hB
            have hol2'h := Lib.hid hol2
            have hrow'h := Lib.hid hrow
            have htot3'h := Lib.hid htot3
            clear hk hlt2 hB hol2 hrow htot3
            go_upto_region 8 with fail
            refine wp_region_heldF (fun w' => Below wr.heap.size wr w') 99 (by kernel_rfl) ?_
            have R0 : Below wr.heap.size wr wr.drew := Below.drew (Below.refl _ _)
            have hBd := hB'h.out.drew
            have hrowd := ownsRow_next hrow'h.out R0
            have hBd'h := Lib.hid hBd
            have hrowd'h := Lib.hid hrowd
            clear hBd hrowd
            refine wpAnyF_take (i := 0) (v := .int .i64 (i : Int)) rfl (by kernel_rfl) (by kernel_rfl) (by kernel_rfl) (by kernel_rfl) (fun _ _ _ h => h) (Or.inl ⟨by kernel_rfl, fun w hSw => by (try dsimp only at hSw); go_simp⟩) R0 ?_; try simp only [Act.put, List.getElem_toArray, List.getElem_cons_succ, List.getElem_cons_zero, List.setIfInBounds_toArray, List.set_cons_zero, List.set_cons_succ]
            refine wpAnyF_take (i := 1) (v := .int .i64 (k : Int)) rfl (by kernel_rfl) (by kernel_rfl) (by kernel_rfl) (by kernel_rfl) (fun _ _ _ h => h) (Or.inl ⟨by kernel_rfl, fun w hSw => by (try dsimp only at hSw); go_simp⟩) R0 ?_; try simp only [Act.put, List.getElem_toArray, List.getElem_cons_succ, List.getElem_cons_zero, List.setIfInBounds_toArray, List.set_cons_zero, List.set_cons_succ]
            refine wpAnyF_take (i := 2) (v := .bool false) rfl (by kernel_rfl) (by kernel_rfl) (by kernel_rfl) (by kernel_rfl) (fun _ _ _ h => h) (Or.inl ⟨by kernel_rfl, fun w hSw => by (try dsimp only at hSw); go_simp⟩) R0 ?_; try simp only [Act.put, List.getElem_toArray, List.getElem_cons_succ, List.getElem_cons_zero, List.setIfInBounds_toArray, List.set_cons_zero, List.set_cons_succ]
            refine wpAnyF_take (i := 3) (v := .bool false) rfl (by kernel_rfl) (by kernel_rfl) (by kernel_rfl) (by kernel_rfl) (fun _ _ _ h => h) (Or.inl ⟨by kernel_rfl, fun w hSw => by (try dsimp only at hSw); go_simp⟩) R0 ?_; try simp only [Act.put, List.getElem_toArray, List.getElem_cons_succ, List.getElem_cons_zero, List.setIfInBounds_toArray, List.set_cons_zero, List.set_cons_succ]
            refine wpAnyF_take (i := 4) (v := undef) rfl (by kernel_rfl) (by kernel_rfl) (by kernel_rfl) (by kernel_rfl) (fun _ _ _ h => h) (Or.inr ⟨by kernel_rfl, rfl⟩) R0 ?_; try simp only [Act.put, List.getElem_toArray, List.getElem_cons_succ, List.getElem_cons_zero, List.setIfInBounds_toArray, List.set_cons_zero, List.set_cons_succ]
            refine wpAnyF_take (i := 5) (v := undef) rfl (by kernel_rfl) (by kernel_rfl) (by kernel_rfl) (by kernel_rfl) (fun _ _ _ h => h) (Or.inr ⟨by kernel_rfl, rfl⟩) R0 ?_; try simp only [Act.put, List.getElem_toArray, List.getElem_cons_succ, List.getElem_cons_zero, List.setIfInBounds_toArray, List.set_cons_zero, List.set_cons_succ]
            refine wpAnyF_take (i := 6) (v := undef) rfl (by kernel_rfl) (by kernel_rfl) (by kernel_rfl) (by kernel_rfl) (fun _ _ _ h => h) (Or.inr ⟨by kernel_rfl, rfl⟩) R0 ?_; try simp only [Act.put, List.getElem_toArray, List.getElem_cons_succ, List.getElem_cons_zero, List.setIfInBounds_toArray, List.set_cons_zero, List.set_cons_succ]
            refine wpAnyF_take (i := 7) (v := undef) rfl (by kernel_rfl) (by kernel_rfl) (by kernel_rfl) (by kernel_rfl) (fun _ _ _ h => h) (Or.inr ⟨by kernel_rfl, rfl⟩) R0 ?_; try simp only [Act.put, List.getElem_toArray, List.getElem_cons_succ, List.getElem_cons_zero, List.setIfInBounds_toArray, List.set_cons_zero, List.set_cons_succ]
            refine wpAnyF_take (i := 8) (v := undef) rfl (by kernel_rfl) (by kernel_rfl) (by kernel_rfl) (by kernel_rfl) (fun _ _ _ h => h) (Or.inr ⟨by kernel_rfl, rfl⟩) R0 ?_; try simp only [Act.put, List.getElem_toArray, List.getElem_cons_succ, List.getElem_cons_zero, List.setIfInBounds_toArray, List.set_cons_zero, List.set_cons_succ]
            refine wpAnyF_take (i := 9) (v := undef) rfl (by kernel_rfl) (by kernel_rfl) (by kernel_rfl) (by kernel_rfl) (fun _ _ _ h => h) (Or.inr ⟨by kernel_rfl, rfl⟩) R0 ?_; try simp only [Act.put, List.getElem_toArray, List.getElem_cons_succ, List.getElem_cons_zero, List.setIfInBounds_toArray, List.set_cons_zero, List.set_cons_succ]
            refine wpAnyF_take (i := 10) (v := undef) rfl (by kernel_rfl) (by kernel_rfl) (by kernel_rfl) (by kernel_rfl) (fun _ _ _ h => h) (Or.inr ⟨by kernel_rfl, rfl⟩) R0 ?_; try simp only [Act.put, List.getElem_toArray, List.getElem_cons_succ, List.getElem_cons_zero, List.setIfInBounds_toArray, List.set_cons_zero, List.set_cons_succ]
            refine wpAnyF_take (i := 11) (v := undef) rfl (by kernel_rfl) (by kernel_rfl) (by kernel_rfl) (by kernel_rfl) (fun _ _ _ h => h) (Or.inr ⟨by kernel_rfl, rfl⟩) R0 ?_; try simp only [Act.put, List.getElem_toArray, List.getElem_cons_succ, List.getElem_cons_zero, List.setIfInBounds_toArray, List.set_cons_zero, List.set_cons_succ]
            refine wpAnyF_take (i := 12) (v := undef) rfl (by kernel_rfl) (by kernel_rfl) (by kernel_rfl) (by kernel_rfl) (fun _ _ _ h => h) (Or.inr ⟨by kernel_rfl, rfl⟩) R0 ?_; try simp only [Act.put, List.getElem_toArray, List.getElem_cons_succ, List.getElem_cons_zero, List.setIfInBounds_toArray, List.set_cons_zero, List.set_cons_succ]
            refine wpAnyF_take (i := 13) (v := undef) rfl (by kernel_rfl) (by kernel_rfl) (by kernel_rfl) (by kernel_rfl) (fun _ _ _ h => h) (Or.inr ⟨by kernel_rfl, rfl⟩) R0 ?_; try simp only [Act.put, List.getElem_toArray, List.getElem_cons_succ, List.getElem_cons_zero, List.setIfInBounds_toArray, List.set_cons_zero, List.set_cons_succ]
            refine wpAnyF_take (i := 14) (v := .bool false) rfl (by kernel_rfl) (by kernel_rfl) (by kernel_rfl) (by kernel_rfl) (fun _ _ _ h => h) (Or.inl ⟨by kernel_rfl, fun w hSw => by (try dsimp only at hSw); go_simp⟩) R0 ?_; try simp only [Act.put, List.getElem_toArray, List.getElem_cons_succ, List.getElem_cons_zero, List.setIfInBounds_toArray, List.set_cons_zero, List.set_cons_succ]
            refine wpAnyF_take (i := 15) (v := .bool false) rfl (by kernel_rfl) (by kernel_rfl) (by kernel_rfl) (by kernel_rfl) (fun _ _ _ h => h) (Or.inl ⟨by kernel_rfl, fun w hSw => by (try dsimp only at hSw); go_simp⟩) R0 ?_; try simp only [Act.put, List.getElem_toArray, List.getElem_cons_succ, List.getElem_cons_zero, List.setIfInBounds_toArray, List.set_cons_zero, List.set_cons_succ]
            refine wpAnyF_take (i := 16) (v := undef) rfl (by kernel_rfl) (by kernel_rfl) (by kernel_rfl) (by kernel_rfl) (fun _ _ _ h => h) (Or.inr ⟨by kernel_rfl, rfl⟩) R0 ?_; try simp only [Act.put, List.getElem_toArray, List.getElem_cons_succ, List.getElem_cons_zero, List.setIfInBounds_toArray, List.set_cons_zero, List.set_cons_succ]
            refine wpAnyF_take (i := 17) (v := undef) rfl (by kernel_rfl) (by kernel_rfl) (by kernel_rfl) (by kernel_rfl) (fun _ _ _ h => h) (Or.inr ⟨by kernel_rfl, rfl⟩) R0 ?_; try simp only [Act.put, List.getElem_toArray, List.getElem_cons_succ, List.getElem_cons_zero, List.setIfInBounds_toArray, List.set_cons_zero, List.set_cons_succ]
            refine wpAnyF_take (i := 18) (v := undef) rfl (by kernel_rfl) (by kernel_rfl) (by kernel_rfl) (by kernel_rfl) (fun _ _ _ h => h) (Or.inr ⟨by kernel_rfl, rfl⟩) R0 ?_; try simp only [Act.put, List.getElem_toArray, List.getElem_cons_succ, List.getElem_cons_zero, List.setIfInBounds_toArray, List.set_cons_zero, List.set_cons_succ]
            refine wpAnyF_take (i := 19) (v := undef) rfl (by kernel_rfl) (by kernel_rfl) (by kernel_rfl) (by kernel_rfl) (fun _ _ _ h => h) (Or.inr ⟨by kernel_rfl, rfl⟩) R0 ?_; try simp only [Act.put, List.getElem_toArray, List.getElem_cons_succ, List.getElem_cons_zero, List.setIfInBounds_toArray, List.set_cons_zero, List.set_cons_succ]
            refine wpAnyF_take (i := 20) (v := undef) rfl (by kernel_rfl) (by kernel_rfl) (by kernel_rfl) (by kernel_rfl) (fun _ _ _ h => h) (Or.inr ⟨by kernel_rfl, rfl⟩) R0 ?_; try simp only [Act.put, List.getElem_toArray, List.getElem_cons_succ, List.getElem_cons_zero, List.setIfInBounds_toArray, List.set_cons_zero, List.set_cons_succ]
            refine wpAnyF_take (i := 21) (v := undef) rfl (by kernel_rfl) (by kernel_rfl) (by kernel_rfl) (by kernel_rfl) (fun _ _ _ h => h) (Or.inr ⟨by kernel_rfl, rfl⟩) R0 ?_; try simp only [Act.put, List.getElem_toArray, List.getElem_cons_succ, List.getElem_cons_zero, List.setIfInBounds_toArray, List.set_cons_zero, List.set_cons_succ]
            refine wpAnyF_take (i := 22) (v := undef) rfl (by kernel_rfl) (by kernel_rfl) (by kernel_rfl) (by kernel_rfl) (fun _ _ _ h => h) (Or.inr ⟨by kernel_rfl, rfl⟩) R0 ?_; try simp only [Act.put, List.getElem_toArray, List.getElem_cons_succ, List.getElem_cons_zero, List.setIfInBounds_toArray, List.set_cons_zero, List.set_cons_succ]
            refine wpAnyF_take (i := 23) (v := undef) rfl (by kernel_rfl) (by kernel_rfl) (by kernel_rfl) (by kernel_rfl) (fun _ _ _ h => h) (Or.inr ⟨by kernel_rfl, rfl⟩) R0 ?_; try simp only [Act.put, List.getElem_toArray, List.getElem_cons_succ, List.getElem_cons_zero, List.setIfInBounds_toArray, List.set_cons_zero, List.set_cons_succ]
            refine wpAnyF_take (i := 24) (v := undef) rfl (by kernel_rfl) (by kernel_rfl) (by kernel_rfl) (by kernel_rfl) (fun _ _ _ h => h) (Or.inr ⟨by kernel_rfl, rfl⟩) R0 ?_; try simp only [Act.put, List.getElem_toArray, List.getElem_cons_succ, List.getElem_cons_zero, List.setIfInBounds_toArray, List.set_cons_zero, List.set_cons_succ]
            refine wpAnyF_take (i := 25) (v := undef) rfl (by kernel_rfl) (by kernel_rfl) (by kernel_rfl) (by kernel_rfl) (fun _ _ _ h => h) (Or.inr ⟨by kernel_rfl, rfl⟩) R0 ?_; try simp only [Act.put, List.getElem_toArray, List.getElem_cons_succ, List.getElem_cons_zero, List.setIfInBounds_toArray, List.set_cons_zero, List.set_cons_succ]
            refine wpAnyF_take (i := 26) (v := .bool false) rfl (by kernel_rfl) (by kernel_rfl) (by kernel_rfl) (by kernel_rfl) (fun _ _ _ h => h) (Or.inl ⟨by kernel_rfl, fun w hSw => by (try dsimp only at hSw); go_simp⟩) R0 ?_; try simp only [Act.put, List.getElem_toArray, List.getElem_cons_succ, List.getElem_cons_zero, List.setIfInBounds_toArray, List.set_cons_zero, List.set_cons_succ]
            refine wpAnyF_done (by kernel_rfl) ?_ _
            clear R0
            go_wp2
            go_roundg (gk - 1)
            case measure => have := hk'h.out; have := hlt2'h.out; omega
            case rel => exact ⟨k + 1, by have := hk'h.out; have := hlt2'h.out; omega, by go_num, out, hBd'h.out, by have := hol2'h.out; omega, hrowd'h.out, htot3'h.out⟩
          · have c0 : (i : Int) < (k : Int) := by omega
            have c1 : decide ((i : Int) < (k : Int)) = true := decide_eq_true c0
            have c2 : decide (i < k) = true := decide_eq_true hik
            have hst : freeRow l i (n - (i + 1) - (k - (i + 1))) (k - (i + 1)) = (if freeB (nthM l i).md (nthM l k).md then [(i, k)] else []) ++ freeRow l i (n - (i + 1) - (k + 1 - (i + 1))) (k + 1 - (i + 1)) := by
              have h := freeRow_step (l := l) (n := n) (i := i) (k := k - (i + 1)) (by omega)
              rw [show i + 1 + (k - (i + 1)) = k by omega] at h
              rw [show k + 1 - (i + 1) = k - (i + 1) + 1 by omega]
              exact h
            rw [hst] at htot2
            clear hst
            have hS := h'h.out.below hB
            have hil2 := hil'h.out
            have hkl : k < l.length := by have := hlen'h.out; omega
            obtain ⟨x, hx0⟩ : ∃ x, x = nthM l i := ⟨_, rfl⟩
            obtain ⟨y, hy0⟩ : ∃ y, y = nthM l k := ⟨_, rfl⟩
            have hcl := fun (j : Nat) (v : Value) (hi : j < 13) (hv : (mmL x)[j]? = some v) => hS.cells hil2 (i := j) (v := v) hi (by rw [← hx0]; exact hv)
            have hcm := fun (j : Nat) (v : Value) (hi : j < 13) (hv : (mmL y)[j]? = some v) => hS.cells hkl (i := j) (v := v) hi (by rw [← hy0]; exact hv)
            have AX := fun W => dahead_any x y W
            have AY := fun W => dahead_any y x W
            rw [← hx0, ← hy0] at htot2
            obtain ⟨p, hp⟩ : ∃ p, p = aheadM x.md y.md := ⟨_, rfl⟩
            obtain ⟨p2, hp2⟩ : ∃ p2, p2 = aheadM y.md x.md := ⟨_, rfl⟩
            have hfb : freeB x.md y.md = (!p && !p2) := by rw [hp, hp2]; rfl
            rw [hfb] at htot2
            rw [← hp] at AX
            rw [← hp2] at AY
            clear hfb hp hp2 hx0 hy0 hS
            obtain ⟨⟨goerx, ⟨opx, kyx, cax, cbx⟩, ⟨errx, valx, donex⟩, prsx, beganx, atx, overx, toldx⟩, ppx, pnx, pcx, tpx, tnx, tcx⟩ := x
            have e0 := hcl 0 _ (by omega) rfl
            have e1 := hcl 1 _ (by omega) rfl
            have e2 := hcl 2 _ (by omega) rfl
            have e3 := hcl 3 _ (by omega) rfl
            have e4 := hcl 4 _ (by omega) rfl
            have e5 := hcl 5 _ (by omega) rfl
            have e6 := hcl 6 _ (by omega) rfl
            have e7 := hcl 7 _ (by omega) rfl
            have e8 := hcl 8 _ (by omega) rfl
            have e9 := hcl 9 _ (by omega) rfl
            have ea := hcl 10 _ (by omega) rfl
            have eb := hcl 11 _ (by omega) rfl
            have ec := hcl 12 _ (by omega) rfl
            simp only [Nat.add_zero] at e0
            have Cx : ∀ W : World, Below wr.heap.size wr W → W.cell? ⟨b, off + i * 13, none⟩ = some (.int .i64 goerx) ∧ W.cell? ⟨b, off + i * 13 + 1, none⟩ = some (.int .i64 opx) ∧ W.cell? ⟨b, off + i * 13 + 2, none⟩ = some (.int .u64 (kyx : Int)) ∧ W.cell? ⟨b, off + i * 13 + 3, none⟩ = some (.int .u64 (cax : Int)) ∧ W.cell? ⟨b, off + i * 13 + 4, none⟩ = some (.int .u64 (cbx : Int)) ∧ W.cell? ⟨b, off + i * 13 + 5, none⟩ = some (.int .i64 errx) ∧ W.cell? ⟨b, off + i * 13 + 6, none⟩ = some (.int .u64 (valx : Int)) ∧ W.cell? ⟨b, off + i * 13 + 7, none⟩ = some (.bool donex) ∧ W.cell? ⟨b, off + i * 13 + 8, none⟩ = some (.slice ppx pnx pcx) ∧ W.cell? ⟨b, off + i * 13 + 9, none⟩ = some (.int .i64 beganx) ∧ W.cell? ⟨b, off + i * 13 + 10, none⟩ = some (.int .i64 atx) ∧ W.cell? ⟨b, off + i * 13 + 11, none⟩ = some (.int .i64 overx) ∧ W.cell? ⟨b, off + i * 13 + 12, none⟩ = some (.slice tpx tnx tcx) :=
              fun W hW => ⟨(hW.cell (lt_of_cell e0)).trans e0, (hW.cell (lt_of_cell e1)).trans e1, (hW.cell (lt_of_cell e2)).trans e2, (hW.cell (lt_of_cell e3)).trans e3, (hW.cell (lt_of_cell e4)).trans e4, (hW.cell (lt_of_cell e5)).trans e5, (hW.cell (lt_of_cell e6)).trans e6, (hW.cell (lt_of_cell e7)).trans e7, (hW.cell (lt_of_cell e8)).trans e8, (hW.cell (lt_of_cell e9)).trans e9, (hW.cell (lt_of_cell ea)).trans ea, (hW.cell (lt_of_cell eb)).trans eb, (hW.cell (lt_of_cell ec)).trans ec⟩
            clear e0 e1 e2 e3 e4 e5 e6 e7 e8 e9 ea eb ec
            obtain ⟨⟨goery, ⟨opy, kyy, cay, cby⟩, ⟨erry, valy, doney⟩, prsy, begany, aty, overy, toldy⟩, ppy, pny, pcy, tpy, tny, tcy⟩ := y
            have e0 := hcm 0 _ (by omega) rfl
            have e1 := hcm 1 _ (by omega) rfl
            have e2 := hcm 2 _ (by omega) rfl
            have e3 := hcm 3 _ (by omega) rfl
            have e4 := hcm 4 _ (by omega) rfl
            have e5 := hcm 5 _ (by omega) rfl
            have e6 := hcm 6 _ (by omega) rfl
            have e7 := hcm 7 _ (by omega) rfl
            have e8 := hcm 8 _ (by omega) rfl
            have e9 := hcm 9 _ (by omega) rfl
            have ea := hcm 10 _ (by omega) rfl
            have eb := hcm 11 _ (by omega) rfl
            have ec := hcm 12 _ (by omega) rfl
            simp only [Nat.add_zero] at e0
            have Cy : ∀ W : World, Below wr.heap.size wr W → W.cell? ⟨b, off + k * 13, none⟩ = some (.int .i64 goery) ∧ W.cell? ⟨b, off + k * 13 + 1, none⟩ = some (.int .i64 opy) ∧ W.cell? ⟨b, off + k * 13 + 2, none⟩ = some (.int .u64 (kyy : Int)) ∧ W.cell? ⟨b, off + k * 13 + 3, none⟩ = some (.int .u64 (cay : Int)) ∧ W.cell? ⟨b, off + k * 13 + 4, none⟩ = some (.int .u64 (cby : Int)) ∧ W.cell? ⟨b, off + k * 13 + 5, none⟩ = some (.int .i64 erry) ∧ W.cell? ⟨b, off + k * 13 + 6, none⟩ = some (.int .u64 (valy : Int)) ∧ W.cell? ⟨b, off + k * 13 + 7, none⟩ = some (.bool doney) ∧ W.cell? ⟨b, off + k * 13 + 8, none⟩ = some (.slice ppy pny pcy) ∧ W.cell? ⟨b, off + k * 13 + 9, none⟩ = some (.int .i64 begany) ∧ W.cell? ⟨b, off + k * 13 + 10, none⟩ = some (.int .i64 aty) ∧ W.cell? ⟨b, off + k * 13 + 11, none⟩ = some (.int .i64 overy) ∧ W.cell? ⟨b, off + k * 13 + 12, none⟩ = some (.slice tpy tny tcy) :=
              fun W hW => ⟨(hW.cell (lt_of_cell e0)).trans e0, (hW.cell (lt_of_cell e1)).trans e1, (hW.cell (lt_of_cell e2)).trans e2, (hW.cell (lt_of_cell e3)).trans e3, (hW.cell (lt_of_cell e4)).trans e4, (hW.cell (lt_of_cell e5)).trans e5, (hW.cell (lt_of_cell e6)).trans e6, (hW.cell (lt_of_cell e7)).trans e7, (hW.cell (lt_of_cell e8)).trans e8, (hW.cell (lt_of_cell e9)).trans e9, (hW.cell (lt_of_cell ea)).trans ea, (hW.cell (lt_of_cell eb)).trans eb, (hW.cell (lt_of_cell ec)).trans ec⟩
            clear e0 e1 e2 e3 e4 e5 e6 e7 e8 e9 ea eb ec
            simp only [mmA] at *
            clear hcl hcm
            have hk'h := Lib.hid hk
            have hlt2'h := Lib.hid hlt2
            have hB'h := Lib.hid hB
            have hol2'h := Lib.hid hol2
            have hrow'h := Lib.hid hrow
            have htot2'h := Lib.hid htot2
            have AX'h := Lib.hid AX
            have AY'h := Lib.hid AY
            have Cx'h := Lib.hid Cx
            have Cy'h := Lib.hid Cy
            have hil2'h := Lib.hid hil2
            have hkl'h := Lib.hid hkl
            have hik'h := Lib.hid hik
            clear hk hlt2 hB hol2 hrow htot2 AX AY Cx Cy hil2 hkl hik
            go_upto_region 8 with fail
            refine wp_region_heldF (fun w' => Below wr.heap.size wr w') 99 (by kernel_rfl) ?_
            have R0 : Below wr.heap.size wr wr.drew := Below.drew (Below.refl _ _)
            refine wpAnyF_take (i := 0) (v := .int .i64 (i : Int)) rfl (by kernel_rfl) (by kernel_rfl) (by kernel_rfl) (by kernel_rfl) (fun _ _ _ h => h) (Or.inl ⟨by kernel_rfl, fun w hSw => by (try dsimp only at hSw); go_simp⟩) R0 ?_; try simp only [Act.put, List.getElem_toArray, List.getElem_cons_succ, List.getElem_cons_zero, List.setIfInBounds_toArray, List.set_cons_zero, List.set_cons_succ]
            refine wpAnyF_take (i := 1) (v := .int .i64 (k : Int)) rfl (by kernel_rfl) (by kernel_rfl) (by kernel_rfl) (by kernel_rfl) (fun _ _ _ h => h) (Or.inl ⟨by kernel_rfl, fun w hSw => by (try dsimp only at hSw); go_simp⟩) R0 ?_; try simp only [Act.put, List.getElem_toArray, List.getElem_cons_succ, List.getElem_cons_zero, List.setIfInBounds_toArray, List.set_cons_zero, List.set_cons_succ]
            refine wpAnyF_take (i := 2) (v := .bool true) rfl (by kernel_rfl) (by kernel_rfl) (by kernel_rfl) (by kernel_rfl) (fun _ _ _ h => h) (Or.inl ⟨by kernel_rfl, fun w hSw => by (try dsimp only at hSw); go_simp⟩) R0 ?_; try simp only [Act.put, List.getElem_toArray, List.getElem_cons_succ, List.getElem_cons_zero, List.setIfInBounds_toArray, List.set_cons_zero, List.set_cons_succ]
            refine wpAnyF_take (i := 3) (v := .bool true) rfl (by kernel_rfl) (by kernel_rfl) (by kernel_rfl) (by kernel_rfl) (fun _ _ _ h => h) (Or.inl ⟨by kernel_rfl, fun w hSw => by (try dsimp only at hSw); go_simp⟩) R0 ?_; try simp only [Act.put, List.getElem_toArray, List.getElem_cons_succ, List.getElem_cons_zero, List.setIfInBounds_toArray, List.set_cons_zero, List.set_cons_succ]
            refine wpAnyF_take (i := 4) (v := .slice (some ⟨b, off, none⟩) n cap) rfl (by kernel_rfl) (by kernel_rfl) (by kernel_rfl) (by kernel_rfl) (fun _ _ _ h => h) (Or.inl ⟨by kernel_rfl, fun w hSw => by (try dsimp only at hSw); go_simp⟩) R0 ?_; try simp only [Act.put, List.getElem_toArray, List.getElem_cons_succ, List.getElem_cons_zero, List.setIfInBounds_toArray, List.set_cons_zero, List.set_cons_succ]
            refine wpAnyF_take (i := 5) (v := .int .i64 (i : Int)) rfl (by kernel_rfl) (by kernel_rfl) (by kernel_rfl) (by kernel_rfl) (fun _ _ _ h => h) (Or.inl ⟨by kernel_rfl, fun w hSw => by (try dsimp only at hSw); go_simp⟩) R0 ?_; try simp only [Act.put, List.getElem_toArray, List.getElem_cons_succ, List.getElem_cons_zero, List.setIfInBounds_toArray, List.set_cons_zero, List.set_cons_succ]
            refine wpAnyF_take (i := 6) (v := .pointer (some ⟨b, off + i * 13, none⟩)) rfl (by kernel_rfl) (by kernel_rfl) (by kernel_rfl) (by kernel_rfl) (fun _ _ _ h => h) (Or.inl ⟨by kernel_rfl, fun w hSw => by (try dsimp only at hSw); go_simp⟩) R0 ?_; try simp only [Act.put, List.getElem_toArray, List.getElem_cons_succ, List.getElem_cons_zero, List.setIfInBounds_toArray, List.set_cons_zero, List.set_cons_succ]
            refine wpAnyF_take (i := 7) (v := .agg #[.int .i64 goerx, .int .i64 opx, .int .u64 (kyx : Int), .int .u64 (cax : Int), .int .u64 (cbx : Int), .int .i64 errx, .int .u64 (valx : Int), .bool donex, .slice ppx pnx pcx, .int .i64 beganx, .int .i64 atx, .int .i64 overx, .slice tpx tnx tcx]) rfl (by kernel_rfl) (by kernel_rfl) (by kernel_rfl) (by kernel_rfl) (fun _ _ _ h => h) (Or.inl ⟨by kernel_rfl, fun w hSw => by obtain ⟨q0, q1, q2, q3, q4, q5, q6, q7, q8, q9, qa, qb, qc⟩ := Cx'h.out w hSw; clear hSw; go_simp⟩) R0 ?_; try simp only [Act.put, List.getElem_toArray, List.getElem_cons_succ, List.getElem_cons_zero, List.setIfInBounds_toArray, List.set_cons_zero, List.set_cons_succ]
            refine wpAnyF_take (i := 8) (v := .slice (some ⟨b, off, none⟩) n cap) rfl (by kernel_rfl) (by kernel_rfl) (by kernel_rfl) (by kernel_rfl) (fun _ _ _ h => h) (Or.inl ⟨by kernel_rfl, fun w hSw => by (try dsimp only at hSw); go_simp⟩) R0 ?_; try simp only [Act.put, List.getElem_toArray, List.getElem_cons_succ, List.getElem_cons_zero, List.setIfInBounds_toArray, List.set_cons_zero, List.set_cons_succ]
            refine wpAnyF_take (i := 9) (v := .int .i64 (k : Int)) rfl (by kernel_rfl) (by kernel_rfl) (by kernel_rfl) (by kernel_rfl) (fun _ _ _ h => h) (Or.inl ⟨by kernel_rfl, fun w hSw => by (try dsimp only at hSw); go_simp⟩) R0 ?_; try simp only [Act.put, List.getElem_toArray, List.getElem_cons_succ, List.getElem_cons_zero, List.setIfInBounds_toArray, List.set_cons_zero, List.set_cons_succ]
            refine wpAnyF_take (i := 10) (v := .pointer (some ⟨b, off + k * 13, none⟩)) rfl (by kernel_rfl) (by kernel_rfl) (by kernel_rfl) (by kernel_rfl) (fun _ _ _ h => h) (Or.inl ⟨by kernel_rfl, fun w hSw => by (try dsimp only at hSw); go_simp⟩) R0 ?_; try simp only [Act.put, List.getElem_toArray, List.getElem_cons_succ, List.getElem_cons_zero, List.setIfInBounds_toArray, List.set_cons_zero, List.set_cons_succ]
            refine wpAnyF_take (i := 11) (v := .agg #[.int .i64 goery, .int .i64 opy, .int .u64 (kyy : Int), .int .u64 (cay : Int), .int .u64 (cby : Int), .int .i64 erry, .int .u64 (valy : Int), .bool doney, .slice ppy pny pcy, .int .i64 begany, .int .i64 aty, .int .i64 overy, .slice tpy tny tcy]) rfl (by kernel_rfl) (by kernel_rfl) (by kernel_rfl) (by kernel_rfl) (fun _ _ _ h => h) (Or.inl ⟨by kernel_rfl, fun w hSw => by obtain ⟨q0, q1, q2, q3, q4, q5, q6, q7, q8, q9, qa, qb, qc⟩ := Cy'h.out w hSw; clear hSw; go_simp⟩) R0 ?_; try simp only [Act.put, List.getElem_toArray, List.getElem_cons_succ, List.getElem_cons_zero, List.setIfInBounds_toArray, List.set_cons_zero, List.set_cons_succ]
            refine wpAnyF_one (i := 12) (by kernel_rfl) rfl (fun K hK => ?_); go_simp
            refine (AX'h.out _).mono ?_
            rintro e w7 ⟨rfl, hb7⟩
            have R1 := below_next R0 hb7
            clear hb7 R0
            refine hK.out _ _ (fun _ => R1) ?_; clear hK K; try simp only [Act.put, List.getElem_toArray, List.getElem_cons_succ, List.getElem_cons_zero, List.setIfInBounds_toArray, List.set_cons_zero, List.set_cons_succ]
            cases p with
            | true =>
              have htot3 : (out ++ freeRow l i (n - (i + 1) - (k + 1 - (i + 1))) (k + 1 - (i + 1))) ++ freeFrom l (n - (i + 1)) (i + 1) = freeFrom l n 0 := by have h := htot2'h.out; simpa using h
              have htot3'h := Lib.hid htot3
              clear htot3
              refine wpAnyF_take (i := 13) (v := .bool false) rfl (by kernel_rfl) (by kernel_rfl) (by kernel_rfl) (by kernel_rfl) (fun _ _ _ h => h) (Or.inl ⟨by kernel_rfl, fun w hSw => by (try dsimp only at hSw); go_simp⟩) R1 ?_; try simp only [Act.put, List.getElem_toArray, List.getElem_cons_succ, List.getElem_cons_zero, List.setIfInBounds_toArray, List.set_cons_zero, List.set_cons_succ]
              refine wpAnyF_take (i := 14) (v := .bool false) rfl (by kernel_rfl) (by kernel_rfl) (by kernel_rfl) (by kernel_rfl) (fun _ _ _ h => h) (Or.inl ⟨by kernel_rfl, fun w hSw => by (try dsimp only at hSw); go_simp⟩) R1 ?_; try simp only [Act.put, List.getElem_toArray, List.getElem_cons_succ, List.getElem_cons_zero, List.setIfInBounds_toArray, List.set_cons_zero, List.set_cons_succ]
              refine wpAnyF_take (i := 15) (v := .bool false) rfl (by kernel_rfl) (by kernel_rfl) (by kernel_rfl) (by kernel_rfl) (fun _ _ _ h => h) (Or.inl ⟨by kernel_rfl, fun w hSw => by (try dsimp only at hSw); go_simp⟩) R1 ?_; try simp only [Act.put, List.getElem_toArray, List.getElem_cons_succ, List.getElem_cons_zero, List.setIfInBounds_toArray, List.set_cons_zero, List.set_cons_succ]
              refine wpAnyF_take (i := 16) (v := undef) rfl (by kernel_rfl) (by kernel_rfl) (by kernel_rfl) (by kernel_rfl) (fun _ _ _ h => h) (Or.inr ⟨by kernel_rfl, rfl⟩) R1 ?_; try simp only [Act.put, List.getElem_toArray, List.getElem_cons_succ, List.getElem_cons_zero, List.setIfInBounds_toArray, List.set_cons_zero, List.set_cons_succ]
              refine wpAnyF_take (i := 17) (v := undef) rfl (by kernel_rfl) (by kernel_rfl) (by kernel_rfl) (by kernel_rfl) (fun _ _ _ h => h) (Or.inr ⟨by kernel_rfl, rfl⟩) R1 ?_; try simp only [Act.put, List.getElem_toArray, List.getElem_cons_succ, List.getElem_cons_zero, List.setIfInBounds_toArray, List.set_cons_zero, List.set_cons_succ]
              refine wpAnyF_take (i := 18) (v := undef) rfl (by kernel_rfl) (by kernel_rfl) (by kernel_rfl) (by kernel_rfl) (fun _ _ _ h => h) (Or.inr ⟨by kernel_rfl, rfl⟩) R1 ?_; try simp only [Act.put, List.getElem_toArray, List.getElem_cons_succ, List.getElem_cons_zero, List.setIfInBounds_toArray, List.set_cons_zero, List.set_cons_succ]
              refine wpAnyF_take (i := 19) (v := undef) rfl (by kernel_rfl) (by kernel_rfl) (by kernel_rfl) (by kernel_rfl) (fun _ _ _ h => h) (Or.inr ⟨by kernel_rfl, rfl⟩) R1 ?_; try simp only [Act.put, List.getElem_toArray, List.getElem_cons_succ, List.getElem_cons_zero, List.setIfInBounds_toArray, List.set_cons_zero, List.set_cons_succ]
              refine wpAnyF_take (i := 20) (v := undef) rfl (by kernel_rfl) (by kernel_rfl) (by kernel_rfl) (by kernel_rfl) (fun _ _ _ h => h) (Or.inr ⟨by kernel_rfl, rfl⟩) R1 ?_; try simp only [Act.put, List.getElem_toArray, List.getElem_cons_succ, List.getElem_cons_zero, List.setIfInBounds_toArray, List.set_cons_zero, List.set_cons_succ]
              refine wpAnyF_take (i := 21) (v := undef) rfl (by kernel_rfl) (by kernel_rfl) (by kernel_rfl) (by kernel_rfl) (fun _ _ _ h => h) (Or.inr ⟨by kernel_rfl, rfl⟩) R1 ?_; try simp only [Act.put, List.getElem_toArray, List.getElem_cons_succ, List.getElem_cons_zero, List.setIfInBounds_toArray, List.set_cons_zero, List.set_cons_succ]
              refine wpAnyF_take (i := 22) (v := undef) rfl (by kernel_rfl) (by kernel_rfl) (by kernel_rfl) (by kernel_rfl) (fun _ _ _ h => h) (Or.inr ⟨by kernel_rfl, rfl⟩) R1 ?_; try simp only [Act.put, List.getElem_toArray, List.getElem_cons_succ, List.getElem_cons_zero, List.setIfInBounds_toArray, List.set_cons_zero, List.set_cons_succ]
              refine wpAnyF_take (i := 23) (v := undef) rfl (by kernel_rfl) (by kernel_rfl) (by kernel_rfl) (by kernel_rfl) (fun _ _ _ h => h) (Or.inr ⟨by kernel_rfl, rfl⟩) R1 ?_; try simp only [Act.put, List.getElem_toArray, List.getElem_cons_succ, List.getElem_cons_zero, List.setIfInBounds_toArray, List.set_cons_zero, List.set_cons_succ]
              refine wpAnyF_take (i := 24) (v := undef) rfl (by kernel_rfl) (by kernel_rfl) (by kernel_rfl) (by kernel_rfl) (fun _ _ _ h => h) (Or.inr ⟨by kernel_rfl, rfl⟩) R1 ?_; try simp only [Act.put, List.getElem_toArray, List.getElem_cons_succ, List.getElem_cons_zero, List.setIfInBounds_toArray, List.set_cons_zero, List.set_cons_succ]
              refine wpAnyF_take (i := 25) (v := undef) rfl (by kernel_rfl) (by kernel_rfl) (by kernel_rfl) (by kernel_rfl) (fun _ _ _ h => h) (Or.inr ⟨by kernel_rfl, rfl⟩) R1 ?_; try simp only [Act.put, List.getElem_toArray, List.getElem_cons_succ, List.getElem_cons_zero, List.setIfInBounds_toArray, List.set_cons_zero, List.set_cons_succ]
              refine wpAnyF_take (i := 26) (v := .bool false) rfl (by kernel_rfl) (by kernel_rfl) (by kernel_rfl) (by kernel_rfl) (fun _ _ _ h => h) (Or.inl ⟨by kernel_rfl, fun w hSw => by (try dsimp only at hSw); go_simp⟩) R1 ?_; try simp only [Act.put, List.getElem_toArray, List.getElem_cons_succ, List.getElem_cons_zero, List.setIfInBounds_toArray, List.set_cons_zero, List.set_cons_succ]
              refine wpAnyF_done (by kernel_rfl) ?_ _
              have hB7 := below_next hB'h.out R1
              have hrow7 := ownsRow_next hrow'h.out R1
              clear R1
              have hB7'h := Lib.hid hB7
              have hrow7'h := Lib.hid hrow7
              clear hB7 hrow7
              go_wp2
              go_roundg (gk - 1)
              case measure => have := hk'h.out; have := hlt2'h.out; omega
              case rel => exact ⟨k + 1, by have := hk'h.out; have := hlt2'h.out; omega, by go_num, out, hB7'h.out, by have := hol2'h.out; omega, hrow7'h.out, htot3'h.out⟩
            | false =>
              refine wpAnyF_take (i := 13) (v := .bool true) rfl (by kernel_rfl) (by kernel_rfl) (by kernel_rfl) (by kernel_rfl) (fun _ _ _ h => h) (Or.inl ⟨by kernel_rfl, fun w hSw => by (try dsimp only at hSw); go_simp⟩) R1 ?_; try simp only [Act.put, List.getElem_toArray, List.getElem_cons_succ, List.getElem_cons_zero, List.setIfInBounds_toArray, List.set_cons_zero, List.set_cons_succ]
              refine wpAnyF_take (i := 14) (v := .bool true) rfl (by kernel_rfl) (by kernel_rfl) (by kernel_rfl) (by kernel_rfl) (fun _ _ _ h => h) (Or.inl ⟨by kernel_rfl, fun w hSw => by (try dsimp only at hSw); go_simp⟩) R1 ?_; try simp only [Act.put, List.getElem_toArray, List.getElem_cons_succ, List.getElem_cons_zero, List.setIfInBounds_toArray, List.set_cons_zero, List.set_cons_succ]
              refine wpAnyF_take (i := 15) (v := .bool true) rfl (by kernel_rfl) (by kernel_rfl) (by kernel_rfl) (by kernel_rfl) (fun _ _ _ h => h) (Or.inl ⟨by kernel_rfl, fun w hSw => by (try dsimp only at hSw); go_simp⟩) R1 ?_; try simp only [Act.put, List.getElem_toArray, List.getElem_cons_succ, List.getElem_cons_zero, List.setIfInBounds_toArray, List.set_cons_zero, List.set_cons_succ]
              refine wpAnyF_take (i := 16) (v := .slice (some ⟨b, off, none⟩) n cap) rfl (by kernel_rfl) (by kernel_rfl) (by kernel_rfl) (by kernel_rfl) (fun _ _ _ h => h) (Or.inl ⟨by kernel_rfl, fun w hSw => by (try dsimp only at hSw); go_simp⟩) R1 ?_; try simp only [Act.put, List.getElem_toArray, List.getElem_cons_succ, List.getElem_cons_zero, List.setIfInBounds_toArray, List.set_cons_zero, List.set_cons_succ]
              refine wpAnyF_take (i := 17) (v := .int .i64 (k : Int)) rfl (by kernel_rfl) (by kernel_rfl) (by kernel_rfl) (by kernel_rfl) (fun _ _ _ h => h) (Or.inl ⟨by kernel_rfl, fun w hSw => by (try dsimp only at hSw); go_simp⟩) R1 ?_; try simp only [Act.put, List.getElem_toArray, List.getElem_cons_succ, List.getElem_cons_zero, List.setIfInBounds_toArray, List.set_cons_zero, List.set_cons_succ]
              refine wpAnyF_take (i := 18) (v := .pointer (some ⟨b, off + k * 13, none⟩)) rfl (by kernel_rfl) (by kernel_rfl) (by kernel_rfl) (by kernel_rfl) (fun _ _ _ h => h) (Or.inl ⟨by kernel_rfl, fun w hSw => by (try dsimp only at hSw); go_simp⟩) R1 ?_; try simp only [Act.put, List.getElem_toArray, List.getElem_cons_succ, List.getElem_cons_zero, List.setIfInBounds_toArray, List.set_cons_zero, List.set_cons_succ]
              refine wpAnyF_take (i := 19) (v := .agg #[.int .i64 goery, .int .i64 opy, .int .u64 (kyy : Int), .int .u64 (cay : Int), .int .u64 (cby : Int), .int .i64 erry, .int .u64 (valy : Int), .bool doney, .slice ppy pny pcy, .int .i64 begany, .int .i64 aty, .int .i64 overy, .slice tpy tny tcy]) rfl (by kernel_rfl) (by kernel_rfl) (by kernel_rfl) (by kernel_rfl) (fun _ _ _ h => h) (Or.inl ⟨by kernel_rfl, fun w hSw => by obtain ⟨q0, q1, q2, q3, q4, q5, q6, q7, q8, q9, qa, qb, qc⟩ := Cy'h.out w hSw; clear hSw; go_simp⟩) R1 ?_; try simp only [Act.put, List.getElem_toArray, List.getElem_cons_succ, List.getElem_cons_zero, List.setIfInBounds_toArray, List.set_cons_zero, List.set_cons_succ]
              refine wpAnyF_take (i := 20) (v := .slice (some ⟨b, off, none⟩) n cap) rfl (by kernel_rfl) (by kernel_rfl) (by kernel_rfl) (by kernel_rfl) (fun _ _ _ h => h) (Or.inl ⟨by kernel_rfl, fun w hSw => by (try dsimp only at hSw); go_simp⟩) R1 ?_; try simp only [Act.put, List.getElem_toArray, List.getElem_cons_succ, List.getElem_cons_zero, List.setIfInBounds_toArray, List.set_cons_zero, List.set_cons_succ]
              refine wpAnyF_take (i := 21) (v := .int .i64 (i : Int)) rfl (by kernel_rfl) (by kernel_rfl) (by kernel_rfl) (by kernel_rfl) (fun _ _ _ h => h) (Or.inl ⟨by kernel_rfl, fun w hSw => by (try dsimp only at hSw); go_simp⟩) R1 ?_; try simp only [Act.put, List.getElem_toArray, List.getElem_cons_succ, List.getElem_cons_zero, List.setIfInBounds_toArray, List.set_cons_zero, List.set_cons_succ]
              refine wpAnyF_take (i := 22) (v := .pointer (some ⟨b, off + i * 13, none⟩)) rfl (by kernel_rfl) (by kernel_rfl) (by kernel_rfl) (by kernel_rfl) (fun _ _ _ h => h) (Or.inl ⟨by kernel_rfl, fun w hSw => by (try dsimp only at hSw); go_simp⟩) R1 ?_; try simp only [Act.put, List.getElem_toArray, List.getElem_cons_succ, List.getElem_cons_zero, List.setIfInBounds_toArray, List.set_cons_zero, List.set_cons_succ]
              refine wpAnyF_take (i := 23) (v := .agg #[.int .i64 goerx, .int .i64 opx, .int .u64 (kyx : Int), .int .u64 (cax : Int), .int .u64 (cbx : Int), .int .i64 errx, .int .u64 (valx : Int), .bool donex, .slice ppx pnx pcx, .int .i64 beganx, .int .i64 atx, .int .i64 overx, .slice tpx tnx tcx]) rfl (by kernel_rfl) (by kernel_rfl) (by kernel_rfl) (by kernel_rfl) (fun _ _ _ h => h) (Or.inl ⟨by kernel_rfl, fun w hSw => by obtain ⟨q0, q1, q2, q3, q4, q5, q6, q7, q8, q9, qa, qb, qc⟩ := Cx'h.out w hSw; clear hSw; go_simp⟩) R1 ?_; try simp only [Act.put, List.getElem_toArray, List.getElem_cons_succ, List.getElem_cons_zero, List.setIfInBounds_toArray, List.set_cons_zero, List.set_cons_succ]
              refine wpAnyF_one (i := 24) (by kernel_rfl) rfl (fun K hK => ?_); go_simp
              refine (AY'h.out _).mono ?_
              rintro e w8 ⟨rfl, hb8⟩
              have R2 := below_next R1 hb8
              clear hb8 R1
              refine hK.out _ _ (fun _ => R2) ?_; clear hK K; try simp only [Act.put, List.getElem_toArray, List.getElem_cons_succ, List.getElem_cons_zero, List.setIfInBounds_toArray, List.set_cons_zero, List.set_cons_succ]
              cases p2 with
              | true =>
                have htot3 : (out ++ freeRow l i (n - (i + 1) - (k + 1 - (i + 1))) (k + 1 - (i + 1))) ++ freeFrom l (n - (i + 1)) (i + 1) = freeFrom l n 0 := by have h := htot2'h.out; simpa using h
                have htot3'h := Lib.hid htot3
                clear htot3
                refine wpAnyF_take (i := 25) (v := .bool false) rfl (by kernel_rfl) (by kernel_rfl) (by kernel_rfl) (by kernel_rfl) (fun _ _ _ h => h) (Or.inl ⟨by kernel_rfl, fun w hSw => by (try dsimp only at hSw); go_simp⟩) R2 ?_; try simp only [Act.put, List.getElem_toArray, List.getElem_cons_succ, List.getElem_cons_zero, List.setIfInBounds_toArray, List.set_cons_zero, List.set_cons_succ]
                refine wpAnyF_take (i := 26) (v := .bool false) rfl (by kernel_rfl) (by kernel_rfl) (by kernel_rfl) (by kernel_rfl) (fun _ _ _ h => h) (Or.inl ⟨by kernel_rfl, fun w hSw => by (try dsimp only at hSw); go_simp⟩) R2 ?_; try simp only [Act.put, List.getElem_toArray, List.getElem_cons_succ, List.getElem_cons_zero, List.setIfInBounds_toArray, List.set_cons_zero, List.set_cons_succ]
                refine wpAnyF_done (by kernel_rfl) ?_ _
                have hB8 := below_next hB'h.out R2
                have hrow8 := ownsRow_next hrow'h.out R2
                clear R2
                have hB8'h := Lib.hid hB8
                have hrow8'h := Lib.hid hrow8
                clear hB8 hrow8
                go_wp2
                go_roundg (gk - 1)
                case measure => have := hk'h.out; have := hlt2'h.out; omega
                case rel => exact ⟨k + 1, by have := hk'h.out; have := hlt2'h.out; omega, by go_num, out, hB8'h.out, by have := hol2'h.out; omega, hrow8'h.out, htot3'h.out⟩
              | false =>
                have htot3 : ((out ++ [(i, k)]) ++ freeRow l i (n - (i + 1) - (k + 1 - (i + 1))) (k + 1 - (i + 1))) ++ freeFrom l (n - (i + 1)) (i + 1) = freeFrom l n 0 := by have h := htot2'h.out; simpa [List.append_assoc] using h
                have hout : out.length ≤ 9000 := by have := hol2'h.out; have := h80'h.out; have := hlt2'h.out; have := Nat.mul_le_mul_right 80 (Nat.le_of_lt hlt'h.out); omega
                have htot3'h := Lib.hid htot3
                have hout'h := Lib.hid hout
                clear htot3 hout
                refine wpAnyF_take (i := 25) (v := .bool true) rfl (by kernel_rfl) (by kernel_rfl) (by kernel_rfl) (by kernel_rfl) (fun _ _ _ h => h) (Or.inl ⟨by kernel_rfl, fun w hSw => by (try dsimp only at hSw); go_simp⟩) R2 ?_; try simp only [Act.put, List.getElem_toArray, List.getElem_cons_succ, List.getElem_cons_zero, List.setIfInBounds_toArray, List.set_cons_zero, List.set_cons_succ]
                refine wpAnyF_take (i := 26) (v := .bool true) rfl (by kernel_rfl) (by kernel_rfl) (by kernel_rfl) (by kernel_rfl) (fun _ _ _ h => h) (Or.inl ⟨by kernel_rfl, fun w hSw => by (try dsimp only at hSw); go_simp⟩) R2 ?_; try simp only [Act.put, List.getElem_toArray, List.getElem_cons_succ, List.getElem_cons_zero, List.setIfInBounds_toArray, List.set_cons_zero, List.set_cons_succ]
                refine wpAnyF_done (by kernel_rfl) ?_ _
                have hB8 := below_next hB'h.out R2
                have hrow8 := ownsRow_next hrow'h.out R2
                clear R2
                have hB8'h := Lib.hid hB8
                have hrow8'h := Lib.hid hrow8
                clear hB8 hrow8
                have hz8 : w.heap.size ≤ w8.heap.size := hB8'h.out.size
                have hone : ∀ u ∈ ([.int .i64 (i : Int), .int .i64 (k : Int)] : List Value), u.oneCell' = true := by
                  intro u hu
                  simp at hu
                  rcases hu with rfl | rfl <;> rfl
                have hone'h := Lib.hid hone
                clear hone
                go_wp2_with (at_builtin; refine wpList_append_slk _ rfl (.tmp 43) (.tmp 47) 44 rfl w.heap.size 53 i0 _ 2 16 Tryd.underlying44 hi hz0 hz1 hz2 rfl (by decide) _ out.length _ rfl (ownsRow_next hrow8'h.out ((Below.refl _ _).alloc (Nat.le_refl _) _)) (some ⟨w8.heap.size, 0, none⟩) 1 1 _ rfl (SlK.of_blk (k := 2) (n := 1) (World.alloc_heap_new w8 (.cells #[.int .i64 (i : Int), .int .i64 (k : Int)] 53)) rfl (by decide)) hone'h.out (by have := hout'h.out; unfold maxLen; omega) (by have := hout'h.out; omega) (by rw [World.size_alloc]; omega) ?_; intro v9 w9 hown9 hgrow9 hat9)
                go_roundg (gk - 1)
                case measure => have := hk'h.out; have := hlt2'h.out; omega
                case rel =>
                  refine ⟨k + 1, by have := hk'h.out; have := hlt2'h.out; omega, by go_num, out ++ [(i, k)], ?_, ?_, ?_, htot3'h.out⟩
                  · exact (hB8'h.out.alloc hB8'h.out.size _).grown hgrow9 (by rw [World.size_alloc]; omega) (fun j hj => (hrow8'h.out.lt j hj).1)
                  · rw [List.length_append]; have := hol2'h.out; simp; omega
                  · rw [List.length_append, pairsN_snoc]
                    exact hown9
        · have hkr : k = n := by omega
          have j1 : ¬ (k : Int) < (n : Int) := by omega
          have hB'h := Lib.hid hB
          have hol2'h := Lib.hid hol2
          have hrow'h := Lib.hid hrow
          have htot2'h := Lib.hid htot2
          have hkr'h := Lib.hid hkr
          clear hB hol2 hrow htot2 hkr
          clear hlt2
          go_wp2
          go_roundg (go - 1)
          case measure => have := hgo'h.out; have := hj'h.out; have := hlt'h.out; omega
          case rel =>
            refine ⟨i + 1, by have := hgo'h.out; have := hj'h.out; have := hlt'h.out; omega, by go_num, out, hB'h.out, ?_, hrow'h.out, ?_⟩
            · have := hol2'h.out; have := hkr'h.out; have := h80'h.out; omega
            · have h := htot2'h.out
              have := hkr'h.out
              rw [show n - (i + 1) - (k - (i + 1)) = 0 by omega] at h
              simpa [freeRow] using h
    · have hin : i = n := by omega
      have i3 : ¬ (i : Int) < (n : Int) := by omega
      have htot2 : out = freeFrom l n 0 := by
        rw [hin, Nat.sub_self] at htot
        simpa [freeFrom] using htot
      clear htot hin
      have hB'h := Lib.hid hB
      have hrow'h := Lib.hid hrow
      have htot2'h := Lib.hid htot2
      clear hB hrow htot2
      clear hj hol hlt
      go_wp2
      go_ret
      rw [← htot2'h.out]
      exact ⟨s3, c3, rfl, hB'h.out, hrow'h.out⟩
end Go.Proofs.YtogeohjeabbmaaaDoor

/-
  slices.Equal at rows of two numbers, where both read the same.
-/
set_option linter.unusedSimpArgs false
set_option linter.unusedVariables false
set_option maxRecDepth 100000
namespace Go.Proofs.YtogeohjeabbmaaaDoor
open Go.RowKit

theorem wf_small {x : Nat} (hx : x ≤ 5000) : (Lit.int .i64 (x : Int)).wf = true := by
  have h1 : IntKind.i64.min = -9223372036854775808 := rfl
  have h2 : IntKind.i64.max = 9223372036854775807 := rfl
  simp only [Lit.wf, h1, h2, Bool.and_eq_true, decide_eq_true_eq]
  omega
theorem key_small {d x : Nat} (hx : x ≤ 5000) : Tryd.prog.keyLits (d + 1) 3 [.int .i64 (x : Int)] = some [.int .i64 (x : Int)] := by
  have hw := wf_small hx
  simp [Program.keyLits, Tryd.underlying3, hw]
theorem key_two {d a b : Nat} (ha : a ≤ 5000) (hb : b ≤ 5000) : Tryd.prog.keyLits (d + 2) 53 [.int .i64 (a : Int), .int .i64 (b : Int)] = some [.int .i64 (a : Int), .int .i64 (b : Int)] := by
  have c8 : Tryd.prog.cellsOf 53 = 2 := by kernel_rfl
  have c1 : Tryd.prog.cellsOf 3 = 1 := by kernel_rfl
  rw [show d + 2 = (d + 1) + 1 from rfl]
  unfold Program.keyLits
  simp only [Tryd.underlying53, c8, c1, List.length_cons, List.length_nil, if_true]
  rw [show List.range 2 = [0, 1] from rfl]
  simp [List.mapM_cons, key_small ha, key_small hb]
theorem two_formed (a b : Int) : (Value.agg #[.int .i64 a, .int .i64 b]).formed Tryd.prog 53 = true := by kernel_rfl
theorem neq_two {a b : Nat} (ha : a ≤ 5000) (hb : b ≤ 5000) (w : World) : (binOp .neq 53 (.agg #[.int .i64 (a : Int), .int .i64 (b : Int)]) (.agg #[.int .i64 (a : Int), .int .i64 (b : Int)])).run Tryd.prog w = .ok (.bool false) w := by
  obtain ⟨r, hr, hiff⟩ := run_equalIn_deep (P := Tryd.prog) 9990 10 53 (by kernel_rfl) w 2 2 (.agg #[.int .i64 (a : Int), .int .i64 (b : Int)]) (.agg #[.int .i64 (a : Int), .int .i64 (b : Int)]) _ _ (two_formed _ _) (two_formed _ _) (key_two (d := 0) ha hb) (key_two (d := 0) ha hb)
  have e : r = true := hiff.2 rfl
  subst e
  have hr2 : (Op.equalIn 10000 53 (.agg #[.int .i64 (a : Int), .int .i64 (b : Int)]) (.agg #[.int .i64 (a : Int), .int .i64 (b : Int)])).run Tryd.prog w = .ok true w := hr
  rw [run_neq_struct, hr2]; rfl
def two2 (p : Nat × Nat) : List Value := [.int .i64 (p.1 : Int), .int .i64 (p.2 : Int)]
theorem two_cells {w : World} {b off n : Nat} {l : List (Nat × Nat)} (h : SlK w 2 (some ⟨b, off, none⟩) n (pairsN l)) {k : Nat} {p : Nat × Nat} (hk : l[k]? = some p) :
    w.cell? ⟨b, off + k * 2, none⟩ = some (.int .i64 (p.1 : Int)) ∧ w.cell? ⟨b, off + k * 2 + 1, none⟩ = some (.int .i64 (p.2 : Int)) :=
  ⟨slk_cell (f := two2) (k := 2) (fun _ => rfl) h hk (i := 0) (by decide) rfl, slk_cell (f := two2) (k := 2) (fun _ => rfl) h hk (i := 1) (by decide) rfl⟩
set_option maxHeartbeats 1000000 in
theorem equal2_self (sp sp' : Option Addr) (n cap cap' : Nat) (l : List (Nat × Nat)) (w : World) (h : SlK w 2 sp n (pairsN l)) (h' : SlK w 2 sp' n (pairsN l)) (hlen : l.length = n) (hs : ∀ p ∈ l, p.1 ≤ 5000 ∧ p.2 ≤ 5000) :
    Calls Tryd.prog 21 #[.slice sp n cap, .slice sp' n cap'] w fun e w' => e = .returned (.bool true) ∧ ∃ d, w' = w.drewN d := by
  have hmax := h.2.1
  unfold maxLen at hmax
  have hne : ((n : Int) != (n : Int)) = false := by simp
  have hlen'h := Lib.hid hlen
  have h'h := Lib.hid h
  have h''h := Lib.hid h'
  have hs'h := Lib.hid hs
  clear hlen h h' hs
  go_enter Tryd.func21, Tryd.ntmps21
  go_wp2
  go_loopg [13] n (fun q i wr => ∃ k : Nat, k + q = n ∧ i = .int .i64 k ∧ ∃ d, wr = w.drewN d)
  case atStart => exact ⟨0, by omega, rfl, 0, rfl⟩
  case round =>
    obtain ⟨k, hk, rfl, d, rfl⟩ := hrel
    have hkn : k ≤ n := by omega
    have hk'h := Lib.hid hk
    clear hk
    by_cases hlt : k < n
    · obtain ⟨b, off, rfl⟩ := slk_some h'h.out (by omega)
      obtain ⟨b', off', rfl⟩ := slk_some h''h.out (by omega)
      have hkl : k < l.length := by have := hlen'h.out; omega
      obtain ⟨p, hp⟩ : ∃ p, l[k]? = some p := ⟨_, List.getElem?_eq_getElem hkl⟩
      obtain ⟨s1, s2⟩ := hs'h.out p (List.mem_of_getElem? hp)
      obtain ⟨c1, c2⟩ := two_cells h'h.out hp
      obtain ⟨d1, d2⟩ := two_cells h''h.out hp
      obtain ⟨x, y⟩ := p
      simp only at *
      have c1' : ∀ q, (w.drewN q).cell? ⟨b, off + k * 2, none⟩ = some (.int .i64 (x : Int)) := fun q => c1
      have c2' : ∀ q, (w.drewN q).cell? ⟨b, off + k * 2 + 1, none⟩ = some (.int .i64 (y : Int)) := fun q => c2
      have d1' : ∀ q, (w.drewN q).cell? ⟨b', off' + k * 2, none⟩ = some (.int .i64 (x : Int)) := fun q => d1
      have d2' : ∀ q, (w.drewN q).cell? ⟨b', off' + k * 2 + 1, none⟩ = some (.int .i64 (y : Int)) := fun q => d2
      have i1 : (k : Int) < (n : Int) := by omega
      have i2 : (0 : Int) ≤ (k : Int) := by omega
      have hq := fun w => neq_two s1 s2 w
      clear c1 c2 d1 d2 hp hkl s1 s2
      go_wp2_with fail
      go_quiet (fail)
      go_wp2
      go_roundg (gk - 1)
      case measure => have := hk'h.out; omega
      case rel => exact ⟨k + 1, by have := hk'h.out; omega, by go_num, d + nq, rfl⟩
    · have hn : ¬ (k : Int) < (n : Int) := by omega
      go_wp2
      go_ret
      exact ⟨rfl, d, rfl⟩
end Go.Proofs.YtogeohjeabbmaaaDoor

/-
  The law of layer 27: two made calls that read the same are the same.
-/
set_option linter.unusedSimpArgs false
set_option linter.unusedVariables false
set_option maxRecDepth 100000
namespace Go.Proofs.YtogeohjeabbmaaaDoor
open Go.RowKit

theorem eqi_calM (c d : Cal) (w : World) : (Op.equalIn 10000 31 (.agg #[.int .i64 c.op, .int .u64 (c.key : Int), .int .u64 (c.a : Int), .int .u64 (c.b : Int)]) (.agg #[.int .i64 d.op, .int .u64 (d.key : Int), .int .u64 (d.a : Int), .int .u64 (d.b : Int)])).run Tryd.prog w = .ok (decide (c = d)) w := by
  have u3 := Tryd.underlying3
  have a3 := Tryd.isAgg3
  have z3 := Tryd.sizeOf3
  have u4 := Tryd.underlying29
  have a4 := Tryd.isAgg29
  have z4 := Tryd.sizeOf29
  rw [show (10000 : Nat) = 9999 + 1 from rfl, run_equalIn_struct w 9999 31 _ _ (by kernel_rfl) (by kernel_rfl)]
  simp only [Program.fieldsOf, Tryd.underlying31]
  go_simp
  obtain ⟨c1, c2, c3, c4⟩ := c
  obtain ⟨d1, d2, d3, d4⟩ := d
  by_cases h1 : c1 = d1 <;> by_cases h2 : c2 = d2 <;> by_cases h3 : c3 = d3 <;> by_cases h4 : c4 = d4 <;> simp [h1, h2, h3, h4] <;> omega
theorem eql_calM (c : Cal) (w : World) : (binOp .eql 31 (.agg #[.int .i64 c.op, .int .u64 (c.key : Int), .int .u64 (c.a : Int), .int .u64 (c.b : Int)]) (.agg #[.int .i64 c.op, .int .u64 (c.key : Int), .int .u64 (c.a : Int), .int .u64 (c.b : Int)])).run Tryd.prog w = .ok (.bool true) w := by
  rw [run_eql_struct, eqi_calM, decide_eq_true rfl]; rfl
set_option maxHeartbeats 2000000 in
theorem same1_self (x y : Mm) (w : World) (hx : MmIn w x) (hy : MmIn w y) (he : x.md = y.md) :
    Calls Tryd.prog 42 #[.agg (mmA x), .agg (mmA y)] w fun e w' => e = .returned (.bool true) ∧ Below w.heap.size w w' := by
  obtain ⟨px, tx, -, -, -, -, -⟩ := hx
  obtain ⟨py, ty, -, -, -, -, -⟩ := hy
  obtain ⟨m, ppx, pnx, pcx, tpx, tnx, tcx⟩ := x
  obtain ⟨m', ppy, pny, pcy, tpy, tny, tcy⟩ := y
  simp only at he
  subst he
  obtain ⟨goer, ⟨op, ky, ca, cb⟩, ⟨err, val, done⟩, ps, began, at', over, told⟩ := m
  simp only [mmA] at *
  obtain ⟨W2, hW2⟩ : ∃ W2, W2 = (w.alloc (.cells #[.int .i64 goer, .int .i64 op, .int .u64 (ky : Int), .int .u64 (ca : Int), .int .u64 (cb : Int), .int .i64 err, .int .u64 (val : Int), .bool done, .slice ppx pnx pcx, .int .i64 began, .int .i64 at', .int .i64 over, .slice tpx tnx tcx] 39)).alloc (.cells #[.int .i64 goer, .int .i64 op, .int .u64 (ky : Int), .int .u64 (ca : Int), .int .u64 (cb : Int), .int .i64 err, .int .u64 (val : Int), .bool done, .slice ppy pny pcy, .int .i64 began, .int .i64 at', .int .i64 over, .slice tpy tny tcy] 39) := ⟨_, rfl⟩
  have H := ((Hs.nil w).new #[.int .i64 goer, .int .i64 op, .int .u64 (ky : Int), .int .u64 (ca : Int), .int .u64 (cb : Int), .int .i64 err, .int .u64 (val : Int), .bool done, .slice ppx pnx pcx, .int .i64 began, .int .i64 at', .int .i64 over, .slice tpx tnx tcx] 39).new #[.int .i64 goer, .int .i64 op, .int .u64 (ky : Int), .int .u64 (ca : Int), .int .u64 (cb : Int), .int .i64 err, .int .u64 (val : Int), .bool done, .slice ppy pny pcy, .int .i64 began, .int .i64 at', .int .i64 over, .slice tpy tny tcy] 39
  rw [← hW2] at H
  have hB := H.old
  have hx0 := H.rows.2.1
  have hy0 := H.rows.1
  rw [World.size_alloc] at hy0
  obtain ⟨a0, a1, a2, a3, a4, a5, a6, a7, a8, a9, aa, a_b, ac⟩ := cells13 hx0
  obtain ⟨b0, b1, b2, b3, b4, b5, b6, b7, b8, b9, ba, bb, bc⟩ := cells13 hy0
  have EQ := equalI_any tpx tpy tnx tny tcx tcy told told W2 (tx.below hB) (ty.below hB)
  have RA := fun d => ralike_any ⟨err, val, done⟩ ⟨err, val, done⟩ ppx ppy pnx pny pcx pcy ps ps (W2.drewN d) ((px.below hB).below (below_drewN' _ _)) ((py.below hB).below (below_drewN' _ _))
  rw [show alikeB ⟨err, val, done⟩ ⟨err, val, done⟩ ps ps = true by unfold alikeB; simp] at RA
  rw [show (told == told) = true by simp] at EQ
  simp only [anA] at RA
  have hc := fun w => eql_calM ⟨op, ky, ca, cb⟩ w
  simp only at hc
  clear hx0 hy0 H px py tx ty
  have EQ'h := Lib.hid EQ
  have RA'h := Lib.hid RA
  have hB'h := Lib.hid hB
  have hW2'h := Lib.hid hW2
  clear EQ RA hB hW2
  go_enter Tryd.func42, Tryd.ntmps42
  go_upto_region 1 with fail
  rw [← hW2'h.out]
  go_wp2_with fail
  refine EQ'h.out.mono ?_
  rintro e w5 ⟨rfl, d, rfl⟩
  have f0 : ∀ q, (W2.drewN d).cell? q = W2.cell? q := fun q => rfl
  go_wp2_with fail
  refine (RA'h.out d).mono ?_
  rintro e w6 ⟨rfl, hb6⟩
  have hfin := below_next (hB'h.out.trans (below_drewN' _ _)) hb6
  clear hb6 a0 a1 a2 a3 a4 a5 a6 a7 a8 a9 aa a_b ac b0 b1 b2 b3 b4 b5 b6 b7 b8 b9 ba bb bc f0
  have hfin'h := Lib.hid hfin
  clear hfin
  go_wp2
  go_ret
  exact ⟨rfl, hfin'h.out⟩
end Go.Proofs.YtogeohjeabbmaaaDoor

/-
  The law of layer 27: two rows of made calls that read the same are the same.
-/
set_option linter.unusedSimpArgs false
set_option linter.unusedVariables false
set_option maxRecDepth 100000
namespace Go.Proofs.YtogeohjeabbmaaaDoor
open Go.RowKit

set_option maxHeartbeats 4000000 in
theorem equalM_self (sp sp' : Option Addr) (n cap cap' : Nat) (l l' : List Mm) (w : World) (h : MsIn w sp n l) (h' : MsIn w sp' n l') (he : ∀ i, i < n → (nthM l i).md = (nthM l' i).md) :
    Calls Tryd.prog 41 #[.slice sp n cap, .slice sp' n cap', .func (.func 42) #[] #[]] w fun e w' => e = .returned (.bool true) ∧ Below w.heap.size w w' := by
  have hlen := h.len
  have hlen' := h'.len
  have hmax := h.sl.2.1
  unfold maxLen at hmax
  have hne : ((n : Int) != (n : Int)) = false := by simp
  have hlen'h := Lib.hid hlen
  have hlen''h := Lib.hid hlen'
  have hmax'h := Lib.hid hmax
  have h'h := Lib.hid h
  have h''h := Lib.hid h'
  have he'h := Lib.hid he
  clear hlen hlen' hmax h h' he
  go_enter Tryd.func41, Tryd.ntmps41
  go_wp2
  go_loopg [17] n (fun q v9 wr => ∃ j : Nat, j + q = n ∧ v9 = .int .i64 (j : Int) ∧ Below w.heap.size w wr)
  case atStart => exact ⟨0, by omega, rfl, Below.refl _ _⟩
  case round =>
    obtain ⟨j, hj, rfl, hB⟩ := hrel
    by_cases hlt : j < n
    · have i3 : (j : Int) < (n : Int) := by omega
      have i4 : (0 : Int) ≤ (j : Int) := by omega
      have i5 : (j : Int) + 1 ≤ 9223372036854775807 := by have := hmax'h.out; omega
      have hS := h'h.out.below hB
      have hS2 := h''h.out.below hB
      obtain ⟨b, off, rfl⟩ := slk_some hS.sl (by omega)
      obtain ⟨b2, off2, rfl⟩ := slk_some hS2.sl (by omega)
      have hjl : j < l.length := by have := hlen'h.out; omega
      have hjl2 : j < l'.length := by have := hlen''h.out; omega
      obtain ⟨x, hx0⟩ : ∃ x, x = nthM l j := ⟨_, rfl⟩
      obtain ⟨y, hy0⟩ : ∃ y, y = nthM l' j := ⟨_, rfl⟩
      have hcl := fun (i : Nat) (v : Value) (hi : i < 13) (hv : (mmL x)[i]? = some v) => hS.cells hjl (i := i) (v := v) hi (by rw [← hx0]; exact hv)
      have hB3 := (Below.refl wr.heap.size wr).alloc (Nat.le_refl _) (.cells (mmA x) 39)
      have hb3 := World.alloc_heap_new wr (.cells (mmA x) 39)
      have hcm := fun (i : Nat) (v : Value) (hi : i < 13) (hv : (mmL y)[i]? = some v) => (hS2.below hB3).cells hjl2 (i := i) (v := v) hi (by rw [← hy0]; exact hv)
      have hB4 := hB3.alloc hB3.size (.cells (mmA y) 39)
      have H := ((Hs.nil wr).new (mmA x) 39).new (mmA y) 39
      have SM := same1_self x y _ ((hS.each x (by rw [hx0]; exact nthM_mem hjl)).below hB4) ((hS2.each y (by rw [hy0]; exact nthM_mem hjl2)).below hB4) (by rw [hx0, hy0]; exact he'h.out j hlt)
      clear hx0 hy0 hS hS2 hb3
      obtain ⟨⟨goerx, ⟨opx, kyx, cax, cbx⟩, ⟨errx, valx, donex⟩, prsx, beganx, atx, overx, toldx⟩, ppx, pnx, pcx, tpx, tnx, tcx⟩ := x
      have e0 := hcl 0 _ (by omega) rfl
      have e1 := hcl 1 _ (by omega) rfl
      have e2 := hcl 2 _ (by omega) rfl
      have e3 := hcl 3 _ (by omega) rfl
      have e4 := hcl 4 _ (by omega) rfl
      have e5 := hcl 5 _ (by omega) rfl
      have e6 := hcl 6 _ (by omega) rfl
      have e7 := hcl 7 _ (by omega) rfl
      have e8 := hcl 8 _ (by omega) rfl
      have e9 := hcl 9 _ (by omega) rfl
      have ea := hcl 10 _ (by omega) rfl
      have eb := hcl 11 _ (by omega) rfl
      have ec := hcl 12 _ (by omega) rfl
      simp only [Nat.add_zero] at e0
      obtain ⟨⟨goery, ⟨opy, kyy, cay, cby⟩, ⟨erry, valy, doney⟩, prsy, begany, aty, overy, toldy⟩, ppy, pny, pcy, tpy, tny, tcy⟩ := y
      have d0 := hcm 0 _ (by omega) rfl
      have d1 := hcm 1 _ (by omega) rfl
      have d2 := hcm 2 _ (by omega) rfl
      have d3 := hcm 3 _ (by omega) rfl
      have d4 := hcm 4 _ (by omega) rfl
      have d5 := hcm 5 _ (by omega) rfl
      have d6 := hcm 6 _ (by omega) rfl
      have d7 := hcm 7 _ (by omega) rfl
      have d8 := hcm 8 _ (by omega) rfl
      have d9 := hcm 9 _ (by omega) rfl
      have da := hcm 10 _ (by omega) rfl
      have db := hcm 11 _ (by omega) rfl
      have dc := hcm 12 _ (by omega) rfl
      simp only [Nat.add_zero] at d0
      simp only [mmA] at *
      clear hcl hcm
      obtain ⟨W3, hW3⟩ : ∃ W3, W3 = wr.alloc (.cells #[.int .i64 goerx, .int .i64 opx, .int .u64 (kyx : Int), .int .u64 (cax : Int), .int .u64 (cbx : Int), .int .i64 errx, .int .u64 (valx : Int), .bool donex, .slice ppx pnx pcx, .int .i64 beganx, .int .i64 atx, .int .i64 overx, .slice tpx tnx tcx] 39) := ⟨_, rfl⟩
      rw [← hW3] at hB3 hB4 SM H d0 d1 d2 d3 d4 d5 d6 d7 d8 d9 da db dc
      obtain ⟨W4, hW4⟩ : ∃ W4, W4 = W3.alloc (.cells #[.int .i64 goery, .int .i64 opy, .int .u64 (kyy : Int), .int .u64 (cay : Int), .int .u64 (cby : Int), .int .i64 erry, .int .u64 (valy : Int), .bool doney, .slice ppy pny pcy, .int .i64 begany, .int .i64 aty, .int .i64 overy, .slice tpy tny tcy] 39) := ⟨_, rfl⟩
      rw [← hW4] at hB4 SM H
      have hz3 : W3.heap.size = wr.heap.size + 1 := by rw [hW3, World.size_alloc]
      have hx4 := H.rows.2.1
      have hy4 := H.rows.1
      clear H
      have hj'h := Lib.hid hj
      have hB'h := Lib.hid hB
      have SM'h := Lib.hid SM
      have hB3'h := Lib.hid hB3
      have hB4'h := Lib.hid hB4
      have hjl'h := Lib.hid hjl
      have hlt'h := Lib.hid hlt
      have hx4'h := Lib.hid hx4
      have hy4'h := Lib.hid hy4
      have hW4'h := Lib.hid hW4
      have hz3'h := Lib.hid hz3
      clear hj hB SM hB3 hB4 hjl hlt hx4 hy4 hW4 hz3
      go_upto_region 6 with fail
      rw [← hW3]
      clear hW3 e0 e1 e2 e3 e4 e5 e6 e7 e8 e9 ea eb ec
      go_upto_region 7 with fail
      rw [← hW4'h.out]
      clear d0 d1 d2 d3 d4 d5 d6 d7 d8 d9 da db dc
      obtain ⟨a0, a1, a2, a3, a4, a5, a6, a7, a8, a9, aa, a_b, ac⟩ := cells13 hx4'h.out
      obtain ⟨b0, b1, b2', b3, b4, b5, b6, b7, b8, b9, ba, bb, bc⟩ := cells13 hy4'h.out
      go_wp2_with fail
      refine SM'h.out.mono ?_
      rintro e W5 ⟨rfl, hb5⟩
      have hfin := below_next (below_next hB'h.out hB4'h.out) hb5
      clear hb5 a0 a1 a2 a3 a4 a5 a6 a7 a8 a9 aa a_b ac b0 b1 b2' b3 b4 b5 b6 b7 b8 b9 ba bb bc
      have hfin'h := Lib.hid hfin
      clear hfin
      go_wp2
      go_roundg (gk - 1)
      case measure => have := hj'h.out; have := hlt'h.out; omega
      case rel => exact ⟨j + 1, by have := hj'h.out; have := hlt'h.out; omega, by go_num, hfin'h.out⟩
    · have i3 : ¬ (j : Int) < (n : Int) := by omega
      have hB'h := Lib.hid hB
      clear hB
      clear hj hlt
      go_wp2
      go_ret
      exact ⟨rfl, hB'h.out⟩
theorem same27_self (sp sp' : Option Addr) (n cap cap' : Nat) (l l' : List Mm) (w : World) (h : MsIn w sp n l) (h' : MsIn w sp' n l') (he : ∀ i, i < n → (nthM l i).md = (nthM l' i).md) :
    Calls Tryd.prog 22 #[.slice sp n cap, .slice sp' n cap'] w fun e w' => e = .returned (.bool true) ∧ Below w.heap.size w w' := by
  have E := equalM_self sp sp' n cap cap' l l' w h h' he
  have E'h := Lib.hid E
  clear E
  clear h h' he
  go_enter Tryd.func22, Tryd.ntmps22
  go_wp2_with fail
  refine E'h.out.mono ?_
  rintro e w2 ⟨rfl, hb⟩
  have hb'h := Lib.hid hb
  clear hb
  go_wp2
  go_ret
  exact ⟨rfl, hb'h.out⟩
end Go.Proofs.YtogeohjeabbmaaaDoor

/-
  Plain: the pairs that are free are few, and small.
-/
set_option linter.unusedSimpArgs false
set_option linter.unusedVariables false
namespace Go.Proofs.YtogeohjeabbmaaaDoor
open Go.RowKit

theorem freeRow_mem {l : List Mm} {i : Nat} : ∀ (q k : Nat) (p : Nat × Nat), p ∈ freeRow l i q k → p.1 = i ∧ p.2 < i + 1 + k + q := by
  intro q
  induction q with
  | zero => intro k p h; simp [freeRow] at h
  | succ q ih =>
    intro k p h
    unfold freeRow at h
    rcases List.mem_append.1 h with h | h
    · split at h
      · rw [List.mem_singleton] at h
        subst h
        exact ⟨rfl, by simp only; omega⟩
      · simp at h
    · have := ih (k + 1) p h
      exact ⟨this.1, by omega⟩
theorem freeRow_len {l : List Mm} {i : Nat} : ∀ (q k : Nat), (freeRow l i q k).length ≤ q := by
  intro q
  induction q with
  | zero => intro k; simp [freeRow]
  | succ q ih =>
    intro k
    unfold freeRow
    rw [List.length_append]
    have := ih (k + 1)
    split <;> simp <;> omega
theorem freeFrom_mem {l : List Mm} : ∀ (q i : Nat) (p : Nat × Nat), p ∈ freeFrom l q i → p.1 < i + q ∧ p.2 < max l.length (i + q + 1) := by
  intro q
  induction q with
  | zero => intro i p h; simp [freeFrom] at h
  | succ q ih =>
    intro i p h
    unfold freeFrom at h
    rcases List.mem_append.1 h with h | h
    · have := freeRow_mem _ _ p h
      omega
    · have := ih (i + 1) p h
      omega
theorem freeFrom_len {l : List Mm} : ∀ (q i : Nat), (freeFrom l q i).length ≤ q * l.length := by
  intro q
  induction q with
  | zero => intro i; simp [freeFrom]
  | succ q ih =>
    intro i
    unfold freeFrom
    rw [List.length_append, Nat.succ_mul]
    have h1 := ih (i + 1)
    have h2 := freeRow_len (l := l) (i := i) (l.length - (i + 1)) 0
    omega
end Go.Proofs.YtogeohjeabbmaaaDoor

