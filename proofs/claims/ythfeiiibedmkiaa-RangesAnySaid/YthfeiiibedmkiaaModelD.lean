/-
  Package model and the document: answers compared; the document's Get.
-/
import Derived.Test.YthfeiiibedmkiaaModelC
set_option linter.unusedSimpArgs false
set_option linter.unusedVariables false
set_option maxRecDepth 100000
namespace Go.Proofs.Ythfeiiibedmkiaa
open Go.RowKit

theorem findP_at {ps : Ps} {k q : Nat} (hk : k < ps.length) (hno : ∀ j, j < k → (nthP ps j).1 ≠ q) (h : (nthP ps k).1 = q) : findP ps q = some (nthP ps k).2 := by
  unfold findP
  induction ps generalizing k with
  | nil => simp at hk
  | cons p l ih =>
    rw [List.find?_cons]
    cases k with
    | zero =>
      have e : decide (p.1 = q) = true := decide_eq_true h
      rw [e]; rfl
    | succ k =>
      have e : decide (p.1 = q) = false := decide_eq_false (hno 0 (by omega))
      rw [e]
      exact ih (by simpa using hk) (fun j hj => hno (j + 1) (by omega)) h
theorem findP_none {ps : Ps} {q : Nat} (hno : ∀ j, j < ps.length → (nthP ps j).1 ≠ q) : findP ps q = none := by
  unfold findP
  rw [List.find?_eq_none.2, Option.map_none]
  intro p hp
  obtain ⟨j, hj, rfl⟩ := List.mem_iff_getElem.1 hp
  rw [nthP_eq hj]
  simpa using hno j hj
theorem rget_any (sp : Option Addr) (n cap : Nat) (ps : Ps) (key : Nat) (w : World) (h : SlK w 2 sp n (prs ps)) :
    Calls Try.prog 61 #[.agg #[.slice sp n cap], .int .u64 key] w fun e w' => e = .returned (.tuple #[.int .u64 (((findP ps key).getD 0 : Nat) : Int), .bool (findP ps key).isSome]) ∧ Below w.heap.size w w' := by
  have hlen := prs_len h
  have hmax := h.2.1
  unfold maxLen at hmax
  have hB : Below w.heap.size w (w.alloc (.cells #[.slice sp n cap] 31)) := (Below.refl _ _).alloc (Nat.le_refl _) _
  have hlen'h := Lib.hid hlen
  have h'h := Lib.hid h
  have hB'h := Lib.hid hB
  clear hlen h hB
  go_enter Try.func61, Try.ntmps61
  go_wp2
  generalize World.alloc _ _ = W1 at hB'h ⊢
  go_loopg [11] n (fun q i wr => ∃ k : Nat, k + q = n ∧ i = .int .i64 k ∧ (∀ j, j < k → (nthP ps j).1 ≠ key) ∧ Below w.heap.size w wr)
  case atStart => exact ⟨0, by omega, rfl, fun j hj => by omega, hB'h.out⟩
  case round =>
    obtain ⟨k, hk, rfl, hall, hbr⟩ := hrel
    have hkn : k ≤ n := by omega
    by_cases hlt : k < n
    · have hSr := h'h.out.below hbr
      obtain ⟨b, off, rfl⟩ := prs_some h'h.out (by omega)
      have hkl : k < ps.length := by have := hlen'h.out; omega
      obtain ⟨c1, c2⟩ := prs_cells hSr hkl
      have i1 : (k : Int) < (n : Int) := by omega
      have i2 : (0 : Int) ≤ (k : Int) := by omega
      have hb2 : Below wr.heap.size wr (wr.alloc (.cells #[.int .u64 ((nthP ps k).1 : Int), .int .u64 ((nthP ps k).2 : Int)] 38)) := (Below.refl _ _).alloc (Nat.le_refl _) _
      by_cases he : (nthP ps k).1 = key
      · have hf := findP_at hkl hall he
        have e1 : (findP ps key).isSome = true := by rw [hf]; rfl
        have e2 : (findP ps key).getD 0 = (nthP ps k).2 := by rw [hf]; rfl
        have t1 : (((nthP ps k).1 : Int) == (key : Int)) = true := by simp [he]
        clear hf
        generalize (nthP ps k).1 = y at *
        generalize (nthP ps k).2 = z at *
        have hk'h := Lib.hid hk
        have hall'h := Lib.hid hall
        have hbr'h := Lib.hid hbr
        have hSr'h := Lib.hid hSr
        have hb2'h := Lib.hid hb2
        have he'h := Lib.hid he
        have e1'h := Lib.hid e1
        have e2'h := Lib.hid e2
        clear hk hall hbr hSr hb2 he e1 e2
        go_wp2
        go_ret2
        exact ⟨by rw [e1'h.out, e2'h.out]; rfl, below_next hbr'h.out hb2'h.out⟩
      · have t1 : (((nthP ps k).1 : Int) == (key : Int)) = false := by simp; omega
        generalize hy : (nthP ps k).1 = y at *
        generalize (nthP ps k).2 = z at *
        have hk'h := Lib.hid hk
        have hall'h := Lib.hid hall
        have hbr'h := Lib.hid hbr
        have hSr'h := Lib.hid hSr
        have hb2'h := Lib.hid hb2
        have he'h := Lib.hid he
        have hy'h := Lib.hid hy
        clear hk hall hbr hSr hb2 he hy
        go_wp2
        go_roundg (gk - 1)
        case measure => have := hk'h.out; omega
        case rel =>
          refine ⟨k + 1, by have := hk'h.out; omega, by go_num, fun j hj => ?_, below_next hbr'h.out hb2'h.out⟩
          by_cases e : j = k
          · subst e; rw [hy'h.out]; exact he'h.out
          · exact hall'h.out j (by omega)
    · have hf := findP_none (ps := ps) (q := key) fun j hj => hall j (by have := hlen'h.out; omega)
      have e1 : (findP ps key).isSome = false := by rw [hf]; rfl
      have e2 : (findP ps key).getD 0 = 0 := by rw [hf]; rfl
      clear hf
      have hk'h := Lib.hid hk
      have hall'h := Lib.hid hall
      have hbr'h := Lib.hid hbr
      have e1'h := Lib.hid e1
      have e2'h := Lib.hid e2
      clear hk hall hbr e1 e2
      go_wp2
      go_ret2
      exact ⟨by rw [e1'h.out, e2'h.out]; rfl, hbr'h.out⟩
end Go.Proofs.Ythfeiiibedmkiaa
