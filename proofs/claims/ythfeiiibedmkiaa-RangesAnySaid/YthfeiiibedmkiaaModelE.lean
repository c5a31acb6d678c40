/-
  Package model: where a key stands.
-/
import Derived.Test.YthfeiiibedmkiaaModelB
set_option linter.unusedSimpArgs false
set_option linter.unusedVariables false
set_option maxRecDepth 100000
namespace Go.Proofs.Ythfeiiibedmkiaa
open Go.RowKit

theorem at1_any (a b : Nat) (w : World) : Calls Try.prog 74 #[.agg #[.int .u64 (a : Int), .int .u64 (b : Int)]] w fun e w' => e = .returned (.int .u64 (a : Int)) ∧ Below w.heap.size w w' := by
  have hB : Below w.heap.size w (w.alloc (.cells #[.int .u64 (a : Int), .int .u64 (b : Int)] 38)) := (Below.refl _ _).alloc (Nat.le_refl _) _
  have hB'h := Lib.hid hB
  clear hB
  go_enter Try.func74, Try.ntmps74
  go_wp2
  go_ret
  exact ⟨rfl, hB'h.out⟩
def hasAt (ps : Ps) (k : Nat) : Bool := hasP ps k
set_option maxHeartbeats 1000000 in
theorem mplace_any (sp : Option Addr) (n cap : Nat) (ps : Ps) (key : Nat) (w : World) (h : SlK w 2 sp n (prs ps)) (hup : upB ps = true) (hn : n ≤ 4096) :
    Calls Try.prog 73 #[.slice sp n cap, .int .u64 (key : Int), .func (.func 74) #[] #[]] w fun e w' => e = .returned (.tuple #[.int .i64 (posP ps key), .bool (hasP ps key)]) ∧ Below w.heap.size w w' := by
  have hlen := prs_len h
  have hlen'h := Lib.hid hlen
  have h'h := Lib.hid h
  have hup'h := Lib.hid hup
  clear hlen h hup
  go_enter Try.func73, Try.ntmps73
  go_wp2
  go_loopg [8, 9] n (fun q a b wr => ∃ i j : Nat, i + q = j ∧ j ≤ n ∧ a = .int .i64 i ∧ b = .int .i64 j ∧ (∀ t, t < i → (nthP ps t).1 < key) ∧ (∀ t, j ≤ t → t < n → key ≤ (nthP ps t).1) ∧ Below w.heap.size w wr)
  case atStart => exact ⟨0, n, by omega, Nat.le_refl _, rfl, rfl, fun t ht => by omega, fun t h1 h2 => by omega, Below.refl _ _⟩
  case round =>
    obtain ⟨i, j, hq, hj, rfl, rfl, hlo, hhi, hbr⟩ := hrel
    by_cases hlt : i < j
    · obtain ⟨k, hk⟩ : ∃ k, k = (i + j) / 2 := ⟨_, rfl⟩
      have hk2 : ((i : Int) + (j : Int)) / 2 = (k : Int) := by omega
      have hkj : k < j := by omega
      have hik : i ≤ k := by omega
      have hSr := h'h.out.below hbr
      obtain ⟨b, off, rfl⟩ := prs_some h'h.out (by omega)
      obtain ⟨c1, c2⟩ := prs_cells hSr (k := k) (by have := hlen'h.out; omega)
      have i0 : (i : Int) < (j : Int) := by omega
      have i1 : (k : Int) < (n : Int) := by omega
      have i2 : (0 : Int) ≤ (k : Int) := by omega
      by_cases hc : (nthP ps k).1 < key
      · have t1 : (((nthP ps k).1 : Int)) < (key : Int) := by omega
        have t2 : decide ((nthP ps k).1 < key) = true := by simpa using hc
        generalize hy : (nthP ps k).1 = y at *
        generalize (nthP ps k).2 = z at *
        have hq'h := Lib.hid hq
        have hj'h := Lib.hid hj
        have hlo'h := Lib.hid hlo
        have hhi'h := Lib.hid hhi
        have hbr'h := Lib.hid hbr
        have hSr'h := Lib.hid hSr
        have hc'h := Lib.hid hc
        have hy'h := Lib.hid hy
        have hk'h := Lib.hid hk
        clear hq hj hlo hhi hbr hSr hc hy hk
        go_wp2_with (go_at_call 74; refine (at1_any _ _ _).mono ?_; rintro e w4 ⟨rfl, hb4⟩)
        go_roundg (j - (k + 1))
        case measure => have := hq'h.out; omega
        case rel =>
          refine ⟨k + 1, j, by omega, hj'h.out, by go_num, rfl, fun t ht => ?_, hhi'h.out, below_next hbr'h.out hb4⟩
          by_cases e : t = k
          · subst e; rw [hy'h.out]; exact hc'h.out
          · have := up_lt hup'h.out (i := t) (j := k) (by omega) (by have := hlen'h.out; have := hj'h.out; omega)
            have := hy'h.out; have := hc'h.out; omega
      · have t1 : ¬ (((nthP ps k).1 : Int)) < (key : Int) := by omega
        have t2 : decide ((nthP ps k).1 < key) = false := by simpa using hc
        generalize hy : (nthP ps k).1 = y at *
        generalize (nthP ps k).2 = z at *
        have hq'h := Lib.hid hq
        have hj'h := Lib.hid hj
        have hlo'h := Lib.hid hlo
        have hhi'h := Lib.hid hhi
        have hbr'h := Lib.hid hbr
        have hSr'h := Lib.hid hSr
        have hc'h := Lib.hid hc
        have hy'h := Lib.hid hy
        have hk'h := Lib.hid hk
        clear hq hj hlo hhi hbr hSr hc hy hk
        go_wp2_with (go_at_call 74; refine (at1_any _ _ _).mono ?_; rintro e w4 ⟨rfl, hb4⟩)
        go_roundg (k - i)
        case measure => have := hq'h.out; omega
        case rel =>
          refine ⟨i, k, by omega, by have := hj'h.out; omega, rfl, rfl, hlo'h.out, fun t h1 h2 => ?_, below_next hbr'h.out hb4⟩
          by_cases e : t = k
          · subst e; have := hy'h.out; have := hc'h.out; omega
          · have := up_lt hup'h.out (i := k) (j := t) (by omega) (by have := hlen'h.out; omega)
            have := hy'h.out; have := hc'h.out; omega
    · obtain rfl : i = j := by omega
      have hp : posP ps key = i := posP_eq (by have := hlen'h.out; omega) hlo fun hi => hhi i (Nat.le_refl _) (by have := hlen'h.out; omega)
      have hh := hasP_pos ps key
      rw [hp] at hh
      by_cases hin : i < n
      · have hSr := h'h.out.below hbr
        obtain ⟨b, off, rfl⟩ := prs_some h'h.out (by omega)
        obtain ⟨c1, c2⟩ := prs_cells hSr (k := i) (by have := hlen'h.out; omega)
        have i1 : (i : Int) < (n : Int) := by omega
        have i2 : (0 : Int) ≤ (i : Int) := by omega
        have e1 : decide (i < n) = true := by simpa using hin
        have e2 : decide (i < ps.length) = true := by have := hlen'h.out; simp; omega
        rw [e2, Bool.true_and] at hh
        have hh2 : hasP ps key = (((nthP ps i).1 : Int) == (key : Int)) := by rw [hh]; by_cases e : (nthP ps i).1 = key <;> simp [e] <;> omega
        clear hh e2
        generalize (nthP ps i).1 = y at *
        generalize (nthP ps i).2 = z at *
        have hq'h := Lib.hid hq
        have hj'h := Lib.hid hj
        have hlo'h := Lib.hid hlo
        have hhi'h := Lib.hid hhi
        have hbr'h := Lib.hid hbr
        have hSr'h := Lib.hid hSr
        have hp'h := Lib.hid hp
        have hh2'h := Lib.hid hh2
        clear hq hj hlo hhi hbr hSr hp hh2
        go_wp2_with (go_at_call 74; refine (at1_any _ _ _).mono ?_; rintro e w4 ⟨rfl, hb4⟩)
        go_ret2
        exact ⟨by rw [hp'h.out, hh2'h.out]; rfl, below_next hbr'h.out hb4⟩
      · have e1 : decide (i < n) = false := by simpa using hin
        have e2 : decide (i < ps.length) = false := by have := hlen'h.out; simp; omega
        rw [e2, Bool.false_and] at hh
        clear e2
        have hq'h := Lib.hid hq
        have hj'h := Lib.hid hj
        have hlo'h := Lib.hid hlo
        have hhi'h := Lib.hid hhi
        have hbr'h := Lib.hid hbr
        have hp'h := Lib.hid hp
        have hh'h := Lib.hid hh
        clear hq hj hlo hhi hbr hp hh
        go_wp2
        go_ret2
        exact ⟨by rw [hp'h.out, hh'h.out]; rfl, hbr'h.out⟩
end Go.Proofs.Ythfeiiibedmkiaa
