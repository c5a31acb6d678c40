/-
 The document's answer for layer 27: is a number in a row, is a row an order, has a map a key, how many calls are of a key?
-/
import Derived.Test.YtogeohjeabbmaaaGreatDoorDocW
import Derived.Test.YtogeohjeabbmaaaGreatDoorZj
import Derived.Deep.LoopGhost
set_option linter.unusedSimpArgs false
set_option linter.unusedVariables false
set_option maxRecDepth 100000
namespace Go.Proofs.YtogeohjeabbmaaaGreatDoor
open Go.RowKit

theorem in_any (sp : Option Addr) (n cap : Nat) (os : List Int) (x : Int) (w : World) (h : Sl w sp n (os.map (Value.int .i64))) :
  Calls Tryz.prog 32 #[.slice sp n cap, .int .i64 x] w fun e w' => e = .returned (.bool (decide (x ∈ os))) ∧ w' = w := by
 have hlen : n = os.length := by have := h.1; simpa using this
 have hmax := h.2.1
 unfold maxLen at hmax
 obtain ⟨R, hR⟩ : ∃ R, R = decide (x ∈ os) := ⟨_, rfl⟩
 rw [← hR]
 have hR'h := Lib.hid hR
 have hlen'h := Lib.hid hlen
 have hmax'h := Lib.hid hmax
 have h'h := Lib.hid h
 clear hR hlen hmax h
 go_enter Tryz.func32, Tryz.ntmps32
 go_wp2
 go_loopg [9] n (fun q v9 wr => ∃ k : Nat, k + q = n ∧ v9 = .int .i64 (k : Int) ∧ (∀ i, i < k → (hi : i < os.length) → os[i] ≠ x) ∧ wr = w)
 case atStart => exact ⟨0, by omega, rfl, fun i hi => by omega, rfl⟩
 case round =>
  obtain ⟨k, hk, rfl, hall, rfl⟩ := hrel
  by_cases hlt : k < n
  ·
   have hkl : k < os.length := by have := hlen'h.out; omega
   obtain ⟨tb, tz, rfl, hcs⟩ := h'h.out.some' (by omega)
   obtain ⟨y, hy⟩ : ∃ y, y = os[k] := ⟨_, rfl⟩
   have t1 : wr.cell? ⟨tb, tz + k, none⟩ = some (.int .i64 y) := hcs k _ (by rw [List.getElem?_map, List.getElem?_eq_getElem hkl, hy]; rfl)
   have i1 : (k : Int) < (n : Int) := by omega
   have i2 : (0 : Int) ≤ (k : Int) := by omega
   have i3 : (k : Int) + 1 ≤ 9223372036854775807 := by have := hmax'h.out; omega
   clear hcs
   have hk'h := Lib.hid hk
   have hall'h := Lib.hid hall
   have hlt'h := Lib.hid hlt
   clear hk hall hlt
   by_cases e : y = x
   ·
    have c1 : (y == x) = true := by simp [e]
    obtain rfl : R = true := by rw [hR'h.out]; exact decide_eq_true (by rw [← e, hy]; exact List.getElem_mem _)
    clear hy e hkl
    go_wp2
    go_ret
    exact ⟨rfl, rfl⟩
   ·
    have c1 : (y == x) = false := by simp [e]
    have hall2 : ∀ i, i < k + 1 → (hi : i < os.length) → os[i] ≠ x := fun i hi hil => by
     by_cases ei : i = k
     ·
      subst ei; rw [← hy]; exact e
     ·
      exact hall'h.out i (by omega) hil
    clear hy hkl e
    have hall2'h := Lib.hid hall2
    clear hall2
    go_wp2
    go_roundg (gk - 1)
    case measure => have := hk'h.out; have := hlt'h.out; omega
    case rel => exact ⟨k + 1, by have := hk'h.out; have := hlt'h.out; omega, by go_num, hall2'h.out, rfl⟩
  ·
   have i1 : ¬ (k : Int) < (n : Int) := by omega
   obtain rfl : R = false := by
    rw [hR'h.out]
    exact decide_eq_false fun hm => by
     obtain ⟨i, hi, e⟩ := List.getElem_of_mem hm
     exact hall i (by have := hlen'h.out; omega) hi e
   clear hall hk hlt
   go_wp2
   go_ret
   exact ⟨rfl, rfl⟩
theorem takeI {os : List Int} {j : Nat} (h : j < os.length) : os.take (j + 1) = os.take j ++ [nthI os j] := by
 rw [List.take_add_one, List.getElem?_eq_getElem h]
 unfold nthI
 rw [List.getD_eq_getElem?_getD, List.getElem?_eq_getElem h]
 rfl
theorem metOk_cons (m : Nat) (x : Int) (r : List Int) (met : Nat → Bool) : metOk m (x :: r) met = (decide (0 ≤ x ∧ x < m) && !met x.toNat && metOk m r (markB met x.toNat)) := rfl
theorem drow_any (m : Nat) (sp : Option Addr) (n cap : Nat) (os : List Int) (w : World) (h : Sl w sp n (os.map (Value.int .i64))) (hle : n ≤ cap) :
  Calls Tryz.prog 11 #[.int .i64 (m : Int), .slice sp n cap] w fun e w' => e = .returned (.bool (metOk m os noneB)) ∧ w' = w := by
 have hlen : n = os.length := by have := h.1; simpa using this
 have hmax := h.2.1
 unfold maxLen at hmax
 obtain ⟨R, hR⟩ : ∃ R, R = metOk m os noneB := ⟨_, rfl⟩
 rw [← hR]
 rw [← metR_nil] at hR
 have hR'h := Lib.hid hR
 have hlen'h := Lib.hid hlen
 have hmax'h := Lib.hid hmax
 have h'h := Lib.hid h
 have hle'h := Lib.hid hle
 clear hR hlen hmax h hle
 go_enter Tryz.func11, Tryz.ntmps11
 go_wp2
 go_loopg [9] n (fun q v9 wr => ∃ k : Nat, k + q = n ∧ v9 = .int .i64 (k : Int) ∧ R = metOk m (os.drop k) (metR (os.take k)) ∧ wr = w)
 case atStart => exact ⟨0, by omega, rfl, hR'h.out, rfl⟩
 case round =>
  obtain ⟨k, hk, rfl, hall, rfl⟩ := hrel
  by_cases hlt : k < n
  ·
   have hkl : k < os.length := by have := hlen'h.out; omega
   obtain ⟨tb, tz, rfl, -⟩ := h'h.out.some' (by omega)
   have t1 := sl_cellI h'h.out hkl
   rw [dropI hkl, metOk_cons] at hall
   have IN := in_any (some ⟨tb, tz, none⟩) k cap (os.take k) (nthI os k) wr (by rw [List.map_take]; exact (SlK.of_sl h'h.out).take k (by omega) |> fun q => by rw [Nat.mul_one] at q; exact q.sl)
   have htk := takeI hkl
   obtain ⟨y, hy⟩ : ∃ y, y = nthI os k := ⟨_, rfl⟩
   rw [← hy] at t1 hall IN htk
   have i1 : (k : Int) < (n : Int) := by omega
   have i2 : (0 : Int) ≤ (k : Int) := by omega
   have i3 : (k : Int) + 1 ≤ 9223372036854775807 := by have := hmax'h.out; omega
   have i4 : (k : Int) ≤ (cap : Int) := by have := hle'h.out; omega
   clear hy
   have hk'h := Lib.hid hk
   have hall'h := Lib.hid hall
   have hlt'h := Lib.hid hlt
   have IN'h := Lib.hid IN
   have hkl'h := Lib.hid hkl
   have htk'h := Lib.hid htk
   clear hk hall hlt IN hkl htk
   by_cases c1 : y < 0
   ·
    obtain rfl : R = false := by rw [hall'h.out, decide_eq_false (by omega)]; rfl
    go_wp2
    go_ret
    exact ⟨rfl, rfl⟩
   ·
    by_cases c2 : y ≥ (m : Int)
    ·
     obtain rfl : R = false := by rw [hall'h.out, decide_eq_false (by omega)]; rfl
     go_wp2
     go_ret
     exact ⟨rfl, rfl⟩
    ·
     have hall2 : R = (!decide (y ∈ os.take k) && metOk m (os.drop (k + 1)) (metR (os.take (k + 1)))) := by
      rw [hall'h.out, decide_eq_true (show 0 ≤ y ∧ y < (m : Int) by omega), Bool.true_and, metR_mark (by omega), ← htk'h.out]
      congr 2
      unfold metR
      rw [Int.toNat_of_nonneg (by omega)]
     obtain ⟨r, hr⟩ : ∃ r, r = decide (y ∈ os.take k) := ⟨_, rfl⟩
     have IN := IN'h.out
     rw [← hr] at hall2 IN
     clear hr IN'h hall'h htk'h
     have hall2'h := Lib.hid hall2
     have IN'h := Lib.hid IN
     clear hall2 IN
     cases r with
     | true =>
      obtain rfl : R = false := by rw [hall2'h.out]; rfl
      go_wp2_with fail
      refine IN'h.out.mono ?_
      rintro e w2 ⟨rfl, hw2⟩
      obtain rfl := hw2.symm
      go_wp2
      go_ret
      exact ⟨rfl, rfl⟩
     | false =>
      have hall3 : R = metOk m (os.drop (k + 1)) (metR (os.take (k + 1))) := by rw [hall2'h.out]; rfl
      have hall3'h := Lib.hid hall3
      clear hall3
      go_wp2_with fail
      refine IN'h.out.mono ?_
      rintro e w2 ⟨rfl, hw2⟩
      obtain rfl := hw2.symm
      go_wp2
      go_roundg (gk - 1)
      case measure => have := hk'h.out; have := hlt'h.out; omega
      case rel => exact ⟨k + 1, by have := hk'h.out; have := hlt'h.out; omega, by go_num, hall3'h.out, rfl⟩
  ·
   have i1 : ¬ (k : Int) < (n : Int) := by omega
   obtain rfl : R = true := by rw [hall, List.drop_eq_nil_of_le (by have := hlen'h.out; omega)]; rfl
   clear hall hk hlt
   go_wp2
   go_ret
   exact ⟨rfl, rfl⟩
theorem dhas_any (sp : Option Addr) (n cap : Nat) (ps : Ps) (key : Nat) (w : World) (h : SlK w 2 sp n (prs ps)) (hup : upB ps = true) :
  Calls Tryz.prog 53 #[.agg #[.slice sp n cap], .int .u64 key] w fun e w' => e = .returned (.bool (hasP ps key)) ∧ Below w.heap.size w w' := by
 have hlen := prs_len h
 have hmax := h.2.1
 unfold maxLen at hmax
 have hh : hasP ps key = (findP ps key).isSome := by rw [findP_up hup]; rfl
 rw [hh]
 have hB : Below w.heap.size w (w.alloc (.cells #[.slice sp n cap] 29)) := (Below.refl _ _).alloc (Nat.le_refl _) _
 have hlen'h := Lib.hid hlen
 have h'h := Lib.hid h
 have hB'h := Lib.hid hB
 clear hlen h hB
 clear hh hup
 go_enter Tryz.func53, Tryz.ntmps53
 go_wp2
 generalize World.alloc _ _ = W1 at hB'h ⊢
 go_loopg [10] n (fun q i wr => ∃ k : Nat, k + q = n ∧ i = .int .i64 k ∧ (∀ j, j < k → (nthP ps j).1 ≠ key) ∧ Below w.heap.size w wr)
 case atStart => exact ⟨0, by omega, rfl, fun j hj => by omega, hB'h.out⟩
 case round =>
  obtain ⟨k, hk, rfl, hall, hbr⟩ := hrel
  have hkn : k ≤ n := by omega
  by_cases hlt : k < n
  ·
   have hSr := h'h.out.below hbr
   obtain ⟨b, off, rfl⟩ := prs_some h'h.out (by omega)
   have hkl : k < ps.length := by have := hlen'h.out; omega
   obtain ⟨c1, c2⟩ := prs_cells hSr hkl
   have i1 : (k : Int) < (n : Int) := by omega
   have i2 : (0 : Int) ≤ (k : Int) := by omega
   have hb2 : Below wr.heap.size wr (wr.alloc (.cells #[.int .u64 ((nthP ps k).1 : Int), .int .u64 ((nthP ps k).2 : Int)] 61)) := (Below.refl _ _).alloc (Nat.le_refl _) _
   by_cases he : (nthP ps k).1 = key
   ·
    have e1 : (findP ps key).isSome = true := by rw [findP_at hkl hall he]; rfl
    have t1 : (((nthP ps k).1 : Int) == (key : Int)) = true := by simp [he]
    generalize (nthP ps k).1 = y at *
    generalize (nthP ps k).2 = z at *
    have hk'h := Lib.hid hk
    have hall'h := Lib.hid hall
    have hbr'h := Lib.hid hbr
    have hSr'h := Lib.hid hSr
    have hb2'h := Lib.hid hb2
    have he'h := Lib.hid he
    have e1'h := Lib.hid e1
    clear hk hall hbr hSr hb2 he e1
    go_wp2
    go_ret
    exact ⟨by rw [e1'h.out]; rfl, below_next hbr'h.out hb2'h.out⟩
   ·
    have t1 : (((nthP ps k).1 : Int) == (key : Int)) = false := by simp; omega
    generalize hy : (nthP ps k).1 = y at *
    generalize (nthP ps k).2 = z at *
    have hk'h := Lib.hid hk
    have hall'h := Lib.hid hall
    have hbr'h := Lib.hid hbr
    have hSr'h := Lib.hid hSr
    have hb2'h := Lib.hid hb2
    have he'h := Lib.hid he
    have hy'h := Lib.hid hy
    clear hk hall hbr hSr hb2 he hy
    go_wp2
    go_roundg (gk - 1)
    case measure => have := hk'h.out; omega
    case rel =>
     refine ⟨k + 1, by have := hk'h.out; omega, by go_num, fun j hj => ?_, below_next hbr'h.out hb2'h.out⟩
     by_cases e : j = k
     ·
      subst e; rw [hy'h.out]; exact he'h.out
     ·
      exact hall'h.out j (by omega)
  ·
   have e1 : (findP ps key).isSome = false := by rw [findP_none (ps := ps) (q := key) fun j hj => hall j (by have := hlen'h.out; omega)]; rfl
   have hk'h := Lib.hid hk
   have hall'h := Lib.hid hall
   have hbr'h := Lib.hid hbr
   have e1'h := Lib.hid e1
   clear hk hall hbr e1
   go_wp2
   go_ret
   exact ⟨by rw [e1'h.out]; rfl, hbr'h.out⟩
set_option maxHeartbeats 2000000 in
theorem dmany_any (sp : Option Addr) (n cap : Nat) (l : List Mm) (w : World) (h : MsIn w sp n l) :
  Calls Tryz.prog 19 #[.slice sp n cap] w fun e w' => e = .returned (.int .i64 (manyP l n : Int)) ∧ Below w.heap.size w w' := by
 have hlen := h.len
 have hmax := h.sl.2.1
 unfold maxLen at hmax
 have hlen'h := Lib.hid hlen
 have hmax'h := Lib.hid hmax
 have h'h := Lib.hid h
 clear hlen hmax h
 go_enter Tryz.func19, Tryz.ntmps19
 go_wp2
 go_loopg [3, 8] n (fun q v3 v8 wr => ∃ j : Nat, j + q = n ∧ v8 = .int .i64 (j : Int) ∧ v3 = .int .i64 (manyP l j : Int) ∧ Below w.heap.size w wr)
 case atStart => exact ⟨0, by omega, rfl, rfl, Below.refl _ _⟩
 case round =>
  obtain ⟨j, hj, rfl, rfl, hB⟩ := hrel
  by_cases hlt : j < n
  ·
   have i3 : (j : Int) < (n : Int) := by omega
   have i4 : (0 : Int) ≤ (j : Int) := by omega
   have i5 : (j : Int) + 1 ≤ 9223372036854775807 := by have := hmax'h.out; omega
   have hml := manyP_le l j
   have hms := manyP_succ l j
   obtain ⟨mj, hmj⟩ : ∃ mj, mj = manyP l j := ⟨_, rfl⟩
   rw [← hmj] at hml hms ⊢
   have i6 : (mj : Int) + 1 ≤ 9223372036854775807 := by omega
   have i7 : (0 : Int) ≤ (mj : Int) := by omega
   have hS := h'h.out.below hB
   obtain ⟨b, off, rfl⟩ := slk_some hS.sl (by omega)
   have hjl : j < l.length := by have := hlen'h.out; omega
   obtain ⟨x, hx0⟩ : ∃ x, x = nthM l j := ⟨_, rfl⟩
   have hcl := fun (i : Nat) (v : Value) (hi : i < 13) (hv : (mmL x)[i]? = some v) => hS.cells hjl (i := i) (v := v) hi (by rw [← hx0]; exact hv)
   rw [← hx0] at hms
   have hB3 := (Below.refl wr.heap.size wr).alloc (Nat.le_refl _) (.cells (mmA x) 55)
   unfold rangesM at hms
   clear hx0 hS hmj hml
   obtain ⟨⟨goerx, ⟨opx, kyx, cax, cbx⟩, ⟨errx, valx, donex⟩, prsx, beganx, atx, overx, toldx⟩, ppx, pnx, pcx, tpx, tnx, tcx⟩ := x
   have e0 := hcl 0 _ (by omega) rfl
   have e1 := hcl 1 _ (by omega) rfl
   have e2 := hcl 2 _ (by omega) rfl
   have e3 := hcl 3 _ (by omega) rfl
   have e4 := hcl 4 _ (by omega) rfl
   have e5 := hcl 5 _ (by omega) rfl
   have e6 := hcl 6 _ (by omega) rfl
   have e7 := hcl 7 _ (by omega) rfl
   have e8 := hcl 8 _ (by omega) rfl
   have e9 := hcl 9 _ (by omega) rfl
   have ea := hcl 10 _ (by omega) rfl
   have eb := hcl 11 _ (by omega) rfl
   have ec := hcl 12 _ (by omega) rfl
   simp only [Nat.add_zero] at e0
   simp only [mmA] at *
   clear hcl
   have hj'h := Lib.hid hj
   have hB'h := Lib.hid hB
   have hB3'h := Lib.hid hB3
   have hjl'h := Lib.hid hjl
   have hlt'h := Lib.hid hlt
   clear hj hB hB3 hjl hlt
   by_cases h6 : opx = 6
   ·
    have c1 : (opx != 6) = false := by simp [h6]
    have hms2 : manyP l (j + 1) = mj := by rw [hms]; simp [h6]
    clear h6 hms
    have hms2'h := Lib.hid hms2
    clear hms2
    go_wp2
    go_roundg (gk - 1)
    case measure => have := hj'h.out; have := hlt'h.out; omega
    case rel => exact ⟨j + 1, by have := hj'h.out; have := hlt'h.out; omega, by go_num, by rw [hms2'h.out], below_next hB'h.out hB3'h.out⟩
   ·
    have c1 : (opx != 6) = true := by simp [h6]
    have hms2 : manyP l (j + 1) = mj + 1 := by rw [hms]; simp [h6]
    clear h6 hms
    have hms2'h := Lib.hid hms2
    clear hms2
    go_wp2
    go_roundg (gk - 1)
    case measure => have := hj'h.out; have := hlt'h.out; omega
    case rel => exact ⟨j + 1, by have := hj'h.out; have := hlt'h.out; omega, by go_num, by rw [hms2'h.out]; go_num, below_next hB'h.out hB3'h.out⟩
  ·
   have i3 : ¬ (j : Int) < (n : Int) := by omega
   obtain rfl : j = n := by omega
   clear hlt hj
   have hB'h := Lib.hid hB
   clear hB
   go_wp2
   go_ret
   exact ⟨rfl, hB'h.out⟩
end Go.Proofs.YtogeohjeabbmaaaGreatDoor
