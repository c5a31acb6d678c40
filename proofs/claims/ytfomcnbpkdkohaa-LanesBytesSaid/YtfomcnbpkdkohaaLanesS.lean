/-
  The document's answer for lanes, the masks and the words that are put together.
-/
import Derived.Test.YtfomcnbpkdkohaaLanesR
set_option linter.unusedSimpArgs false
set_option linter.unusedVariables false
namespace Go.Proofs.Ytfomcnbpkdkohaa
open Go.RowKit

theorem row_cell {w : World} {base : Nat} {e : TypeId} {g n cap : Nat} {xs : List Value} (h : w.ownsRow base e 1 (.slice (some ⟨g, 0, none⟩) n cap) n xs) {j : Nat} {u : Value} (hj : j < n) (hu : xs[j]? = some u) : w.cell? ⟨g, j, none⟩ = some u := by
  rw [h.cellAt j (by omega)]; exact hu
theorem row_size {w : World} {base : Nat} {e : TypeId} {v : Value} {n : Nat} {xs : List Value} (h : w.ownsRow base e 1 v n xs) : xs.length = n := by rw [h.1]; omega


def eqF (x b i : Nat) : Bool := byteAt x i == b
def belF (x b i : Nat) : Bool := decide (byteAt x i < b)
def alF (v x i : Nat) : Bool := byteAt v i == byteAt x i
theorem eqF_mask (x b : Nat) : maskOf ((List.range 8).map (eqF x b)) = equalM x b := rfl
theorem belF_mask (x b : Nat) : maskOf ((List.range 8).map (belF x b)) = belowM x b := rfl
theorem alF_mask (v x : Nat) : maskOf ((List.range 8).map (alF v x)) = alikeM v x := rfl

theorem refEqual_any (x b : Nat) (w : World) (hx : x < 2 ^ 64) (hb : b < 256) : Calls Try.prog 18 #[.int .u64 x, .int .u8 b] w fun e w' => e = .returned (.int .u8 (equalM x b)) ∧ Below w.heap.size w w' := by
  have HX := Lib.hid hx
  clear hx
  go_enter Try.func18, Try.ntmps18
  go_wp2_with fail
  refine (refBytes_any x _ HX.out).mono ?_
  rintro e w1 ⟨g, cap, rfl, hb1, hrow⟩
  have HR := Lib.hid hrow
  clear hrow
  go_wp2
  go_loopg [5, 11] 8 (fun q y i wr => ∃ k : Nat, k + q = 8 ∧ i = .int .i64 k ∧ y = .int .u8 (maskK (eqF x b) k) ∧ wr = w1)
  case atStart => exact ⟨0, rfl, rfl, by rw [maskK_zero]; rfl, rfl⟩
  case round =>
    obtain ⟨k, hk, rfl, rfl, rfl⟩ := hrel
    have HK := Lib.hid hk
    have hkn : k ≤ 8 := by omega
    clear hk
    by_cases h8 : k < 8
    · have hdk : decide ((k : Int) < 8) = true := by simp; omega
      have c1 : wr.cell? ⟨g, k, none⟩ = some (.int .u8 (byteAt x k)) := row_cell HR.out h8 (by rw [u8s_get (by rw [length_bytes8]; exact h8), nthN_bytes8 x k h8])
      by_cases hf : (eqF x b) k = true
      · have hm := maskK_yes (eqF x b) k h8 hf
        have hlt := maskK_lt (eqF x b) (k + 1)
        rw [hm] at hlt
        have hw := refWith_any (maskK (eqF x b) k) k wr h8 hlt
        rw [← hm] at hw
        have HW := Lib.hid hw
        have ht : ((byteAt x k : Int) == (b : Int)) = true := by simp [eqF] at hf ⊢; omega
        clear hm hlt hw hf
        go_wp2_with (first | (go_at_call 48; refine HW.out.mono ?_; rintro e w' ⟨rfl, rfl⟩))
        go_roundg (gk - 1)
        case measure => have := HK.out; omega
        case rel => exact ⟨k + 1, by have := HK.out; omega, by go_num, rfl, rfl⟩
      · have hm := Lib.hid (maskK_no (eqF x b) k (by simpa using hf))
        have ht : ((byteAt x k : Int) == (b : Int)) = false := by simp [eqF] at hf ⊢; omega
        clear hf
        go_wp2
        go_roundg (gk - 1)
        case measure => have := HK.out; omega
        case rel => exact ⟨k + 1, by have := HK.out; omega, by go_num, by rw [hm.out], rfl⟩
    · obtain rfl : k = 8 := by omega
      rw [maskK_full, eqF_mask]
      go_wp2
      go_ret
      exact ⟨rfl, hb1⟩

theorem refBelow_any (x b : Nat) (w : World) (hx : x < 2 ^ 64) (hb : b < 256) : Calls Try.prog 20 #[.int .u64 x, .int .u8 b] w fun e w' => e = .returned (.int .u8 (belowM x b)) ∧ Below w.heap.size w w' := by
  have HX := Lib.hid hx
  clear hx
  go_enter Try.func20, Try.ntmps20
  go_wp2_with fail
  refine (refBytes_any x _ HX.out).mono ?_
  rintro e w1 ⟨g, cap, rfl, hb1, hrow⟩
  have HR := Lib.hid hrow
  clear hrow
  go_wp2
  go_loopg [5, 11] 8 (fun q y i wr => ∃ k : Nat, k + q = 8 ∧ i = .int .i64 k ∧ y = .int .u8 (maskK (belF x b) k) ∧ wr = w1)
  case atStart => exact ⟨0, rfl, rfl, by rw [maskK_zero]; rfl, rfl⟩
  case round =>
    obtain ⟨k, hk, rfl, rfl, rfl⟩ := hrel
    have HK := Lib.hid hk
    have hkn : k ≤ 8 := by omega
    clear hk
    by_cases h8 : k < 8
    · have hdk : decide ((k : Int) < 8) = true := by simp; omega
      have c1 : wr.cell? ⟨g, k, none⟩ = some (.int .u8 (byteAt x k)) := row_cell HR.out h8 (by rw [u8s_get (by rw [length_bytes8]; exact h8), nthN_bytes8 x k h8])
      by_cases hf : (belF x b) k = true
      · have hm := maskK_yes (belF x b) k h8 hf
        have hlt := maskK_lt (belF x b) (k + 1)
        rw [hm] at hlt
        have hw := refWith_any (maskK (belF x b) k) k wr h8 hlt
        rw [← hm] at hw
        have HW := Lib.hid hw
        have ht : decide (byteAt x k < b) = true := by simpa [belF] using hf
        clear hm hlt hw hf
        go_wp2_with (first | (go_at_call 48; refine HW.out.mono ?_; rintro e w' ⟨rfl, rfl⟩))
        go_roundg (gk - 1)
        case measure => have := HK.out; omega
        case rel => exact ⟨k + 1, by have := HK.out; omega, by go_num, rfl, rfl⟩
      · have hm := Lib.hid (maskK_no (belF x b) k (by simpa using hf))
        have ht : decide (byteAt x k < b) = false := by simpa [belF] using hf
        clear hf
        go_wp2
        go_roundg (gk - 1)
        case measure => have := HK.out; omega
        case rel => exact ⟨k + 1, by have := HK.out; omega, by go_num, by rw [hm.out], rfl⟩
    · obtain rfl : k = 8 := by omega
      rw [maskK_full, belF_mask]
      go_wp2
      go_ret
      exact ⟨rfl, hb1⟩
theorem refAlike_any (v x : Nat) (w : World) (hx : x < 2 ^ 64) (hv : v < 2 ^ 64) : Calls Try.prog 21 #[.int .u64 v, .int .u64 x] w fun e w' => e = .returned (.int .u8 (alikeM v x)) ∧ Below w.heap.size w w' := by
  have HX := Lib.hid hx
  have HV := Lib.hid hv
  clear hx hv
  go_enter Try.func21, Try.ntmps21
  go_wp2_with fail
  refine (refBytes_any x _ HX.out).mono ?_
  rintro e w1 ⟨g, cap, rfl, hb1, hrow⟩
  have HR := Lib.hid hrow
  clear hrow
  go_wp2
  go_loopg [5, 11] 8 (fun q y i wr => ∃ k : Nat, k + q = 8 ∧ i = .int .i64 k ∧ y = .int .u8 (maskK (alF v x) k) ∧ wr = w1)
  case atStart => exact ⟨0, rfl, rfl, by rw [maskK_zero]; rfl, rfl⟩
  case round =>
    obtain ⟨k, hk, rfl, rfl, rfl⟩ := hrel
    have HK := Lib.hid hk
    have hkn : k ≤ 8 := by omega
    clear hk
    by_cases h8 : k < 8
    · have hdk : decide ((k : Int) < 8) = true := by simp; omega
      have c1 : wr.cell? ⟨g, k, none⟩ = some (.int .u8 (byteAt x k)) := row_cell HR.out h8 (by rw [u8s_get (by rw [length_bytes8]; exact h8), nthN_bytes8 x k h8])
      by_cases hf : (alF v x) k = true
      · have hm := maskK_yes (alF v x) k h8 hf
        have hlt := maskK_lt (alF v x) (k + 1)
        rw [hm] at hlt
        have hw := refWith_any (maskK (alF v x) k) k wr h8 hlt
        rw [← hm] at hw
        have HW := Lib.hid hw
        have ht : ((byteAt x k : Int) == (byteAt v k : Int)) = true := by simp [alF] at hf ⊢; omega
        have HA := Lib.hid (refAt_any v k wr HV.out (by omega))
        clear hm hlt hw hf
        go_wp2_with (first | (go_at_call 29; refine HA.out.mono ?_; clear HA; rintro e w' ⟨rfl, rfl⟩) | (go_at_call 48; refine HW.out.mono ?_; rintro e w' ⟨rfl, rfl⟩))
        go_roundg (gk - 1)
        case measure => have := HK.out; omega
        case rel => exact ⟨k + 1, by have := HK.out; omega, by go_num, rfl, rfl⟩
      · have hm := Lib.hid (maskK_no (alF v x) k (by simpa using hf))
        have ht : ((byteAt x k : Int) == (byteAt v k : Int)) = false := by simp [alF] at hf ⊢; omega
        have HA := Lib.hid (refAt_any v k wr HV.out (by omega))
        clear hf
        go_wp2_with (first | (go_at_call 29; refine HA.out.mono ?_; clear HA; rintro e w' ⟨rfl, rfl⟩))
        go_roundg (gk - 1)
        case measure => have := HK.out; omega
        case rel => exact ⟨k + 1, by have := HK.out; omega, by go_num, by rw [hm.out], rfl⟩
    · obtain rfl : k = 8 := by omega
      rw [maskK_full, alF_mask]
      go_wp2
      go_ret
      exact ⟨rfl, hb1⟩


theorem refPut_any (x b n : Nat) (w : World) (hx : x < 2 ^ 64) (hb : b < 256) (hn : n < 8) : Calls Try.prog 30 #[.int .u64 x, .int .u8 b, .int .i64 n] w fun e w' => e = .returned (.int .u64 (setLane x n b)) ∧ Below w.heap.size w w' := by
  have HX := Lib.hid hx
  clear hx
  go_enter Try.func30, Try.ntmps30
  go_wp2_with fail
  refine (refBytes_any x _ HX.out).mono ?_
  rintro e w1 ⟨g, cap, rfl, hb1, hrow⟩
  have c1 : w1.cell? ⟨g, n, none⟩ = some (.int .u8 (byteAt x n)) := row_cell hrow hn (by rw [u8s_get (by rw [length_bytes8]; exact hn), nthN_bytes8 x n hn])
  have f1 := hrow.frozenAt n
  have hg := (hrow.lt g rfl).1
  have hst := (hrow.stored n (.int .u8 b)).1
  have HS := Lib.hid hst
  clear hst hrow
  have hni : (n : Int) < 8 := by omega
  go_wp2_with fail
  have hset : (u8s (bytes8 x)).set n (.int .u8 b) = u8s ((bytes8 x).set n b) := by unfold u8s; rw [List.map_set]
  have hset2 : ofW ((bytes8 x).set n b) = setLane x n b := by
    unfold ofW setLane; rw [List.take_of_length_le (by simp [length_bytes8])]
  have hbyt : Bytey ((bytes8 x).set n b) := by
    intro c hc
    rcases List.mem_or_eq_of_mem_set hc with h | h
    · exact bytes8_bytey _ _ h
    · omega
  have hS := HS.out
  rw [hset] at hS
  refine (refOf_any (some ⟨g, 0, none⟩) 8 cap ((bytes8 x).set n b) _ hbyt (Sl.of_row hS (by unfold maxLen; omega))).mono ?_
  rw [hset2]
  clear hset hset2 hS hbyt
  rintro e w2 ⟨rfl, rfl⟩
  go_wp2
  go_ret
  exact ⟨rfl, hb1.setCell (p := ⟨g, n, none⟩) hg _⟩

/-! ### Blend -/
def blendK (v u m k : Nat) : List Nat := (List.range 8).map fun i => if (decide (i < k) && hasM m i) = true then byteAt u i else byteAt v i
theorem blendK_zero (v u m : Nat) : blendK v u m 0 = bytes8 v := by unfold blendK bytes8; exact List.map_congr_left fun i _ => by simp
theorem blendK_full (v u m : Nat) : ofW (blendK v u m 8) = blendW v u m := by
  unfold ofW blendW blendK
  rw [List.take_of_length_le (by simp)]
  exact congrArg word (List.map_congr_left fun i hi => by simp [List.mem_range.1 hi])
theorem blendK_bytey (v u m k : Nat) : Bytey (blendK v u m k) := bytey_range _ fun i => by split <;> exact byteAt_lt _ _
theorem blendK_no (v u m k : Nat) (h : hasM m k = false) : blendK v u m (k + 1) = blendK v u m k := by
  unfold blendK
  exact List.map_congr_left fun i _ => by
    by_cases h1 : i = k
    · subst h1; simp [h]
    · by_cases h2 : i < k
      · simp [h2, show i < k + 1 by omega]
      · simp [h2, show ¬ i < k + 1 by omega]
theorem blendK_yes (v u m k : Nat) (hk : k < 8) (h : hasM m k = true) : blendK v u m (k + 1) = (blendK v u m k).set k (byteAt u k) := by
  unfold blendK
  apply List.ext_getElem (by simp)
  intro i h1 h2
  simp only [List.getElem_map, List.getElem_range, List.getElem_set]
  by_cases h3 : k = i
  · subst h3; simp [h]
  · rw [if_neg h3]
    by_cases h4 : i < k
    · simp [h4, show i < k + 1 by omega]
    · simp [h4, show ¬ i < k + 1 by omega]
theorem blendK_length (v u m k : Nat) : (blendK v u m k).length = 8 := by simp [blendK]

theorem refBlend_any (v u m : Nat) (w : World) (hv : v < 2 ^ 64) (hu : u < 2 ^ 64) (hm : m < 256) : Calls Try.prog 34 #[.int .u64 v, .int .u64 u, .int .u8 m] w fun e w' => e = .returned (.int .u64 (blendW v u m)) ∧ Below w.heap.size w w' := by
  have HV := Lib.hid hv
  have HU := Lib.hid hu
  clear hv hu
  go_enter Try.func34, Try.ntmps34
  go_wp2_with fail
  refine (refBytes_any v _ HV.out).mono ?_
  rintro e w1 ⟨g, cap, rfl, hb1, hrow⟩
  have HR := Lib.hid hrow
  clear hrow
  go_wp2_with fail
  refine (refBytes_any u _ HU.out).mono ?_
  rintro e w2 ⟨g2, cap2, rfl, hb2, hrow2⟩
  have HR2 := Lib.hid hrow2
  have hg1 := HR.out.lt g rfl
  have hg2 := hrow2.lt g2 rfl
  have hR1 : w2.ownsRow w.heap.size 5 1 (.slice (some ⟨g, 0, none⟩) 8 cap) 8 (u8s (bytes8 v)) := ownsRow_next HR.out hb2
  have HR1 := Lib.hid hR1
  have hbb := Lib.hid (hb1.trans (hb2.mono hb1.size))
  clear hrow2 hR1 HR
  go_wp2
  go_loopg [15] 8 (fun q i wr => ∃ k : Nat, k + q = 8 ∧ i = .int .i64 k ∧ Below w.heap.size w wr ∧ wr.ownsRow w.heap.size 5 1 (.slice (some ⟨g, 0, none⟩) 8 cap) 8 (u8s (blendK v u m k)) ∧ wr.ownsRow w1.heap.size 5 1 (.slice (some ⟨g2, 0, none⟩) 8 cap2) 8 (u8s (bytes8 u)))
  case atStart => exact ⟨0, rfl, rfl, hbb.out, by rw [blendK_zero]; exact HR1.out, HR2.out⟩
  case round =>
    obtain ⟨k, hk, rfl, hB, hrow, hrow2⟩ := hrel
    have HK := Lib.hid hk
    have hkn : k ≤ 8 := by omega
    clear hk HR1 HR2 hbb hb1 hb2
    have HB := Lib.hid hB
    have HA := Lib.hid hrow
    have HC := Lib.hid hrow2
    clear hB hrow hrow2
    by_cases h8 : k < 8
    · have hdk : decide ((k : Int) < 8) = true := by simp; omega
      have hki : (k : Int) < 8 := by omega
      have c2 : wr.cell? ⟨g2, k, none⟩ = some (.int .u8 (byteAt u k)) := row_cell HC.out h8 (by rw [u8s_get (by rw [length_bytes8]; exact h8), nthN_bytes8 u k h8])
      have HH := Lib.hid (refHas_any m k wr hm h8)
      cases hf : hasM m k with
      | true =>
        have hst := Lib.hid (blendK_yes v u m k h8 hf)
        rw [hf] at HH
        have c1 : wr.cell? ⟨g, k, none⟩ = some (.int .u8 (nthN (blendK v u m k) k)) := row_cell HA.out h8 (u8s_get (by rw [blendK_length]; exact h8))
        have f1 := HA.out.frozenAt k
        clear hf
        go_wp2_with (first | (go_at_call 51; refine HH.out.mono ?_; clear HH; rintro e w' ⟨rfl, rfl⟩))
        go_roundg (gk - 1)
        case measure => have := HK.out; omega
        case rel =>
          refine ⟨k + 1, by have := HK.out; omega, by go_num, HB.out.setCell (p := ⟨g, k, none⟩) hg1.1 _, ?_, ?_⟩
          · have h3 := (HA.out.stored k (.int .u8 (byteAt u k))).1
            rw [show (u8s (blendK v u m k)).set k (.int .u8 (byteAt u k)) = u8s ((blendK v u m k).set k (byteAt u k)) by unfold u8s; rw [List.map_set], ← hst.out] at h3
            exact h3
          · exact ownsRow_setCell_below HC.out (a := ⟨g, k, none⟩) hg1.2 _
      | false =>
        have hst := Lib.hid (blendK_no v u m k hf)
        rw [hf] at HH
        clear hf
        go_wp2_with (first | (go_at_call 51; refine HH.out.mono ?_; clear HH; rintro e w' ⟨rfl, rfl⟩))
        go_roundg (gk - 1)
        case measure => have := HK.out; omega
        case rel => exact ⟨k + 1, by have := HK.out; omega, by go_num, HB.out, by rw [hst.out]; exact HA.out, HC.out⟩
    · obtain rfl : k = 8 := by omega
      go_wp2_with fail
      refine (refOf_any (some ⟨g, 0, none⟩) 8 cap (blendK v u m 8) _ (blendK_bytey _ _ _ _) (Sl.of_row HA.out (by unfold maxLen; omega))).mono ?_
      rw [blendK_full]
      rintro e w3 ⟨rfl, rfl⟩
      go_wp2
      go_ret
      exact ⟨rfl, HB.out⟩

end Go.Proofs.Ytfomcnbpkdkohaa
