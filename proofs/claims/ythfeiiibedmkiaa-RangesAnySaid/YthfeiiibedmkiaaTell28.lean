/-
  RangesTell: which pairs may be told in a time.
-/
import Derived.Test.YthfeiiibedmkiaaPr3
import Derived.Test.YthfeiiibedmkiaaRanY
set_option linter.unusedSimpArgs false
set_option linter.unusedVariables false
set_option maxRecDepth 100000
namespace Go.Proofs.Ythfeiiibedmkiaa
open Go.RowKit

theorem ChIn.below {w w' : World} {sp : Option Addr} {n cap : Nat} {x : List Ch} (h : ChIn w sp n cap x) (hb : Below w.heap.size w w') : ChIn w' sp n cap x := ⟨h.sl.below hb, h.ok, h.nil, h.le⟩
theorem RowIn.below {w w' : World} {sp : Option Addr} {n cap : Nat} {ps : Ps} (h : RowIn w sp n cap ps) (hb : Below w.heap.size w w') : RowIn w' sp n cap ps := ⟨h.sl.below hb, h.ok, h.nil, h.le⟩
theorem rpL_len (x : PRow) : (rpL x).length = 1 := rfl
def nthR (l : List PRow) (k : Nat) : PRow := l.getD k ⟨none, 0, 0, []⟩
theorem nthR_at {l : List PRow} {k : Nat} (h : k < l.length) : l[k]? = some (nthR l k) := by
  unfold nthR; rw [List.getD_eq_getElem?_getD, List.getElem?_eq_getElem h]; rfl
theorem nthR_mem {l : List PRow} {k : Nat} (h : k < l.length) : nthR l k ∈ l := by
  exact List.mem_of_getElem? (nthR_at h)
theorem rows_cell {w : World} {b off n : Nat} {l : List PRow} (h : SlK w 1 (some ⟨b, off, none⟩) n (l.flatMap rpL)) {k : Nat} (hk : k < l.length) :
    w.cell? ⟨b, off + k, none⟩ = some (.slice (nthR l k).sp (nthR l k).len (nthR l k).cap) := by
  have := slk_cell0 rpL_len h (nthR_at hk) (by decide) rfl
  rwa [Nat.mul_one] at this
/-- The changes are as they were. -/
theorem same_line {W : World} {sp sp' : Option Addr} {n n' cap cap' : Nat} {l : List Ch} (h : Ln W sp n cap l) (h' : Ln W sp' n' cap' l) :
    Calls Try.prog 19 #[.slice sp n cap, .slice sp' n' cap'] W fun e w' => e = .returned (.bool true) ∧ ∃ d, w' = W.drewN d := by
  have := equalC_any sp sp' n n' cap cap' l l W h.sl h'.sl
  rwa [decide_eq_true rfl] at this
set_option maxHeartbeats 8000000 in
theorem walk_RangesTell (s0 : Option Addr) (n0 c0 : Nat) (x : List Ch) (f t : Int) (s2 : Option Addr) (n2 c2 : Nat) (rows : List PRow) (w : World) (in0 : ChIn w s0 n0 c0 x) (ok1 : TmOk (f, t)) (in2 : RowsIn w s2 n2 c2 rows) :
    Calls Try.prog 4 #[.slice s0 n0 c0, .agg (tmA f t), .slice s2 n2 c2] w fun e w' => e = .returned (.bool true) ∧ Below w.heap.size w w' := by
  have WK := fun w => wakes28_any w
  have hO := (Hs.nil w).new (tmA f t) 43
  obtain ⟨W, hW⟩ : ∃ W, W = w.alloc (.cells (tmA f t) 43) := ⟨_, rfl⟩
  rw [← hW] at hO
  have hlen : n2 = rows.length := slk_len rpL_len (by decide) in2.sl
  have hmax := in2.sl.2.1
  unfold maxLen at hmax
  have WK'h := Lib.hid WK
  have hO'h := Lib.hid hO
  have in0'h := Lib.hid in0
  have ok1'h := Lib.hid ok1
  have in2'h := Lib.hid in2
  have hlen'h := Lib.hid hlen
  clear WK hO in0 ok1 in2 hlen
  go_enter Try.func4, Try.ntmps4
  go_upto_region 1 with fail
  rw [← hW]
  clear hW
  go_upto_region 3 with (first | (go_at_call 9; refine (WK'h.out _).mono ?_; rintro e w1 ⟨rfl, hb1⟩))
  have H1 := hO'h.out.next hb1
  clear hb1
  have H1'h := Lib.hid H1
  clear H1
  go_upto_region 4 with (first | (go_at_call 10; refine (few_ln s0 n0 c0 x _ (in0'h.out.below H1'h.out.old)).mono ?_; rintro e w2 ⟨sl, n, cl, rfl, hb2, L2⟩))
  have H2 := H1'h.out.next hb2
  clear hb2
  obtain ⟨l, hl⟩ : ∃ l, l = x.take 24 := ⟨_, rfl⟩
  rw [← hl] at L2
  obtain ⟨rgt, hrgt⟩ : ∃ b, b = rightL l := ⟨_, rfl⟩
  have H2'h := Lib.hid H2
  have L2'h := Lib.hid L2
  have hl'h := Lib.hid hl
  have hrgt'h := Lib.hid hrgt
  clear H2 L2 hl hrgt
  go_upto_region 5 with (first | (go_at_call 11; refine (right_ln L2'h.out).mono ?_; rw [← hrgt'h.out]; rintro e w3 ⟨rfl, hb3⟩))
  have H3 := H2'h.out.next hb3
  have L3 := L2'h.out.below hb3
  clear hb3 H1'h H2'h L2'h
  have H3'h := Lib.hid H3
  have L3'h := Lib.hid L3
  clear H3 L3
  go_wp2
  go_loopg [21] n2 (fun q i wr => ∃ k : Nat, k + q = n2 ∧ k ≤ 8 ∧ i = .int .i64 k ∧ Hs w [(w.heap.size, tmA f t, 43)] wr ∧ Ln wr sl n cl l)
  case atStart => exact ⟨0, by omega, by omega, rfl, H3'h.out, L3'h.out⟩
  case round =>
    obtain ⟨k, hq, hk8, rfl, hH, hL⟩ := hrel
    by_cases hlt : k < n2
    · have hkl : k < rows.length := by have := hlen'h.out; omega
      obtain ⟨rb, ro, rfl⟩ := slk_some in2'h.out.sl (by omega)
      have c1 := rows_cell (in2'h.out.sl.below hH.old) hkl
      have hR := (in2'h.out.ok _ (nthR_mem hkl)).below hH.old
      generalize nthR rows k = R at c1 hR
      obtain ⟨rs, rn, rc, told⟩ := R
      simp only at c1 hR
      have hi1 : (k : Int) < (n2 : Int) := by omega
      have h0k : (0 : Int) ≤ (k : Int) := by omega
      by_cases h8 : k = 8
      · have h8' : ((k : Int) == 8) = true := by rw [h8]; rfl
        clear hR hlt
        have hH'h := Lib.hid hH
        have hL'h := Lib.hid hL
        have hq'h := Lib.hid hq
        have h8'h := Lib.hid h8
        have hk8'h := Lib.hid hk8
        have hkl'h := Lib.hid hkl
        clear hH hL hq h8 hk8 hkl
        go_wp2_with (first | (go_at_call 10; refine (few_ln s0 n0 c0 x _ (in0'h.out.below hH'h.out.old)).mono ?_; rintro e wz ⟨sz, mz, cz, rfl, hbz, Lz⟩) | (go_at_call 19; refine (same_line (hL'h.out.below hbz) (by rw [hl'h.out]; exact Lz)).mono ?_; rintro e wy ⟨rfl, dy, rfl⟩))
        go_ret
        exact ⟨rfl, ((hH'h.out.next hbz).drewN dy).old⟩
      · have h8' : ((k : Int) == 8) = false := by simp; omega
        have hk7 : k < 8 := by omega
        clear h8 hlt
        obtain ⟨m, hm⟩ : ∃ m, m = min rn 12 := ⟨_, rfl⟩
        have hmv : (if (12 : Int) < (rn : Int) then (12 : Int) else (rn : Int)) = (m : Int) := by split <;> omega
        have hrn := prs_len hR.sl
        obtain ⟨tk, htk⟩ : ∃ tk, tk = told.take 12 := ⟨_, rfl⟩
        have hSt : SlK wr 2 rs m (prs tk) := by
          have h1 := hR.sl.take m (by omega)
          rw [prs_take] at h1
          have : told.take m = tk := by
            rw [htk]
            by_cases hx : rn ≤ 12
            · rw [List.take_of_length_le (by omega), List.take_of_length_le (by omega)]
            · rw [show m = 12 by omega]
          rwa [this] at h1
        have hPt : P64 tk := by rw [htk]; exact fun p hp => hR.ok p (List.mem_of_mem_take hp)
        have hmc : (m : Int) ≤ (rc : Int) := by have := hR.le; omega
        have hm0 : (0 : Int) ≤ (m : Int) := by omega
        have hm12 : m ≤ 12 := by omega
        have hnl := hR.nil
        have hrn' : rn ≤ rc := hR.le
        have hrmax : (rn : Int) ≤ 9223372036854775807 := by have := hR.sl.2.1; unfold maxLen at this; omega
        clear hm hrn htk hR
        have hH'h := Lib.hid hH
        have hL'h := Lib.hid hL
        have hq'h := Lib.hid hq
        have hSt'h := Lib.hid hSt
        have hPt'h := Lib.hid hPt
        have hnl'h := Lib.hid hnl
        have hkl'h := Lib.hid hkl
        have hm12'h := Lib.hid hm12
        clear hH hL hq hSt hPt hnl hkl hm12
        go_upto_region 10 with (go_at_call 20; refine (cloneP_any rs m rc (prs tk) wr (by have := hm12'h.out; omega) (prs_one _) hnl'h.out hSt'h.out).mono ?_; rintro e w5 ⟨s5, c5, rfl, hb5, hrow5⟩)
        have H5 := hH'h.out.next hb5
        have L5 := hL'h.out.below hb5
        have S5 : SlK w5 2 s5 m (prs tk) := SlK.of_row hrow5 (by have := hm12'h.out; unfold maxLen; omega)
        have N5 := row_cap hrow5
        clear hb5 hrow5 c1 hmv hmc hm0 hrn' hrmax
        have H5'h := Lib.hid H5
        have L5'h := Lib.hid L5
        have S5'h := Lib.hid S5
        have N5'h := Lib.hid N5
        clear H5 L5 S5 N5
        go_upto_region 11 with (go_at_call 20; refine (cloneP_any s5 m c5 (prs tk) w5 (by have := hm12'h.out; omega) (prs_one _) N5'h.out S5'h.out).mono ?_; rintro e w6 ⟨s6, c6, rfl, hb6, hrow6⟩)
        have H6 := H5'h.out.next hb6
        have L6 := L5'h.out.below hb6
        have S6 : SlK w6 2 s6 m (prs tk) := SlK.of_row hrow6 (by have := hm12'h.out; unfold maxLen; omega)
        have T6 := S5'h.out.below hb6
        clear hb6 hrow6 H5'h L5'h S5'h N5'h hH'h hL'h hSt'h hnl'h
        cases rgt with
        | false =>
          have hr : rightL l = false := hrgt'h.out.symm
          have hE : rangeE l f t tk = 380 := by have := fail_wrong (f := f) (t := t) hr; rw [range_fail tk (by omega), this]
          have H6'h := Lib.hid H6
          have L6'h := Lib.hid L6
          have S6'h := Lib.hid S6
          have T6'h := Lib.hid T6
          have hr'h := Lib.hid hr
          have hE'h := Lib.hid hE
          clear H6 L6 S6 T6 hr hE
          go_wp2_with (first | guard_target = wpList _ _ _ (Oper.mk _ (.load _ (.tmp 4)) _ _ _ _ :: _) _ _; refine wpList_load_row rfl 43 (.tmp 4) rfl (w.heap.size) rfl 43 (tmA f t) (0, 0) _ H6'h.out.rows.1 Try.underlying43 rfl info_tm ?_ | (go_at_call 23; refine (range_ln L6'h.out f t s5 m c5 tk T6'h.out hPt'h.out (by have := hm12'h.out; omega)).mono ?_; rw [hE'h.out]; rintro e w8 ⟨rfl, hb8⟩) | (go_at_call 24; refine (equalP_any s5 s6 m m c5 c6 tk tk _ (T6'h.out.below hb8) (S6'h.out.below hb8)).mono ?_; rw [decide_eq_true rfl]; rintro e w9 ⟨rfl, d9, rfl⟩))
          go_roundg (gk - 1)
          case measure => have := hq'h.out; omega
          case rel => exact ⟨k + 1, by have := hq'h.out; omega, by omega, by go_num, (H6'h.out.next hb8).drewN d9, (L6'h.out.below hb8).below (below_drewN' _ d9)⟩
        | true =>
          have hr : rightL l = true := hrgt'h.out.symm
          cases hsp : spanB f t with
          | false =>
            have hE : rangeE l f t tk = 2 := by have := fail_span hr hsp; rw [range_fail tk (by omega), this]
            have H6'h := Lib.hid H6
            have L6'h := Lib.hid L6
            have S6'h := Lib.hid S6
            have T6'h := Lib.hid T6
            have hr'h := Lib.hid hr
            have hE'h := Lib.hid hE
            have hsp'h := Lib.hid hsp
            clear H6 L6 S6 T6 hr hE hsp
            go_wp2_with (first | guard_target = wpList _ _ _ (Oper.mk _ (.load _ (.tmp 4)) _ _ _ _ :: _) _ _; refine wpList_load_row rfl 43 (.tmp 4) rfl (w.heap.size) rfl 43 (tmA f t) (0, 0) _ H6'h.out.rows.1 Try.underlying43 rfl info_tm ?_ | (go_at_call 21; refine (rdSpan_any f t _).mono ?_; rw [hsp'h.out]; rintro e w7 ⟨rfl, hb7⟩) | guard_target = wpList _ _ _ (Oper.mk _ (.load _ (.tmp 4)) _ _ _ _ :: _) _ _; refine wpList_load_row rfl 43 (.tmp 4) rfl (w.heap.size) rfl 43 (tmA f t) (0, 0) _ (H6'h.out.next hb7).rows.1 Try.underlying43 rfl info_tm ?_ | (go_at_call 23; refine (range_ln (L6'h.out.below hb7) f t s5 m c5 tk (T6'h.out.below hb7) hPt'h.out (by have := hm12'h.out; omega)).mono ?_; rw [hE'h.out]; rintro e w8 ⟨rfl, hb8⟩) | (go_at_call 24; refine (equalP_any s5 s6 m m c5 c6 tk tk _ ((T6'h.out.below hb7).below hb8) ((S6'h.out.below hb7).below hb8)).mono ?_; rw [decide_eq_true rfl]; rintro e w9 ⟨rfl, d9, rfl⟩))
            go_roundg (gk - 1)
            case measure => have := hq'h.out; omega
            case rel => exact ⟨k + 1, by have := hq'h.out; omega, by omega, by go_num, ((H6'h.out.next hb7).next hb8).drewN d9, ((L6'h.out.below hb7).below hb8).below (below_drewN' _ d9)⟩
          | true =>
            have hf := fail_ok hr hsp
            obtain ⟨E, hE⟩ : ∃ E, E = rangeE l f t tk := ⟨_, rfl⟩
            have hEE : ((E : Int) != (E : Int)) = false := by simp
            have H6'h := Lib.hid H6
            have L6'h := Lib.hid L6
            have S6'h := Lib.hid S6
            have T6'h := Lib.hid T6
            have hr'h := Lib.hid hr
            have hE'h := Lib.hid hE
            have hsp'h := Lib.hid hsp
            have hf'h := Lib.hid hf
            clear H6 L6 S6 T6 hr hE hsp hf
            go_upto_region 16 with (first | guard_target = wpList _ _ _ (Oper.mk _ (.load _ (.tmp 4)) _ _ _ _ :: _) _ _; refine wpList_load_row rfl 43 (.tmp 4) rfl (w.heap.size) rfl 43 (tmA f t) (0, 0) _ H6'h.out.rows.1 Try.underlying43 rfl info_tm ?_ | (go_at_call 21; refine (rdSpan_any f t _).mono ?_; rw [hsp'h.out]; rintro e w7 ⟨rfl, hb7⟩) | guard_target = wpList _ _ _ (Oper.mk _ (.load _ (.tmp 4)) _ _ _ _ :: _) _ _; refine wpList_load_row rfl 43 (.tmp 4) rfl (w.heap.size) rfl 43 (tmA f t) (0, 0) _ (H6'h.out.next hb7).rows.1 Try.underlying43 rfl info_tm ?_ | (go_at_call 22; refine (rdRange_ln (L6'h.out.below hb7) f t s5 m c5 tk (T6'h.out.below hb7) (by have := hm12'h.out; omega) hf'h.out).mono ?_; rw [← hE'h.out]; rintro e w10 ⟨rfl, hb10⟩))
            have H7 := (H6'h.out.next hb7).next hb10
            have L7 := (L6'h.out.below hb7).below hb10
            have S7 := (S6'h.out.below hb7).below hb10
            have T7 := (T6'h.out.below hb7).below hb10
            clear hb7 hb10 H6'h L6'h S6'h T6'h
            have H7'h := Lib.hid H7
            have L7'h := Lib.hid L7
            have S7'h := Lib.hid S7
            have T7'h := Lib.hid T7
            clear H7 L7 S7 T7
            go_wp2_with (first | guard_target = wpList _ _ _ (Oper.mk _ (.load _ (.tmp 4)) _ _ _ _ :: _) _ _; refine wpList_load_row rfl 43 (.tmp 4) rfl (w.heap.size) rfl 43 (tmA f t) (0, 0) _ H7'h.out.rows.1 Try.underlying43 rfl info_tm ?_ | (go_at_call 23; refine (range_ln L7'h.out f t s5 m c5 tk T7'h.out hPt'h.out (by have := hm12'h.out; omega)).mono ?_; rw [← hE'h.out]; rintro e w8 ⟨rfl, hb8⟩) | (go_at_call 24; refine (equalP_any s5 s6 m m c5 c6 tk tk _ (T7'h.out.below hb8) (S7'h.out.below hb8)).mono ?_; rw [decide_eq_true rfl]; rintro e w9 ⟨rfl, d9, rfl⟩))
            go_roundg (gk - 1)
            case measure => have := hq'h.out; omega
            case rel => exact ⟨k + 1, by have := hq'h.out; omega, by omega, by go_num, (H7'h.out.next hb8).drewN d9, (L7'h.out.below hb8).below (below_drewN' _ d9)⟩
    · have hi1 : ¬ (k : Int) < (n2 : Int) := by omega
      clear hlt
      have hH'h := Lib.hid hH
      have hL'h := Lib.hid hL
      have hq'h := Lib.hid hq
      have hk8'h := Lib.hid hk8
      clear hH hL hq hk8
      go_wp2_with (first | (go_at_call 10; refine (few_ln s0 n0 c0 x _ (in0'h.out.below hH'h.out.old)).mono ?_; rintro e wz ⟨sz, mz, cz, rfl, hbz, Lz⟩) | (go_at_call 19; refine (same_line (hL'h.out.below hbz) (by rw [hl'h.out]; exact Lz)).mono ?_; rintro e wy ⟨rfl, dy, rfl⟩))
      go_ret
      exact ⟨rfl, ((hH'h.out.next hbz).drewN dy).old⟩
end Go.Proofs.Ythfeiiibedmkiaa
