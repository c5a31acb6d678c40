/-
  ProbeFirst, walked.
-/
import Derived.Test.YtkeegafebnhcpaaLawRows
set_option linter.unusedSimpArgs false
set_option linter.unusedVariables false
namespace Go.Proofs.Ytkeegafebnhcpaa
open Go.RowKit

/-! ### slices.Clone at []uint64 -/
theorem info_cloneU : (Try.prog.info? 26).map (fun i => (i.zero, i.size, i.bytes)) = some (some (.int .u64 0), 1, 8) := by kernel_rfl
theorem cloneU_nil (w : World) : Calls Try.prog 9 #[.slice none 0 0] w fun e w' => e = .returned (.slice none 0 0) ∧ w' = w := by
  have hnil := Lib.run_eql_slice_nil (P := Try.prog)
  go_enter Try.func9, Try.ntmps9
  go_wp2
  go_ret
  exact ⟨rfl, rfl⟩
theorem cloneU_some (ad : Addr) (n cap : Nat) (vs : List Value) (w : World) (hn : n ≤ 4096) (hone : ∀ v ∈ vs, v.oneCell' = true) (h : Sl w (some ad) n vs) :
    Calls Try.prog 9 #[.slice (some ad) n cap] w fun e w' => ∃ sp' cap', e = .returned (.slice sp' n cap') ∧ Below w.heap.size w w' ∧ w'.ownsRow w.heap.size 26 1 (.slice sp' n cap') n vs := by
  have hnil := Lib.run_eql_slice_nil (P := Try.prog)
  obtain ⟨i0, hi, hz0, hz1, hz2⟩ := info_parts info_cloneU
  have hown0 : (w.alloc (.cells #[] 26)).ownsRow w.heap.size 26 1 (.slice (some ⟨w.heap.size, 0, none⟩) 0 0) 0 [] :=
    ⟨rfl, .inr ⟨w.heap.size, 0, #[], rfl, Nat.le_refl _, World.alloc_heap_new _ _, Nat.le_refl _, Nat.zero_le _, rfl, rfl⟩⟩
  have hl := h.1
  have hcs : ∀ j u, vs[j]? = some u → (w.alloc (.cells #[] 26)).cell? (ad.add j) = some u := by
    intro j u hu
    have hj : j < vs.length := (List.getElem?_eq_some_iff.1 hu).1
    obtain ⟨b, off, he, hc⟩ := h.some' (by omega)
    cases he
    have hadd : (⟨b, off, none⟩ : Addr).add j = ⟨b, off + j, none⟩ := by unfold Addr.add; split <;> simp_all
    rw [hadd]
    exact keep_alloc _ _ _ _ (hc j u hu)
  have hcs'h := Lib.hid hcs
  have hl'h := Lib.hid hl
  have hone'h := Lib.hid hone
  clear hcs hl hone
  clear h
  go_enter Try.func9, Try.ntmps9
  go_wp2_with (at_builtin; refine wpList_append_own _ rfl (.tmp 5) (.tmp 6) 23 rfl w.heap.size 26 i0 (.int .u64 0) 1 8 Try.underlying23 hi hz0 hz1 hz2 rfl (by decide) _ 0 [] rfl hown0 ad n cap vs rfl (by rw [← hl'h.out]; omega) hcs'h.out hone'h.out (by unfold maxLen; omega) (by omega) (by simp) ?_; intro v' w1 hown' hgrow hwh)
  rw [Nat.zero_add, List.nil_append] at hown'
  obtain ⟨sp', cap', rfl⟩ := row_slice' hown'
  have hown''h := Lib.hid hown'
  have hwh'h := Lib.hid hwh
  clear hown' hwh
  go_wp2
  go_ret
  exact ⟨sp', cap', rfl, ((Below.refl _ w).alloc (Nat.le_refl _) _).grown hgrow (by simp) (fun j hj => by cases hj; exact Nat.le_refl _), hown''h.out⟩
theorem cloneU_any (sp : Option Addr) (n cap : Nat) (vs : List Value) (w : World) (hn : n ≤ 4096) (hone : ∀ v ∈ vs, v.oneCell' = true) (hc : sp = none → cap = 0) (h : Sl w sp n vs) :
    Calls Try.prog 9 #[.slice sp n cap] w fun e w' => ∃ sp' cap', e = .returned (.slice sp' n cap') ∧ Below w.heap.size w w' ∧ w'.ownsRow w.heap.size 26 1 (.slice sp' n cap') n vs := by
  cases sp with
  | some ad => exact cloneU_some ad n cap vs w hn hone h
  | none =>
    obtain rfl : cap = 0 := hc rfl
    have h0 : n = 0 := by
      rcases h.2.2 with h0 | ⟨b, off, he, _⟩
      · exact h0
      · cases he
    subst h0
    have hl : vs = [] := List.eq_nil_of_length_eq_zero h.1.symm
    refine (cloneU_nil w).mono ?_
    rintro e w' ⟨rfl, rfl⟩
    exact ⟨none, 0, rfl, Below.refl _ _, by rw [hl]; exact World.ownsRow_nil _ _ _ _⟩
/-! ### slices.Clone at []bool -/
theorem info_cloneB : (Try.prog.info? 4).map (fun i => (i.zero, i.size, i.bytes)) = some (some (.bool false), 1, 1) := by kernel_rfl
theorem cloneB_nil (w : World) : Calls Try.prog 10 #[.slice none 0 0] w fun e w' => e = .returned (.slice none 0 0) ∧ w' = w := by
  have hnil := Lib.run_eql_slice_nil (P := Try.prog)
  go_enter Try.func10, Try.ntmps10
  go_wp2
  go_ret
  exact ⟨rfl, rfl⟩
theorem cloneB_some (ad : Addr) (n cap : Nat) (vs : List Value) (w : World) (hn : n ≤ 4096) (hone : ∀ v ∈ vs, v.oneCell' = true) (h : Sl w (some ad) n vs) :
    Calls Try.prog 10 #[.slice (some ad) n cap] w fun e w' => ∃ sp' cap', e = .returned (.slice sp' n cap') ∧ Below w.heap.size w w' ∧ w'.ownsRow w.heap.size 4 1 (.slice sp' n cap') n vs := by
  have hnil := Lib.run_eql_slice_nil (P := Try.prog)
  obtain ⟨i0, hi, hz0, hz1, hz2⟩ := info_parts info_cloneB
  have hown0 : (w.alloc (.cells #[] 4)).ownsRow w.heap.size 4 1 (.slice (some ⟨w.heap.size, 0, none⟩) 0 0) 0 [] :=
    ⟨rfl, .inr ⟨w.heap.size, 0, #[], rfl, Nat.le_refl _, World.alloc_heap_new _ _, Nat.le_refl _, Nat.zero_le _, rfl, rfl⟩⟩
  have hl := h.1
  have hcs : ∀ j u, vs[j]? = some u → (w.alloc (.cells #[] 4)).cell? (ad.add j) = some u := by
    intro j u hu
    have hj : j < vs.length := (List.getElem?_eq_some_iff.1 hu).1
    obtain ⟨b, off, he, hc⟩ := h.some' (by omega)
    cases he
    have hadd : (⟨b, off, none⟩ : Addr).add j = ⟨b, off + j, none⟩ := by unfold Addr.add; split <;> simp_all
    rw [hadd]
    exact keep_alloc _ _ _ _ (hc j u hu)
  have hcs'h := Lib.hid hcs
  have hl'h := Lib.hid hl
  have hone'h := Lib.hid hone
  clear hcs hl hone
  clear h
  go_enter Try.func10, Try.ntmps10
  go_wp2_with (at_builtin; refine wpList_append_own _ rfl (.tmp 5) (.tmp 6) 22 rfl w.heap.size 4 i0 (.bool false) 1 1 Try.underlying22 hi hz0 hz1 hz2 rfl (by decide) _ 0 [] rfl hown0 ad n cap vs rfl (by rw [← hl'h.out]; omega) hcs'h.out hone'h.out (by unfold maxLen; omega) (by omega) (by simp) ?_; intro v' w1 hown' hgrow hwh)
  rw [Nat.zero_add, List.nil_append] at hown'
  obtain ⟨sp', cap', rfl⟩ := row_slice' hown'
  have hown''h := Lib.hid hown'
  have hwh'h := Lib.hid hwh
  clear hown' hwh
  go_wp2
  go_ret
  exact ⟨sp', cap', rfl, ((Below.refl _ w).alloc (Nat.le_refl _) _).grown hgrow (by simp) (fun j hj => by cases hj; exact Nat.le_refl _), hown''h.out⟩
theorem cloneB_any (sp : Option Addr) (n cap : Nat) (vs : List Value) (w : World) (hn : n ≤ 4096) (hone : ∀ v ∈ vs, v.oneCell' = true) (hc : sp = none → cap = 0) (h : Sl w sp n vs) :
    Calls Try.prog 10 #[.slice sp n cap] w fun e w' => ∃ sp' cap', e = .returned (.slice sp' n cap') ∧ Below w.heap.size w w' ∧ w'.ownsRow w.heap.size 4 1 (.slice sp' n cap') n vs := by
  cases sp with
  | some ad => exact cloneB_some ad n cap vs w hn hone h
  | none =>
    obtain rfl : cap = 0 := hc rfl
    have h0 : n = 0 := by
      rcases h.2.2 with h0 | ⟨b, off, he, _⟩
      · exact h0
      · cases he
    subst h0
    have hl : vs = [] := List.eq_nil_of_length_eq_zero h.1.symm
    refine (cloneB_nil w).mono ?_
    rintro e w' ⟨rfl, rfl⟩
    exact ⟨none, 0, rfl, Below.refl _ _, by rw [hl]; exact World.ownsRow_nil _ _ _ _⟩

theorem min_if (n c m : Nat) (h : m = min n c) : (if (c : Int) < (n : Int) then (c : Int) else (n : Int)) = (m : Int) := by
  split <;> omega
theorem oneCell_bools (l : List Bool) : ∀ v ∈ l.map Value.bool, v.oneCell' = true := by intro v hv; obtain ⟨x, _, rfl⟩ := List.mem_map.1 hv; rfl
set_option maxRecDepth 100000 in
set_option maxHeartbeats 4000000 in
theorem walk_ProbeFirst (a0 : Int) (sp : Option Addr) (n cap : Nat) (fs : List Bool) (sp2 : Option Addr) (n2 cap2 : Nat) (zs : List Int) (w : World) (w0 : (Lit.int .i64 a0).wf = true) (hc : sp = none → cap = 0) (hcap : n ≤ cap) (h : Sl w sp n (fs.map Value.bool))
    (hc2 : sp2 = none → cap2 = 0) (hcap2 : n2 ≤ cap2) (h2 : Sl w sp2 n2 (zs.map (Value.int .u64))) (hz : ∀ z ∈ zs, (Lit.int .u64 z).wf = true) :
    Calls Try.prog 3 #[.int .i64 a0, .slice sp n cap, .slice sp2 n2 cap2] w fun e w' => e = .returned (.bool true) ∧ Below w.heap.size w w' := by
  have hbd := bd_of_i64 w0
  rw [u64s_nats hz] at h2
  have hk64 := nats_w64 hz
  have hmax := h.2.1
  have hmax2 := h2.2.1
  unfold maxLen at hmax hmax2
  obtain ⟨m, hm⟩ : ∃ m, m = min n 70 := ⟨_, rfl⟩
  obtain ⟨m2, hm2⟩ : ∃ m, m = min n2 6 := ⟨_, rfl⟩
  have hmi := min_if n 70 m hm
  have hmi2 := min_if n2 6 m2 hm2
  have hmi' : (if (70 : Int) < (n : Int) then (70 : Int) else (n : Int)) = (m : Int) := hmi
  have hmi2' : (if (6 : Int) < (n2 : Int) then (6 : Int) else (n2 : Int)) = (m2 : Int) := hmi2
  have hS := h.take m (by omega)
  rw [← List.map_take] at hS
  have hS2 := h2.take m2 (by omega)
  rw [u64s_take] at hS2
  have hw64 : W64 ((nats zs).take m2) := fun k hk => hk64 k (List.mem_of_mem_take hk)
  have hl2 : ((nats zs).take m2).length = m2 := by have := hS2.1; rw [u64s_length] at this; omega
  have hl1 : (fs.take m).length = m := by have := hS.1; simpa using this.symm
  generalize (nats zs).take m2 = hs at *
  generalize fs.take m = fl at *
  have q1 : m ≤ 70 := by omega
  have q2 : m2 ≤ 6 := by omega
  have q3 : m ≤ cap := by omega
  have q4 : m2 ≤ cap2 := by omega
  clear w0 hz h h2 hk64 hmi hmi2
  have hS'h := Lib.hid hS
  have hS2'h := Lib.hid hS2
  have hw64'h := Lib.hid hw64
  have hl2'h := Lib.hid hl2
  have hl1'h := Lib.hid hl1
  have hc'h := Lib.hid hc
  have hc2'h := Lib.hid hc2
  have hm'h := Lib.hid hm
  have hm2'h := Lib.hid hm2
  have hbd'h := Lib.hid hbd
  clear hS hS2 hw64 hl2 hl1 hc hc2 hm hm2 hbd
  go_enter Try.func3, Try.ntmps3
  go_wp2_with fail
  refine (wakes_any _).mono ?_
  rintro e w1 ⟨rfl, hb1⟩
  go_wp2_with fail
  refine (cloneU_any sp2 m2 cap2 (u64s hs) w1 (by omega) (oneCell_u64s _) hc2'h.out (hS2'h.out.below hb1)).mono ?_
  rintro e w2 ⟨hp, hcp, rfl, hb2, hr2⟩
  have hB2 := below_next hb1 hb2
  have hsl2 := Sl.of_row hr2 (by unfold maxLen; omega)
  have hnil2 := row_nil' hr2
  clear hb1 hb2 hr2 hmi2'
  have hB2'h := Lib.hid hB2
  have hsl2'h := Lib.hid hsl2
  have hnil2'h := Lib.hid hnil2
  clear hB2 hsl2 hnil2
  go_wp2_with fail
  refine (cloneB_any sp m cap (fl.map Value.bool) w2 (by omega) (oneCell_bools _) hc'h.out (hS'h.out.below hB2'h.out)).mono ?_
  rintro e w3 ⟨bp, bc, rfl, hb3, hr3⟩
  have hB3 := below_next hB2'h.out hb3
  have hsl3 := Sl.of_row hr3 (by unfold maxLen; omega)
  have hsl23 := hsl2'h.out.below hb3
  clear hb3 hr3 hmi'
  have hB3'h := Lib.hid hB3
  have hsl3'h := Lib.hid hsl3
  have hsl23'h := Lib.hid hsl23
  clear hB3 hsl3 hsl23
  cases hg : goodG a0 with
  | false =>
    have M := fun w => ref_may a0 w
    rw [hg] at M
    have FA := fun v w => far_no a0 v w hg hbd'h.out
    have FI := fun n cap sp w => first_no a0 0 n cap sp w hg hbd'h.out
    have NX := fun w => next_no a0 0 0 w hg hbd'h.out
    have M'h := Lib.hid M
    have FA'h := Lib.hid FA
    have FI'h := Lib.hid FI
    have NX'h := Lib.hid NX
    have hg'h := Lib.hid hg
    clear M FA FI NX hg
    go_wp2_with fail
    refine (M'h.out _).mono ?_
    rintro e w' ⟨rfl, rfl⟩
    go_wp2_with fail
    refine (FA'h.out _ _).mono ?_
    rintro e w' ⟨rfl, rfl⟩
    go_wp2_with fail
    refine (FI'h.out _ _ _ _).mono ?_
    rintro e w4 ⟨rfl, hb4⟩
    go_wp2_with fail
    refine (NX'h.out _).mono ?_
    rintro e w' ⟨rfl, rfl⟩
    go_wp2
    go_ret
    exact ⟨rfl, below_next hB3'h.out hb4⟩
  | true =>
    obtain ⟨G, rfl, hG⟩ := good_split hg
    have h1 := good_le hG
    have h0 := good_pos hG
    have M := fun w => ref_may (G : Int) w
    rw [hg] at M
    have FA := fun w (h : Sl w hp m2 (u64s hs)) => far_yes G m2 hcp hp hs w hG hw64'h.out h (by omega)
    have RF := fun w (h : Sl w hp m2 (u64s hs)) => ref_far G m2 hcp hp hs w hG hw64'h.out h (by omega)
    have M'h := Lib.hid M
    have FA'h := Lib.hid FA
    have RF'h := Lib.hid RF
    have hg'h := Lib.hid hg
    have hG'h := Lib.hid hG
    clear M FA RF hg hG
    go_wp2_with fail
    refine (M'h.out _).mono ?_
    rintro e w' ⟨rfl, rfl⟩
    go_wp2_with fail
    refine (FA'h.out _ hsl23'h.out).mono ?_
    rintro e w4 ⟨g4, c4, rfl, hb4, hs4⟩
    have hB4 := below_next hB3'h.out hb4
    have hsl24 := hsl23'h.out.below hb4
    have hsl34 := hsl3'h.out.below hb4
    clear hb4
    have hB4'h := Lib.hid hB4
    have hs4'h := Lib.hid hs4
    have hsl24'h := Lib.hid hsl24
    have hsl34'h := Lib.hid hsl34
    clear hB4 hs4 hsl24 hsl34
    go_wp2_with fail
    refine (RF'h.out _ hsl24'h.out).mono ?_
    rintro e w5 ⟨g5, rfl, hb5, hs5⟩
    have hB5 := below_next hB4'h.out hb5
    have hsl25 := hsl24'h.out.below hb5
    have hsl35 := hsl34'h.out.below hb5
    have Q := equalI_any (some ⟨g4, 0, none⟩) (some ⟨g5, 0, none⟩) G G c4 G _ _ w5 (hs4'h.out.below hb5) hs5
    rw [i64_self] at Q
    clear hb5
    have hB5'h := Lib.hid hB5
    have hs5'h := Lib.hid hs5
    have hsl25'h := Lib.hid hsl25
    have hsl35'h := Lib.hid hsl35
    have Q'h := Lib.hid Q
    clear hB5 hs5 hsl25 hsl35 Q
    go_wp2_with fail
    refine Q'h.out.mono ?_
    rintro e w6 ⟨rfl, d, rfl⟩
    have hB6 := hB5'h.out.trans (below_drewN' w5 d)
    have hsl26 := hsl25'h.out.below (below_drewN' w5 d)
    have hsl36 := hsl35'h.out.below (below_drewN' w5 d)
    obtain ⟨w6, hw6⟩ : ∃ w6, w6 = w5.drewN d := ⟨_, rfl⟩
    rw [← hw6] at hB6 hsl26 hsl36 ⊢
    clear hw6
    have hB6'h := Lib.hid hB6
    have hsl26'h := Lib.hid hsl26
    have hsl36'h := Lib.hid hsl36
    clear hB6 hsl26 hsl36
    go_wp2
    go_loopg [96] m2 (fun q i wr => ∃ k : Nat, k + q = m2 ∧ i = .int .i64 k ∧ Below w6.heap.size w6 wr)
    case atStart => exact ⟨0, by omega, rfl, Below.refl _ _⟩
    case round =>
      obtain ⟨k, hk, rfl, hB⟩ := hrel
      by_cases hkm : k < m2
      · have hkl : k < hs.length := by have := hl2'h.out; omega
        obtain ⟨ab, aoff, hap, hcs⟩ := (hsl26'h.out.below hB).some' (by omega)
        have c1 : wr.cell? ⟨ab, aoff + k, none⟩ = some (.int .u64 (nthN hs k)) := hcs k _ (u64s_at hkl)
        have hx64 : nthN hs k < 2 ^ 64 := hw64'h.out _ (nthN_mem hkl)
        clear hcs
        generalize nthN hs k = x at *
        subst hap
        by_cases hmG : m = G
        · have hne : ((m : Int) == (G : Int)) = true := by simp; omega
          have F := first_yes G x m bc bp fl wr hG'h.out hx64 (hsl36'h.out.below hB) hmG
          have R := fun W (h : Below wr.heap.size wr W) => ref_first G x m bc bp fl W hG'h.out hx64 (hsl36'h.out.below (below_next hB h)) hmG
          have hbf := firstB_bd (G := G) (h := x) (fl := fl)
          have A := fun W (i : Nat) (hi : i < G) => ref_at G x i W hG'h.out hx64 hi
          generalize firstB G x fl = i at *
          by_cases hi : 0 ≤ i
          · obtain ⟨j, rfl⟩ : ∃ j : Nat, i = (j : Int) := ⟨i.toNat, by omega⟩
            rw [if_pos hi, Int.toNat_natCast] at F
            have A1 := fun W => A W j (by omega)
            have e1 := ne_self (prB G x j)
            have e2 := ne_self j
            have d1 : decide ((0 : Int) ≤ (j : Int)) = true := by rw [decide_eq_true_eq]; omega
            clear A
            generalize prB G x j = y at *
            have hk'h := Lib.hid hk
            have hB'h := Lib.hid hB
            have F'h := Lib.hid F
            have R'h := Lib.hid R
            have A1'h := Lib.hid A1
            have hx64'h := Lib.hid hx64
            have hkl'h := Lib.hid hkl
            have hbf'h := Lib.hid hbf
            have hi'h := Lib.hid hi
            have hmG'h := Lib.hid hmG
            clear hk hB F R A1 hx64 hkl hbf hi hmG
            go_wp2_with fail
            refine (F'h.out).mono ?_
            rintro e w7 ⟨rfl, hb7⟩
            have R7 := R'h.out w7 hb7
            have hB7 := below_next hB'h.out hb7
            clear hb7 c1
            have R7'h := Lib.hid R7
            have hB7'h := Lib.hid hB7
            clear R7 hB7
            go_wp2_with fail
            refine (R7'h.out).mono ?_
            rintro e w8 ⟨rfl, hb8⟩
            have hB8 := below_next hB7'h.out hb8
            clear hb8
            go_wp2_with fail
            refine (A1'h.out _).mono ?_
            rintro e w' ⟨rfl, rfl⟩
            go_wp2
            go_roundg (gk - 1)
            case measure => have := hk'h.out; omega
            case rel => exact ⟨k + 1, by have := hk'h.out; omega, by go_num, hB8⟩
          · rw [if_neg hi] at F
            obtain rfl : i = -1 := by omega
            have hk'h := Lib.hid hk
            have hB'h := Lib.hid hB
            have F'h := Lib.hid F
            have R'h := Lib.hid R
            have A'h := Lib.hid A
            have hx64'h := Lib.hid hx64
            have hkl'h := Lib.hid hkl
            have hbf'h := Lib.hid hbf
            have hi'h := Lib.hid hi
            have hmG'h := Lib.hid hmG
            clear hk hB F R A hx64 hkl hbf hi hmG
            go_wp2_with fail
            refine (F'h.out).mono ?_
            rintro e w7 ⟨rfl, hb7⟩
            have R7 := R'h.out w7 hb7
            have hB7 := below_next hB'h.out hb7
            clear hb7 c1
            have R7'h := Lib.hid R7
            have hB7'h := Lib.hid hB7
            clear R7 hB7
            go_wp2_with fail
            refine (R7'h.out).mono ?_
            rintro e w8 ⟨rfl, hb8⟩
            have hB8 := below_next hB7'h.out hb8
            clear hb8
            go_wp2
            go_roundg (gk - 1)
            case measure => have := hk'h.out; omega
            case rel => exact ⟨k + 1, by have := hk'h.out; omega, by go_num, hB8⟩
        · have hne : ((m : Int) == (G : Int)) = false := by simp; omega
          have F := first_len G x m bc bp wr hG'h.out hmG
          have hk'h := Lib.hid hk
          have hB'h := Lib.hid hB
          have F'h := Lib.hid F
          have hx64'h := Lib.hid hx64
          have hkl'h := Lib.hid hkl
          have hmG'h := Lib.hid hmG
          clear hk hB F hx64 hkl hmG
          go_wp2_with fail
          refine (F'h.out).mono ?_
          rintro e w7 ⟨rfl, hb7⟩
          have hB7 := below_next hB'h.out hb7
          clear hb7 c1
          go_wp2
          go_roundg (gk - 1)
          case measure => have := hk'h.out; omega
          case rel => exact ⟨k + 1, by have := hk'h.out; omega, by go_num, hB7⟩
      · have hd : ¬ ((k : Int) < (m2 : Int)) := by omega
        have hBw := hB6'h.out.trans (hB.mono hB6'h.out.size)
        have hslr := hsl26'h.out.below hB
        have hk'h := Lib.hid hk
        have hB'h := Lib.hid hB
        have hBw'h := Lib.hid hBw
        have hslr'h := Lib.hid hslr
        clear hk hB hBw hslr
        go_wp2
        go_loopg [139] m2 (fun q i wv => ∃ k : Nat, k + q = m2 ∧ i = .int .i64 k ∧ wv = wr)
        case atStart => exact ⟨0, by omega, rfl, rfl⟩
        case round =>
          obtain ⟨k, hk, rfl, rfl⟩ := hrel
          by_cases hkm : k < m2
          · have hkl : k < hs.length := by have := hl2'h.out; omega
            obtain ⟨ab, aoff, hap, hcs⟩ := hslr'h.out.some' (by omega)
            have c1 : wr.cell? ⟨ab, aoff + k, none⟩ = some (.int .u64 (nthN hs k)) := hcs k _ (u64s_at hkl)
            clear hcs
            subst hap
            obtain ⟨y, hy⟩ : ∃ y : Nat, y = nthN hs k % 9 := ⟨_, rfl⟩
            have hx9 : (nthN hs k : Int) % 9 = (y : Int) := by omega
            have hx9' : Int.tmod (nthN hs k : Int) 9 = (y : Int) := by rw [Int.tmod_eq_emod_of_nonneg (Int.natCast_nonneg _)]; omega
            have hy9 : y < 9 := by omega
            generalize nthN hs k = x at *
            clear hy
            by_cases hin : 1 ≤ y ∧ y - 1 < G ∧ k + 1 < G
            · obtain ⟨z, rfl⟩ : ∃ z, y = z + 1 := ⟨y - 1, by omega⟩
              rw [Int.natCast_add] at hx9 hx9'
              have N := next_yes G z k wr hG'h.out (by omega) (by omega)
              have d1 : decide ((0 : Int) ≤ (z : Int)) = true := by rw [decide_eq_true_eq]; omega
              have d2 : decide ((z : Int) < (G : Int)) = true := by rw [decide_eq_true_eq]; omega
              have d3 : decide ((k : Int) < (G : Int) - 1) = true := by rw [decide_eq_true_eq]; omega
              have o1 : (z : Int) < (G : Int) := by omega
              have o2 : (k : Int) < (G : Int) - 1 := by omega
              have t1 : Int.tmod ((z : Int) + (k : Int) + 1) (G : Int) = (((z + k + 1) % G : Nat) : Int) := by rw [Int.tmod_eq_emod_of_nonneg (by omega)]; rfl
              have t2 : ((z : Int) + (k : Int) + 1) % (G : Int) = (((z + k + 1) % G : Nat) : Int) := rfl
              have e1 := ne_self ((z + k + 1) % G)
              generalize (z + k + 1) % G = r at *
              have hk'h := Lib.hid hk
              have N'h := Lib.hid N
              have hkl'h := Lib.hid hkl
              have hin'h := Lib.hid hin
              clear hk N hkl hin
              go_wp2_with fail
              refine (N'h.out).mono ?_
              rintro e w' ⟨rfl, rfl⟩
              go_wp2
              go_roundg (gk - 1)
              case measure => have := hk'h.out; omega
              case rel => exact ⟨k + 1, by have := hk'h.out; omega, by go_num, rfl⟩
            · have N := next_out G ((y : Int) - 1) (k : Int) wr hG'h.out (by omega)
              by_cases hy0 : y = 0
              · subst hy0
                have d1 : decide ((0 : Int) ≤ -1) = false := by decide
                have hk'h := Lib.hid hk
                have N'h := Lib.hid N
                have hkl'h := Lib.hid hkl
                have hin'h := Lib.hid hin
                clear hk N hkl hin
                go_wp2_with fail
                refine (N'h.out).mono ?_
                rintro e w' ⟨rfl, rfl⟩
                go_wp2
                go_roundg (gk - 1)
                case measure => have := hk'h.out; omega
                case rel => exact ⟨k + 1, by have := hk'h.out; omega, by go_num, rfl⟩
              · have d1 : decide ((0 : Int) ≤ (y : Int) - 1) = true := by rw [decide_eq_true_eq]; omega
                by_cases hyG : y - 1 < G
                · have d2 : decide ((y : Int) - 1 < (G : Int)) = true := by rw [decide_eq_true_eq]; omega
                  have d3 : decide ((k : Int) < (G : Int) - 1) = false := by rw [decide_eq_false_iff_not]; omega
                  have o1 : (1 : Int) ≤ (y : Int) := by omega
                  have o2 : (y : Int) - 1 < (G : Int) := by omega
                  have o3 : ¬ (k : Int) < (G : Int) - 1 := by omega
                  have hk'h := Lib.hid hk
                  have N'h := Lib.hid N
                  have hkl'h := Lib.hid hkl
                  have hin'h := Lib.hid hin
                  have hy0'h := Lib.hid hy0
                  have hyG'h := Lib.hid hyG
                  clear hk N hkl hin hy0 hyG
                  go_wp2_with fail
                  refine (N'h.out).mono ?_
                  rintro e w' ⟨rfl, rfl⟩
                  go_wp2
                  go_roundg (gk - 1)
                  case measure => have := hk'h.out; omega
                  case rel => exact ⟨k + 1, by have := hk'h.out; omega, by go_num, rfl⟩
                · have d2 : decide ((y : Int) - 1 < (G : Int)) = false := by rw [decide_eq_false_iff_not]; omega
                  have o1 : (1 : Int) ≤ (y : Int) := by omega
                  have o2 : ¬ (y : Int) - 1 < (G : Int) := by omega
                  have hk'h := Lib.hid hk
                  have N'h := Lib.hid N
                  have hkl'h := Lib.hid hkl
                  have hin'h := Lib.hid hin
                  have hy0'h := Lib.hid hy0
                  have hyG'h := Lib.hid hyG
                  clear hk N hkl hin hy0 hyG
                  go_wp2_with fail
                  refine (N'h.out).mono ?_
                  rintro e w' ⟨rfl, rfl⟩
                  go_wp2
                  go_roundg (gk - 1)
                  case measure => have := hk'h.out; omega
                  case rel => exact ⟨k + 1, by have := hk'h.out; omega, by go_num, rfl⟩
          · have hd2 : ¬ ((k : Int) < (m2 : Int)) := by omega
            have hk'h := Lib.hid hk
            clear hk
            go_wp2
            go_ret
            exact ⟨rfl, hBw'h.out⟩
end Go.Proofs.Ytkeegafebnhcpaa
