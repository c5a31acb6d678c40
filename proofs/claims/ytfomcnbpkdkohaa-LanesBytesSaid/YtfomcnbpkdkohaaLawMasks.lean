/-
  The walk of LanesMasks: it answers true.
-/
import Derived.Test.YtfomcnbpkdkohaaLanesT
import Derived.WalkLawsBesides
set_option linter.unusedSimpArgs false
set_option linter.unusedVariables false
namespace Go.Proofs.Ytfomcnbpkdkohaa
open Go.RowKit

def natsOf (zs : List Int) : List Nat := zs.map Int.toNat
theorem u8s_nats {zs : List Int} (hz : ∀ z ∈ zs, (Lit.int .u8 z).wf = true) : zs.map (Value.int .u8) = u8s (natsOf zs) := by
  unfold u8s natsOf
  rw [List.map_map]
  apply List.map_congr_left
  intro z hzm
  obtain ⟨x, rfl, _⟩ := nat_of_u8 (hz z hzm)
  simp
theorem nats_bytey {zs : List Int} (hz : ∀ z ∈ zs, (Lit.int .u8 z).wf = true) : Bytey (natsOf zs) := by
  intro b hb
  obtain ⟨z, hzm, rfl⟩ := List.mem_map.1 hb
  obtain ⟨x, rfl, hx⟩ := nat_of_u8 (hz z hzm)
  simpa using hx
theorem u8s_append (a b : List Nat) : u8s a ++ u8s b = u8s (a ++ b) := by unfold u8s; rw [List.map_append]
theorem u8s_take (l : List Nat) (m : Nat) : (u8s l).take m = u8s (l.take m) := by unfold u8s; rw [List.map_take]
theorem u8s_length (l : List Nat) : (u8s l).length = l.length := by simp [u8s]

theorem row_lit (w : World) (l : List Nat) (t : TypeId) : ∀ j u, (u8s l)[j]? = some u → (w.alloc (.cells (u8s l).toArray t)).cell? ((⟨w.heap.size, 0, none⟩ : Addr).add j) = some u := by
  intro j u hu
  have hadd : (⟨w.heap.size, 0, none⟩ : Addr).add j = ⟨w.heap.size, j, none⟩ := by unfold Addr.add; split <;> simp_all
  rw [hadd]
  exact blk_cell (World.alloc_heap_new _ _) (by simpa using hu)

theorem walk_LanesMasks (a0 a1 : Int) (sp : Option Addr) (n cap : Nat) (zs : List Int) (w : World) (w0 : (Lit.int .u64 a0).wf = true) (w1 : (Lit.int .u64 a1).wf = true) (hc : sp = none → cap = 0) (hcap : n ≤ cap) (h : Sl w sp n (zs.map (Value.int .u8))) (hz : ∀ z ∈ zs, (Lit.int .u8 z).wf = true) :
    Calls Try.prog 5 #[.int .u64 a0, .int .u64 a1, .slice sp n cap] w fun e w' => e = .returned (.bool true) ∧ Below w.heap.size w w' := by
  obtain ⟨v, rfl, hv⟩ := nat_of_u64 w0
  obtain ⟨x, rfl, hx⟩ := nat_of_u64 w1
  have HV := Lib.hid hv
  have HX := Lib.hid hx
  have hmax := h.2.1
  unfold maxLen at hmax
  clear hv hx w0 w1
  have HS := Lib.hid h
  have HZ := Lib.hid hz
  have HC := Lib.hid hc
  clear h hz hc
  have h10 : n ≤ 10 ∨ ¬ n ≤ 10 := by omega
  rcases h10 with h10 | h10
  · have hni : (n : Int) ≤ 10 := by omega
    go_enter Try.func5, Try.ntmps5
    go_wp2_with fail
    refine (wakes_any _).mono ?_
    rintro e w1 ⟨rfl, hb1⟩
    have hb1' : Below w.heap.size w w1 := hb1
    clear hni
    go_wp2_with fail
    have hS := HS.out.take n (by omega)
    rw [u8s_nats HZ.out, u8s_take] at hS
    have hy : Bytey ((natsOf zs).take n ++ [0, 127, 128, 255]) := by
      intro b hb
      rcases List.mem_append.1 hb with h | h
      · exact nats_bytey HZ.out b (List.mem_of_mem_take h)
      · simp at h; omega
    have hlL : ((natsOf zs).take n ++ [0, 127, 128, 255]).length = n + 4 := by
      have := hS.1; rw [u8s_length] at this; simp only [List.length_append, ← this]; rfl
    generalize hl0 : (natsOf zs).take n = l0 at hS hy hlL
    clear hl0
    have HY := Lib.hid hy
    have HL := Lib.hid hlL
    clear hy hlL
    refine (clone8_any sp n cap l0 _ (by omega) HC.out (hS.below hb1')).mono ?_
    clear hS
    rintro e w2 ⟨sp', cap', rfl, hb2, hrow⟩
    obtain ⟨i0, hi, hz0, hz1, hz2⟩ := info_parts info_u8z
    have z1 := hb1.size
    have z2 := hb2.size
    go_wp2_with (at_builtin; refine wpList_append_own _ rfl (.tmp 16) (.tmp 17) 27 rfl w1.heap.size 5 i0 (.int .u8 0) 1 (8 / 8) Try.underlying27 hi hz0 hz1 hz2 rfl (by decide) _ n _ rfl (hrow.alloc _) ⟨w2.heap.size, 0, none⟩ 4 4 (u8s [0, 127, 128, 255]) rfl rfl (row_lit w2 _ _) (u8s_one _) (by unfold maxLen; omega) (by omega) (by simp; omega) ?_; intro v' w3 hown' hgrow hwh; rw [u8s_append] at hown'; obtain ⟨g, cap3, rfl⟩ := ownsRow_succ hown')
    have hb3 := ((((hb1.trans (hb2.mono z1)).alloc (by omega) (.cells (u8s [0, 127, 128, 255]).toArray 5))).grown hgrow (by simp; omega) (fun j hj => by have := (hrow.lt j hj).1; omega))
    have hown := ownsRow_mono hown' z1
    clear hb1 hb2 hrow hown' hgrow hwh hb1' z1 z2
    go_loopg [20] (n + 4) (fun q i wr => ∃ k : Nat, k + q = n + 4 ∧ i = .int .i64 k ∧ Below w.heap.size w wr ∧ wr.ownsRow w.heap.size 5 1 (.slice (some ⟨g, 0, none⟩) (n + 4) cap3) (n + 4) (u8s (l0 ++ [0, 127, 128, 255])))
    case atStart => exact ⟨0, by omega, rfl, hb3, hown⟩
    case round =>
      obtain ⟨k, hk, rfl, hB, hrow⟩ := hrel
      have HK := Lib.hid hk
      have hkn : k ≤ n + 4 := by omega
      clear hk hb3 hown
      have HB := Lib.hid hB
      have HR := Lib.hid hrow
      clear hB hrow
      by_cases hlt : k < n + 4
      · have hkl : k < (l0 ++ [0, 127, 128, 255]).length := by rw [HL.out]; exact hlt
        have c1 : wr.cell? ⟨g, k, none⟩ = some (.int .u8 (nthN (l0 ++ [0, 127, 128, 255]) k)) := row_cell HR.out hlt (u8s_get hkl)
        have hbk : nthN (l0 ++ [0, 127, 128, 255]) k < 256 := getD_lt HY.out k
        generalize nthN (l0 ++ [0, 127, 128, 255]) k = b at *
        have hdk : decide ((k : Int) < (n : Int) + 4) = true := by simp; omega
        have H1 := Lib.hid (equal_any x b wr HX.out hbk)
        have H2 := Lib.hid (refEqual_any x b wr HX.out hbk)
        clear hkl
        go_wp2_with (first | (go_at_call 15; refine H1.out.mono ?_; clear H1; rintro e w' ⟨rfl, rfl⟩))
        refine H2.out.mono ?_
        clear H2
        rintro e w4 ⟨rfl, hb4⟩
        have H3 := Lib.hid (below_any x b w4 HX.out hbk)
        have H4 := Lib.hid (refBelow_any x b w4 HX.out hbk)
        go_wp2_with (first | (go_at_call 19; refine H3.out.mono ?_; clear H3; rintro e w' ⟨rfl, rfl⟩))
        refine H4.out.mono ?_
        clear H4
        rintro e w5 ⟨rfl, hb5⟩
        go_wp2_with fail
        go_roundg (gk - 1)
        case measure => have := HK.out; omega
        case rel =>
          have z3 := HB.out.size
          have z4 := hb4.size
          exact ⟨k + 1, by have := HK.out; omega, by go_num, (HB.out.trans (hb4.mono z3)).trans (hb5.mono (by omega)), ownsRow_next (ownsRow_next HR.out hb4) hb5⟩
      · have hkk : ¬ ((k : Int) < (n : Int) + 4) := by omega
        have H1 := Lib.hid (alike_any v x wr HV.out HX.out)
        have H2 := Lib.hid (refAlike_any v x wr HX.out HV.out)
        go_wp2_with (first | (go_at_call 14; refine H1.out.mono ?_; clear H1; rintro e w' ⟨rfl, rfl⟩))
        refine H2.out.mono ?_
        clear H2
        rintro e w4 ⟨rfl, hb4⟩
        go_wp2_with fail
        go_ret
        have z3 := HB.out.size
        exact ⟨rfl, HB.out.trans (hb4.mono z3)⟩
  · have hni : ¬ (n : Int) ≤ 10 := by omega
    go_enter Try.func5, Try.ntmps5
    go_wp2_with fail
    refine (wakes_any _).mono ?_
    rintro e w1 ⟨rfl, hb1⟩
    have hb1' : Below w.heap.size w w1 := hb1
    go_wp2_with fail
    clear hni
    have hS := HS.out.take 10 (by omega)
    rw [u8s_nats HZ.out, u8s_take] at hS
    have hy : Bytey ((natsOf zs).take 10 ++ [0, 127, 128, 255]) := by
      intro b hb
      rcases List.mem_append.1 hb with h | h
      · exact nats_bytey HZ.out b (List.mem_of_mem_take h)
      · simp at h; omega
    have hlL : ((natsOf zs).take 10 ++ [0, 127, 128, 255]).length = 14 := by
      have := hS.1; rw [u8s_length] at this; simp only [List.length_append, ← this]; rfl
    generalize hl0 : (natsOf zs).take 10 = l0 at hS hy hlL
    clear hl0
    have HY := Lib.hid hy
    have HL := Lib.hid hlL
    clear hy hlL
    refine (clone8_any sp 10 cap l0 _ (by omega) HC.out (hS.below hb1')).mono ?_
    clear hS
    rintro e w2 ⟨sp', cap', rfl, hb2, hrow⟩
    obtain ⟨i0, hi, hz0, hz1, hz2⟩ := info_parts info_u8z
    have z1 := hb1.size
    have z2 := hb2.size
    go_wp2_with (at_builtin; refine wpList_append_own _ rfl (.tmp 16) (.tmp 17) 27 rfl w1.heap.size 5 i0 (.int .u8 0) 1 (8 / 8) Try.underlying27 hi hz0 hz1 hz2 rfl (by decide) _ 10 _ rfl (hrow.alloc _) ⟨w2.heap.size, 0, none⟩ 4 4 (u8s [0, 127, 128, 255]) rfl rfl (row_lit w2 _ _) (u8s_one _) (by unfold maxLen; omega) (by omega) (by simp; omega) ?_; intro v' w3 hown' hgrow hwh; rw [u8s_append] at hown'; obtain ⟨g, cap3, rfl⟩ := ownsRow_succ hown')
    have hb3 := ((((hb1.trans (hb2.mono z1)).alloc (by omega) (.cells (u8s [0, 127, 128, 255]).toArray 5))).grown hgrow (by simp; omega) (fun j hj => by have := (hrow.lt j hj).1; omega))
    have hown := ownsRow_mono hown' z1
    clear hb1 hb2 hrow hown' hgrow hwh hb1' z1 z2
    go_loopg [20] (14) (fun q i wr => ∃ k : Nat, k + q = 14 ∧ i = .int .i64 k ∧ Below w.heap.size w wr ∧ wr.ownsRow w.heap.size 5 1 (.slice (some ⟨g, 0, none⟩) (14) cap3) (14) (u8s (l0 ++ [0, 127, 128, 255])))
    case atStart => exact ⟨0, by omega, rfl, hb3, hown⟩
    case round =>
      obtain ⟨k, hk, rfl, hB, hrow⟩ := hrel
      have HK := Lib.hid hk
      have hkn : k ≤ 14 := by omega
      clear hk hb3 hown
      have HB := Lib.hid hB
      have HR := Lib.hid hrow
      clear hB hrow
      by_cases hlt : k < 14
      · have hkl : k < (l0 ++ [0, 127, 128, 255]).length := by rw [HL.out]; exact hlt
        have c1 : wr.cell? ⟨g, k, none⟩ = some (.int .u8 (nthN (l0 ++ [0, 127, 128, 255]) k)) := row_cell HR.out hlt (u8s_get hkl)
        have hbk : nthN (l0 ++ [0, 127, 128, 255]) k < 256 := getD_lt HY.out k
        generalize nthN (l0 ++ [0, 127, 128, 255]) k = b at *
        have hdk : decide ((k : Int) < 14) = true := by simp; omega
        have H1 := Lib.hid (equal_any x b wr HX.out hbk)
        have H2 := Lib.hid (refEqual_any x b wr HX.out hbk)
        clear hkl
        go_wp2_with (first | (go_at_call 15; refine H1.out.mono ?_; clear H1; rintro e w' ⟨rfl, rfl⟩))
        refine H2.out.mono ?_
        clear H2
        rintro e w4 ⟨rfl, hb4⟩
        have H3 := Lib.hid (below_any x b w4 HX.out hbk)
        have H4 := Lib.hid (refBelow_any x b w4 HX.out hbk)
        go_wp2_with (first | (go_at_call 19; refine H3.out.mono ?_; clear H3; rintro e w' ⟨rfl, rfl⟩))
        refine H4.out.mono ?_
        clear H4
        rintro e w5 ⟨rfl, hb5⟩
        go_wp2_with fail
        go_roundg (gk - 1)
        case measure => have := HK.out; omega
        case rel =>
          have z3 := HB.out.size
          have z4 := hb4.size
          exact ⟨k + 1, by have := HK.out; omega, by go_num, (HB.out.trans (hb4.mono z3)).trans (hb5.mono (by omega)), ownsRow_next (ownsRow_next HR.out hb4) hb5⟩
      · have hkk : ¬ ((k : Int) < 14) := by omega
        have H1 := Lib.hid (alike_any v x wr HV.out HX.out)
        have H2 := Lib.hid (refAlike_any v x wr HX.out HV.out)
        go_wp2_with (first | (go_at_call 14; refine H1.out.mono ?_; clear H1; rintro e w' ⟨rfl, rfl⟩))
        refine H2.out.mono ?_
        clear H2
        rintro e w4 ⟨rfl, hb4⟩
        go_wp2_with fail
        go_ret
        have z3 := HB.out.size
        exact ⟨rfl, HB.out.trans (hb4.mono z3)⟩

end Go.Proofs.Ytfomcnbpkdkohaa
