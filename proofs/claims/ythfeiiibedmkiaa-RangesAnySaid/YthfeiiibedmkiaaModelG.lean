/-
  Rows of pairs: append, and slices.Insert.
-/
import Derived.Test.YthfeiiibedmkiaaModelF
import Derived.Test.YthfeiiibedmkiaaRowLaw
import Derived.Deep.RegionLaw
import Derived.Deep.RegionHeld3
import Derived.IntWalk
set_option linter.unusedSimpArgs false
set_option linter.unusedVariables false
set_option maxRecDepth 100000
namespace Go.Proofs.Ythfeiiibedmkiaa
open Go.RowKit

theorem info_pair : (Try.prog.info? 38).map (fun i => (i.zero, i.size, i.bytes)) = some (some (.agg #[.int .u64 0, .int .u64 0]), 2, 16) := by kernel_rfl
theorem info_pair2 : (Try.prog.info? 38).map (·.size) = some 2 := by kernel_rfl
theorem add_lit' (b off j : Nat) : (⟨b, off, none⟩ : Addr).add j = ⟨b, off + j, none⟩ := by unfold Addr.add; split <;> simp_all
/-- All but the row's block lies as it lay. -/
def KeptR (sp : Option Addr) (W W' : World) : Prop := Kept (fun b => sp.map (·.block) ≠ some b) W W'
theorem rowP_append (B : Nat) (sp : Option Addr) (n cap : Nat) (ps ns : Ps) (A : Option Addr) (m c : Nat) (w : World) (h : RowP w B sp n cap ps) (hA : SlK w 2 A m (prs ns)) (hm : 0 < m) (hB : B ≤ w.heap.size) (hn : n + m ≤ 8192) :
    ∃ sp' cap' w', (∀ ty, (Builtin.append_ #[24, 24] ty #[.slice sp n cap, .slice A m c]).run Try.prog w = .ok (.slice sp' (n + m) cap') w') ∧ RowP w' B sp' (n + m) cap' (ps ++ ns) ∧ KeptR sp w w' ∧
      (sp' = sp ∨ sp' = some ⟨w.heap.size, 0, none⟩) := by
  obtain ⟨i0, hi, hz0, hz1, hz2⟩ := info_parts info_pair
  obtain ⟨ab, aoff, rfl, hcs⟩ := hA.some' hm
  have hml := prs_len hA
  have hnews : ∀ j u, (prs ns)[j]? = some u → w.cell? ((⟨ab, aoff, none⟩ : Addr).add j) = some u := fun j u hu => by rw [add_lit']; exact hcs j u hu
  have hnl : (prs ns).length = m * i0.size := by rw [prs_length, hz1, hml]
  have hlen := h.len
  rcases h.row with ⟨rfl, rfl⟩ | ⟨g, cur, rfl, hg, hh, hsz, ht⟩
  · have h0 : n = 0 := by have := h.le; omega
    subst h0
    have hps : ps = [] := List.eq_nil_of_length_eq_zero hlen.symm
    subst hps
    refine ⟨_, _, _, fun ty => by rw [Nat.zero_add]; exact run_append_nil w _ ty _ i0 _ Try.underlying24 hi hz0 _ m c _ hnl hnews hm (by omega) (by rw [hz2]; omega), ?_, ?_, .inr rfl⟩
    · refine ⟨by simp; omega, by rw [Nat.zero_add]; exact grownCap_ge _ _ _ _, grownCap_le_maxLen _ _ _ _ (by unfold maxLen; omega), .inr ⟨_, _, rfl, hB, World.alloc_heap_new _ _, ?_, ?_⟩⟩
      · rw [Array.size_append, size_zeroCells]
        have := grownCap_ge w m 0 38
        simp [prs_length, Value.cells]; omega
      · rw [List.nil_append, Array.toList_append, Nat.zero_add]
        rw [List.take_append_of_le_length (by simp [prs_length]; omega)]
        exact List.take_of_length_le (by simp [prs_length]; omega)
    · exact Kept.of_below ((Below.drew (Below.refl _ _)).alloc (Nat.le_refl _) _)
  · have hol : (prs ps).length = n * i0.size := by rw [prs_length, hz1, hlen]
    by_cases hroom : n + m ≤ cap
    · have hfit : n * i0.size + (prs ns).length ≤ cur.size := by rw [hnl, hz1]; omega
      refine ⟨_, _, _, fun ty => run_append_room w _ ty _ i0 Try.underlying24 hi g n cap cur hh _ m c _ hnl hnews (prs_one _) hroom hfit, ?_, ?_, .inl rfl⟩
      · refine ⟨by simp; omega, hroom, h.lim, .inr ⟨g, _, rfl, hg, setRow_heap _ _ _ _ _ _ hh, ?_, ?_⟩⟩
        · simp only [List.size_toArray, List.length_append, List.length_take, List.length_drop, Array.length_toList]
          rw [hnl, hz1]; omega
        · rw [hz1, ht, prs_append]
          have e : ((n + m) * 2) = (prs ps ++ prs ns).length := by rw [List.length_append, prs_length, prs_length]; omega
          rw [e]
          exact List.take_left' rfl
      · exact ⟨rfl, rfl, rfl, by simp, fun b _ hb => setRow_other _ _ _ _ (fun e => hb (by rw [e]; rfl))⟩
    · have holds : ∀ j v, (prs ps)[j]? = some v → w.cell? ((⟨g, 0, none⟩ : Addr).add j) = some v := fun j v hv => by
        rw [add_lit']; exact h.sl.cell hv
      refine ⟨_, _, _, fun ty => run_append_grow w _ ty _ i0 _ Try.underlying24 hi hz0 _ n cap _ hol holds _ m c _ hnl hnews (by omega) (by omega) (growslice_fits (by omega) (by rw [hz2]; omega)), ?_, ?_, .inr rfl⟩
      · refine ⟨by simp; omega, grownCap_ge _ _ _ _, grownCap_le_maxLen _ _ _ _ (by unfold maxLen; omega), .inr ⟨_, _, rfl, hB, World.alloc_heap_new _ _, ?_, ?_⟩⟩
        · rw [Array.size_append, size_zeroCells]
          have := grownCap_ge w (n + m) cap 38
          simp [prs_length, Value.cells]; omega
        · have e3 : ((prs ps).toArray ++ (prs ns).toArray).toList = prs ps ++ prs ns := by simp
          rw [Array.toList_append, e3, ← prs_append, List.take_append_of_le_length (by rw [prs_length, List.length_append]; omega)]
          exact List.take_of_length_le (by rw [prs_length, List.length_append]; omega)
      · exact Kept.of_below ((Below.drew (Below.refl _ _)).alloc (Nat.le_refl _) _)
theorem hrow_ins {ps : Ps} {i : Nat} {k v : Nat} : (ps.take i ++ (k, v) :: ps.drop i).length = ps.length + 1 := by
  simp; omega
set_option maxHeartbeats 1000000 in
theorem insert_end (B : Nat) (sp : Option Addr) (n cap : Nat) (ps : Ps) (k v vb : Nat) (w : World) (h : RowP w B sp n cap ps) (hv : SlK w 2 (some ⟨vb, 0, none⟩) 1 (prs [(k, v)])) (hB : B ≤ w.heap.size) (hn : n ≤ 4096) :
    Calls Try.prog 84 #[.slice sp n cap, .int .i64 n, .slice (some ⟨vb, 0, none⟩) 1 1] w fun e w' => ∃ sp' cap', e = .returned (.slice sp' (n + 1) cap') ∧ RowP w' B sp' (n + 1) cap' (ps ++ [(k, v)]) ∧ KeptR sp w w' ∧
      (sp' = sp ∨ sp' = some ⟨w.heap.size, 0, none⟩) := by
  obtain ⟨sp', cap', w', hr, hR, hK, hs⟩ := rowP_append B sp n cap ps [(k, v)] _ 1 1 w h hv (by omega) hB (by omega)
  have hle := h.le
  have hlim := h.lim
  unfold maxLen at hlim
  have q1 : (n : Int) ≤ (cap : Int) := by omega
  have hr'h := Lib.hid hr
  have hR'h := Lib.hid hR
  have hK'h := Lib.hid hK
  have hs'h := Lib.hid hs
  have h'h := Lib.hid h
  have hv'h := Lib.hid hv
  clear hr hR hK hs h hv
  go_enter Try.func84, Try.ntmps84
  cases sp with
  | none =>
    go_wp2_with (at_builtin; refine Lib.wpList_append_run _ rfl _ _ _ _ rfl _ _ rfl rfl _ _ (hr'h.out _) ?_)
    all_goals
      go_ret
      exact ⟨sp', cap', rfl, hR'h.out, hK'h.out, hs'h.out⟩
  | some a =>
    obtain ⟨ab, ao, asp⟩ := a
    go_wp2_with (at_builtin; refine Lib.wpList_append_run _ rfl _ _ _ _ rfl _ _ rfl rfl _ _ (hr'h.out _) ?_)
    all_goals
      go_ret
      exact ⟨sp', cap', rfl, hR'h.out, hK'h.out, hs'h.out⟩
set_option maxHeartbeats 2000000 in
theorem insert_mid (B : Nat) (sp : Option Addr) (n cap i : Nat) (ps : Ps) (k v vb : Nat) (w : World) (h : RowP w B sp n cap ps) (hv : SlK w 2 (some ⟨vb, 0, none⟩) 1 (prs [(k, v)])) (hB : B ≤ w.heap.size) (hn : n ≤ 4096) (hi : i < n) (hc : cap < n + 1) :
    Calls Try.prog 84 #[.slice sp n cap, .int .i64 i, .slice (some ⟨vb, 0, none⟩) 1 1] w fun e w' => ∃ sp' cap', e = .returned (.slice sp' (n + 1) cap') ∧ RowP w' B sp' (n + 1) cap' (ps.take i ++ (k, v) :: ps.drop i) ∧ KeptR sp w w' ∧
      (sp' = sp ∨ sp' = some ⟨w.heap.size, 0, none⟩) := by
  obtain ⟨i0, hi0, hz0, hz1, hz2⟩ := info_parts info_pair
  have hle := h.le
  have hlen := h.len
  have hcap : cap = n := by omega
  subst hcap
  obtain ⟨g, cur, rfl, hg, hh, hsz, ht⟩ : ∃ g cur, sp = some ⟨g, 0, none⟩ ∧ B ≤ g ∧ w.heap[g]? = some (.cells cur 38 (0, 0)) ∧ cap * 2 ≤ cur.size ∧ cur.toList.take (cap * 2) = prs ps := by
    rcases h.row with ⟨_, h0⟩ | h
    · omega
    · exact h
  obtain ⟨j, hj⟩ : ∃ j, j = cap + 1 - i := ⟨_, rfl⟩
  have hji : i + j = cap + 1 := by omega
  -- the zeros behind the first i
  have hol : (prs (ps.take i)).length = i * i0.size := by rw [prs_length, hz1, List.length_take]; omega
  have holds : ∀ q u, (prs (ps.take i))[q]? = some u → w.cell? ((⟨g, 0, none⟩ : Addr).add q) = some u := fun q u hu => by
    rw [add_lit']
    refine h.sl.cell ?_
    rw [← prs_take, List.getElem?_take] at hu
    split at hu
    · exact hu
    · cases hu
  have r1 := fun ty => run_append_zeros_grow w 24 3 ty _ i0 _ .i64 .i64 Try.underlying24 Try.underlying3 hi0 hz0 ⟨g, 0, none⟩ i cap _ hol holds j (by omega) (by omega) (by omega) (by omega) (by rw [hz2]; omega) (growslice_fits (by omega) (by rw [hz2]; omega))
  rw [hji] at r1
  obtain ⟨gc, hgc⟩ : ∃ gc, gc = grownCap w (cap + 1) cap 38 := ⟨_, rfl⟩
  have hgc1 : cap + 1 ≤ gc := by rw [hgc]; exact grownCap_ge _ _ _ _
  have hgc2 : gc ≤ maxLen := by rw [hgc]; exact grownCap_le_maxLen _ _ _ _ (by unfold maxLen; omega)
  rw [← hgc] at r1
  obtain ⟨C1, hC1⟩ : ∃ C1, C1 = (prs (ps.take i)).toArray ++ Builtin.zeroCells (Value.agg #[.int .u64 0, .int .u64 0]).cells j ++ Builtin.zeroCells (Value.agg #[.int .u64 0, .int .u64 0]).cells (gc - (cap + 1)) := ⟨_, rfl⟩
  rw [← hC1] at r1
  have hC1s : C1.size = gc * 2 := by
    rw [hC1, Array.size_append, Array.size_append, size_zeroCells, size_zeroCells]
    simp [prs_length, Value.cells]; omega
  have hC1t : C1.toList.take (i * 2) = prs (ps.take i) := by
    rw [hC1, Array.toList_append, Array.toList_append, List.append_assoc, List.take_append_of_le_length (by simp [prs_length]; omega)]
    exact List.take_of_length_le (by simp [prs_length]; omega)
  obtain ⟨W1, hW1⟩ : ∃ W1, W1 = w.drew.alloc (.cells C1 38) := ⟨_, rfl⟩
  rw [← hW1] at r1
  have hb1 : Below w.heap.size w W1 := by rw [hW1]; exact (Below.drew (Below.refl _ _)).alloc (Nat.le_refl _) _
  have hg1 : W1.heap[w.heap.size]? = some (.cells C1 38 (0, 0)) := by rw [hW1]; exact World.alloc_heap_new _ _
  have r2 := fun ty dc sc => run_copy_rowk W1 24 24 ty 38 2 w.heap.size (i * 2) (cap + 1 - i) dc ⟨vb, 0, none⟩ 1 sc C1 _ (prs [(k, v)]) Try.underlying24 info_pair2 hg1 (by rw [prs_length]; show 1 * 2 = min 1 (cap + 1 - i) * 2; rw [Nat.min_eq_left (by omega)]) (fun q u hu => by rw [add_lit']; exact (hv.below hb1).cell hu) (by rw [prs_length, hC1s]; simp; omega) (prs_one _)
  obtain ⟨C2, hC2⟩ : ∃ C2, C2 = (C1.toList.take (i * 2) ++ prs [(k, v)] ++ C1.toList.drop (i * 2 + (prs [(k, v)]).length)).toArray := ⟨_, rfl⟩
  rw [← hC2] at r2
  rw [hC1t] at hC2
  have hC2s : C2.size = gc * 2 := by
    rw [hC2]
    simp only [List.size_toArray, List.length_append, List.length_drop, Array.length_toList, prs_length, List.length_take, hC1s, List.length_cons, List.length_nil]
    omega
  have hC2t : C2.toList.take ((i + 1) * 2) = prs (ps.take i ++ [(k, v)]) := by
    rw [hC2, prs_append]
    have e : (i + 1) * 2 = (prs (ps.take i) ++ prs [(k, v)]).length := by rw [List.length_append, prs_length, prs_length, List.length_take]; simp; omega
    rw [e]
    exact List.take_left' rfl
  obtain ⟨W2, hW2⟩ : ∃ W2, W2 = W1.setRow w.heap.size C2 := ⟨_, rfl⟩
  rw [← hW2] at r2
  have hg2 : W2.heap[w.heap.size]? = some (.cells C2 38 (0, 0)) := by rw [hW2]; exact setRow_heap _ _ _ _ _ _ hg1
  have hb2 : Below w.heap.size w W2 := by rw [hW2]; exact below_setRow' hb1 (Nat.le_refl _) _
  have hdl : (prs (ps.drop i)).length = (cap - i) * 2 := by rw [prs_length, List.length_drop, ← hlen]
  have hsrc : ∀ q u, (prs (ps.drop i))[q]? = some u → W2.drew.cell? ((⟨g, i * 2, none⟩ : Addr).add q) = some u := fun q u hu => by
    rw [add_lit']
    have e : (prs ps)[i * 2 + q]? = some u := by
      have : prs ps = prs (ps.take i) ++ prs (ps.drop i) := by rw [← prs_append, List.take_append_drop]
      rw [this, List.getElem?_append_right (by rw [prs_length, List.length_take]; omega), prs_length, List.length_take, show i * 2 + q - min i ps.length * 2 = q by omega]
      exact hu
    have := (h.sl.below hb2).cell e
    rw [Nat.zero_add] at this
    exact this
  have r3 := fun ty dc sc => run_copy_rowk W2.drew 24 24 ty 38 2 w.heap.size ((i + 1) * 2) (cap + 1 - (i + 1)) dc ⟨g, i * 2, none⟩ (cap - i) sc C2 _ (prs (ps.drop i)) Try.underlying24 info_pair2 hg2 (by rw [hdl]; show (cap - i) * 2 = min (cap - i) (cap + 1 - (i + 1)) * 2; rw [Nat.min_eq_left (by omega)]) hsrc (by rw [hdl, hC2s]; omega) (prs_one _)
  obtain ⟨C3, hC3⟩ : ∃ C3, C3 = (C2.toList.take ((i + 1) * 2) ++ prs (ps.drop i) ++ C2.toList.drop ((i + 1) * 2 + (prs (ps.drop i)).length)).toArray := ⟨_, rfl⟩
  rw [← hC3] at r3
  rw [hC2t, ← prs_append] at hC3
  obtain ⟨W3, hW3⟩ : ∃ W3, W3 = W2.drew.setRow w.heap.size C3 := ⟨_, rfl⟩
  rw [← hW3] at r3
  have hg3 : W3.heap[w.heap.size]? = some (.cells C3 38 (0, 0)) := by rw [hW3]; exact setRow_heap _ _ _ _ _ _ (show W2.drew.heap[w.heap.size]? = _ from hg2)
  have hb3 : Below w.heap.size w W3 := by rw [hW3]; exact below_setRow' (Below.drew hb2) (Nat.le_refl _) _
  have hR : RowP W3 B (some ⟨w.heap.size, 0, none⟩) (cap + 1) gc (ps.take i ++ (k, v) :: ps.drop i) := by
    refine ⟨by rw [hrow_ins]; omega, hgc1, hgc2, .inr ⟨_, C3, rfl, hB, hg3, ?_, ?_⟩⟩
    · rw [hC3]
      simp only [List.size_toArray, List.length_append, List.length_drop, Array.length_toList, prs_length, List.length_take, hC2s, List.length_cons, List.length_nil, List.length_drop]
      omega
    · rw [hC3]
      have e : ps.take i ++ [(k, v)] ++ ps.drop i = ps.take i ++ (k, v) :: ps.drop i := by simp
      have e2 : (cap + 1) * 2 = (prs (ps.take i ++ [(k, v)] ++ ps.drop i)).length := by rw [e, prs_length, hrow_ins]; omega
      rw [e2, ← e]
      exact List.take_left' rfl
  have hK : KeptR (some ⟨g, 0, none⟩) w W3 := Kept.of_below hb3
  have q0 : (i : Int) < (cap : Int) := by omega
  have q1 : (cap : Int) + 1 - (i : Int) = (j : Int) := by omega
  have q2 : ¬ ((i : Int) == (cap : Int)) = true := by simp; omega
  have q3 : ((i : Int) == (cap : Int)) = false := by simp; omega
  have q4 : (cap : Int) + 1 ≤ (gc : Int) := by omega
  have q5 : ¬ gc = i := by omega
  have q6 : ¬ cap = i := by omega
  have q7 : ¬ gc = i + 1 := by omega
  have hcl : (cap : Int) ≤ 4096 := by omega
  clear hC1 hC2 hC3 hW1 hW2 hW3 hsrc holds hol hdl hC1s hC1t hC2s hC2t hgc hsz ht
  have h'h := Lib.hid h
  have hv'h := Lib.hid hv
  have hh'h := Lib.hid hh
  have r1'h := Lib.hid r1
  have r2'h := Lib.hid r2
  have r3'h := Lib.hid r3
  have hR'h := Lib.hid hR
  have hK'h := Lib.hid hK
  have hg'h := Lib.hid hg
  have hb1'h := Lib.hid hb1
  have hb2'h := Lib.hid hb2
  have hb3'h := Lib.hid hb3
  have hg1'h := Lib.hid hg1
  have hg2'h := Lib.hid hg2
  have hg3'h := Lib.hid hg3
  have hj'h := Lib.hid hj
  have hji'h := Lib.hid hji
  have hgc2'h := Lib.hid hgc2
  have hlen'h := Lib.hid hlen
  clear h hv hh r1 r2 r3 hR hK hg hb1 hb2 hb3 hg1 hg2 hg3 hj hji hgc2 hlen
  go_enter Try.func84, Try.ntmps84
  go_upto_region 10 with (at_builtin; refine Lib.wpList_append_run _ rfl _ _ _ _ rfl _ _ rfl rfl _ _ (r1'h.out _) ?_)
  go_upto_region 11 with (refine wpList_copy_run' _ rfl _ _ 24 24 rfl _ _ rfl rfl (r2'h.out _ _ _) ?_)
  have s1 : IntKind.i64.wrap ((i : Int) + 1) = (i : Int) + 1 := IntWalk.i64_in _ (by omega)
  have s2 : (0 : Int) ≤ (i : Int) + 1 := by omega
  have s3 : ((i : Int) + 1).toNat = i + 1 := by omega
  have s4 : (i : Int) + 1 ≤ (cap : Int) + 1 := by omega
  have s5 : (0 : Int) ≤ (i : Int) := by omega
  have s6 : (i : Int) ≤ (cap : Int) := by omega
  go_region_held3 (fun _ => True) (trivial) (refine step_copy_run' rfl _ _ 24 24 rfl _ _ (by simp [Act.eval, Act.put]; rfl) (by simp [Act.eval, Act.put]; rfl) (r3'h.out _ _ _) ?_)
  go_wp2
  go_ret
  exact ⟨_, gc, rfl, hR'h.out, hK'h.out, .inr rfl⟩
end Go.Proofs.Ythfeiiibedmkiaa
