/-
  Package group: what lanes come to.
-/
import Derived.Test.YtfoohdjgnphdgaaGroup
import Derived.Test.YtfoohdjgnphdgaaRoundF
import Derived.Test.YtfoohdjgnphdgaaCommon
set_option linter.unusedSimpArgs false
set_option linter.unusedVariables false
set_option maxRecDepth 100000
namespace Go.Proofs.Ytfoohdjgnphdgaa
open Go.RowKit

theorem looks1_any (n : Nat) (w : World) : Calls Try.prog 51 #[.int .i64 n] w fun e w' => e = .returned (.int .i64 n) ∧ w' = w := by
  go_enter Try.func51, Try.ntmps51
  go_wp2
  go_ret
  exact ⟨rfl, rfl⟩
theorem looks1_below (n : Nat) (w : World) : Calls Try.prog 51 #[.int .i64 n] w fun e w' => e = .returned (.int .i64 n) ∧ Below w.heap.size w w' := (looks1_any n w).mono fun e w' ⟨h, hw⟩ => ⟨h, by rw [hw]; exact Below.refl _ _⟩
theorem infomadeI : (Try.prog.info? 3).map (fun i => (i.zero, i.size, i.bytes)) = some (some (.int .i64 0), 1, 8) := by kernel_rfl
/-- Between rounds. -/
structure madeII (fv : Value) (f : Nat → List Value) (l : List Nat) (w : World) (k : Nat) (v : Value) (S : Nat → Prop) (W : World) : Prop where
  fn : Own1 ⟨w.heap.size, 0, none⟩ fv S W
  var : Own1 ⟨w.heap.size + 1, 0, none⟩ v S W
  row : OwnR (w.heap.size + 2) 3 1 v k ((l.take k).flatMap f) S W
  old : Old w.heap.size w S W
def madeIE (fv : Value) (f : Nat → List Value) (l : List Nat) (w : World) (k : Nat) (S : Nat → Prop) (W : World) : Prop := ∃ v, madeII fv f l w k v S W
theorem madeIE.stable (fv : Value) (f : Nat → List Value) (l : List Nat) (w : World) (k : Nat) : Stable (madeIE fv f l w k) := fun S S' W W' ⟨v, i⟩ hf =>
  ⟨v, Own1.stable _ _ _ _ _ _ i.fn hf, Own1.stable _ _ _ _ _ _ i.var hf, OwnR.stable _ _ _ _ _ _ _ _ _ _ i.row hf, Old.stable _ _ _ _ _ _ i.old hf⟩
theorem madeIany (m b : Nat)  (hm : m < 256) (w : World) (hb : w.heap[b]? = some (.cells #[.int .u8 m] 83 (0, 0))) :
    Calls Try.prog 50 #[.func (.func 69) #[] #[.pointer (some ⟨b, 0, none⟩)], .func (.func 51) #[] #[]] w fun e w' => ∃ sp n cap, e = .returned (.slice sp n cap) ∧ Below w.heap.size w w' ∧
      w'.ownsRow w.heap.size 3 1 (.slice sp n cap) (lanesOf m).length ((lanesOf m).flatMap (fun n : Nat => [Value.int .i64 n])) := by
  obtain ⟨f, hf⟩ : ∃ f : Nat → List Value, f = fun n : Nat => [Value.int .i64 n] := ⟨_, rfl⟩
  obtain ⟨fv, hfv⟩ : ∃ fv : Value, fv = .func (.func 51) #[] #[] := ⟨_, rfl⟩
  rw [← hf, ← hfv]
  have hfl : ∀ n, (f n).length = 1 := fun n => by rw [hf]; rfl
  have hf1 : ∀ n, ∀ u ∈ f n, u.oneCell' = true := fun n => by rw [hf]; exact by intro u hu; simp at hu; rw [hu]; rfl
  have hbl := lt_of_heap hb
  have hn8 := length_lanesOf m
  have hlt : ∀ i ∈ lanesOf m, i < 8 := fun i hi => lanesOf_lt m i hi
  obtain ⟨W0, hW0⟩ : ∃ W0, W0 = (w.alloc (.cells #[fv] 93)).alloc (.cells #[.slice none 0 0] 39) := ⟨_, rfl⟩
  have hz : W0.heap.size = w.heap.size + 2 := by rw [hW0]; simp
  have hI0 : madeIE fv f (lanesOf m) w 0 (fun _ => False) W0 := by
    rw [hW0]
    refine ⟨.slice none 0 0, (Own1.new _ w _ _ (fun h => h)).alloc _, ?_, ⟨World.ownsRow_nil _ _ _ _, by simp [Value.ownBlock]⟩, ((Old.mk (Below.refl _ w) (Nat.le_refl _) (fun b hb h => h)).alloc _).alloc _⟩
    have := Own1.new (fun _ => False) (w.alloc (.cells #[fv] 93)) (.slice none 0 0) 39 (fun h => h)
    simpa using this
  have hb0 : W0.heap[b]? = some (.cells #[.int .u8 m] 83 (0, 0)) := heap_below (hI0.choose_spec.old.below) hb hbl
  have hit := geach_it m b hm W0 hb0
  generalize hl : lanesOf m = l at *
  have hfl'h := Lib.hid hfl
  have hf1'h := Lib.hid hf1
  have hbl'h := Lib.hid hbl
  have hlt'h := Lib.hid hlt
  have hI0'h := Lib.hid hI0
  have hb0'h := Lib.hid hb0
  have hit'h := Lib.hid hit
  have hl'h := Lib.hid hl
  have hb'h := Lib.hid hb
  have hz'h := Lib.hid hz
  have hn8'h := Lib.hid hn8
  have hfv'h := Lib.hid hfv
  have hf'h := Lib.hid hf
  clear hfl hf1 hbl hlt hI0 hb0 hit hl hb hz hn8 hfv hf
  refine (callsIn_wide (n := 0)).1 ?_
  refine callsIn_of_wp_marks Try.func50 rfl trivial ?_
  simp only [Try.ntmps50, List.size_toArray, List.length_cons, List.length_nil, Nat.reduceAdd, Nat.reduceSub, Array.replicate_succ, Array.replicate_zero, List.push_toArray, List.append_toArray, List.nil_append, List.cons_append]
  gi_wp2_with fail
  rw [← hW0]
  clear hW0
  refine' wpIn_range rfl (fun h => by cases h) rfl trivial enters_geach hit'h.out (fun b hb => False.elim hb) (fun _ => rfl) (fun c hc => ⟨by have := hbl'h.out; have := hz'h.out; omega, fun h => h⟩)
    (madeIE fv f l w) noX (madeIE.stable fv f l w) noX_stable hI0'h.out
    (AxOf _ (madeIE fv f l w)) (AxOf.stable (madeIE.stable fv f l w)) ?assign ?body ?done (fun _ _ _ _ _ _ _ _ _ h _ => h.elim)
  case assign =>
    intro l1 k S W hk hSl hr hSb hI
    rw [nthN_eq hk]
    clear hr
    gi_wp2
    exact ⟨⟨rfl, hI⟩, Kept.refl _ _⟩
  case body =>
    rintro l1 k S a W r hk hSl hlr hr hSb ⟨rfl, v, hI⟩
    have hn := hlt'h.out _ (nthN_mem hk)
    have hk8 : k < 8 := by have := hn8'h.out; omega
    have c1 := hI.fn.cell
    have c2 := hI.var.cell
    have f2 := hI.var.free
    have hsn : (l.take (k + 1)).flatMap f = (l.take k).flatMap f ++ f (nthN l k) := by rw [List.take_succ_eq_append_getElem hk, List.flatMap_append, nthN_eq hk]; simp
    obtain ⟨i0, hi, hz0, hz1, hz2⟩ := info_parts infomadeI
    refine wpIn_block ?_
    refine wpIn_round_heldF (fun w' => w'.cell? ⟨w.heap.size + 1, 0, none⟩ = some v ∧ w'.cell? ⟨w.heap.size, 0, none⟩ = some fv) 6 (by kernel_rfl) (by kernel_rfl) (inBlock_noLet rangePost_noLet) ?_
    refine wpAnyF_take (i := 0) (v := v) rfl (by kernel_rfl) (by kernel_rfl) (by kernel_rfl) (by kernel_rfl) (fun _ _ _ h => h) (Or.inl ⟨by rfl, ?_⟩) ⟨c2, c1⟩ ?_
    · intro w hSw; (try dsimp only at hSw); go_simp
    simp only [Act.put, List.setIfInBounds_toArray, List.set_cons_zero, List.set_cons_succ]
    refine wpAnyF_take (i := 1) (v := fv) rfl (by kernel_rfl) (by kernel_rfl) (by kernel_rfl) (by kernel_rfl) (fun _ _ _ h => h) (Or.inl ⟨by rfl, ?_⟩) ⟨c2, c1⟩ ?_
    · intro w hSw; (try dsimp only at hSw); go_simp
    simp only [Act.put, List.setIfInBounds_toArray, List.set_cons_zero, List.set_cons_succ]
    refine wpAnyF_take (i := 2) (v := .int .i64 (nthN l k)) rfl (by kernel_rfl) (by kernel_rfl) (by kernel_rfl) (by kernel_rfl) (fun _ _ _ h => h) (Or.inl ⟨by rfl, ?_⟩) ⟨c2, c1⟩ ?_
    · intro w hSw; (try dsimp only at hSw); go_simp
    simp only [Act.put, List.setIfInBounds_toArray, List.set_cons_zero, List.set_cons_succ]
    refine wpAnyF_one (i := 3) (by kernel_rfl) rfl (fun K hK => ?_)
    obtain rfl := hfv'h.out
    go_simp
    refine (looks1_below (nthN l k) _).mono ?_
    rintro e w5 ⟨rfl, hB5⟩
    have hb5 := (Below.drew (Below.refl W.heap.size W)).trans hB5
    have y1 := hI.fn.below hb5
    have y2 := hI.var.below hb5
    have hrow := ownsRow_next hI.row.row hb5
    have hold := hI.old.next hb5
    have hz5 := hb5.size
    have f2 := y2.free
    dsimp only
    refine hK.out _ _ (fun _ => ⟨y2.cell, y1.cell⟩) ?_
    clear hK K
    try simp only [Act.put, List.setIfInBounds_toArray, List.set_cons_zero, List.set_cons_succ]
    refine wpAnyF_one (i := 4) (by kernel_rfl) rfl (fun K hK => ?_)
    go_simp
    refine hK.out _ _ (fun _ => ⟨(y2.alloc _).cell, (y1.alloc _).cell⟩) ?_
    clear hK K
    try simp only [Act.put, List.setIfInBounds_toArray, List.set_cons_zero, List.set_cons_succ]
    refine wpAnyF_one (i := 5) (by kernel_rfl) rfl (fun K hK => ?_)
    refine step_append_slk _ rfl (.tmp 9) (.tmp 13) 39 rfl (w.heap.size + 2) 3 i0 (.int .i64 0) 1 8 Try.underlying39 hi hz0 hz1 hz2 rfl (by decide) v k _ rfl (ownsRow_next hrow ((Below.refl _ _).alloc (Nat.le_refl _) _)) (some ⟨w5.heap.size, 0, none⟩) 1 1 (f (nthN l k)) rfl ?_ (hf1'h.out _) (by unfold maxLen; omega) (by omega) (by have := hI.var.lt; simp at this ⊢; omega) ?_
    · have := SlK.of_blk (k := 1) (n := 1) (World.alloc_heap_new w5 (.cells #[.int .i64 (nthN l k)] 3)) rfl (by decide)
      rw [hf'h.out]; exact this
    intro v' w6 hown' hgrow hat
    refine hK.out _ _ (fun _ => ?_) ?_
    all_goals
      have hlo : ∀ j, v.ownBlock = some j → w.heap.size + 2 ≤ j := fun j hj => (hI.row.row.lt j hj).1
      have z1 := (y1.alloc (.cells #[.int .i64 (nthN l k)] 3)).grown hgrow (fun e => by have := hlo _ e.symm; simp at this <;> omega)
      have z2 := (y2.alloc (.cells #[.int .i64 (nthN l k)] 3)).grown hgrow (fun e => by have := hlo _ e.symm; simp at this <;> omega)
    · exact ⟨z2.cell, z1.cell⟩
    clear hK K
    try simp only [Act.put, List.setIfInBounds_toArray, List.set_cons_zero, List.set_cons_succ]
    have z3 := z2.free
    have z4 := z2.cell
    obtain ⟨sp', cap', rfl⟩ := row_slice' hown'
    refine wpAnyF_one (i := 6) (by kernel_rfl) rfl (fun K hK => ?_)
    go_simp
    refine hK.out _ _ (fun h => absurd rfl h) ?_
    clear hK K
    refine wpAnyF_done (by kernel_rfl) ?_ _
    have hkg : Kept (fun b => b < w.heap.size ∨ S b) (w5.alloc (.cells #[.int .i64 (nthN l k)] 3)) w6 :=
      Kept.grown hgrow (fun j hj => by rintro (h | h); have := hlo _ hj; omega; exact hI.row.mine _ hj h)
    have hk5 : Kept (fun b => b < w.heap.size ∨ S b) W w6 := ((Kept.of_below hb5).trans (Kept.alloc _ _ _)).trans hkg
    refine ⟨(hk5.trans (Kept.store _ ⟨w.heap.size + 1, 0, none⟩ _ y2.mine (by simp))).mono ?_, .slice sp' (k + 1) cap', ?_, z2.set _, ?_, ?_⟩
    · rintro c (rfl | h)
      · exact .inl hbl'h.out
      · exact .inr h
    · exact ⟨by rw [World.cell?_setCell_far _ _ _ _ (by simp)]; exact z1.cell, (World.frozen?_setCell _ _ _ _).trans z1.free, z1.mine⟩
    · rw [hsn]
      exact (OwnR.appended (W1 := w5.alloc (.cells #[.int .i64 (nthN l k)] 3)) hI.row hown' hat (by simp; omega) hSb).setBelow (a := ⟨w.heap.size + 1, 0, none⟩) (by simp) _
    · exact ((hold.alloc (.cells #[.int .i64 (nthN l k)] 3)).grown hgrow (fun j hj => by have := hlo _ hj; omega)).set (p := ⟨w.heap.size + 1, 0, none⟩) (by simp) _
  case done =>
    rintro D S W hD hSD hr ⟨v, hI⟩ hK
    have c1 := hI.var.cell
    clear hr
    gi_wp2
    obtain ⟨sp, cap, rfl⟩ := row_slice' hI.row.row
    have hz := hz'h.out
    refine post_mark (.inl rfl) hK (results_tmp rfl _ _ _) ⟨sp, _, cap, rfl, below_putObj hI.old.below (by omega) _, ?_⟩
    have h5 := ownsRow_mono hI.row.row (show w.heap.size ≤ w.heap.size + 2 by omega)
    rw [List.take_length] at h5
    exact ownsRow_put h5 (fun j hj e => hI.row.mine j hj (e ▸ hSD)) _
theorem infomadeS : (Try.prog.info? 38).map (fun i => (i.zero, i.size, i.bytes)) = some (some (.agg #[.int .u64 0, .int .u64 0, .int .u8 0]), 3, 24) := by kernel_rfl
/-- Between rounds. -/
structure madeSI (fv : Value) (f : Nat → List Value) (l : List Nat) (w : World) (k : Nat) (v : Value) (S : Nat → Prop) (W : World) : Prop where
  fn : Own1 ⟨w.heap.size, 0, none⟩ fv S W
  var : Own1 ⟨w.heap.size + 1, 0, none⟩ v S W
  row : OwnR (w.heap.size + 2) 38 3 v k ((l.take k).flatMap f) S W
  old : Old w.heap.size w S W
def madeSE (fv : Value) (f : Nat → List Value) (l : List Nat) (w : World) (k : Nat) (S : Nat → Prop) (W : World) : Prop := ∃ v, madeSI fv f l w k v S W
theorem madeSE.stable (fv : Value) (f : Nat → List Value) (l : List Nat) (w : World) (k : Nat) : Stable (madeSE fv f l w k) := fun S S' W W' ⟨v, i⟩ hf =>
  ⟨v, Own1.stable _ _ _ _ _ _ i.fn hf, Own1.stable _ _ _ _ _ _ i.var hf, OwnR.stable _ _ _ _ _ _ _ _ _ _ i.row hf, Old.stable _ _ _ _ _ _ i.old hf⟩
theorem madeSany (m b : Nat) (g : Gp) (hm : m < 256) (w : World) (hb : w.heap[b]? = some (.cells #[.int .u8 m] 83 (0, 0))) :
    Calls Try.prog 48 #[.func (.func 69) #[] #[.pointer (some ⟨b, 0, none⟩)], .func (.func 44) #[.agg (gpA g)] #[]] w fun e w' => ∃ sp n cap, e = .returned (.slice sp n cap) ∧ Below w.heap.size w w' ∧
      w'.ownsRow w.heap.size 38 3 (.slice sp n cap) (lanesOf m).length ((lanesOf m).flatMap (fun n : Nat => slL (slotAt g n))) := by
  obtain ⟨f, hf⟩ : ∃ f : Nat → List Value, f = fun n : Nat => slL (slotAt g n) := ⟨_, rfl⟩
  obtain ⟨fv, hfv⟩ : ∃ fv : Value, fv = .func (.func 44) #[.agg (gpA g)] #[] := ⟨_, rfl⟩
  rw [← hf, ← hfv]
  have hfl : ∀ n, (f n).length = 3 := fun n => by rw [hf]; rfl
  have hf1 : ∀ n, ∀ u ∈ f n, u.oneCell' = true := fun n => by rw [hf]; exact by intro u hu; simp [slL] at hu; rcases hu with rfl | rfl | rfl <;> rfl
  have hbl := lt_of_heap hb
  have hn8 := length_lanesOf m
  have hlt : ∀ i ∈ lanesOf m, i < 8 := fun i hi => lanesOf_lt m i hi
  obtain ⟨W0, hW0⟩ : ∃ W0, W0 = (w.alloc (.cells #[fv] 81)).alloc (.cells #[.slice none 0 0] 26) := ⟨_, rfl⟩
  have hz : W0.heap.size = w.heap.size + 2 := by rw [hW0]; simp
  have hI0 : madeSE fv f (lanesOf m) w 0 (fun _ => False) W0 := by
    rw [hW0]
    refine ⟨.slice none 0 0, (Own1.new _ w _ _ (fun h => h)).alloc _, ?_, ⟨World.ownsRow_nil _ _ _ _, by simp [Value.ownBlock]⟩, ((Old.mk (Below.refl _ w) (Nat.le_refl _) (fun b hb h => h)).alloc _).alloc _⟩
    have := Own1.new (fun _ => False) (w.alloc (.cells #[fv] 81)) (.slice none 0 0) 26 (fun h => h)
    simpa using this
  have hb0 : W0.heap[b]? = some (.cells #[.int .u8 m] 83 (0, 0)) := heap_below (hI0.choose_spec.old.below) hb hbl
  have hit := geach_it m b hm W0 hb0
  generalize hl : lanesOf m = l at *
  have hfl'h := Lib.hid hfl
  have hf1'h := Lib.hid hf1
  have hbl'h := Lib.hid hbl
  have hlt'h := Lib.hid hlt
  have hI0'h := Lib.hid hI0
  have hb0'h := Lib.hid hb0
  have hit'h := Lib.hid hit
  have hl'h := Lib.hid hl
  have hb'h := Lib.hid hb
  have hz'h := Lib.hid hz
  have hn8'h := Lib.hid hn8
  have hfv'h := Lib.hid hfv
  have hf'h := Lib.hid hf
  clear hfl hf1 hbl hlt hI0 hb0 hit hl hb hz hn8 hfv hf
  refine (callsIn_wide (n := 0)).1 ?_
  refine callsIn_of_wp_marks Try.func48 rfl trivial ?_
  simp only [Try.ntmps48, List.size_toArray, List.length_cons, List.length_nil, Nat.reduceAdd, Nat.reduceSub, Array.replicate_succ, Array.replicate_zero, List.push_toArray, List.append_toArray, List.nil_append, List.cons_append]
  gi_wp2_with fail
  rw [← hW0]
  clear hW0
  refine' wpIn_range rfl (fun h => by cases h) rfl trivial enters_geach hit'h.out (fun b hb => False.elim hb) (fun _ => rfl) (fun c hc => ⟨by have := hbl'h.out; have := hz'h.out; omega, fun h => h⟩)
    (madeSE fv f l w) noX (madeSE.stable fv f l w) noX_stable hI0'h.out
    (AxOf _ (madeSE fv f l w)) (AxOf.stable (madeSE.stable fv f l w)) ?assign ?body ?done (fun _ _ _ _ _ _ _ _ _ h _ => h.elim)
  case assign =>
    intro l1 k S W hk hSl hr hSb hI
    rw [nthN_eq hk]
    clear hr
    gi_wp2
    exact ⟨⟨rfl, hI⟩, Kept.refl _ _⟩
  case body =>
    rintro l1 k S a W r hk hSl hlr hr hSb ⟨rfl, v, hI⟩
    have hn := hlt'h.out _ (nthN_mem hk)
    have hk8 : k < 8 := by have := hn8'h.out; omega
    have c1 := hI.fn.cell
    have c2 := hI.var.cell
    have f2 := hI.var.free
    have hsn : (l.take (k + 1)).flatMap f = (l.take k).flatMap f ++ f (nthN l k) := by rw [List.take_succ_eq_append_getElem hk, List.flatMap_append, nthN_eq hk]; simp
    obtain ⟨i0, hi, hz0, hz1, hz2⟩ := info_parts infomadeS
    refine wpIn_block ?_
    refine wpIn_round_heldF (fun w' => w'.cell? ⟨w.heap.size + 1, 0, none⟩ = some v ∧ w'.cell? ⟨w.heap.size, 0, none⟩ = some fv) 6 (by kernel_rfl) (by kernel_rfl) (inBlock_noLet rangePost_noLet) ?_
    refine wpAnyF_take (i := 0) (v := v) rfl (by kernel_rfl) (by kernel_rfl) (by kernel_rfl) (by kernel_rfl) (fun _ _ _ h => h) (Or.inl ⟨by rfl, ?_⟩) ⟨c2, c1⟩ ?_
    · intro w hSw; (try dsimp only at hSw); go_simp
    simp only [Act.put, List.setIfInBounds_toArray, List.set_cons_zero, List.set_cons_succ]
    refine wpAnyF_take (i := 1) (v := fv) rfl (by kernel_rfl) (by kernel_rfl) (by kernel_rfl) (by kernel_rfl) (fun _ _ _ h => h) (Or.inl ⟨by rfl, ?_⟩) ⟨c2, c1⟩ ?_
    · intro w hSw; (try dsimp only at hSw); go_simp
    simp only [Act.put, List.setIfInBounds_toArray, List.set_cons_zero, List.set_cons_succ]
    refine wpAnyF_take (i := 2) (v := .int .i64 (nthN l k)) rfl (by kernel_rfl) (by kernel_rfl) (by kernel_rfl) (by kernel_rfl) (fun _ _ _ h => h) (Or.inl ⟨by rfl, ?_⟩) ⟨c2, c1⟩ ?_
    · intro w hSw; (try dsimp only at hSw); go_simp
    simp only [Act.put, List.setIfInBounds_toArray, List.set_cons_zero, List.set_cons_succ]
    refine wpAnyF_one (i := 3) (by kernel_rfl) rfl (fun K hK => ?_)
    obtain rfl := hfv'h.out
    go_simp
    refine (gat_any g (nthN l k) _ hn).mono ?_
    rintro e w5 ⟨rfl, hB5⟩
    have hb5 := (Below.drew (Below.refl W.heap.size W)).trans hB5
    have y1 := hI.fn.below hb5
    have y2 := hI.var.below hb5
    have hrow := ownsRow_next hI.row.row hb5
    have hold := hI.old.next hb5
    have hz5 := hb5.size
    have f2 := y2.free
    dsimp only
    refine hK.out _ _ (fun _ => ⟨y2.cell, y1.cell⟩) ?_
    clear hK K
    try simp only [Act.put, List.setIfInBounds_toArray, List.set_cons_zero, List.set_cons_succ]
    refine wpAnyF_one (i := 4) (by kernel_rfl) rfl (fun K hK => ?_)
    go_simp
    refine hK.out _ _ (fun _ => ⟨(y2.alloc _).cell, (y1.alloc _).cell⟩) ?_
    clear hK K
    try simp only [Act.put, List.setIfInBounds_toArray, List.set_cons_zero, List.set_cons_succ]
    refine wpAnyF_one (i := 5) (by kernel_rfl) rfl (fun K hK => ?_)
    refine step_append_slk _ rfl (.tmp 9) (.tmp 13) 26 rfl (w.heap.size + 2) 38 i0 (.agg #[.int .u64 0, .int .u64 0, .int .u8 0]) 3 24 Try.underlying26 hi hz0 hz1 hz2 rfl (by decide) v k _ rfl (ownsRow_next hrow ((Below.refl _ _).alloc (Nat.le_refl _) _)) (some ⟨w5.heap.size, 0, none⟩) 1 1 (f (nthN l k)) rfl ?_ (hf1'h.out _) (by unfold maxLen; omega) (by omega) (by have := hI.var.lt; simp at this ⊢; omega) ?_
    · have := SlK.of_blk (k := 3) (n := 1) (World.alloc_heap_new w5 (.cells (slA (slotAt g (nthN l k))) 38)) rfl (by decide)
      rw [hf'h.out]; exact this
    intro v' w6 hown' hgrow hat
    refine hK.out _ _ (fun _ => ?_) ?_
    all_goals
      have hlo : ∀ j, v.ownBlock = some j → w.heap.size + 2 ≤ j := fun j hj => (hI.row.row.lt j hj).1
      have z1 := (y1.alloc (.cells (slA (slotAt g (nthN l k))) 38)).grown hgrow (fun e => by have := hlo _ e.symm; simp at this <;> omega)
      have z2 := (y2.alloc (.cells (slA (slotAt g (nthN l k))) 38)).grown hgrow (fun e => by have := hlo _ e.symm; simp at this <;> omega)
    · exact ⟨z2.cell, z1.cell⟩
    clear hK K
    try simp only [Act.put, List.setIfInBounds_toArray, List.set_cons_zero, List.set_cons_succ]
    have z3 := z2.free
    have z4 := z2.cell
    obtain ⟨sp', cap', rfl⟩ := row_slice' hown'
    refine wpAnyF_one (i := 6) (by kernel_rfl) rfl (fun K hK => ?_)
    go_simp
    refine hK.out _ _ (fun h => absurd rfl h) ?_
    clear hK K
    refine wpAnyF_done (by kernel_rfl) ?_ _
    have hkg : Kept (fun b => b < w.heap.size ∨ S b) (w5.alloc (.cells (slA (slotAt g (nthN l k))) 38)) w6 :=
      Kept.grown hgrow (fun j hj => by rintro (h | h); have := hlo _ hj; omega; exact hI.row.mine _ hj h)
    have hk5 : Kept (fun b => b < w.heap.size ∨ S b) W w6 := ((Kept.of_below hb5).trans (Kept.alloc _ _ _)).trans hkg
    refine ⟨(hk5.trans (Kept.store _ ⟨w.heap.size + 1, 0, none⟩ _ y2.mine (by simp))).mono ?_, .slice sp' (k + 1) cap', ?_, z2.set _, ?_, ?_⟩
    · rintro c (rfl | h)
      · exact .inl hbl'h.out
      · exact .inr h
    · exact ⟨by rw [World.cell?_setCell_far _ _ _ _ (by simp)]; exact z1.cell, (World.frozen?_setCell _ _ _ _).trans z1.free, z1.mine⟩
    · rw [hsn]
      exact (OwnR.appended (W1 := w5.alloc (.cells (slA (slotAt g (nthN l k))) 38)) hI.row hown' hat (by simp; omega) hSb).setBelow (a := ⟨w.heap.size + 1, 0, none⟩) (by simp) _
    · exact ((hold.alloc (.cells (slA (slotAt g (nthN l k))) 38)).grown hgrow (fun j hj => by have := hlo _ hj; omega)).set (p := ⟨w.heap.size + 1, 0, none⟩) (by simp) _
  case done =>
    rintro D S W hD hSD hr ⟨v, hI⟩ hK
    have c1 := hI.var.cell
    clear hr
    gi_wp2
    obtain ⟨sp, cap, rfl⟩ := row_slice' hI.row.row
    have hz := hz'h.out
    refine post_mark (.inl rfl) hK (results_tmp rfl _ _ _) ⟨sp, _, cap, rfl, below_putObj hI.old.below (by omega) _, ?_⟩
    have h5 := ownsRow_mono hI.row.row (show w.heap.size ≤ w.heap.size + 2 by omega)
    rw [List.take_length] at h5
    exact ownsRow_put h5 (fun j hj e => hI.row.mine j hj (e ▸ hSD)) _
end Go.Proofs.Ytfoohdjgnphdgaa
