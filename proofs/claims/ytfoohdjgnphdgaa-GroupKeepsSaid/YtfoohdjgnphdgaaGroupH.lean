/-
  Package group: a slot is put.
-/
import Derived.Test.YtfoohdjgnphdgaaGroupG
set_option linter.unusedSimpArgs false
set_option linter.unusedVariables false
set_option maxRecDepth 100000
namespace Go.Proofs.Ytfoohdjgnphdgaa
open Go.RowKit

structure OwnL (L : List Blk3) (S : Nat → Prop) (W : World) : Prop where
  rows : HasL W L
  mine : ∀ x ∈ L, ¬ S x.1
theorem OwnL.stable (L : List Blk3) : Stable (OwnL L) := fun S S' W W' i f =>
  ⟨HasL.of fun x hx => f.heap' (i.mine x hx) (i.rows.mem x hx), fun x hx => f.not (lt_of_heap (i.rows.mem x hx)) (i.mine x hx)⟩
def putW (g : Gp) (s : Sl3) : Gp := if putE g s = 0 then putTo g s else g
/-- What Fills comes to for one byte. -/
theorem fills_one {x h : Nat} (hr : rightW x = true) (hh : h ≤ 127) : fillsT x [h] = if 0 < (lanesOf (freeM x)).length then (setLane x (nthN (lanesOf (freeM x)) 0) h, [nthN (lanesOf (freeM x)) 0], 0) else (0, [], 2) := by
  unfold fillsT
  rw [if_pos hr]
  by_cases h0 : 0 < (lanesOf (freeM x)).length
  · rw [if_pos h0]
    simp [fillsK, fillStep, hh, h0]
  · rw [if_neg h0]
    simp [fillsK, fillStep, hh, h0]
theorem free_filter {x : Nat} (hr : rightW x = true) : lanesOf (freeM x) = (List.range 8).filter fun i => !fullAt x i := by
  unfold freeM
  rw [freeL_eq]
  refine List.filter_congr fun i hi => ?_
  have := (rightW_iff x).1 hr i (List.mem_range.1 hi)
  unfold okB at this
  unfold fullAt
  by_cases h1 : byteAt x i < 128
  · have h2 : byteAt x i ≠ 128 := by omega
    have h3 : byteAt x i ≠ 254 := by omega
    simp [h1, h2, h3]
  · simp [h1] at this ⊢
    exact this
theorem filt_first (p : Nat → Bool) (n : Nat) : (List.range n).findIdx p < n → 0 < ((List.range n).filter p).length ∧ nthN ((List.range n).filter p) 0 = (List.range n).findIdx p := by
  intro h
  have hp : p ((List.range n).findIdx p) = true := by
    have h2 : (List.range n).findIdx p < (List.range n).length := by simpa using h
    have := List.findIdx_getElem (w := h2)
    simpa using this
  obtain ⟨l, hl⟩ := filt_split p h
  rw [if_pos hp] at hl
  have hno : (List.range ((List.range n).findIdx p)).filter p = [] := by
    rw [List.filter_eq_nil_iff]
    intro i hi
    have hlt := List.mem_range.1 hi
    have := List.not_of_lt_findIdx (xs := List.range n) (p := p) hlt
    simpa using this
  rw [hl, hno]
  exact ⟨by simp, rfl⟩
theorem free_first {g : Gp} (hr : rightW g.c = true) (h : freeLane g < 8) : 0 < (lanesOf (freeM g.c)).length ∧ nthN (lanesOf (freeM g.c)) 0 = freeLane g := by
  rw [free_filter hr]
  exact filt_first _ 8 h
theorem freeLane_le (g : Gp) : freeLane g ≤ 8 := by
  have := List.findIdx_le_length (xs := List.range 8) (p := fun i => !fullAt g.c i)
  simpa [freeLane] using this
theorem free_none {g : Gp} (hr : rightW g.c = true) (h : freeLane g = 8) : ¬ 0 < (lanesOf (freeM g.c)).length := by
  rw [free_filter hr]
  intro h0
  have hm := nthN_mem h0
  rw [List.mem_filter] at hm
  have h8 := List.mem_range.1 hm.1
  have h2 := List.findIdx_le_length (xs := List.range 8) (p := fun i => !fullAt g.c i)
  have : (List.range 8).findIdx (fun i => !fullAt g.c i) < 8 := by
    have := List.findIdx_lt_length_of_exists (xs := List.range 8) (p := fun i => !fullAt g.c i) ⟨_, hm.1, hm.2⟩
    simpa using this
  unfold freeLane at h
  omega
theorem fills_free {g : Gp} {h : Nat} (hr : rightW g.c = true) (hh : h ≤ 127) : fillsT g.c [h] = if freeLane g = 8 then (0, [], 2) else (setLane g.c (freeLane g) h, [freeLane g], 0) := by
  rw [fills_one hr hh]
  by_cases h8 : freeLane g = 8
  · rw [if_pos h8, if_neg (free_none hr h8)]
  · have := freeLane_le g
    obtain ⟨h1, h2⟩ := free_first hr (by omega)
    rw [if_neg h8, if_pos h1, h2]
theorem there_iff {g : Gp} {key : Nat} : thereG g key = true ↔ ∃ k, k < (fullL g.c).length ∧ g.k (nthN (fullL g.c) k) = key := by
  unfold thereG
  rw [List.any_eq_true]
  constructor
  · rintro ⟨i, hi, h⟩
    rw [Bool.and_eq_true, beq_iff_eq] at h
    obtain ⟨k, hk, h1⟩ := List.mem_iff_getElem.1 (fullL_mem.2 ⟨List.mem_range.1 hi, h.1⟩)
    rw [nthN_eq hk] at h1
    exact ⟨k, hk, by rw [h1]; exact h.2⟩
  · rintro ⟨k, hk, h⟩
    have := fullL_mem.1 (nthN_mem hk)
    exact ⟨_, List.mem_range.2 this.1, by rw [Bool.and_eq_true, beq_iff_eq]; exact ⟨this.2, h⟩⟩
def PutL (G : Nat) (s : Sl3) (w : World) : List Blk3 := [(w.heap.size + 3, #[.int .i64 0], 29), (w.heap.size + 2, #[.int .i64 0], 3), (w.heap.size + 1, slA s, 38), (w.heap.size, #[.pointer (some ⟨G, 0, none⟩)], 97)]
theorem put_big (g : Gp) (s : Sl3) (G : Nat) (w : World) (hh : 127 < s.h2) (hG : w.heap[G]? = some (.cells (gpA g) 77 (0, 0))) :
    Calls Try.prog 56 #[.pointer (some ⟨G, 0, none⟩), .agg (slA s)] w fun e w' => e = .returned (.tuple #[.int .i64 0, .int .i64 2]) ∧ Below w.heap.size w w' := by
  obtain ⟨W, hW⟩ : ∃ W, W = (((w.alloc (.cells #[.pointer (some ⟨G, 0, none⟩)] 97)).alloc (.cells (slA s) 38)).alloc (.cells #[.int .i64 0] 3)).alloc (.cells #[.int .i64 0] 29) := ⟨_, rfl⟩
  have hO := (((Hs.nil w).new2 #[.pointer (some ⟨G, 0, none⟩)] (slA s) 97 38).new #[.int .i64 0] 3).new #[.int .i64 0] 29
  simp only [World.size_alloc, Nat.add_assoc, Nat.reduceAdd] at hO
  rw [← hW] at hO
  have c2 : W.cell? ⟨w.heap.size + 1, 2, none⟩ = some (.int .u8 s.h2) := blk_cell hO.rows.2.2.1 rfl
  have hd : decide ((s.h2 : Int) > 127) = true := by simp; omega
  have r1 : W.cell? ⟨w.heap.size + 2, 0, none⟩ = some (.int .i64 0) := blk_cell hO.rows.2.1 rfl
  have r2 : W.frozen? ⟨w.heap.size + 2, 0, none⟩ = false := blk_free 0 hO.rows.2.1
  have r3 : W.cell? ⟨w.heap.size + 3, 0, none⟩ = some (.int .i64 0) := blk_cell hO.rows.1 rfl
  have r4 : W.frozen? ⟨w.heap.size + 3, 0, none⟩ = false := blk_free 0 hO.rows.1
  clear hh
  have hO'h := Lib.hid hO
  have hG'h := Lib.hid hG
  clear hO hG
  refine (callsIn_wide (n := 0)).1 ?_
  refine callsIn_of_wp_marks Try.func56 rfl trivial ?_
  simp only [Try.ntmps56, List.size_toArray, List.length_cons, List.length_nil, Nat.reduceAdd, Nat.reduceSub, Array.replicate_succ, Array.replicate_zero, List.push_toArray, List.append_toArray, List.nil_append, List.cons_append]
  refine wpIn_wide.2 ?_
  go_upto_region 1 with fail
  simp only [Nat.add_assoc, Nat.reduceAdd]
  rw [← hW]
  clear hW
  go_wp2
  have hO2 := (hO'h.out.put 1 rfl 0 (.int .i64 0)).put 0 rfl 0 (.int .i64 2)
  generalize World.setCell _ _ _ = W3 at hO2 ⊢
  have d1 := blk_cell (i := 0) hO2.rows.1 rfl
  have d2 := blk_cell (i := 0) hO2.rows.2.1 rfl
  refine post_marks (bs := []) (.inl rfl) List.nodup_nil (fun D hD => (by cases hD)) (v := .tuple #[.int .i64 0, .int .i64 2]) (by simp [results, Try.results56, go_sem, d1, d2, shutAll]) ⟨rfl, hO2.old⟩
structure PutI (g : Gp) (s : Sl3) (G : Nat) (l : List Nat) (w : World) (k : Nat) (S : Nat → Prop) (W : World) : Prop where
  own : OwnL (PutL G s w) S W
  old : Old w.heap.size w S W
  no : ∀ j, j < k → g.k (nthN l j) ≠ s.key
theorem PutI.stable (g : Gp) (s : Sl3) (G : Nat) (l : List Nat) (w : World) (k : Nat) : Stable (PutI g s G l w k) := fun S S' W W' i f =>
  ⟨OwnL.stable _ _ _ _ _ i.own f, Old.stable _ _ _ _ _ _ i.old f, i.no⟩
def PutX (g : Gp) (s : Sl3) (l : List Nat) (w : World) (c : Code) (k : Nat) (S : Nat → Prop) (W : World) : Prop :=
  (c = .ret ∧ g.k (nthN l k) = s.key) ∧ (Own1 ⟨w.heap.size + 2, 0, none⟩ (.int .i64 0) S W ∧ Own1 ⟨w.heap.size + 3, 0, none⟩ (.int .i64 5) S W) ∧ Old w.heap.size w S W
theorem PutX.stable (g : Gp) (s : Sl3) (l : List Nat) (w : World) (c : Code) (k : Nat) : Stable (PutX g s l w c k) := (Stable.pure _).and (((Own1.stable _ _).and (Own1.stable _ _)).and (Old.stable _ _))
def PutEnd (g : Gp) (s : Sl3) (G : Nat) (w : World) (e : Ending) (w' : World) : Prop :=
  e = .returned (.tuple #[.int .i64 (putLane g s), .int .i64 (putE g s)]) ∧ w'.heap[G]? = some (.cells (gpA (putW g s)) 77 (0, 0)) ∧ Only G w w'
theorem PutEnd.no {g : Gp} {s : Sl3} {G : Nat} {w w' : World} {z : Nat} (hz : putE g s = z) (h0 : z ≠ 0) (hG : w.heap[G]? = some (.cells (gpA g) 77 (0, 0))) (hb : Below w.heap.size w w') :
    PutEnd g s G w (.returned (.tuple #[.int .i64 0, .int .i64 z])) w' := by
  have hn : putE g s ≠ 0 := by omega
  refine ⟨by unfold putLane; rw [if_neg hn, hz]; rfl, by unfold putW; rw [if_neg hn]; exact heap_below hb hG (lt_of_heap hG), ⟨fun B hB => hb.mono (by have := lt_of_heap hG; omega), fun b _ hlt => hb.block b hlt⟩⟩
set_option maxHeartbeats 1000000 in
theorem put_any' (g : Gp) (s : Sl3) (G : Nat) (w : World) (hg : GpOk g) (hs : Sl3Ok s) (hr : rightW g.c = true) (hh : s.h2 ≤ 127) (hG : w.heap[G]? = some (.cells (gpA g) 77 (0, 0))) :
    Calls Try.prog 56 #[.pointer (some ⟨G, 0, none⟩), .agg (slA s)] w (PutEnd g s G w) := by
  obtain ⟨l, hl⟩ : ∃ l, l = fullL g.c := ⟨_, rfl⟩
  have hset : setM g.c 0 = belowM g.c 128 := by unfold setM; rw [if_pos hr, if_pos rfl]
  have hlm : lanesOf (setM g.c 0) = l := by rw [hset, fullL_eq, hl]
  have hm8 : setM g.c 0 < 256 := by rw [hset]; exact belowM_lt' _ _
  have F := fun w => gfull_any g w hg
  have hmem : ∀ k, k < l.length → nthN l k < 8 := fun k hk => (fullL_mem.1 (by rw [← hl]; exact nthN_mem hk)).1
  have hno : ∀ k, k < l.length → g.k (nthN l k) = s.key → putE g s = 5 := fun k hk h => by
    unfold putE
    rw [if_neg (by omega), if_pos (there_iff.2 ⟨k, by rw [← hl]; exact hk, by rw [← hl]; exact h⟩)]
  have hyes : (∀ k, k < l.length → g.k (nthN l k) ≠ s.key) → putE g s = if freeLane g = 8 then 6 else 0 := fun h => by
    unfold putE
    rw [if_neg (by omega), if_neg]
    intro ht
    obtain ⟨k, hk, h1⟩ := there_iff.1 ht
    rw [← hl] at hk h1
    exact h k hk h1
  have hGl := lt_of_heap hG
  obtain ⟨W, hW⟩ : ∃ W, W = (((w.alloc (.cells #[.pointer (some ⟨G, 0, none⟩)] 97)).alloc (.cells (slA s) 38)).alloc (.cells #[.int .i64 0] 3)).alloc (.cells #[.int .i64 0] 29) := ⟨_, rfl⟩
  have hO := (((Hs.nil w).new2 #[.pointer (some ⟨G, 0, none⟩)] (slA s) 97 38).new #[.int .i64 0] 3).new #[.int .i64 0] 29
  simp only [World.size_alloc, Nat.add_assoc, Nat.reduceAdd] at hO
  rw [← hW] at hO
  have hzW : W.heap.size = w.heap.size + 4 := by rw [hW]; simp
  have c2 : W.cell? ⟨w.heap.size + 1, 2, none⟩ = some (.int .u8 s.h2) := blk_cell hO.rows.2.2.1 rfl
  have c1 : W.cell? ⟨w.heap.size, 0, none⟩ = some (.pointer (some ⟨G, 0, none⟩)) := blk_cell hO.rows.2.2.2.1 rfl
  have hd : decide ((s.h2 : Int) > 127) = false := by simp; omega
  have hGW := heap_below hO.old hG hGl
  generalize setM g.c 0 = m at *
  have hO'h := Lib.hid hO
  have hG'h := Lib.hid hG
  have hyes'h := Lib.hid hyes
  have hno'h := Lib.hid hno
  have hmem'h := Lib.hid hmem
  have hl'h := Lib.hid hl
  have hset'h := Lib.hid hset
  have hlm'h := Lib.hid hlm
  have hm8'h := Lib.hid hm8
  have F'h := Lib.hid F
  have hGl'h := Lib.hid hGl
  have hg'h := Lib.hid hg
  have hs'h := Lib.hid hs
  have hr'h := Lib.hid hr
  have hh'h := Lib.hid hh
  have hGW'h := Lib.hid hGW
  have hzW'h := Lib.hid hzW
  clear hO hG hyes hno hmem hl hset hlm hm8 F hGl hg hs hr hh hGW hzW
  refine (callsIn_wide (n := 0)).1 ?_
  refine callsIn_of_wp_marks Try.func56 rfl trivial ?_
  simp only [Try.ntmps56, List.size_toArray, List.length_cons, List.length_nil, Nat.reduceAdd, Nat.reduceSub, Array.replicate_succ, Array.replicate_zero, List.push_toArray, List.append_toArray, List.nil_append, List.cons_append]
  refine wpIn_wide.2 ?_
  go_upto_region 1 with fail
  simp only [Nat.add_assoc, Nat.reduceAdd]
  rw [← hW]
  clear hW
  go_wp2_with (first | (refine wpList_load_row rfl _ _ rfl G rfl 77 (gpA g) (0, 0) _ hGW'h.out Try.underlying77 rfl infoSs ?_) | (go_at_call 41; refine (F'h.out _).mono ?_; rintro e w3 ⟨b', hbb, rfl, hb3, hmb⟩))
  have hzW := hzW'h.out
  have hbb3 : w.heap.size + 4 ≤ b' := by omega
  have hO3 := hO'h.out.next hb3
  have hI0 : PutI g s G l w 0 (fun _ => False) w3 := ⟨⟨hO3.rows, fun x hx h => h⟩, ⟨hO3.old, Nat.le_refl _, fun _ _ h => h⟩, fun j hj => absurd hj (by omega)⟩
  have hit := geach_it m b' hm8'h.out w3 hmb
  rw [hlm'h.out] at hit
  have hbl := lt_of_heap hmb
  clear hbb hO3 hb3 c1 c2 hzW
  have hI0'h := Lib.hid hI0
  have hit'h := Lib.hid hit
  have hbl'h := Lib.hid hbl
  have hbb3'h := Lib.hid hbb3
  have hmb'h := Lib.hid hmb
  clear hI0 hit hbl hbb3 hmb
  refine (wpIn_wide (n := 0)).1 ?_
  refine' wpIn_range rfl (fun h => by cases h) rfl trivial enters_geach hit'h.out (fun b hb => False.elim hb) (fun _ => rfl) (fun c hc => ⟨by rw [hc]; exact hbl'h.out, fun h => h⟩)
    (PutI g s G l w) (PutX g s l w) (PutI.stable g s G l w) (PutX.stable g s l w) hI0'h.out
    (AxOf _ (PutI g s G l w)) (AxOf.stable (PutI.stable g s G l w)) ?assign ?body ?done ?stop
  case assign =>
    intro l1 k S W hk hSl hr hSb hI
    rw [nthN_eq hk]
    clear hr
    gi_wp2
    exact ⟨⟨rfl, hI⟩, Kept.refl _ _⟩
  case body =>
    rintro l1 k S A W r hk hSl hlr hr hSb ⟨rfl, hI⟩
    have hn := hmem'h.out k hk
    have hGd : W.drew.heap[G]? = some (.cells (gpA g) 77 (0, 0)) := heap_below (hI.old.below) hG'h.out hGl'h.out
    have e0 : W.drew.cell? ⟨w.heap.size, 0, none⟩ = some (.pointer (some ⟨G, 0, none⟩)) := blk_cell (W := W.drew) hI.own.rows.2.2.2.1 rfl
    have e1 : W.drew.cell? ⟨G, 1 + nthN l k, none⟩ = some (.int .u64 (g.k (nthN l k))) := gp_key (W := W.drew) hGd hn
    have e2 : W.drew.cell? ⟨w.heap.size + 1, 0, none⟩ = some (.int .u64 s.key) := blk_cell (W := W.drew) hI.own.rows.2.2.1 rfl
    have h0n : (0 : Int) ≤ (nthN l k : Int) := by omega
    have hn8 : (nthN l k : Int) < 8 := by omega
    refine wpIn_block ?_
    have hI'h := Lib.hid hI
    have hGd'h := Lib.hid hGd
    have hr'h := Lib.hid hr
    have hSb'h := Lib.hid hSb
    have hSl'h := Lib.hid hSl
    have hlr'h := Lib.hid hlr
    have hn'h := Lib.hid hn
    have hk'h := Lib.hid hk
    clear hI hGd hr hSb hSl hlr hn hk
    cases hd : ((g.k (nthN l k) : Int) == (s.key : Int))
    all_goals
      gi_wp2
      refine wpIn_round_still_tail 9 (by kernel_rfl) (by kernel_rfl) (by kernel_rfl) (by rintro ⟨_, _, h⟩; exact h) ?_
      simp only [List.take_succ_cons, List.take_zero, List.drop_succ_cons, List.drop_zero]
      change wpStill _ _ W.drew (fun a' => wpList _ _ _ _ a' W.drew) _ _
      repeat still_step
      refine wpStill_nil ?_
      go_wp2
    · gi_wp2
      have hI := hI'h.out
      have hId := PutI.stable g s G l w k _ _ _ _ hI (Foreign.drew (S := S) W)
      refine ⟨Kept.drew _ _, hId.own, hId.old, fun j hj => ?_⟩
      by_cases e : j = k
      · subst e; intro h; rw [h] at hd; simp at hd
      · exact hId.no j (by omega)
    · have hI := hI'h.out
      have ho2 : Own1 ⟨w.heap.size + 2, 0, none⟩ (.int .i64 0) S W.drew := Own1.drew ⟨blk_cell hI.own.rows.2.1 rfl, blk_free 0 hI.own.rows.2.1, hI.own.mine (w.heap.size + 2, #[.int .i64 0], 3) (by simp [PutL])⟩
      have ho3 : Own1 ⟨w.heap.size + 3, 0, none⟩ (.int .i64 0) S W.drew := Own1.drew ⟨blk_cell hI.own.rows.1 rfl, blk_free 0 hI.own.rows.1, hI.own.mine (w.heap.size + 3, #[.int .i64 0], 29) (by simp [PutL])⟩
      have hold := hI.old.drew
      have hk0 : Kept (fun c => c = b' ∨ S c) W W.drew := Kept.drew _ _
      generalize W.drew = V at *
      have r1 := ho2.cell
      have r2 := ho2.free
      have r3 := ho3.cell
      have r4 := ho3.free
      clear e0 e1 e2 hI
      have ho2'h := Lib.hid ho2
      have ho3'h := Lib.hid ho3
      have hold'h := Lib.hid hold
      have hk0'h := Lib.hid hk0
      have hd'h := Lib.hid hd
      clear ho2 ho3 hold hk0 hd
      gi_wp2
      have hb3 := hbb3'h.out
      refine ⟨(hk0'h.out.trans (Kept.setCell _ _ ⟨w.heap.size + 2, 0, none⟩ (.int .i64 0) ?_)).trans (Kept.setCell _ _ ⟨w.heap.size + 3, 0, none⟩ (.int .i64 5) ?_), ⟨rfl, ?_⟩, ⟨(ho2'h.out.set _).other _ (by simp), ((ho3'h.out.other _ (by simp)).set _)⟩, (hold'h.out.set (p := ⟨w.heap.size + 2, 0, none⟩) (by simp) _).set (p := ⟨w.heap.size + 3, 0, none⟩) (by simp) _⟩
      · rintro (h | h)
        · simp at h; omega
        · exact ho2'h.out.mine h
      · rintro (h | h)
        · simp at h; omega
        · exact ho3'h.out.mine h
      · have := hd'h.out
        simp at this; omega
  case stop =>
    rintro D c k S W hD hSD hr hk ⟨⟨rfl, hne⟩, ⟨hx2, hx3⟩, hold⟩ hK
    have hn2 : D ≠ w.heap.size + 2 := fun e => hx2.mine (by show S (w.heap.size + 2); rw [← e]; exact hSD)
    have hn3 : D ≠ w.heap.size + 3 := fun e => hx3.mine (by show S (w.heap.size + 3); rw [← e]; exact hSD)
    have d2 := (hx2.put (D := D) (fun e => hn2 e.symm) (.deferred none)).cell
    have d3 := (hx3.put (D := D) (fun e => hn3 e.symm) (.deferred none)).cell
    have hwD : w.heap.size ≤ D := by
      have h1 := hbb3'h.out
      have h2 := hbl'h.out
      omega
    have hz := hno'h.out k hk hne
    have hx2'h := Lib.hid hx2
    have hx3'h := Lib.hid hx3
    have hold'h := Lib.hid hold
    have hK'h := Lib.hid hK
    have hne'h := Lib.hid hne
    have hSD'h := Lib.hid hSD
    have hr'h := Lib.hid hr
    have hD'h := Lib.hid hD
    have hwD'h := Lib.hid hwD
    have hz'h := Lib.hid hz
    have hk'h := Lib.hid hk
    clear hx2 hx3 hold hK hne hSD hr hD hwD hz hk
    gi_wp2
    refine post_mark (.inl rfl) hK'h.out (v := .tuple #[.int .i64 0, .int .i64 5]) (by simp [results, Try.results56, go_sem, d2, d3]) (PutEnd.no hz'h.out (by decide) hG'h.out (below_putObj hold'h.out.below hwD'h.out _))
  case done =>
    rintro D S W hD hSD hr hI hK
    have HW : Hs w (PutL G s w) W := ⟨hI.own.rows, hI.old.below, hO'h.out.low, hO'h.out.desc⟩
    have hpE := hyes'h.out hI.no
    have hkeep : ∀ W' : World, Below W.heap.size W W' → ((W'.cell? ⟨w.heap.size, 0, none⟩ = some (.pointer (some ⟨G, 0, none⟩)) ∧ W'.cell? ⟨G, 0, none⟩ = some (.int .u64 g.c) ∧ W'.cell? ⟨w.heap.size + 1, 2, none⟩ = some (.int .u8 s.h2)) ∧ Below W.heap.size W W') := fun W' h => by
      have H2 := HW.next h
      exact ⟨⟨blk_cell H2.rows.2.2.2.1 rfl, gp_ctrl (heap_below H2.old hG'h.out hGl'h.out), blk_cell H2.rows.2.2.1 rfl⟩, h⟩
    have FL := fun (W' : World) sp hS => xfills_any g.c 1 1 sp [s.h2] W' hg'h.out.c (fun b hb => by simp at hb; have := hs'h.out.h2; omega) hS (by decide)
    rw [fills_free hr'h.out hh'h.out] at FL
    have hSl : ∀ W' : World, Sl (W'.alloc (.cells #[.int .u8 s.h2] 5)).drew (some ⟨W'.heap.size, 0, none⟩) 1 (u8s [s.h2]) := fun W' => Sl.of_blk (w := (W'.alloc (.cells #[.int .u8 s.h2] 5)).drew) (cs := #[.int .u8 s.h2]) (World.alloc_heap_new _ _) (show 1 ≤ maxLen by decide)
    have hDne : ∀ x ∈ PutL G s w, x.1 ≠ D := fun x hx e => hI.own.mine x hx (e ▸ hSD)
    have hwD : w.heap.size ≤ D := by
      have h1 := hbb3'h.out
      have h2 := hbl'h.out
      omega
    have hfl := freeLane_le g
    clear hr
    by_cases h8 : freeLane g = 8
    · rw [if_pos h8] at FL hpE
      obtain ⟨⟨k1, k2, k3⟩, k4⟩ := hkeep W (Below.refl _ _)
      have HW'h := Lib.hid HW
      have hpE'h := Lib.hid hpE
      have hkeep'h := Lib.hid hkeep
      have FL'h := Lib.hid FL
      have hDne'h := Lib.hid hDne
      have hI'h := Lib.hid hI
      have hK'h := Lib.hid hK
      have hSD'h := Lib.hid hSD
      have hD'h := Lib.hid hD
      have hwD'h := Lib.hid hwD
      have h8'h := Lib.hid h8
      have hfl'h := Lib.hid hfl
      have hSl'h := Lib.hid hSl
      clear HW hpE hkeep FL hDne hI hK hSD hD hwD h8 hfl hSl
      go_wp2
      go_region_held3 (fun W' => (W'.cell? ⟨w.heap.size, 0, none⟩ = some (.pointer (some ⟨G, 0, none⟩)) ∧ W'.cell? ⟨G, 0, none⟩ = some (.int .u64 g.c) ∧ W'.cell? ⟨w.heap.size + 1, 2, none⟩ = some (.int .u8 s.h2)) ∧ Below W.heap.size W W') (first | exact hkeep'h.out _ (by assumption) | exact hkeep'h.out _ (Below.drew (by assumption)) | (refine hkeep'h.out _ (Below.drew ?_); exact (Below.refl _ _).alloc (Nat.le_refl _) _) | fail) (first | (go_at_call 78; refine (FL'h.out _ _ (hSl'h.out _)).mono ?_; rintro e w5 ⟨sp, n', cap', rfl, hb5, hrow5⟩; have hB5 := (Below.drew ((Below.refl W.heap.size W).alloc (Nat.le_refl _) (.cells #[.int .u8 s.h2] 5))).trans (hb5.mono (by simp))) | fail)
      have H5 := HW'h.out.next hB5
      have r1 : w5.cell? ⟨w.heap.size + 2, 0, none⟩ = some (.int .i64 0) := blk_cell H5.rows.2.1 rfl
      have r2 : w5.frozen? ⟨w.heap.size + 2, 0, none⟩ = false := blk_free 0 H5.rows.2.1
      have r3 : w5.cell? ⟨w.heap.size + 3, 0, none⟩ = some (.int .i64 0) := blk_cell H5.rows.1 rfl
      have r4 : w5.frozen? ⟨w.heap.size + 3, 0, none⟩ = false := blk_free 0 H5.rows.1
      have hK5 := heap_below hB5 hK'h.out (lt_of_heap hK'h.out)
      clear k1 k2 k3 k4 hb5 hrow5 hB5
      have H5'h := Lib.hid H5
      have hK5'h := Lib.hid hK5
      clear H5 hK5
      go_wp2
      have hDne := hDne'h.out
      have hD2 : D ≠ w.heap.size + 2 := fun e => hDne (w.heap.size + 2, #[.int .i64 0], 3) (by simp [PutL]) e.symm
      have hD3 : D ≠ w.heap.size + 3 := fun e => hDne (w.heap.size + 3, #[.int .i64 0], 29) (by simp [PutL]) e.symm
      have H6 := (H5'h.out.put 1 rfl 0 (.int .i64 0)).put 0 rfl 0 (.int .i64 6)
      have hK6 : ((w5.setCell ⟨w.heap.size + 2, 0, none⟩ (.int .i64 0)).setCell ⟨w.heap.size + 3, 0, none⟩ (.int .i64 6)).heap[D]? = some (.deferred (some [])) := (Below.heap_setCell _ _ _ _ hD3).trans ((Below.heap_setCell _ _ _ _ hD2).trans hK5'h.out)
      generalize World.setCell _ _ _ = W6 at H6 hK6 ⊢
      have d3 : (W6.putObj D (.deferred none)).cell? ⟨w.heap.size + 3, 0, none⟩ = some (.int .i64 6) := blk_cell ((World.putObj_heap_other (fun e => hD3 e.symm)).trans H6.rows.1) rfl
      have d2 : (W6.putObj D (.deferred none)).cell? ⟨w.heap.size + 2, 0, none⟩ = some (.int .i64 0) := blk_cell ((World.putObj_heap_other (fun e => hD2 e.symm)).trans H6.rows.2.1) rfl
      refine post_mark (.inl rfl) hK6 (v := .tuple #[.int .i64 0, .int .i64 6]) (by simp [results, Try.results56, go_sem, d2, d3]) (PutEnd.no hpE'h.out (by decide) hG'h.out (below_putObj H6.old hwD'h.out _))
    · rw [if_neg h8] at FL hpE
      simp only at FL
      generalize hln : freeLane g = ln at *
      generalize hyy : setLane g.c ln s.h2 = y at *
      obtain ⟨⟨k1, k2, k3⟩, k4⟩ := hkeep W (Below.refl _ _)
      have HW'h := Lib.hid HW
      have hpE'h := Lib.hid hpE
      have hkeep'h := Lib.hid hkeep
      have FL'h := Lib.hid FL
      have hDne'h := Lib.hid hDne
      have hI'h := Lib.hid hI
      have hK'h := Lib.hid hK
      have hSD'h := Lib.hid hSD
      have hD'h := Lib.hid hD
      have hwD'h := Lib.hid hwD
      have h8'h := Lib.hid h8
      have hfl'h := Lib.hid hfl
      have hSl'h := Lib.hid hSl
      clear HW hpE hkeep FL hDne hI hK hSD hD hwD h8 hfl hSl
      go_wp2
      go_region_held3 (fun W' => (W'.cell? ⟨w.heap.size, 0, none⟩ = some (.pointer (some ⟨G, 0, none⟩)) ∧ W'.cell? ⟨G, 0, none⟩ = some (.int .u64 g.c) ∧ W'.cell? ⟨w.heap.size + 1, 2, none⟩ = some (.int .u8 s.h2)) ∧ Below W.heap.size W W') (first | exact hkeep'h.out _ (by assumption) | exact hkeep'h.out _ (Below.drew (by assumption)) | (refine hkeep'h.out _ (Below.drew ?_); exact (Below.refl _ _).alloc (Nat.le_refl _) _) | fail) (first | (go_at_call 78; refine (FL'h.out _ _ (hSl'h.out _)).mono ?_; rintro e w5 ⟨sp, n', cap', rfl, hb5, hrow5⟩; have hB5 := (Below.drew ((Below.refl W.heap.size W).alloc (Nat.le_refl _) (.cells #[.int .u8 s.h2] 5))).trans (hb5.mono (by simp))) | fail)
      have H5 := HW'h.out.next hB5
      have hK5 := heap_below hB5 hK'h.out (lt_of_heap hK'h.out)
      have hG5 := heap_below H5.old hG'h.out hGl'h.out
      obtain rfl : n' = 1 := row_len' hrow5
      obtain ⟨rb, ro, rfl, hrc⟩ : ∃ rb ro, sp = some ⟨rb, ro, none⟩ ∧ (w5.cell? ⟨rb, ro, none⟩ = some (.int .i64 ln) ∧ W.heap.size ≤ rb) := by
        rcases hrow5.2 with ⟨h1, h0⟩ | ⟨rg, cp, cur, h1, hg9, hh, hq⟩
        · simp at h0
        · injection h1 with h1
          refine ⟨rg, 0, h1, ?_, by simp at hg9; omega⟩
          subst h1
          have := row_cell hrow5 (show 0 < 1 by decide) (ints_at (l := [ln]) (show 0 < 1 by decide))
          simpa [nthN] using this
      obtain ⟨hrc, hrb⟩ := hrc
      have hln8 : ln < 8 := by have := hfl'h.out; have := h8'h.out; omega
      have hwW : w.heap.size ≤ W.heap.size := HW'h.out.old.size
      have hGl := hGl'h.out
      have hkeep2 : ∀ W' : World, (∀ b, b ≠ G → W'.heap[b]? = w5.heap[b]?) → ((W'.cell? ⟨w.heap.size, 0, none⟩ = some (.pointer (some ⟨G, 0, none⟩)) ∧ W'.cell? ⟨rb, ro, none⟩ = some (.int .i64 ln) ∧ W'.cell? ⟨w.heap.size + 1, 0, none⟩ = some (.int .u64 s.key) ∧ W'.cell? ⟨w.heap.size + 1, 1, none⟩ = some (.int .u64 s.val)) ∧ (∀ b, b ≠ G → W'.heap[b]? = w5.heap[b]?)) := fun W' h =>
        ⟨⟨blk_cell ((h _ (by omega)).trans H5.rows.2.2.2.1) rfl, cell_of_heap (W := w5) (h rb (by omega)) hrc, blk_cell ((h _ (by omega)).trans H5.rows.2.2.1) rfl, blk_cell ((h _ (by omega)).trans H5.rows.2.2.1) rfl⟩, h⟩
      obtain ⟨⟨j1, j2, j3, j4⟩, j5⟩ := hkeep2 w5 (fun _ _ => rfl)
      have y0 : w5.cell? ⟨G, 0, none⟩ = some (.int .u64 g.c) := gp_ctrl hG5
      have y1 : w5.cell? ⟨G, 1 + ln, none⟩ = some (.int .u64 (g.k ln)) := gp_key hG5 hln8
      have y2 : w5.cell? ⟨G, 9 + ln, none⟩ = some (.int .u64 (g.v ln)) := gp_val hG5 hln8
      have x0 : w5.frozen? ⟨G, 0, none⟩ = false := blk_free _ hG5
      have x1 : w5.frozen? ⟨G, 1 + ln, none⟩ = false := blk_free _ hG5
      have x2 : w5.frozen? ⟨G, 9 + ln, none⟩ = false := blk_free _ hG5
      have h0l : (0 : Int) ≤ (ln : Int) := by omega
      have h8l : (ln : Int) < 8 := by omega
      clear k1 k2 k3 k4 hb5 hrow5 hrc hGl
      have H5'h := Lib.hid H5
      have hK5'h := Lib.hid hK5
      have hG5'h := Lib.hid hG5
      have hkeep2'h := Lib.hid hkeep2
      have hB5'h := Lib.hid hB5
      have hrb'h := Lib.hid hrb
      have hwW'h := Lib.hid hwW
      have hln8'h := Lib.hid hln8
      clear H5 hK5 hG5 hkeep2 hB5 hrb hwW hln8
      go_wp2
      go_region_held3 (fun W' => (W'.cell? ⟨w.heap.size, 0, none⟩ = some (.pointer (some ⟨G, 0, none⟩)) ∧ W'.cell? ⟨rb, ro, none⟩ = some (.int .i64 ln) ∧ W'.cell? ⟨w.heap.size + 1, 0, none⟩ = some (.int .u64 s.key) ∧ W'.cell? ⟨w.heap.size + 1, 1, none⟩ = some (.int .u64 s.val)) ∧ (∀ b, b ≠ G → W'.heap[b]? = w5.heap[b]?)) (first | exact hkeep2'h.out _ (fun _ _ => rfl) | exact hkeep2'h.out _ (fun b hb => Below.heap_setCell _ _ _ _ hb) | exact hkeep2'h.out _ (fun b hb => (Below.heap_setCell _ _ _ _ hb).trans (Below.heap_setCell _ _ _ _ hb)) | exact hkeep2'h.out _ (fun b hb => (Below.heap_setCell _ _ _ _ hb).trans ((Below.heap_setCell _ _ _ _ hb).trans (Below.heap_setCell _ _ _ _ hb))) | fail) (fail)
      have hG5 := hG5'h.out
      have hln8 := hln8'h.out
      have hGV : (((w5.setCell ⟨G, 0, none⟩ (.int .u64 y)).setCell ⟨G, 1 + ln, none⟩ (.int .u64 s.key)).setCell ⟨G, 9 + ln, none⟩ (.int .u64 s.val)).drew.heap[G]? = some (.cells (gpA ⟨y, upd g.k ln s.key, upd g.v ln s.val⟩) 77 (0, 0)) := by
        have h1 := blk_set (i := 0) (.int .u64 y) hG5
        rw [gpA_setC] at h1
        have h2 := blk_set (i := 1 + ln) (.int .u64 s.key) h1
        rw [gpA_setK _ hln8] at h2
        have h3 := blk_set (i := 9 + ln) (.int .u64 s.val) h2
        rw [gpA_setV _ hln8] at h3
        exact h3
      have hoV : ∀ b, b ≠ G → (((w5.setCell ⟨G, 0, none⟩ (.int .u64 y)).setCell ⟨G, 1 + ln, none⟩ (.int .u64 s.key)).setCell ⟨G, 9 + ln, none⟩ (.int .u64 s.val)).drew.heap[b]? = w5.heap[b]? := fun b hb => (Below.heap_setCell _ _ _ _ hb).trans ((Below.heap_setCell _ _ _ _ hb).trans (Below.heap_setCell _ _ _ _ hb))
      have hzV : (((w5.setCell ⟨G, 0, none⟩ (.int .u64 y)).setCell ⟨G, 1 + ln, none⟩ (.int .u64 s.key)).setCell ⟨G, 9 + ln, none⟩ (.int .u64 s.val)).drew.heap.size = w5.heap.size := by simp [World.size_setCell]
      have hBV : ∀ B, B ≤ G → Below B w5 (((w5.setCell ⟨G, 0, none⟩ (.int .u64 y)).setCell ⟨G, 1 + ln, none⟩ (.int .u64 s.key)).setCell ⟨G, 9 + ln, none⟩ (.int .u64 s.val)).drew := fun B hB => Below.drew ((((Below.refl _ _).setCell (p := ⟨G, 0, none⟩) hB _).setCell (p := ⟨G, 1 + ln, none⟩) hB _).setCell (p := ⟨G, 9 + ln, none⟩) hB _)
      clear y0 y1 y2 x0 x1 x2 j1 j2 j3 j4 j5
      generalize World.drew _ = V at hGV hoV hzV hBV ⊢
      have hGl := hGl'h.out
      have hwW := hwW'h.out
      have hrb := hrb'h.out
      obtain ⟨⟨j1, j2, j3, j4⟩, _⟩ := hkeep2'h.out V hoV
      have H5 := H5'h.out
      have e2 : V.heap[w.heap.size + 2]? = some (.cells #[.int .i64 0] 3 (0, 0)) := (hoV _ (by omega)).trans H5.rows.2.1
      have e3 : V.heap[w.heap.size + 3]? = some (.cells #[.int .i64 0] 29 (0, 0)) := (hoV _ (by omega)).trans H5.rows.1
      have r1 : V.cell? ⟨w.heap.size + 2, 0, none⟩ = some (.int .i64 0) := blk_cell e2 rfl
      have r2 : V.frozen? ⟨w.heap.size + 2, 0, none⟩ = false := blk_free 0 e2
      have r3 : V.cell? ⟨w.heap.size + 3, 0, none⟩ = some (.int .i64 0) := blk_cell e3 rfl
      have r4 : V.frozen? ⟨w.heap.size + 3, 0, none⟩ = false := blk_free 0 e3
      have hrne : rb ≠ w.heap.size + 2 := by
        intro e
        rw [e] at j2
        have := blk_cell (i := ro) e2 (v := .int .i64 ln)
        have hz := HW'h.out.lt (w.heap.size + 3, #[.int .i64 0], 29) (by simp [PutL])
        simp only at hz
        omega
      have hDne := hDne'h.out
      have hD2 : D ≠ w.heap.size + 2 := fun e => hDne (w.heap.size + 2, #[.int .i64 0], 3) (by simp [PutL]) e.symm
      have hD3 : D ≠ w.heap.size + 3 := fun e => hDne (w.heap.size + 3, #[.int .i64 0], 29) (by simp [PutL]) e.symm
      have hDG : D ≠ G := by have := hwD'h.out; omega
      have hKV : V.heap[D]? = some (.deferred (some [])) := (hoV D hDG).trans hK5'h.out
      clear hG5 hln8 hwW hrb hDne
      have hGV'h := Lib.hid hGV
      have hoV'h := Lib.hid hoV
      have hzV'h := Lib.hid hzV
      have hBV'h := Lib.hid hBV
      have e2'h := Lib.hid e2
      have e3'h := Lib.hid e3
      have hD2'h := Lib.hid hD2
      have hD3'h := Lib.hid hD3
      have hKV'h := Lib.hid hKV
      have hDG'h := Lib.hid hDG
      have hGl'h := Lib.hid hGl
      have H5'h := Lib.hid H5
      have hrne'h := Lib.hid hrne
      clear hGV hoV hzV hBV e2 e3 hD2 hD3 hKV hDG hGl H5 hrne
      go_wp2
      have hG6 : ((V.setCell ⟨w.heap.size + 2, 0, none⟩ (.int .i64 ln)).setCell ⟨w.heap.size + 3, 0, none⟩ (.int .i64 0)).heap[G]? = some (.cells (gpA ⟨y, upd g.k ln s.key, upd g.v ln s.val⟩) 77 (0, 0)) := (Below.heap_setCell _ _ _ _ (by have := hGl'h.out; show G ≠ w.heap.size + 3; omega)).trans ((Below.heap_setCell _ _ _ _ (by have := hGl'h.out; show G ≠ w.heap.size + 2; omega)).trans hGV'h.out)
      have hK6 : ((V.setCell ⟨w.heap.size + 2, 0, none⟩ (.int .i64 ln)).setCell ⟨w.heap.size + 3, 0, none⟩ (.int .i64 0)).heap[D]? = some (.deferred (some [])) := (Below.heap_setCell _ _ _ _ hD3'h.out).trans ((Below.heap_setCell _ _ _ _ hD2'h.out).trans hKV'h.out)
      have e26 : ((V.setCell ⟨w.heap.size + 2, 0, none⟩ (.int .i64 ln)).setCell ⟨w.heap.size + 3, 0, none⟩ (.int .i64 0)).heap[w.heap.size + 2]? = some (.cells #[.int .i64 ln] 3 (0, 0)) := (Below.heap_setCell _ _ _ _ (by show w.heap.size + 2 ≠ w.heap.size + 3; omega)).trans (blk_set (cs := #[.int .i64 0]) (i := 0) _ e2'h.out)
      have e36 : ((V.setCell ⟨w.heap.size + 2, 0, none⟩ (.int .i64 ln)).setCell ⟨w.heap.size + 3, 0, none⟩ (.int .i64 0)).heap[w.heap.size + 3]? = some (.cells #[.int .i64 0] 29 (0, 0)) := blk_set (cs := #[.int .i64 0]) (i := 0) _ ((Below.heap_setCell _ _ _ _ (by show w.heap.size + 3 ≠ w.heap.size + 2; omega)).trans e3'h.out)
      have hB6 : ∀ B, B ≤ G → Below B V ((V.setCell ⟨w.heap.size + 2, 0, none⟩ (.int .i64 ln)).setCell ⟨w.heap.size + 3, 0, none⟩ (.int .i64 0)) := fun B hB => ((Below.refl _ _).setCell (p := ⟨w.heap.size + 2, 0, none⟩) (by have := hGl'h.out; show B ≤ w.heap.size + 2; omega) _).setCell (p := ⟨w.heap.size + 3, 0, none⟩) (by have := hGl'h.out; show B ≤ w.heap.size + 3; omega) _
      have ho6 : ∀ b, b < w.heap.size → ((V.setCell ⟨w.heap.size + 2, 0, none⟩ (.int .i64 ln)).setCell ⟨w.heap.size + 3, 0, none⟩ (.int .i64 0)).heap[b]? = V.heap[b]? := fun b hb => (Below.heap_setCell _ _ _ _ (by show b ≠ w.heap.size + 3; omega)).trans (Below.heap_setCell _ _ _ _ (by show b ≠ w.heap.size + 2; omega))
      generalize World.setCell _ _ _ = W6 at hG6 hK6 e26 e36 hB6 ho6 ⊢
      have d3 : (W6.putObj D (.deferred none)).cell? ⟨w.heap.size + 3, 0, none⟩ = some (.int .i64 0) := blk_cell ((World.putObj_heap_other (fun e => hD3'h.out e.symm)).trans e36) rfl
      have d2 : (W6.putObj D (.deferred none)).cell? ⟨w.heap.size + 2, 0, none⟩ = some (.int .i64 ln) := blk_cell ((World.putObj_heap_other (fun e => hD2'h.out e.symm)).trans e26) rfl
      refine post_mark (.inl rfl) hK6 (v := .tuple #[.int .i64 ln, .int .i64 0]) (by simp [results, Try.results56, go_sem, d2, d3]) ⟨?_, ?_, ⟨fun B hB => ?_, fun b hb hlt => ?_⟩⟩
      · rw [hpE'h.out]; unfold putLane; rw [if_pos hpE'h.out, hln]; rfl
      · unfold putW putTo
        rw [if_pos hpE'h.out, hln, hyy]
        exact (World.putObj_heap_other (fun e => hDG'h.out e.symm)).trans hG6
      · have hGl := hGl'h.out
        exact below_putObj ((H5'h.out.old.mono (by omega)).trans ((hBV'h.out B hB).trans (hB6 B hB))) (by have := hwD'h.out; omega) _
      · exact (World.putObj_heap_other (by have := hwD'h.out; omega)).trans ((ho6 b hlt).trans ((hoV'h.out b hb).trans (H5'h.out.old.block b hlt)))
end Go.Proofs.Ytfoohdjgnphdgaa
