/-
  Package group: how many slots are empty, and deleted.
-/
import Derived.Test.YtfoohdjgnphdgaaGroupE
import Derived.Test.YtfoohdjgnphdgaaMarks
import Derived.Deep.QuietTactic
set_option linter.unusedSimpArgs false
set_option linter.unusedVariables false
set_option maxRecDepth 100000
namespace Go.Proofs.Ytfoohdjgnphdgaa
open Go.RowKit

def cntA (n0 n1 k : Nat) : Array Value := #[.int .i64 ((if k = 0 then 0 else n0 : Nat) : Int), .int .i64 ((if k = 2 then n1 else 0 : Nat) : Int)]
def cntR (n0 k j : Nat) : Array Value := #[.int .i64 ((if k = 0 then j else n0 : Nat) : Int), .int .i64 ((if k = 0 then 0 else j : Nat) : Int)]
theorem cntR_at (n0 k j : Nat) (hk : k < 2) : (cntR n0 k j)[k]? = some (.int .i64 j) := by
  obtain rfl | rfl : k = 0 ∨ k = 1 := by omega
  · rfl
  · rfl
theorem cntR_set (n0 k j : Nat) (hk : k < 2) : (cntR n0 k j).setIfInBounds k (.int .i64 ((j + 1 : Nat) : Int)) = cntR n0 k (j + 1) := by
  obtain rfl | rfl : k = 0 ∨ k = 1 := by omega
  · rfl
  · rfl
def noXl (_c : Code) (_k : Nat) (_S : Nat → Prop) (_W : World) : Prop := False
theorem noXl_stable (c : Code) (k : Nat) : Stable (noXl c k) := fun _ _ _ _ h _ => h
structure CntM (n0 n1 M k : Nat) (w : World) (bs : List Nat) (W : World) : Prop where
  many : W.heap[M]? = some (.cells (cntA n0 n1 k) 86 (0, 0))
  nd : bs.Nodup
  marks : ∀ D ∈ bs, w.heap.size ≤ D ∧ W.heap[D]? = some (.deferred (some []))
  old : Below w.heap.size w W
  low : w.heap.size ≤ M
structure CntR (n0 M k I : Nat) (w : World) (bs : List Nat) (j : Nat) (S : Nat → Prop) (W : World) : Prop where
  many : W.heap[M]? = some (.cells (cntR n0 k j) 86 (0, 0))
  minm : ¬ S M
  box : Own1 ⟨I, 0, none⟩ (.int .i64 k) S W
  marks : ∀ D ∈ bs, w.heap.size ≤ D ∧ W.heap[D]? = some (.deferred (some [])) ∧ ¬ S D
  nd : bs.Nodup
  old : Old w.heap.size w S W
  low : w.heap.size ≤ M ∧ M ≠ I
theorem CntR.stable (n0 M k I : Nat) (w : World) (bs : List Nat) (j : Nat) : Stable (CntR n0 M k I w bs j) := fun S S' W W' i f =>
  ⟨f.heap' i.minm i.many, f.not (lt_of_heap i.many) i.minm, Own1.stable _ _ _ _ _ _ i.box f, fun D hD => ⟨(i.marks D hD).1, f.heap' (i.marks D hD).2.2 (i.marks D hD).2.1, f.not (lt_of_heap (i.marks D hD).2.1) (i.marks D hD).2.2⟩, i.nd, Old.stable _ _ _ _ _ _ i.old f, i.low⟩
def freeN (g : Gp) (k : Nat) : Nat := if rightG g = true then (if k = 0 then emptyN g else deadN g) else 0
theorem gfree_any (g : Gp) (w : World) (hg : GpOk g) : Calls Try.prog 17 #[.agg (gpA g)] w fun e w' => e = .returned (.tuple #[.int .i64 (freeN g 0), .int .i64 (freeN g 1)]) ∧ Below w.heap.size w w' := by
  have C := fun w => gcheck_any g w hg
  unfold gchkE at C
  obtain ⟨W, hW⟩ : ∃ W, W = w.alloc (.cells (gpA g) 25) := ⟨_, rfl⟩
  have hO := (Hs.nil w).new (gpA g) 25
  rw [← hW] at hO
  cases hr : rightG g with
  | false =>
    have e1 : ∀ k, freeN g k = 0 := fun k => by unfold freeN; rw [hr]; rfl
    rw [e1, e1]
    rw [hr] at C
    simp only [Bool.false_eq_true, if_false] at C
    have C'h := Lib.hid C
    have hO'h := Lib.hid hO
    have e1'h := Lib.hid e1
    have hr'h := Lib.hid hr
    have hg'h := Lib.hid hg
    clear C hO e1 hr hg
    refine (callsIn_wide (n := 0)).1 ?_
    refine callsIn_of_wp_marks Try.func17 rfl trivial ?_
    simp only [Try.ntmps17, List.size_toArray, List.length_cons, List.length_nil, Nat.reduceAdd, Nat.reduceSub, Array.replicate_succ, Array.replicate_zero, List.push_toArray, List.append_toArray, List.nil_append, List.cons_append]
    refine wpIn_wide.2 ?_
    go_upto_region 1 with fail
    rw [← hW]
    clear hW
    go_wp2_with (first | (refine wpList_load_row rfl _ _ rfl w.heap.size rfl 25 (gpA g) (0, 0) _ hO'h.out.rows.1 Try.underlying25 rfl infoGp ?_) | (go_at_call 10; refine (C'h.out _).mono ?_; rintro e w2 ⟨rfl, hb2⟩))
    exact post_marks (bs := []) (.inl rfl) List.nodup_nil (fun D hD => (by cases hD)) (v := .tuple #[.int .i64 0, .int .i64 0]) (by simp [results, Try.results17, go_sem, shutAll]) ⟨rfl, below_next hO'h.out.old hb2⟩
  | true =>
    have hrw := rightG_word hr
    have e0 : freeN g 0 = (lanesOf (setM g.c 1)).length := by
      have : setM g.c 1 = equalM g.c 128 := by unfold setM; rw [if_pos hrw]; rfl
      rw [this, equalL_eq]; unfold freeN; rw [hr]; rfl
    have e1 : freeN g 1 = (lanesOf (setM g.c 2)).length := by
      have : setM g.c 2 = equalM g.c 254 := by unfold setM; rw [if_pos hrw]; rfl
      rw [this, equalL_eq]; unfold freeN; rw [hr]; rfl
    have hm1 : setM g.c 1 < 256 := by unfold setM; rw [if_pos hrw]; exact equalM_lt' _ _
    have hm2 : setM g.c 2 < 256 := by unfold setM; rw [if_pos hrw]; exact equalM_lt' _ _
    have S := fun w => sets_any g.c w hg.c
    have E := fun m w => geach_any m w
    have L1 := length_lanesOf (setM g.c 1)
    have L2 := length_lanesOf (setM g.c 2)
    rw [e0, e1]
    rw [hr] at C
    simp only [if_true] at C
    generalize setM g.c 0 = m0 at *
    generalize setM g.c 1 = m1 at *
    generalize setM g.c 2 = m2 at *
    generalize h0 : (lanesOf m1).length = n0 at *
    generalize h1 : (lanesOf m2).length = n1 at *
    have C'h := Lib.hid C
    have hO'h := Lib.hid hO
    have e0'h := Lib.hid e0
    have e1'h := Lib.hid e1
    have hr'h := Lib.hid hr
    have hg'h := Lib.hid hg
    have hrw'h := Lib.hid hrw
    have hm1'h := Lib.hid hm1
    have hm2'h := Lib.hid hm2
    have S'h := Lib.hid S
    have E'h := Lib.hid E
    have h0'h := Lib.hid h0
    have h1'h := Lib.hid h1
    have L1'h := Lib.hid L1
    have L2'h := Lib.hid L2
    clear C hO e0 e1 hr hg hrw hm1 hm2 S E h0 h1 L1 L2
    refine (callsIn_wide (n := 0)).1 ?_
    refine callsIn_of_wp_marks Try.func17 rfl trivial ?_
    simp only [Try.ntmps17, List.size_toArray, List.length_cons, List.length_nil, Nat.reduceAdd, Nat.reduceSub, Array.replicate_succ, Array.replicate_zero, List.push_toArray, List.append_toArray, List.nil_append, List.cons_append]
    refine wpIn_wide.2 ?_
    go_upto_region 1 with fail
    rw [← hW]
    clear hW
    go_upto_region 4 with (first | (refine wpList_load_row rfl _ _ rfl w.heap.size rfl 25 (gpA g) (0, 0) _ hO'h.out.rows.1 Try.underlying25 rfl infoGp ?_) | (go_at_call 10; refine (C'h.out _).mono ?_; rintro e w2 ⟨rfl, hb2⟩; have hO2 := hO'h.out.next hb2; have c2 := gp_ctrl hO2.rows.1; have hO2'h := Lib.hid hO2; clear hO2 hb2) | (go_at_call 46; refine (S'h.out _).mono ?_; rintro e w3 ⟨rfl, hb3⟩; clear c2; have hO3 := hO2'h.out.next hb3; have hO3'h := Lib.hid hO3; clear hO3 hb3))
    have hM0 : CntM n0 n1 w3.heap.size 0 w [] (w3.alloc (.cells (cntA n0 n1 0) 86)) :=
      ⟨World.alloc_heap_new _ _, List.nodup_nil, fun D hD => (by cases hD), hO3'h.out.old.alloc hO3'h.out.old.size _, hO3'h.out.old.size⟩
    have hM0'h := Lib.hid hM0
    clear hM0
    go_wp2
    change Code.wp _ _ _ _ (w3.alloc (.cells (cntA n0 n1 0) 86))
    generalize w3.alloc _ = W4 at *
    refine wp_loop_ghost_k (fun q a' W => ∃ (k : Nat) (bs : List Nat) (u8 u9 u24 u25 u26 u27 u28 u35 : Value), a' = { tmps := #[.agg (gpA g), .pointer (some ⟨w.heap.size, 0, none⟩), .int .i64 0, .int .i64 0, .int .u8 m0, .int .u8 m1, .int .u8 m2, .pointer (some ⟨w3.heap.size, 0, none⟩), u8, u9, .agg (gpA g), .int .i64 0, .bool false, .tuple #[.int .u8 m0, .int .u8 m1, .int .u8 m2], .pointer (some ⟨w.heap.size, 0, none⟩), .int .u64 g.c, .tuple #[.int .u8 m0, .int .u8 m1, .int .u8 m2], .int .u8 m0, .int .u8 m1, .int .u8 m2, .int .u8 m1, .int .u8 m2, .agg #[.int .u8 m1, .int .u8 m2], .int .i64 k, u24, u25, u26, u27, u28, undef, undef, undef, undef, undef, undef, u35, undef, undef, undef, undef], defers := marksOf bs } ∧ k + q = 2 ∧ CntM n0 n1 w3.heap.size k w bs W) 2 ?_ ?_
    · exact ⟨0, [], _, _, _, _, _, _, _, _, rfl, rfl, hM0'h.out⟩
    · rintro q a' W ⟨k, bs, u8, u9, u24, u25, u26, u27, u28, u35, rfl, hkq, hM⟩ J K hJ hKK
      by_cases hlt : k < 2
      · obtain ⟨n, hn⟩ : ∃ n, n = if k = 0 then n0 else n1 := ⟨_, rfl⟩
        obtain ⟨m, hm⟩ : ∃ m, m = if k = 0 then m1 else m2 := ⟨_, rfl⟩
        have hmn : m < 256 ∧ (lanesOf m).length = n ∧ n ≤ 8 := by
          rw [hn, hm]
          split
          · exact ⟨hm1'h.out, h0'h.out, by have := L1'h.out; have := h0'h.out; omega⟩
          · exact ⟨hm2'h.out, h1'h.out, by have := L2'h.out; have := h1'h.out; omega⟩
        have hcn : cntA n0 n1 (k + 1) = cntR n0 k n := by
          rw [hn]
          obtain rfl | rfl : k = 0 ∨ k = 1 := by omega
          · rfl
          · rfl
        have hc0 : cntA n0 n1 k = cntR n0 k 0 := by
          obtain rfl | rfl : k = 0 ∨ k = 1 := by omega
          · rfl
          · rfl
        obtain ⟨W1, hW1⟩ : ∃ W1, W1 = (W.alloc (.cells #[.int .i64 k] 3)).alloc (.cells #[.int .u8 m] 83) := ⟨_, rfl⟩
        have hb1 : Below W.heap.size W W1 := by rw [hW1]; exact ((Below.refl _ _).alloc (Nat.le_refl _) _).alloc (by simp) _
        have hz1 : W1.heap.size = W.heap.size + 2 := by rw [hW1]; simp
        have e1 : W1.heap[W.heap.size]? = some (.cells #[.int .i64 k] 3 (0, 0)) := by rw [hW1]; exact (Below.heap_alloc _ _ _ (by simp)).trans (World.alloc_heap_new _ _)
        have e2 : W1.heap[W.heap.size + 1]? = some (.cells #[.int .u8 m] 83 (0, 0)) := by rw [hW1]; exact heap_alloc2_new W _ _
        have hR0 : CntR n0 w3.heap.size k W.heap.size w bs 0 (fun _ => False) W1 :=
          ⟨by rw [← hc0]; exact heap_below hb1 hM.many (lt_of_heap hM.many), fun h => h, ⟨blk_cell e1 rfl, blk_free 0 e1, fun h => h⟩, fun D hD => ⟨(hM.marks D hD).1, heap_below hb1 (hM.marks D hD).2 (lt_of_heap (hM.marks D hD).2), fun h => h⟩, hM.nd,
            ⟨hM.old.trans (hb1.mono (hM.old.size)), Nat.le_refl _, fun b hb h => h⟩, hM.low, by have := lt_of_heap hM.many; omega⟩
        have hix : ∀ w : World, (Instr.index 87 (.agg #[.int .u8 m1, .int .u8 m2]) (.int .i64 k)).run Try.prog w = .ok (.int .u8 m) w := fun w => by
          rw [hm]
          obtain rfl | rfl : k = 0 ∨ k = 1 := by omega
          · kernel_rfl
          · kernel_rfl
        have hwW : w.heap.size ≤ W.heap.size := hM.old.size
        have hk2 : (k : Int) < 2 := by omega
        clear hc0
        have hkq'h := Lib.hid hkq
        have hlt'h := Lib.hid hlt
        have hmn'h := Lib.hid hmn
        have hcn'h := Lib.hid hcn
        have hb1'h := Lib.hid hb1
        have hz1'h := Lib.hid hz1
        have e1'h := Lib.hid e1
        have e2'h := Lib.hid e2
        have hR0'h := Lib.hid hR0
        have hn'h := Lib.hid hn
        have hm'h := Lib.hid hm
        have hwW'h := Lib.hid hwW
        have hM'h := Lib.hid hM
        clear hkq hlt hmn hcn hb1 hz1 e1 e2 hR0 hn hm hwW hM
        go_wp2_with (first | (go_at_call 47; refine (E'h.out _ _).mono ?_; rintro e w5 ⟨rfl, hw5⟩; obtain rfl := hw5.symm))
        rw [← hW1]
        clear hW1 hix
        obtain ⟨hm256, hml, hn8⟩ := hmn'h.out
        have hit := geach_it m (W.heap.size + 1) hm256 W1 e2'h.out
        have hit'h := Lib.hid hit
        clear hit
        refine (wpIn_wide (n := 0)).1 ?_
        refine' wpIn_range rfl (fun h => by cases h) rfl trivial enters_geach hit'h.out (fun b hb => False.elim hb) (fun _ => rfl) (fun c hc => ⟨by have := hz1'h.out; omega, fun h => h⟩)
          (CntR n0 w3.heap.size k W.heap.size w bs) noXl (CntR.stable _ _ _ _ _ _) noXl_stable hR0'h.out
          (AxOf _ (CntR n0 w3.heap.size k W.heap.size w bs)) (AxOf.stable (CntR.stable _ _ _ _ _ _)) ?assign ?body ?done (fun _ _ _ _ _ _ _ _ _ h _ => h.elim)
        case assign =>
          intro l1 j S W2 hj hSl hr hSb hI
          rw [nthN_eq hj]
          clear hr
          gi_wp2
          exact ⟨⟨rfl, hI⟩, Kept.refl _ _⟩
        case body =>
          rintro l1 j S a W2 r hj hSl hlr hr hSb ⟨rfl, hI⟩
          have c1 := hI.box.cell
          have c2 : W2.cell? ⟨w3.heap.size, k, none⟩ = some (.int .i64 j) := blk_cell hI.many (cntR_at n0 k j hlt'h.out)
          have f2 : W2.frozen? ⟨w3.heap.size, k, none⟩ = false := blk_free k hI.many
          have hj8 : j < 8 := by omega
          have h0k : (0 : Int) ≤ (k : Int) := by omega
          clear hr hlr
          have hI'h := Lib.hid hI
          have hSb'h := Lib.hid hSb
          have hSl'h := Lib.hid hSl
          have hj'h := Lib.hid hj
          have hm256'h := Lib.hid hm256
          have hml'h := Lib.hid hml
          clear hI hSb hSl hj hm256 hml
          gi_wp2
          have hI := hI'h.out
          have hlow := hI.low
          have hset : (W2.setCell ⟨w3.heap.size, k, none⟩ (.int .i64 ((j + 1 : Nat) : Int))).heap[w3.heap.size]? = some (.cells (cntR n0 k (j + 1)) 86 (0, 0)) := by
            rw [← cntR_set n0 k j hlt'h.out]; exact blk_set (i := k) _ hI.many
          have hoth : ∀ b, b ≠ w3.heap.size → (W2.setCell ⟨w3.heap.size, k, none⟩ (.int .i64 ((j + 1 : Nat) : Int))).heap[b]? = W2.heap[b]? := fun b hb => Below.heap_setCell _ _ _ _ hb
          have hwW := hwW'h.out
          have hM3 := lt_of_heap hM'h.out.many
          rw [show ((j : Int) + 1) = ((j + 1 : Nat) : Int) by omega]
          refine ⟨Kept.setCell _ _ _ _ ?_, ⟨hset, hI.minm, ⟨cell_of_heap (W := W2) (hoth _ (fun e => hlow.2 e.symm)) hI.box.cell, (World.frozen?_of_block (w := W2) (hoth _ (fun e => hlow.2 e.symm))).trans hI.box.free, hI.box.mine⟩, fun D hD => ⟨(hI.marks D hD).1, (hoth D (fun e => ?_)).trans (hI.marks D hD).2.1, (hI.marks D hD).2.2⟩, hI.nd, hI.old.set (p := ⟨w3.heap.size, k, none⟩) hlow.1 _, hlow⟩⟩
          · rintro (h | h)
            · simp at h; omega
            · exact hI.minm h
          · have := (hI.marks D hD).2.1
            rw [e, hI.many] at this; cases this
        case done =>
          rintro D S W3 hD hSD hr hI hK3
          rw [hml] at hI
          have hMn : CntM n0 n1 w3.heap.size (k + 1) w (D :: bs) W3 := by
            refine ⟨by rw [hcn'h.out]; exact hI.many, List.nodup_cons.2 ⟨fun hm => (hI.marks D hm).2.2 hSD, hI.nd⟩, fun D' hD' => ?_, hI.old.below, hI.low.1⟩
            rcases List.mem_cons.1 hD' with rfl | hD'
            · exact ⟨by have := hz1'h.out; have := hwW'h.out; omega, hK3⟩
            · exact ⟨(hI.marks D' hD').1, (hI.marks D' hD').2.1⟩
          clear hr hI hK3
          have hk3 : k < 2 := hlt'h.out
          have hMn'h := Lib.hid hMn
          have hm256'h := Lib.hid hm256
          have hml'h := Lib.hid hml
          have hn8'h := Lib.hid hn8
          clear hMn hm256 hml hn8
          go_wp2
          exact Handed.intro (q - 1) (by have := hkq'h.out; omega) (hJ _ _ _ ⟨k + 1, D :: bs, _, _, _, _, _, _, _, _, rfl, by have := hkq'h.out; omega, hMn'h.out⟩)
      · have hkk : k = 2 := by omega
        subst hkk
        have d0 : W.cell? ⟨w3.heap.size, 0, none⟩ = some (.int .i64 n0) := blk_cell hM.many rfl
        have d1 : W.cell? ⟨w3.heap.size, 1, none⟩ = some (.int .i64 n1) := blk_cell hM.many rfl
        have hM'h := Lib.hid hM
        clear hM
        go_wp2
        go_quiet (fail)
        have hM := hM'h.out
        go_wp2
        refine post_marks (.inl rfl) hM.nd (fun D hD => (hM.marks D hD).2) (v := .tuple #[.int .i64 n0, .int .i64 n1]) (by simp [results, Try.results17, go_sem]) ⟨rfl, below_shutAll (hM.old.trans (below_drewN' _ _)) (fun D hD => (hM.marks D hD).1)⟩
end Go.Proofs.Ytfoohdjgnphdgaa
