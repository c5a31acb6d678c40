/-
  Package group: what a slot is, the lanes of a mask, the lanes of full slots.
-/
import Derived.Test.YtfoohdjgnphdgaaGroupPure
import Derived.Test.YtfoohdjgnphdgaaCtrlE
import Derived.Test.YtfoohdjgnphdgaaSlK
import Derived.Test.YtfoohdjgnphdgaaHas
import Derived.Test.YtfoohdjgnphdgaaScope
import Derived.Deep.RegionHeld3
import Derived.StillTailTactics
import Derived.Deep.Cut
import Derived.Sort.LoopGhostIn
set_option linter.unusedSimpArgs false
set_option linter.unusedVariables false
set_option maxRecDepth 100000
namespace Go.Proofs.Ytfoohdjgnphdgaa
open Go.RowKit

theorem infoGp : (Try.prog.info? 25).map (·.size) = some 17 := by kernel_rfl
theorem infoSs : (Try.prog.info? 77).map (·.size) = some 17 := by kernel_rfl
theorem infoSl : (Try.prog.info? 38).map (·.size) = some 3 := by kernel_rfl
theorem gp_ctrl {W : World} {b : Nat} {g : Gp} {t : TypeId} (h : W.heap[b]? = some (.cells (gpA g) t (0, 0))) : W.cell? ⟨b, 0, none⟩ = some (.int .u64 (g.c : Int)) := blk_cell h rfl
theorem gp_key {W : World} {b : Nat} {g : Gp} {t : TypeId} (h : W.heap[b]? = some (.cells (gpA g) t (0, 0))) {i : Nat} (hi : i < 8) : W.cell? ⟨b, 1 + i, none⟩ = some (.int .u64 (g.k i : Int)) := blk_cell h (gpA_k g hi)
theorem gp_val {W : World} {b : Nat} {g : Gp} {t : TypeId} (h : W.heap[b]? = some (.cells (gpA g) t (0, 0))) {i : Nat} (hi : i < 8) : W.cell? ⟨b, 9 + i, none⟩ = some (.int .u64 (g.v i : Int)) := blk_cell h (gpA_v g hi)

theorem gat_any (g : Gp) (n : Nat) (w : World) (hn : n < 8) : Calls Try.prog 44 #[.agg (gpA g), .int .i64 n] w fun e w' => e = .returned (.agg (slA (slotAt g n))) ∧ Below w.heap.size w w' := by
  have G := fun w => get_any g.c n w
  simp only [show (0 : Int) ≤ (n : Int) ∧ (n : Int) < 8 by omega, and_self, if_true, Int.toNat_natCast] at G
  obtain ⟨W, hW⟩ : ∃ W, W = (w.alloc (.cells (gpA g) 77)).alloc (.cells #[.int .u64 0, .int .u64 0, .int .u8 0] 38) := ⟨_, rfl⟩
  have hO := ((Hs.nil w).new2 (gpA g) #[.int .u64 0, .int .u64 0, .int .u8 0] 77 38)
  rw [← hW] at hO
  have c0 := gp_ctrl hO.rows.2.1
  have ck := gp_key hO.rows.2.1 hn
  have cv := gp_val hO.rows.2.1 hn
  generalize hb : byteAt g.c n = bb at *
  have h0 : (0 : Int) ≤ (n : Int) := by omega
  have h8 : (n : Int) < 8 := by omega
  have G'h := Lib.hid G
  have hO'h := Lib.hid hO
  have hb'h := Lib.hid hb
  clear G hO hb
  go_enter Try.func44, Try.ntmps44
  go_upto_region 1 with fail
  rw [← hW]
  clear hW
  go_wp2_with (first | (go_at_call 66; refine (G'h.out _).mono ?_; rintro e w2 ⟨rfl, hw2⟩; obtain rfl := hw2.symm))
  have hS := hO'h.out.rows.1
  have hb2 := hO'h.out
  have hS'h := Lib.hid hS
  have hb2'h := Lib.hid hb2
  clear hS hb2
  go_still_tail 12, (by kernel_rfl)
  refine wpList_store_row (w := W.drew) rfl _ _ _ rfl (w.heap.size + 1) (slA ⟨g.k n, g.v n, bb⟩) rfl rfl 38 _ hS'h.out infoSl rfl (slA_one _) ?_
  have hO2 := (hb2'h.out.drew.set 0 rfl (slA ⟨g.k n, g.v n, bb⟩))
  generalize World.setRow _ _ _ = W2 at hO2 ⊢
  have d0 := blk_cell (i := 0) hO2.rows.1 rfl
  have d1 := blk_cell (i := 1) hO2.rows.1 rfl
  have d2 := blk_cell (i := 2) hO2.rows.1 rfl
  have hO2'h := Lib.hid hO2
  clear hO2
  go_wp2
  refine bodyPost_ret (v := .agg (slA ⟨g.k n, g.v n, bb⟩)) (by simp [results, Try.results44, go_sem, d0, d1, d2]; rfl) rfl ?_
  refine ⟨by rw [← hb'h.out]; rfl, hO2'h.out.old⟩

theorem geach_any (m : Nat) (w : World) : Calls Try.prog 47 #[.int .u8 m] w fun e w' => e = .returned (.func (.func 69) #[] #[.pointer (some ⟨w.heap.size, 0, none⟩)]) ∧ w' = w.alloc (.cells #[.int .u8 m] 83) := by
  go_enter Try.func47, Try.ntmps47
  go_wp2
  go_ret
  exact ⟨rfl, rfl⟩
theorem enters_geach (args : Array Value) (w : World) : (callFunc 69 args).run Try.prog w = .ok (.enter 69 args) w := by
  exact enters_of Try.func69 (by kernel_rfl) rfl args w
theorem geach_it (m b : Nat) (hm : m < 256) (w : World) (hb : w.heap[b]? = some (.cells #[.int .u8 m] 83 (0, 0))) :
    SeqIt Fence.wide 0 Try.prog 69 #[.pointer (some ⟨b, 0, none⟩)] (fun n : Nat => #[.int .i64 n]) (lanesOf m) (fun _ => False) (fun c => c = b) w := by
  intro l J Jx W hJ hJx hW hY h0
  have hbW := heap_below hW hb (lt_of_heap hb)
  have c0 : W.cell? ⟨b, 0, none⟩ = some (.int .u8 m) := blk_cell hbW rfl
  clear hb hW
  have hbW'h := Lib.hid hbW
  have hJ'h := Lib.hid hJ
  have hJx'h := Lib.hid hJx
  have hY'h := Lib.hid hY
  have h0'h := Lib.hid h0
  clear hbW hJ hJx hY h0
  refine callsIn_of_wp Try.func69 rfl trivial ?_ rfl
  simp only [Try.ntmps69, List.size_toArray, List.length_cons, List.length_nil, Nat.reduceAdd, Nat.reduceSub, Array.replicate_succ, Array.replicate_zero, List.push_toArray, List.append_toArray, List.nil_append, List.cons_append]
  refine wpIn_scope_straight ?_
  gi_wp2
  refine wpIn_label ?_
  gi_wp2
  gi_loopg [4] 8 (fun q i wr => ∃ (k : Nat) (S : Nat → Prop), k + q = 8 ∧ i = .int .i64 k ∧ J (toldM m k) S wr ∧ wr.cell? ⟨b, 0, none⟩ = some (.int .u8 m))
  case atStart => exact ⟨0, _, by omega, rfl, h0'h.out, c0⟩
  case round =>
    obtain ⟨k, S, hk, rfl, hj, hc⟩ := hrel
    by_cases hlt : k < 8
    · have hk1 : (k : Int) < 8 := by omega
      have hbit := bitM_and (m := m) (k := k) hm
      cases hp : bitM m k with
      | true =>
        obtain ⟨t1, hkx, hx⟩ := told_yes hlt hp
        obtain ⟨fn, tmps, assign, body, hy, hR⟩ := hY'h.out (toldM m k) S wr hj hkx
        rw [hx] at hy
        rw [hp] at hbit
        clear hx
        simp only [if_true] at hbit
        have hk'h := Lib.hid hk
        have t1'h := Lib.hid t1
        have hkx'h := Lib.hid hkx
        have hj'h := Lib.hid hj
        clear hk t1 hkx hj
        gi_wp2_with fail
        refine hR.mono ?_
        clear hR hy
        rintro e W' (⟨rfl, hJ3, hk3⟩ | ⟨rfl, hJx3, hk3⟩)
        · have c3 : W'.cell? ⟨b, 0, none⟩ = some (.int .u8 m) := hk3.cell (p := ⟨b, 0, none⟩) (.inl rfl) hc
          rw [← t1'h.out] at hJ3
          have hJ3'h := Lib.hid hJ3
          clear hJ3
          clear hk3 hc c0
          gi_wp2
          gi_roundg (gk - 1)
          case measure => have := hk'h.out; omega
          case rel => exact ⟨k + 1, S, by have := hk'h.out; omega, by go_num, hJ3'h.out, c3⟩
        · clear hk3
          gi_wp2
          rw [Exit.noGoto_normal]
          refine bodyPost_end (results_none rfl _ _ _) rfl ?_
          exact ⟨⟨_, rfl⟩, .inr ⟨_, hJx3⟩⟩
      | false =>
        have t1 := told_no hp
        rw [← t1] at hj
        rw [hp] at hbit
        simp only [Bool.false_eq_true, if_false] at hbit
        have hk'h := Lib.hid hk
        have t1'h := Lib.hid t1
        have hj'h := Lib.hid hj
        clear hk t1 hj
        gi_wp2
        gi_roundg (gk - 1)
        case measure => have := hk'h.out; omega
        case rel => exact ⟨k + 1, S, by have := hk'h.out; omega, by go_num, hj'h.out, hc⟩
    · obtain rfl : k = 8 := by omega
      have hend : J (lanesOf m).length S wr := hj
      have hk'h := Lib.hid hk
      have hj'h := Lib.hid hj
      clear hk hj
      gi_wp2
      rw [Exit.noGoto_normal]
      refine bodyPost_end (results_none rfl _ _ _) rfl ?_
      exact ⟨⟨_, rfl⟩, .inl ⟨_, hend⟩⟩
/-- The lanes of full slots, as an iterator value. -/
theorem gfull_any (g : Gp) (w : World) (hg : GpOk g) : Calls Try.prog 41 #[.agg (gpA g)] w fun e w' => ∃ b, w.heap.size ≤ b ∧
    e = .returned (.func (.func 69) #[] #[.pointer (some ⟨b, 0, none⟩)]) ∧ Below w.heap.size w w' ∧ w'.heap[b]? = some (.cells #[.int .u8 (setM g.c 0)] 83 (0, 0)) := by
  have S := fun w => sets_any g.c w hg.c
  have E := fun w => geach_any (setM g.c 0) w
  obtain ⟨W, hW⟩ : ∃ W, W = w.alloc (.cells (gpA g) 77) := ⟨_, rfl⟩
  have hO := (Hs.nil w).new (gpA g) 77
  rw [← hW] at hO
  have c0 := gp_ctrl hO.rows.1
  generalize setM g.c 0 = m0 at *
  generalize setM g.c 1 = m1 at *
  generalize setM g.c 2 = m2 at *
  have S'h := Lib.hid S
  have E'h := Lib.hid E
  have hO'h := Lib.hid hO
  have hg'h := Lib.hid hg
  clear S E hO hg
  go_enter Try.func41, Try.ntmps41
  go_upto_region 1 with fail
  rw [← hW]
  clear hW
  go_wp2_with (first | (go_at_call 46; refine (S'h.out _).mono ?_; rintro e w2 ⟨rfl, hb2⟩) | (go_at_call 47; refine (E'h.out _).mono ?_; rintro e w3 ⟨rfl, hw3⟩; obtain rfl := hw3.symm))
  go_ret
  exact ⟨_, Nat.le_trans hO'h.out.old.size hb2.size, rfl, (below_next hO'h.out.old hb2).alloc (Nat.le_trans hO'h.out.old.size hb2.size) _, World.alloc_heap_new _ _⟩
end Go.Proofs.Ytfoohdjgnphdgaa
