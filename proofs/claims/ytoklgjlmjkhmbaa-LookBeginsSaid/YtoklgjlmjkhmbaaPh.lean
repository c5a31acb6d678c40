/-
  Several texts of mine in one: Ref18G Ref18H Law18 Law18B Law18C Law18D.
-/
import Derived.Test.YtoklgjlmjkhmbaaPg
/-
  The document's answers of layer 18: Run.
-/
set_option linter.unusedSimpArgs false
set_option linter.unusedVariables false
set_option maxRecDepth 100000
namespace Go.Proofs.Ytoklgjlmjkhmbaa
open Go.RowKit

theorem int_succ {k : Nat} (h : (k : Int) < 1000) : Value.int .i64 (IntKind.i64.wrap ((k : Int) + 1)) = .int .i64 ((k + 1 : Nat) : Int) := by
  rw [IntKind.wrap_i64]
  have e : ((k : Int) + 1 + 9223372036854775808) % 18446744073709551616 - 9223372036854775808 = ((k + 1 : Nat) : Int) := by omega
  rw [e]
set_option maxHeartbeats 4000000 in
theorem ref_run (sp : Option Addr) (n cap : Nat) (ws : List Nat) (slab : Int) (key hash : Nat) (w : World) (h64 : W64 ws) (hS : Sl w sp n (u64s ws)) (hn : 1 ≤ n ∧ n ≤ 8192) (ht : thereB n slab = true) (hk : key < 2 ^ 64) (hh : hash < 2 ^ 64) :
    Calls Try.prog 16 #[.slice sp n cap, .int .i64 slab, .int .u64 key, .int .u64 hash] w fun e w' => e = .returned (.tuple #[.agg (sgA (runS ws slab key hash).1), .int .i64 ((runS ws slab key hash).2 : Nat)]) ∧ Below w.heap.size w w' := by
  have hlen : n = ws.length := by have := hS.1; rwa [u64s_length] at this
  have hsl : 0 ≤ slab ∧ slab < 128 := by unfold thereB at ht; simp at ht; omega
  have hbok : SgOk (beginS slab key hash) := ⟨by simp [beginS], by simp [beginS]; omega, hk, hh, by simp [beginS], by simp [beginS], by simp [beginS], by simp [beginS], by simp [beginS]⟩
  have hbr : SgRight (beginS slab key hash) := ⟨by simp [beginS], by simpa [beginS] using hsl, by simp [beginS], by simp [beginS], by simp [beginS]⟩
  have hgo : runF ws (1000 - 0) (beginS slab key hash) 0 = runS ws slab key hash := rfl
  have hrest : 0 + restS (beginS slab key hash) ≤ 1000 := by simp [restS, beginS]
  have hbs : (beginS slab key hash).slab = slab := rfl
  have hone := sgA_one (beginS slab key hash)
  generalize runS ws slab key hash = tgt at *
  have hbok'h := Lib.hid hbok
  have hbr'h := Lib.hid hbr
  have hgo'h := Lib.hid hgo
  have hrest'h := Lib.hid hrest
  have hbs'h := Lib.hid hbs
  have hone'h := Lib.hid hone
  have hlen'h := Lib.hid hlen
  have h64'h := Lib.hid h64
  have hS'h := Lib.hid hS
  have hn'h := Lib.hid hn
  have ht'h := Lib.hid ht
  have hk'h := Lib.hid hk
  have hh'h := Lib.hid hh
  have hsl'h := Lib.hid hsl
  clear hbok hbr hgo hrest hbs hone hlen h64 hS hn ht hk hh hsl
  go_enter Try.func16, Try.ntmps16
  go_upto_region 1 with fail
  have hz0 := World.alloc_heap_new w (.cells #[.int .i64 0, .int .i64 0, .int .u64 0, .int .u64 0, .int .u64 0, .int .i64 0, .int .u64 0, .int .u8 0, .int .u64 0, .bool false] 33)
  have hb0 : Below w.heap.size w (w.alloc (.cells #[.int .i64 0, .int .i64 0, .int .u64 0, .int .u64 0, .int .u64 0, .int .i64 0, .int .u64 0, .int .u8 0, .int .u64 0, .bool false] 33)) := (Below.refl _ _).alloc (Nat.le_refl _) _
  have hsz0 : (w.alloc (.cells #[.int .i64 0, .int .i64 0, .int .u64 0, .int .u64 0, .int .u64 0, .int .i64 0, .int .u64 0, .int .u8 0, .int .u64 0, .bool false] 33)).heap.size = w.heap.size + 1 := by simp
  generalize hW : w.alloc (.cells #[.int .i64 0, .int .i64 0, .int .u64 0, .int .u64 0, .int .u64 0, .int .i64 0, .int .u64 0, .int .u8 0, .int .u64 0, .bool false] 33) = W at hz0 hb0 hsz0 ⊢
  clear hW
  have hV0 := World.alloc_heap_new W (.cells #[.int .i64 0, .int .i64 0, .int .u64 0, .int .u64 0, .int .u64 0, .int .i64 0, .int .u64 0, .int .u8 0, .int .u64 0, .bool false] 33)
  have hz0'h := Lib.hid hz0
  have hb0'h := Lib.hid hb0
  have hsz0'h := Lib.hid hsz0
  have hV0'h := Lib.hid hV0
  clear hz0 hb0 hsz0 hV0
  go_wp2_with (first | (refine wpList_store_row rfl _ _ _ rfl W.heap.size (sgA (beginS slab key hash)) rfl rfl 33 _ hV0'h.out infoSg rfl hone'h.out ?_))
  have hM0 : RunM W.heap.size w.heap.size w ws tgt slab (beginS slab key hash) 0 ((W.alloc (.cells #[.int .i64 0, .int .i64 0, .int .u64 0, .int .u64 0, .int .u64 0, .int .i64 0, .int .u64 0, .int .u8 0, .int .u64 0, .bool false] 33)).setRow W.heap.size (sgA (beginS slab key hash))) := by
    have hsz := hsz0'h.out
    refine ⟨setRow_heap _ _ _ _ _ _ hV0'h.out, ?_, by omega, ⟨Nat.le_refl _, by omega⟩, ?_, hbok'h.out, hbr'h.out, hbs'h.out, hgo'h.out, hrest'h.out⟩
    · exact (setRow_other _ _ _ _ (by omega)).trans ((Below.heap_alloc _ _ _ (by omega)).trans hz0'h.out)
    · exact below_setRow' (hb0'h.out.alloc (by omega) _) (by omega) _
  have hVw : w.heap.size < W.heap.size := by have := hsz0'h.out; omega
  generalize W.heap.size = V at *
  generalize (W.alloc (.cells #[.int .i64 0, .int .i64 0, .int .u64 0, .int .u64 0, .int .u64 0, .int .i64 0, .int .u64 0, .int .u8 0, .int .u64 0, .bool false] 33)).setRow V (sgA (beginS slab key hash)) = W1 at *
  have hM0'h := Lib.hid hM0
  have hVw'h := Lib.hid hVw
  clear hM0 hVw
  clear hz0'h hb0'h hsz0'h hV0'h hbok'h hbr'h hgo'h hrest'h hbs'h hone'h
  go_loopg [11] 1000 (fun q i wr => ∃ (k : Nat) (s : Sg), k + q = 1000 ∧ i = .int .i64 k ∧ RunM V w.heap.size w ws tgt slab s k wr)
  case atStart => exact ⟨0, _, rfl, rfl, hM0'h.out⟩
  case round =>
    obtain ⟨k, s, hkq, rfl, hM⟩ := hrel
    have hV := hM.var
    have hRs := hM.res
    have hold := hM.old
    have hle := hM.le
    have hVl := lt_of_heap hV
    have hRl := lt_of_heap hRs
    have H := fun w => ref_hasS s w
    by_cases hh1 : hasS s = true
    · rw [hh1] at H
      have C := fun w => ref_rcell s w hM.ok hM.right
      have hcl := cellS_lt hM.ok hM.right (n := n) (by rw [hM.slab_eq]; exact ht'h.out)
      have hx64 : nthN ws (cellS s) < 2 ^ 64 := h64'h.out _ (nthN_mem (by have := hlen'h.out; omega))
      have K := fun w => ref_take s (nthN ws (cellS s)) w hM.ok hM.right hh1 hx64
      obtain ⟨ab, aoff, rfl, hcs⟩ := (hS'h.out.below hM.old).some' (by have := hn'h.out; omega)
      have c1 := hcs (cellS s) _ (u64s_at (by have := hlen'h.out; omega))
      have hpos := rest_pos hM.right hh1
      have hrt := restS_take (w := nthN ws (cellS s)) hM.ok hM.right hh1
      have hrs := hM.rest
      have hMn : ∀ W5 : World, W5.heap[V]? = some (.cells (sgA (takeS s (nthN ws (cellS s)))) 33 (0, 0)) → W5.heap[w.heap.size]? = some (.cells #[.int .i64 0, .int .i64 0, .int .u64 0, .int .u64 0, .int .u64 0, .int .i64 0, .int .u64 0, .int .u8 0, .int .u64 0, .bool false] 33 (0, 0)) → Below w.heap.size w W5 →
          RunM (V) w.heap.size w ws tgt slab (takeS s (nthN ws (cellS s))) (k + 1) W5 := fun W5 h1 h2 h3 =>
        ⟨h1, h2, hM.ne, hM.le, h3, takeS_ok hM.ok hM.right hx64, takeS_right hM.right, by rw [take_slab]; exact hM.slab_eq, by rw [← hM.goes, show 1000 - k = (1000 - (k + 1)) + 1 by omega, runF_step hh1], by omega⟩
      have hq : (k : Int) < 1000 := by omega
      have hne := hM.ne
      clear hM hcs hx64 hrt hpos
      generalize takeS s (nthN ws (cellS s)) = s' at *
      generalize nthN ws (cellS s) = x at *
      generalize cellS s = cl at *
      have hone1 := sgA_one s'
      have hsz10 : (sgA s').size = 10 := rfl
      have d1 : decide (n ≤ cl) = false := by simp; omega
      have hcl' : (cl : Int) < (n : Int) := by omega
      have habl := lt_of_cell c1
      have hkk : (1 : Nat) ≤ gk := by omega
      obtain ⟨ph, sl, ky, ha, be, gr, ct, le, va, fo⟩ := s
      have H'h := Lib.hid H
      have C'h := Lib.hid C
      have K'h := Lib.hid K
      have hMn'h := Lib.hid hMn
      have hV'h := Lib.hid hV
      have hRs'h := Lib.hid hRs
      have hold'h := Lib.hid hold
      have hne'h := Lib.hid hne
      have hle'h := Lib.hid hle
      have hone1'h := Lib.hid hone1
      have c1'h := Lib.hid c1
      have hcl'h := Lib.hid hcl
      have habl'h := Lib.hid habl
      have hVl'h := Lib.hid hVl
      have hRl'h := Lib.hid hRl
      have hkq'h := Lib.hid hkq
      have hkk'h := Lib.hid hkk
      have hrs'h := Lib.hid hrs
      clear H C K hMn hV hRs hold hne hle hone1 c1 hcl habl hVl hRl hkq hkk hrs
      go_wp2_with (first | (refine wpList_load_row rfl _ _ rfl (V) rfl 33 (sgA ⟨ph, sl, ky, ha, be, gr, ct, le, va, fo⟩) (0, 0) _ hV'h.out Try.underlying33 rfl infoSg ?_) | (go_at_call 20; refine (H'h.out _).mono ?_; rintro e w3 ⟨rfl, hb3⟩))
      have hc3 : w3.cell? ⟨ab, aoff + cl, none⟩ = some (.int .u64 x) := (hb3.cell (p := ⟨ab, aoff + cl, none⟩) habl'h.out).trans c1'h.out
      have hV3 := heap_below hb3 hV'h.out hVl'h.out
      have hR3 := heap_below hb3 hRs'h.out hRl'h.out
      have hB3 := hold'h.out.trans (hb3.mono hold'h.out.size)
      have hsC : SgC ⟨ph, sl, ky, ha, be, gr, ct, le, va, fo⟩ (V) w3 := SgC.of hV3
      have hcl3 := lt_of_cell hc3
      have hF6 : ∀ w6, Below w3.drew.heap.size w3.drew w6 → SgC ⟨ph, sl, ky, ha, be, gr, ct, le, va, fo⟩ (V) w6 ∧ w6.cell? ⟨ab, aoff + cl, none⟩ = some (.int .u64 x) ∧ w6.heap[V]? = some (.cells (sgA ⟨ph, sl, ky, ha, be, gr, ct, le, va, fo⟩) 33 (0, 0)) ∧ w6.heap[w.heap.size]? = some (.cells #[.int .i64 0, .int .i64 0, .int .u64 0, .int .u64 0, .int .u64 0, .int .i64 0, .int .u64 0, .int .u8 0, .int .u64 0, .bool false] 33 (0, 0)) ∧ Below w.heap.size w w6 := by
        intro w6 hb
        have hb' : Below w3.heap.size w3.drew w6 := hb
        have hv := heap_below hb' (show w3.drew.heap[V]? = _ from hV3) (lt_of_heap hV3)
        exact ⟨SgC.of hv, (hb'.cell (p := ⟨ab, aoff + cl, none⟩) hcl3).trans hc3, hv, heap_below hb' (show w3.drew.heap[w.heap.size]? = _ from hR3) (lt_of_heap hR3), (Below.drew hB3).trans (hb'.mono hB3.size)⟩
      clear hb3
      simp only [SgC] at hsC hF6
      obtain ⟨q0, q1, q2, q3, q4, q5, q6, q7, q8, q9⟩ := hsC
      have hV3'h := Lib.hid hV3
      have hR3'h := Lib.hid hR3
      have hB3'h := Lib.hid hB3
      have hF6'h := Lib.hid hF6
      have hcl3'h := Lib.hid hcl3
      clear hV3 hR3 hB3 hF6 hcl3
      go_region_law (first | (go_simp; go_at_call 23; refine (C'h.out _).mono ?_; rintro e w6 ⟨rfl, hb6⟩; obtain ⟨⟨p0, p1, p2, p3, p4, p5, p6, p7, p8, p9⟩, hc6, hV6, hR6, hB6⟩ := hF6'h.out _ hb6; have hV6'h := Lib.hid hV6; have hR6'h := Lib.hid hR6; have hB6'h := Lib.hid hB6; clear hV6 hR6 hB6 hb6) | (go_simp; go_at_call 25; refine (K'h.out _).mono ?_; rintro e w4 ⟨rfl, hb4⟩; have hV4 := heap_below hb4 hV6'h.out (lt_of_heap hV6'h.out); have hst := run_storeCells_row (P := Try.prog) _ _ _ _ (sgA s') hV4 rfl hone1'h.out; have hV4'h := Lib.hid hV4; clear hV4))
      all_goals
        have hVn := setRow_heap _ _ _ (sgA s') _ _ hV4'h.out
        have hRn := (setRow_other w4 (V) w.heap.size (sgA s') (fun e => hne'h.out e.symm)).trans (heap_below hb4 hR6'h.out (lt_of_heap hR6'h.out))
        have hB4 := hB6'h.out.trans (hb4.mono hB6'h.out.size)
        have hB5 := below_setRow' hB4 hle'h.out.2 (sgA s')
        clear hst hB4 hb4
        obtain ⟨W5, hW5⟩ : ∃ W5, W5 = w4.setRow (V) (sgA s') := ⟨_, rfl⟩
        rw [← hW5] at hVn hRn hB5 ⊢
        have hMM := hMn'h.out W5 hVn hRn hB5
        clear hW5 hVn hRn hB5 q0 q1 q2 q3 q4 q5 q6 q7 q8 q9 hc3 p0 p1 p2 p3 p4 p5 p6 p7 p8 p9 hc6
        have hMM'h := Lib.hid hMM
        clear hMM
        go_wp2
        go_roundg (gk - 1)
        case measure => have := hkk'h.out; omega
        case rel => exact ⟨k + 1, s', by have := hkk'h.out; have := hkq'h.out; omega, int_succ hq, hMM'h.out⟩
    · have hh0 : hasS s = false := by simpa using hh1
      rw [hh0] at H
      have htg : tgt = (s, k) := by rw [← hM.goes]; exact runF_stop hh0
      subst htg
      have hone1 := sgA_one s
      clear hM
      have H'h := Lib.hid H
      have hV'h := Lib.hid hV
      have hRs'h := Lib.hid hRs
      have hold'h := Lib.hid hold
      have hle'h := Lib.hid hle
      have hVl'h := Lib.hid hVl
      have hRl'h := Lib.hid hRl
      have hone1'h := Lib.hid hone1
      have hh1'h := Lib.hid hh1
      have hh0'h := Lib.hid hh0
      have hkq'h := Lib.hid hkq
      clear H hV hRs hold hle hVl hRl hone1 hh1 hh0 hkq
      go_wp2_with (first | (refine wpList_load_row rfl _ _ rfl V rfl 33 (sgA s) (0, 0) _ hV'h.out Try.underlying33 rfl infoSg ?_) | (go_at_call 20; refine (H'h.out _).mono ?_; rintro e w3 ⟨rfl, hb3⟩; have hV3 := heap_below hb3 hV'h.out hVl'h.out; have hR3 := heap_below hb3 hRs'h.out hRl'h.out; have hV3'h := Lib.hid hV3; clear hV3; have hR3'h := Lib.hid hR3; clear hR3) | (refine wpList_load_row rfl _ _ rfl V rfl 33 (sgA s) (0, 0) _ hV3'h.out Try.underlying33 rfl infoSg ?_) | (refine wpList_store_row rfl _ _ _ rfl w.heap.size (sgA s) rfl rfl 33 _ hR3'h.out infoSg rfl hone1'h.out ?_))
      have hR := setRow_heap _ _ _ (sgA s) _ _ hR3'h.out
      have hB5 := below_setRow' (hold'h.out.trans (hb3.mono hold'h.out.size)) (Nat.le_refl w.heap.size) (sgA s)
      obtain ⟨c0, c1, c2, c3, c4, c5, c6, c7, c8, c9⟩ := SgC.of hR
      generalize w3.setRow w.heap.size (sgA s) = W5 at *
      refine bodyPost_ret (v := .tuple #[.agg (sgA s), .int .i64 (k : Nat)]) ?_ rfl ⟨rfl, hB5⟩
      simp [results, Try.results16, go_sem, c0, c1, c2, c3, c4, c5, c6, c7, c8, c9, sgA]
end Go.Proofs.Ytoklgjlmjkhmbaa

/-
  The document's answers of layer 18: Most.
-/
set_option linter.unusedSimpArgs false
set_option linter.unusedVariables false
set_option maxRecDepth 100000
namespace Go.Proofs.Ytoklgjlmjkhmbaa
open Go.RowKit

theorem tmod_two (x : Nat) : (x : Int).tmod 2 = ((x % 2 : Nat) : Int) := by rw [Int.tmod_eq_emod_of_nonneg (by omega)]; omega
set_option maxHeartbeats 4000000 in
theorem rmost_odd (sp : Option Addr) (n cap : Nat) (ws : List Nat) (slab hash : Nat) (w : World) (h64 : W64 ws) (hS : Sl w sp n (u64s ws)) (hn : 1 ≤ n ∧ n ≤ 8192) (ht : thereB n slab = true) (hev : nthN ws (16 + 40 * slab) % 2 = 1) :
    Calls Try.prog 17 #[.slice sp n cap, .int .i64 slab, .int .u64 hash] w fun e w' => e = .returned (.int .i64 1) ∧ Below w.heap.size w w' := by
  have hlen : n = ws.length := by have := hS.1; rwa [u64s_length] at this
  have ht' : slab < 128 ∧ 16 + 40 * slab + 39 < n := by unfold thereB at ht; simp at ht; omega
  have C := fun w => ref_cell slab 0 w ht'.1 (by omega)
  obtain ⟨ab, aoff, rfl, hcs⟩ := hS.some' (by omega)
  have c1 := hcs (16 + 40 * slab + 0) _ (u64s_at (by omega))
  have hlt : ((16 + 40 * slab + 0 : Nat) : Int) < (n : Int) := by omega
  have hd : decide (n ≤ 16 + 40 * slab + 0) = false := by simp; omega
  rw [Nat.add_zero] at *
  have ho : ((nthN ws (16 + 40 * slab) : Int) % 2 == 1) = true := by simp; omega
  have ho2 : ((nthN ws (16 + 40 * slab) : Int).tmod 2 == 1) = true := by rw [tmod_two]; simp; omega
  generalize nthN ws (16 + 40 * slab) = x at *
  generalize 16 + 40 * slab = cl at *
  clear hcs hS ht ht' hev
  have C'h := Lib.hid C
  have hlen'h := Lib.hid hlen
  clear C hlen
  go_enter Try.func17, Try.ntmps17
  go_wp2_with (go_at_call 10; refine (C'h.out _).mono ?_; rintro e w2 ⟨rfl, rfl⟩)
  go_ret
  exact ⟨rfl, Below.refl _ _⟩
set_option maxHeartbeats 4000000 in
theorem rmost_even (sp : Option Addr) (n cap : Nat) (ws : List Nat) (slab hash : Nat) (w : World) (h64 : W64 ws) (hS : Sl w sp n (u64s ws)) (hn : 1 ≤ n ∧ n ≤ 8192) (ht : thereB n slab = true) (hh : hash < 2 ^ 64) (hev : nthN ws (16 + 40 * slab) % 2 ≠ 1) :
    Calls Try.prog 17 #[.slice sp n cap, .int .i64 slab, .int .u64 hash] w fun e w' => e = .returned (.int .i64 (mostS ws slab hash)) ∧ Below w.heap.size w w' := by
  have hlen : n = ws.length := by have := hS.1; rwa [u64s_length] at this
  have ht' : slab < 128 ∧ 16 + 40 * slab + 39 < n := by unfold thereB at ht; simp at ht; omega
  have C0 := fun w => ref_cell slab 0 w ht'.1 (by omega)
  have C := fun j w => ref_cell slab (4 + prB 2 (hash / 128) j) w ht'.1 (by have := prB2 (hash / 128) j; omega)
  have hms : mostS ws slab hash = accK (groupsOf ws slab (hash / 128)) (hash % 128) (groupsOf ws slab (hash / 128)).length := by
    unfold mostS; rw [if_neg hev]
  have H1 := fun w => ref_h1 hash w hh
  have H2 := fun w => ref_h2 hash w hh
  have R := fun w => ref_row 2 (hash / 128) w rfl (by omega)
  obtain ⟨ab, aoff, rfl, hcs⟩ := hS.some' (by omega)
  have c1 := hcs (16 + 40 * slab + 0) _ (u64s_at (by omega))
  have hlt : ((16 + 40 * slab + 0 : Nat) : Int) < (n : Int) := by omega
  have hp2 := prB2 (hash / 128)
  have hce : ∀ j, w.cell? ⟨ab, aoff + (16 + 40 * slab + (4 + prB 2 (hash / 128) j)), none⟩ = some (.int .u64 (ctlW ws slab (hash / 128) j)) := fun j => by
    have := hp2 j
    exact hcs _ _ (u64s_at (by omega))
  have hcl : ∀ j, ((16 + 40 * slab + (4 + prB 2 (hash / 128) j) : Nat) : Int) < (n : Int) := fun j => by have := hp2 j; omega
  have hc64 : ∀ j, ctlW ws slab (hash / 128) j < 2 ^ 64 := fun j => by unfold ctlW; have := hp2 j; exact h64 _ (nthN_mem (by omega))
  rw [Nat.add_zero] at *
  have ho : ((nthN ws (16 + 40 * slab) : Int) % 2 == 1) = false := by simp; omega
  have ho2 : ((nthN ws (16 + 40 * slab) : Int).tmod 2 == 1) = false := by rw [tmod_two]; simp; omega
  have hx : groupsOf ws slab (hash / 128) = if equalM (ctlW ws slab (hash / 128) 0) 128 = 0 then [ctlW ws slab (hash / 128) 0, ctlW ws slab (hash / 128) 1] else [ctlW ws slab (hash / 128) 0] := rfl
  rw [hx] at hms
  generalize mostS ws slab hash = ms at *
  generalize nthN ws (16 + 40 * slab) = x at *
  generalize hcc : ctlW ws slab (hash / 128) = ct at *
  have hd2 : (hash % 128) < 256 := by omega
  generalize hash % 128 = h2 at *
  generalize hash / 128 = h1 at *
  have hA := fun m hm w => refAll_any m w hm
  have hE := fun x b w hx hb => refEqual_any x b w hx hb
  clear hcs hS ht hev hx hcc h64 hlen
  have C0'h := Lib.hid C0
  have C'h := Lib.hid C
  have hms'h := Lib.hid hms
  have H1'h := Lib.hid H1
  have H2'h := Lib.hid H2
  have R'h := Lib.hid R
  have hce'h := Lib.hid hce
  have hcl'h := Lib.hid hcl
  have hc64'h := Lib.hid hc64
  have hA'h := Lib.hid hA
  have hE'h := Lib.hid hE
  have hp2'h := Lib.hid hp2
  have hd2'h := Lib.hid hd2
  have ht''h := Lib.hid ht'
  have hn'h := Lib.hid hn
  have hh'h := Lib.hid hh
  clear C0 C hms H1 H2 R hce hcl hc64 hA hE hp2 hd2 ht' hn hh
  go_enter Try.func17, Try.ntmps17
  go_wp2_with (first | (go_at_call 10; refine (C0'h.out _).mono ?_; rintro e w2 ⟨rfl, hw2⟩; obtain rfl := hw2.symm) | (go_at_call 42; refine (H1'h.out _).mono ?_; rintro e w2 ⟨rfl, hw2⟩; obtain rfl := hw2.symm) | (go_at_call 41; refine (R'h.out _).mono ?_; rintro e w3 ⟨rs, rcap, rfl, hB3, hrow3⟩))
  have hrc : ∃ rg, rs = some ⟨rg, 0, none⟩ ∧ ∀ j, j < 2 → w3.cell? ⟨rg, j, none⟩ = some (.int .i64 (prB 2 h1 j)) := by
    rcases hrow3.2 with ⟨_, h0⟩ | ⟨rg, cp, cur, e1, _⟩
    · omega
    · injection e1 with e1
      subst e1
      exact ⟨rg, rfl, fun j hj => row_cell hrow3 hj (zN_row hj)⟩
  obtain ⟨rg, rfl, hrc⟩ := hrc
  clear hrow3
  have hrc'h := Lib.hid hrc
  have hB3'h := Lib.hid hB3
  clear hrc hB3
  go_loopg [7, 22] 2 (fun q v i wr => ∃ k : Nat, k + q = 2 ∧ i = .int .i64 k ∧ v = .int .i64 (accK [ct 0, ct 1] h2 k) ∧ Below w.heap.size w wr ∧ (∀ j, j < 2 → wr.cell? ⟨rg, j, none⟩ = some (.int .i64 (prB 2 h1 j))) ∧ (1 ≤ k → equalM (ct 0) 128 = 0))
  case atStart => exact ⟨0, rfl, rfl, rfl, hB3'h.out, hrc'h.out, fun h => absurd h (by omega)⟩
  case round =>
    obtain ⟨k, hk, rfl, rfl, hB, hr, hfl⟩ := hrel
    by_cases hk2 : k < 2
    · have hdk : decide ((k : Int) < 2) = true := by simp; omega
      have hlk : (k : Int) < 2 := by omega
      have r1 := hr k hk2
      have hc1 : wr.cell? ⟨ab, aoff + (16 + 40 * slab + (4 + prB 2 h1 k)), none⟩ = some (.int .u64 (ct k)) := (hB.cell (lt_of_cell (hce'h.out k))).trans (hce'h.out k)
      have hclk := hcl'h.out k
      have hpk := hp2'h.out k
      have hpk' : (prB 2 h1 k : Int) < 2 := by omega
      have Ck := C'h.out k
      rw [show ((4 + prB 2 h1 k : Nat) : Int) = 4 + (prB 2 h1 k : Int) by omega] at Ck
      have E2 := fun w => hE'h.out (ct k) h2 w (hc64'h.out k) hd2'h.out
      have E8 := fun w => hE'h.out (ct k) 128 w (hc64'h.out k) (by decide)
      have A2 := hA'h.out (equalM (ct k) h2) (equalM_lt8 _ _)
      have hsu : accK [ct 0, ct 1] h2 (k + 1) = accK [ct 0, ct 1] h2 k + (1 + (lanesOf (equalM (ct k) h2)).length) := by
        rw [accK_succ _ _ (by simpa using hk2)]
        rcases (show k = 0 ∨ k = 1 by omega) with rfl | rfl <;> rfl
      have hle := accK_le [ct 0, ct 1] h2 k (by simp)
      have hl8 : (lanesOf (equalM (ct k) h2)).length ≤ 8 := length_lanesOf _
      have hend : equalM (ct k) 128 ≠ 0 → ms = accK [ct 0, ct 1] h2 (k + 1) := fun h => by
        rcases (show k = 0 ∨ k = 1 by omega) with rfl | rfl
        · rw [hms'h.out, if_neg h]; rfl
        · rw [hms'h.out, if_pos (hfl (by omega))]; rfl
      have hnext : equalM (ct k) 128 = 0 → equalM (ct 0) 128 = 0 := fun h => by
        rcases (show k = 0 ∨ k = 1 by omega) with rfl | rfl
        · exact h
        · exact hfl (by omega)
      generalize hga : accK [ct 0, ct 1] h2 (k + 1) = a1 at *
      have hga'h := Lib.hid hga
      clear hga
      generalize accK [ct 0, ct 1] h2 k = a0 at *
      generalize ct k = ck at *
      generalize prB 2 h1 k = pk at *
      generalize 16 + 40 * slab + (4 + pk) = cl at *
      clear hpk
      by_cases hz : equalM ck 128 = 0
      · have d2 : ((equalM ck 128 : Int) != 0) = false := by simp [hz]
        have hn0 := hnext hz
        clear hnext hend hz
        generalize equalM ck 128 = m8 at *
        have hk'h := Lib.hid hk
        have hB'h := Lib.hid hB
        have hr'h := Lib.hid hr
        have hfl'h := Lib.hid hfl
        have Ck'h := Lib.hid Ck
        have E2'h := Lib.hid E2
        have E8'h := Lib.hid E8
        have A2'h := Lib.hid A2
        have hsu'h := Lib.hid hsu
        have hn0'h := Lib.hid hn0
        have hk2'h := Lib.hid hk2
        clear hk hB hr hfl Ck E2 E8 A2 hsu hn0 hk2
        go_upto_region 9 with (first | (go_at_call 10; refine (Ck'h.out _).mono ?_; rintro e w2 ⟨rfl, rfl⟩) | (go_at_call 45; refine (H2'h.out _).mono ?_; rintro e w2 ⟨rfl, rfl⟩) | (go_at_call 44; refine (E2'h.out _).mono ?_; rintro e w4 ⟨rfl, hB4⟩) | (go_at_call 43; refine (A2'h.out _).mono ?_; rintro e w5 ⟨ls, ln, lc, rfl, hB5, hrow5⟩; obtain rfl := ownsRow_len hrow5; clear hrow5))
        go_wp2_with (go_at_call 44; refine (E8'h.out _).mono ?_; rintro e w6 ⟨rfl, hB6⟩)
        have hBB := below_next (below_next hB4 hB5) hB6
        clear hB4 hB5 hB6
        have hBB'h := Lib.hid hBB
        clear hBB
        go_roundg (gk - 1)
        case measure => have := hk'h.out; have := hk2'h.out; omega
        case rel => exact ⟨k + 1, by have := hk'h.out; have := hk2'h.out; omega, by go_num, by rw [hga'h.out, hsu'h.out]; go_num, below_next hB'h.out hBB'h.out, fun j hj => (hBB'h.out.cell (lt_of_cell (hr'h.out j hj))).trans (hr'h.out j hj), fun _ => hn0'h.out⟩
      · have d2 : ((equalM ck 128 : Int) != 0) = true := by simp; omega
        have hms1 := hend hz
        clear hnext hend hz
        generalize equalM ck 128 = m8 at *
        have hk'h := Lib.hid hk
        have hB'h := Lib.hid hB
        have hr'h := Lib.hid hr
        have hfl'h := Lib.hid hfl
        have Ck'h := Lib.hid Ck
        have E2'h := Lib.hid E2
        have E8'h := Lib.hid E8
        have A2'h := Lib.hid A2
        have hsu'h := Lib.hid hsu
        have hms1'h := Lib.hid hms1
        have hk2'h := Lib.hid hk2
        clear hk hB hr hfl Ck E2 E8 A2 hsu hms1 hk2
        go_upto_region 9 with (first | (go_at_call 10; refine (Ck'h.out _).mono ?_; rintro e w2 ⟨rfl, rfl⟩) | (go_at_call 45; refine (H2'h.out _).mono ?_; rintro e w2 ⟨rfl, rfl⟩) | (go_at_call 44; refine (E2'h.out _).mono ?_; rintro e w4 ⟨rfl, hB4⟩) | (go_at_call 43; refine (A2'h.out _).mono ?_; rintro e w5 ⟨ls, ln, lc, rfl, hB5, hrow5⟩; obtain rfl := ownsRow_len hrow5; clear hrow5))
        go_wp2_with (go_at_call 44; refine (E8'h.out _).mono ?_; rintro e w6 ⟨rfl, hB6⟩)
        go_ret
        refine ⟨?_, below_next hB'h.out (below_next (below_next hB4 hB5) hB6)⟩
        rw [hms1'h.out, hsu'h.out]
        go_num
    · have hke : k = 2 := by omega
      subst hke
      have hfin : ms = accK [ct 0, ct 1] h2 2 := by rw [hms'h.out, if_pos (hfl (by omega))]; rfl
      generalize accK [ct 0, ct 1] h2 2 = a2 at *
      clear hr hk hk2 hfl
      have hB'h := Lib.hid hB
      have hfin'h := Lib.hid hfin
      clear hB hfin
      go_wp2
      go_ret
      exact ⟨by rw [hfin'h.out]; rfl, hB'h.out⟩
end Go.Proofs.Ytoklgjlmjkhmbaa

/-
  The statements of layer 18: what they make.
-/
set_option linter.unusedSimpArgs false
set_option linter.unusedVariables false
set_option maxRecDepth 100000
namespace Go.Proofs.Ytoklgjlmjkhmbaa
open Go.RowKit

def smallL : List Nat := ((((List.replicate 56 0).set 16 6).set 20 9259542123273814017 |>.set 21 9259542123273814144).set 22 5).set 38 50
theorem wakes_vals : (runS smallL 0 5 1).1.phase = 5 ∧ (runS smallL 0 5 1).1.found = true ∧ (runS smallL 0 5 1).1.value = 50 ∧ (runS smallL 0 5 1).2 = 5 ∧ (runS smallL 0 6 1).1.found = false ∧ (runS smallL 0 6 1).2 = 4 ∧ (runS smallL 0 5 2).1.found = false ∧ (runS smallL 0 5 2).2 = 3 ∧ (runS (smallL.set 16 7) 0 5 1).1.phase = 6 ∧ (runS (smallL.set 16 7) 0 5 1).2 = 1 ∧ mostS smallL 0 1 = 4 := by decide +kernel
def zero56 : List Nat := List.replicate 56 0
theorem info_u64w : (Try.prog.info? 29).map (fun i => (i.zero, i.size, i.bytes)) = some (some (.int .u64 0), 1, 8) := by kernel_rfl
set_option maxHeartbeats 1000000 in
theorem small_any (w : World) : Calls Try.prog 35 #[] w fun e w' => e = .returned (.slice (some ⟨w.heap.size, 0, none⟩) 56 56) ∧ Below w.heap.size w w' ∧ w'.heap[w.heap.size]? = some (.cells (u64s smallL).toArray 29 (0, 0)) := by
  have hmk := fun w => run_make_row' (P := Try.prog) 22 29 (.int .u64 0) 8 Try.underlying22 info_u64w rfl .i64 .i64 56 (by omega) (by omega) w
  have hz : madeCells #[Value.int .u64 0] 56 = (u64s zero56).toArray := by kernel_rfl
  rw [hz] at hmk
  clear hz
  simp only [show ((56 : Nat) : Int) = 56 from rfl] at hmk
  go_enter Try.func35, Try.ntmps35
  go_upto_region 2 with fail
  have hg := World.alloc_heap_new w (.cells (u64s zero56).toArray 29)
  have hb := (Below.refl w.heap.size w).alloc (Nat.le_refl _) (.cells (u64s zero56).toArray 29)
  generalize hW : w.alloc (.cells (u64s zero56).toArray 29) = W at hg hb ⊢
  clear hW
  have c16 : W.cell? ⟨w.heap.size, 16, none⟩ = some (.int .u64 0) := blk_cell hg rfl
  have c20 : W.cell? ⟨w.heap.size, 20, none⟩ = some (.int .u64 0) := blk_cell hg rfl
  have c21 : W.cell? ⟨w.heap.size, 21, none⟩ = some (.int .u64 0) := blk_cell hg rfl
  have c22 : W.cell? ⟨w.heap.size, 22, none⟩ = some (.int .u64 0) := blk_cell hg rfl
  have c38 : W.cell? ⟨w.heap.size, 38, none⟩ = some (.int .u64 0) := blk_cell hg rfl
  have f := fun i => blk_free i hg
  have f16 := f 16
  have f20 := f 20
  have f21 := f 21
  have f22 := f 22
  have f38 := f 38
  have h5 := blk_set (i := 38) (.int .u64 50) (blk_set (i := 22) (.int .u64 5) (blk_set (i := 21) (.int .u64 9259542123273814144) (blk_set (i := 20) (.int .u64 9259542123273814017) (blk_set (i := 16) (.int .u64 6) hg))))
  have he : ((((((u64s zero56).toArray.setIfInBounds 16 (.int .u64 6)).setIfInBounds 20 (.int .u64 9259542123273814017)).setIfInBounds 21 (.int .u64 9259542123273814144)).setIfInBounds 22 (.int .u64 5)).setIfInBounds 38 (.int .u64 50)) = (u64s smallL).toArray := by kernel_rfl
  have h5 := h5.trans (congrArg (fun c => some (Obj.cells c 29 (0, 0))) he)
  clear he
  have hb5 := ((((hb.setCell (p := ⟨w.heap.size, 16, none⟩) (Nat.le_refl _) (.int .u64 6)).setCell (p := ⟨w.heap.size, 20, none⟩) (Nat.le_refl _) (.int .u64 9259542123273814017)).setCell (p := ⟨w.heap.size, 21, none⟩) (Nat.le_refl _) (.int .u64 9259542123273814144)).setCell (p := ⟨w.heap.size, 22, none⟩) (Nat.le_refl _) (.int .u64 5)).setCell (p := ⟨w.heap.size, 38, none⟩) (Nat.le_refl _) (.int .u64 50)
  have hg'h := Lib.hid hg
  have hb'h := Lib.hid hb
  have h5'h := Lib.hid h5
  have hb5'h := Lib.hid hb5
  have hmk'h := Lib.hid hmk
  have f'h := Lib.hid f
  clear hg hb h5 hb5 hmk f
  go_wp2
  go_ret
  exact ⟨rfl, hb5'h.out, h5'h.out⟩
end Go.Proofs.Ytoklgjlmjkhmbaa

/-
  The statements of layer 18: a row of one's own.
-/
set_option linter.unusedSimpArgs false
set_option linter.unusedVariables false
set_option maxRecDepth 100000
namespace Go.Proofs.Ytoklgjlmjkhmbaa
open Go.RowKit

/-! ### slices.Clone at []uint64 -/
theorem info_clone64 : (Try.prog.info? 29).map (fun i => (i.zero, i.size, i.bytes)) = some (some (.int .u64 0), 1, 8) := by kernel_rfl
theorem clone64_nil (w : World) : Calls Try.prog 27 #[.slice none 0 0] w fun e w' => e = .returned (.slice none 0 0) ∧ w' = w := by
  have hnil := Lib.run_eql_slice_nil (P := Try.prog)
  go_enter Try.func27, Try.ntmps27
  go_wp2
  go_ret
  exact ⟨rfl, rfl⟩
theorem clone64_some (ad : Addr) (n cap : Nat) (vs : List Value) (w : World) (hn : n ≤ 4096) (hone : ∀ v ∈ vs, v.oneCell' = true) (h : Sl w (some ad) n vs) :
    Calls Try.prog 27 #[.slice (some ad) n cap] w fun e w' => ∃ sp' cap', e = .returned (.slice sp' n cap') ∧ Below w.heap.size w w' ∧ w'.ownsRow w.heap.size 29 1 (.slice sp' n cap') n vs := by
  have hnil := Lib.run_eql_slice_nil (P := Try.prog)
  obtain ⟨i0, hi, hz0, hz1, hz2⟩ := info_parts info_clone64
  have hown0 : (w.alloc (.cells #[] 29)).ownsRow w.heap.size 29 1 (.slice (some ⟨w.heap.size, 0, none⟩) 0 0) 0 [] :=
    ⟨rfl, .inr ⟨w.heap.size, 0, #[], rfl, Nat.le_refl _, World.alloc_heap_new _ _, Nat.le_refl _, Nat.zero_le _, rfl, rfl⟩⟩
  have hl := h.1
  have hcs : ∀ j u, vs[j]? = some u → (w.alloc (.cells #[] 29)).cell? (ad.add j) = some u := by
    intro j u hu
    have hj : j < vs.length := (List.getElem?_eq_some_iff.1 hu).1
    obtain ⟨b, off, he, hc⟩ := h.some' (by omega)
    cases he
    have hadd : (⟨b, off, none⟩ : Addr).add j = ⟨b, off + j, none⟩ := by unfold Addr.add; split <;> simp_all
    rw [hadd]
    exact keep_alloc _ _ _ _ (hc j u hu)
  have hcs'h := Lib.hid hcs
  have hl'h := Lib.hid hl
  have hone'h := Lib.hid hone
  clear hcs hl hone
  clear h
  go_enter Try.func27, Try.ntmps27
  go_wp2_with (at_builtin; refine wpList_append_own _ rfl (.tmp 5) (.tmp 6) 22 rfl w.heap.size 29 i0 (.int .u64 0) 1 8 Try.underlying22 hi hz0 hz1 hz2 rfl (by decide) _ 0 [] rfl hown0 ad n cap vs rfl (by rw [← hl'h.out]; omega) hcs'h.out hone'h.out (by unfold maxLen; omega) (by omega) (by simp) ?_; intro v' w1 hown' hgrow hwh)
  rw [Nat.zero_add, List.nil_append] at hown'
  obtain ⟨sp', cap', rfl⟩ := row_slice' hown'
  have hown''h := Lib.hid hown'
  have hwh'h := Lib.hid hwh
  clear hown' hwh
  go_wp2
  go_ret
  exact ⟨sp', cap', rfl, ((Below.refl _ w).alloc (Nat.le_refl _) _).grown hgrow (by simp) (fun j hj => by cases hj; exact Nat.le_refl _), hown''h.out⟩
theorem clone64_any (sp : Option Addr) (n cap : Nat) (vs : List Value) (w : World) (hn : n ≤ 4096) (hone : ∀ v ∈ vs, v.oneCell' = true) (hc : sp = none → cap = 0) (h : Sl w sp n vs) :
    Calls Try.prog 27 #[.slice sp n cap] w fun e w' => ∃ sp' cap', e = .returned (.slice sp' n cap') ∧ Below w.heap.size w w' ∧ w'.ownsRow w.heap.size 29 1 (.slice sp' n cap') n vs := by
  cases sp with
  | some ad => exact clone64_some ad n cap vs w hn hone h
  | none =>
    obtain rfl : cap = 0 := hc rfl
    have h0 : n = 0 := by
      rcases h.2.2 with h0 | ⟨b, off, he, _⟩
      · exact h0
      · cases he
    subst h0
    have hl : vs = [] := List.eq_nil_of_length_eq_zero h.1.symm
    refine (clone64_nil w).mono ?_
    rintro e w' ⟨rfl, rfl⟩
    exact ⟨none, 0, rfl, Below.refl _ _, by rw [hl]; exact World.ownsRow_nil _ _ _ _⟩
theorem own_min (n m : Nat) (h : m = min n 140) : (if (140 : Int) < (n : Int) then (140 : Int) else (n : Int)) = (m : Int) := by
  split <;> omega
theorem own_any (sp : Option Addr) (n cap m : Nat) (ws : List Nat) (w : World) (hS : Sl w sp n (u64s ws)) (hc : sp = none → cap = 0) (hnc : n ≤ cap) (hm : m = min n 140) (hn : n ≤ 9223372036854775807) :
    Calls Try.prog 8 #[.slice sp n cap] w fun e w' => ∃ sp' cap', e = .returned (.slice sp' m cap') ∧ Below w.heap.size w w' ∧ w'.ownsRow w.heap.size 29 1 (.slice sp' m cap') m (u64s (ws.take m)) := by
  have hmi := own_min n m hm
  have hSm := hS.take m (by omega)
  rw [u64s_take] at hSm
  have q3 : m ≤ cap := by omega
  have K := fun w h => clone64_any sp m cap (u64s (ws.take m)) w (by omega) (by unfold u64s; intro v hv; obtain ⟨k, _, rfl⟩ := List.mem_map.1 hv; rfl) hc h
  have hS'h := Lib.hid hS
  have hc'h := Lib.hid hc
  have hnc'h := Lib.hid hnc
  have hm'h := Lib.hid hm
  have hSm'h := Lib.hid hSm
  have K'h := Lib.hid K
  clear hS hc hnc hm hSm K
  go_enter Try.func8, Try.ntmps8
  go_wp2_with (go_at_call 27; refine (K'h.out _ hSm'h.out).mono ?_; rintro e w2 ⟨sp', cap', rfl, hb, hrow⟩)
  go_ret
  exact ⟨sp', cap', rfl, hb, hrow⟩
end Go.Proofs.Ytoklgjlmjkhmbaa

/-
  The statements of layer 18: what the layer makes of the small cells.
-/
set_option linter.unusedSimpArgs false
set_option linter.unusedVariables false
set_option maxRecDepth 100000
namespace Go.Proofs.Ytoklgjlmjkhmbaa
open Go.RowKit

theorem small_sl {w : World} {g : Nat} {ws : List Nat} (h : w.heap[g]? = some (.cells (u64s ws).toArray 29 (0, 0))) (hl : ws.length = 56) : Sl w (some ⟨g, 0, none⟩) 56 (u64s ws) := by
  have := Sl.of_blk h (by simp [u64s, hl, maxLen])
  simpa [u64s, hl] using this
theorem small_64 : W64 smallL := by unfold W64; decide +kernel
theorem small7_64 : W64 (smallL.set 16 7) := by unfold W64; decide +kernel
theorem run_small (key hash : Nat) (g : Nat) (w : World) (hk : key < 2 ^ 64) (hh : hash < 2 ^ 64) (h : w.heap[g]? = some (.cells (u64s smallL).toArray 29 (0, 0))) :
    Calls Try.prog 13 #[.slice (some ⟨g, 0, none⟩) 56 56, .int .i64 0, .int .u64 key, .int .u64 hash] w fun e w' => e = .returned (.tuple #[.agg (sgA (runS smallL 0 key hash).1), .int .i64 ((runS smallL 0 key hash).2 : Nat), .int .i64 0]) ∧ Below w.heap.size w w' :=
  run_yes _ 56 56 smallL 0 key hash w small_64 (small_sl h rfl) (by decide) (by decide) hk hh
theorem run_odd (key hash : Nat) (g : Nat) (w : World) (hk : key < 2 ^ 64) (hh : hash < 2 ^ 64) (h : w.heap[g]? = some (.cells (u64s (smallL.set 16 7)).toArray 29 (0, 0))) :
    Calls Try.prog 13 #[.slice (some ⟨g, 0, none⟩) 56 56, .int .i64 0, .int .u64 key, .int .u64 hash] w fun e w' => e = .returned (.tuple #[.agg (sgA (runS (smallL.set 16 7) 0 key hash).1), .int .i64 ((runS (smallL.set 16 7) 0 key hash).2 : Nat), .int .i64 0]) ∧ Below w.heap.size w w' :=
  run_yes _ 56 56 (smallL.set 16 7) 0 key hash w small7_64 (small_sl h rfl) (by decide) (by decide) hk hh
theorem most_small (g : Nat) (w : World) (h : w.heap[g]? = some (.cells (u64s smallL).toArray 29 (0, 0))) :
    Calls Try.prog 14 #[.slice (some ⟨g, 0, none⟩) 56 56, .int .i64 0, .int .u64 1] w fun e w' => e = .returned (.tuple #[.int .i64 4, .int .i64 0]) ∧ Below w.heap.size w w' := by
  have := most_even _ 56 56 smallL 0 1 w small_64 (small_sl h rfl) (by decide) (by decide) (by decide) (by decide +kernel)
  rw [wakes_vals.2.2.2.2.2.2.2.2.2.2] at this
  exact this
end Go.Proofs.Ytoklgjlmjkhmbaa

/-
  The statements of layer 18: wakes.
-/
set_option linter.unusedSimpArgs false
set_option linter.unusedVariables false
set_option maxRecDepth 100000
namespace Go.Proofs.Ytoklgjlmjkhmbaa
open Go.RowKit

theorem stored_s (s : Sg) (w : World) : ((w.alloc (.cells #[.int .i64 0, .int .i64 0, .int .u64 0, .int .u64 0, .int .u64 0, .int .i64 0, .int .u64 0, .int .u8 0, .int .u64 0, .bool false] 33)).setRow w.heap.size (sgA s)).heap[w.heap.size]? = some (.cells (sgA s) 33 (0, 0)) ∧ Below w.heap.size w ((w.alloc (.cells #[.int .i64 0, .int .i64 0, .int .u64 0, .int .u64 0, .int .u64 0, .int .i64 0, .int .u64 0, .int .u8 0, .int .u64 0, .bool false] 33)).setRow w.heap.size (sgA s)) :=
  ⟨setRow_heap _ _ _ _ _ _ (World.alloc_heap_new w _), below_setRow' ((Below.refl _ _).alloc (Nat.le_refl _) _) (Nat.le_refl _) _⟩
set_option maxHeartbeats 1000000 in
theorem wakes18_any (w : World) : Calls Try.prog 7 #[] w fun e w' => e = .returned (.bool true) ∧ Below w.heap.size w w' := by
  have wk := wakes_vals
  have R1 := fun g w => run_small 5 1 g w (by decide) (by decide)
  have R2 := fun g w => run_small 6 1 g w (by decide) (by decide)
  have R3 := fun g w => run_small 5 2 g w (by decide) (by decide)
  have R4 := fun g w => run_odd 5 1 g w (by decide) (by decide)
  generalize runS smallL 0 5 1 = r1 at *
  generalize runS smallL 0 6 1 = r2 at *
  generalize runS smallL 0 5 2 = r3 at *
  generalize runS (smallL.set 16 7) 0 5 1 = r4 at *
  have wk'h := Lib.hid wk
  have R1'h := Lib.hid R1
  have R2'h := Lib.hid R2
  have R3'h := Lib.hid R3
  have R4'h := Lib.hid R4
  clear wk R1 R2 R3 R4
  go_enter Try.func7, Try.ntmps7
  go_upto_region 2 with (first | (go_at_call 35; refine (small_any _).mono ?_; rintro e w1a ⟨rfl, hb1a, hg1⟩) | (go_at_call 13; refine (R1'h.out _ _ hg1).mono ?_; rintro e w1b ⟨rfl, hb1b⟩) | (refine wpList_store_row rfl _ _ _ rfl w1b.heap.size (sgA r1.1) rfl rfl 33 _ (World.alloc_heap_new _ _) infoSg rfl (sgA_one _) ?_))
  obtain ⟨hs1, hc1⟩ := stored_s r1.1 w1b
  have hB1 := below_next hb1a (below_next hb1b hc1)
  generalize hW : (w1b.alloc (.cells #[.int .i64 0, .int .i64 0, .int .u64 0, .int .u64 0, .int .u64 0, .int .i64 0, .int .u64 0, .int .u8 0, .int .u64 0, .bool false] 33)).setRow w1b.heap.size (sgA r1.1) = W1 at hs1 hc1 hB1 ⊢
  clear hW hg1 hb1a hc1
  have hs1'h := Lib.hid hs1
  have hB1'h := Lib.hid hB1
  have hb1b'h := Lib.hid hb1b
  clear hs1 hB1 hb1b
  go_upto_region 3 with (first | (go_at_call 35; refine (small_any _).mono ?_; rintro e w2a ⟨rfl, hb2a, hg2⟩) | (go_at_call 13; refine (R2'h.out _ _ hg2).mono ?_; rintro e w2b ⟨rfl, hb2b⟩) | (refine wpList_store_row rfl _ _ _ rfl w2b.heap.size (sgA r2.1) rfl rfl 33 _ (World.alloc_heap_new _ _) infoSg rfl (sgA_one _) ?_))
  obtain ⟨hs2, hc2⟩ := stored_s r2.1 w2b
  have hB2 := below_next hb2a (below_next hb2b hc2)
  generalize hW : (w2b.alloc (.cells #[.int .i64 0, .int .i64 0, .int .u64 0, .int .u64 0, .int .u64 0, .int .i64 0, .int .u64 0, .int .u8 0, .int .u64 0, .bool false] 33)).setRow w2b.heap.size (sgA r2.1) = W2 at hs2 hc2 hB2 ⊢
  clear hW hg2 hb2a hc2
  have hs2'h := Lib.hid hs2
  have hB2'h := Lib.hid hB2
  have hb2b'h := Lib.hid hb2b
  clear hs2 hB2 hb2b
  go_upto_region 4 with (first | (go_at_call 35; refine (small_any _).mono ?_; rintro e w3a ⟨rfl, hb3a, hg3⟩) | (go_at_call 13; refine (R3'h.out _ _ hg3).mono ?_; rintro e w3b ⟨rfl, hb3b⟩) | (refine wpList_store_row rfl _ _ _ rfl w3b.heap.size (sgA r3.1) rfl rfl 33 _ (World.alloc_heap_new _ _) infoSg rfl (sgA_one _) ?_))
  obtain ⟨hs3, hc3⟩ := stored_s r3.1 w3b
  have hB3 := below_next hb3a (below_next hb3b hc3)
  generalize hW : (w3b.alloc (.cells #[.int .i64 0, .int .i64 0, .int .u64 0, .int .u64 0, .int .u64 0, .int .i64 0, .int .u64 0, .int .u8 0, .int .u64 0, .bool false] 33)).setRow w3b.heap.size (sgA r3.1) = W3 at hs3 hc3 hB3 ⊢
  clear hW hg3 hb3a hc3
  have hs3'h := Lib.hid hs3
  have hB3'h := Lib.hid hB3
  have hb3b'h := Lib.hid hb3b
  clear hs3 hB3 hb3b
  go_upto_region 5 with (first | (go_at_call 35; refine (small_any _).mono ?_; rintro e w4a ⟨rfl, hb4a, hg4⟩))
  have c16 : w4a.cell? ⟨W3.heap.size, 16, none⟩ = some (.int .u64 6) := blk_cell hg4 rfl
  have f16 : w4a.frozen? ⟨W3.heap.size, 16, none⟩ = false := blk_free 16 hg4
  have hg7 := blk_set (i := 16) (.int .u64 7) hg4
  have he : (u64s smallL).toArray.setIfInBounds 16 (.int .u64 7) = (u64s (smallL.set 16 7)).toArray := by kernel_rfl
  have hg4 := hg7.trans (congrArg (fun c => some (Obj.cells c 29 (0, 0))) he)
  have hb4 := hb4a.setCell (p := ⟨W3.heap.size, 16, none⟩) (Nat.le_refl _) (.int .u64 7)
  clear he hg7 hb4a
  have hg4'h := Lib.hid hg4
  have hb4'h := Lib.hid hb4
  clear hg4 hb4
  go_upto_region 6 with fail
  clear c16 f16
  have hg4 := hg4'h.out
  have hb4 := hb4'h.out
  generalize w4a.setCell ⟨W3.heap.size, 16, none⟩ (.int .u64 7) = w4c at hg4 hb4 ⊢
  have hb4'h := Lib.hid hb4
  clear hb4
  go_upto_region 7 with (first | (go_at_call 13; refine (R4'h.out _ _ hg4).mono ?_; rintro e w4b ⟨rfl, hb4b⟩) | (refine wpList_store_row rfl _ _ _ rfl w4b.heap.size (sgA r4.1) rfl rfl 33 _ (World.alloc_heap_new _ _) infoSg rfl (sgA_one _) ?_))
  obtain ⟨hs4, hc4⟩ := stored_s r4.1 w4b
  have hB4 := below_next hb4'h.out (below_next hb4b hc4)
  generalize hW : (w4b.alloc (.cells #[.int .i64 0, .int .i64 0, .int .u64 0, .int .u64 0, .int .u64 0, .int .i64 0, .int .u64 0, .int .u8 0, .int .u64 0, .bool false] 33)).setRow w4b.heap.size (sgA r4.1) = W4 at hs4 hc4 hB4 ⊢
  clear hW hg4 hc4
  obtain ⟨v1, v2, v3, v4, v5, v6, v7, v8, v9, v10, _⟩ := wk'h.out
  have q1 := hs1'h.out
  have q2 := heap_below hB2'h.out q1 (lt_of_heap q1)
  have q3 := heap_below hB3'h.out q2 (lt_of_heap q2)
  have q4 := heap_below hB4 q3 (lt_of_heap q3)
  have t2 := hs2'h.out
  have t3 := heap_below hB3'h.out t2 (lt_of_heap t2)
  have t4 := heap_below hB4 t3 (lt_of_heap t3)
  have u3 := hs3'h.out
  have u4 := heap_below hB4 u3 (lt_of_heap u3)
  have hF : ∀ W', Below W4.heap.size W4 W' → W'.cell? ⟨w1b.heap.size, 0, none⟩ = some (.int .i64 5) ∧ W'.cell? ⟨w1b.heap.size, 9, none⟩ = some (.bool true) ∧ W'.cell? ⟨w1b.heap.size, 8, none⟩ = some (.int .u64 50) ∧ W'.cell? ⟨w2b.heap.size, 9, none⟩ = some (.bool false) ∧ W'.cell? ⟨w3b.heap.size, 9, none⟩ = some (.bool false) ∧ W'.cell? ⟨w4b.heap.size, 0, none⟩ = some (.int .i64 6) := by
    intro W' hb
    have a1 := SgC.of (heap_below hb q4 (lt_of_heap q4))
    have a2 := SgC.of (heap_below hb t4 (lt_of_heap t4))
    have a3 := SgC.of (heap_below hb u4 (lt_of_heap u4))
    have a4 := SgC.of (heap_below hb hs4 (lt_of_heap hs4))
    unfold SgC at a1 a2 a3 a4
    rw [v1, v2, v3] at a1
    rw [v5] at a2
    rw [v7] at a3
    rw [v9] at a4
    exact ⟨a1.1, a1.2.2.2.2.2.2.2.2.2, a1.2.2.2.2.2.2.2.2.1, a2.2.2.2.2.2.2.2.2.2, a3.2.2.2.2.2.2.2.2.2, a4.1⟩
  have n1 : ((r1.2 : Int) == 5) = true := by rw [v4]; rfl
  have n2 : ((r2.2 : Int) == 4) = true := by rw [v6]; rfl
  have n3 : ((r3.2 : Int) == 3) = true := by rw [v8]; rfl
  have n4 : ((r4.2 : Int) == 1) = true := by rw [v10]; rfl
  have hBB := below_next (below_next (below_next hB1'h.out hB2'h.out) hB3'h.out) hB4
  clear v1 v2 v3 v4 v5 v6 v7 v8 v9 v10 q1 q2 q3 q4 t2 t3 t4 u3 u4 hs4 hB4
  have hF'h := Lib.hid hF
  have hBB'h := Lib.hid hBB
  clear hF hBB
  go_wp2_with (first | (go_at_call 35; refine (small_any _).mono ?_; rintro e w5a ⟨rfl, hb5a, hg5⟩) | (go_at_call 14; refine (most_small _ _ hg5).mono ?_; rintro e w5b ⟨rfl, hb5b⟩; obtain ⟨p1, p2, p3, p4, p5, p6⟩ := hF'h.out _ (below_next hb5a hb5b)))
  go_ret
  exact ⟨rfl, below_next hBB'h.out (below_next hb5a hb5b)⟩
end Go.Proofs.Ytoklgjlmjkhmbaa

