/-
  Package look: Run.
-/
import Derived.Test.YtoklgjlmjkhmbaaLookF
set_option linter.unusedSimpArgs false
set_option linter.unusedVariables false
set_option maxRecDepth 100000
namespace Go.Proofs.Ytoklgjlmjkhmbaa
open Go.RowKit

/-- Between loads. -/
structure RunM (V R : Nat) (w : World) (ws : List Nat) (tgt : Sg × Nat) (slab : Int) (s : Sg) (n : Nat) (W : World) : Prop where
  var : W.heap[V]? = some (.cells (sgA s) 33 (0, 0))
  res : W.heap[R]? = some (.cells #[.int .i64 0, .int .i64 0, .int .u64 0, .int .u64 0, .int .u64 0, .int .i64 0, .int .u64 0, .int .u8 0, .int .u64 0, .bool false] 33 (0, 0))
  ne : V ≠ R
  le : w.heap.size ≤ R ∧ w.heap.size ≤ V
  old : Below w.heap.size w W
  ok : SgOk s
  right : SgRight s
  slab_eq : s.slab = slab
  goes : runF ws (1000 - n) s n = tgt
  rest : n + restS s ≤ 1000
def loadsAt (a : Act) : Nat := match a.tmps.getD 14 undef with | .int _ k => 1001 - k.toNat | _ => 0
theorem take_slab (s : Sg) (x : Nat) : (takeS s x).slab = s.slab := by
  have hon : ∀ t : Sg, (onS t).slab = t.slab := fun t => by unfold onS; split <;> (try split) <;> rfl
  unfold takeS
  split
  · split <;> rfl
  · split
    · rw [hon]
    · split
      · split
        · rfl
        · rw [hon]
      · split <;> rfl
theorem cellS_lt {s : Sg} (h : SgOk s) (hr : SgRight s) {n : Nat} (ht : thereB n s.slab = true) : cellS s < n := by
  unfold thereB at ht
  simp at ht
  have := wordS_lt h
  have := hr.slab
  unfold cellS
  omega
theorem run_no (sp : Option Addr) (n cap : Nat) (slab : Int) (key hash : Nat) (z : Int) (w : World) (hn : n ≤ 9223372036854775807) (hz : (if 1 ≤ n ∧ n ≤ 8192 then (if thereB n slab = true then 0 else 2) else 120 : Int) = z) (hz0 : z ≠ 0) :
    Calls Try.prog 13 #[.slice sp n cap, .int .i64 slab, .int .u64 key, .int .u64 hash] w fun e w' => e = .returned (.tuple #[.agg (sgA zeroS), .int .i64 0, .int .i64 z]) ∧ Below w.heap.size w w' := by
  have T := fun w => there_any sp n cap slab w hn
  rw [hz] at T
  have hz1 : (z != 0) = true := by simpa using hz0
  have hz0' : (w.alloc (.cells #[.int .i64 0, .int .i64 0, .int .u64 0, .int .u64 0, .int .u64 0, .int .i64 0, .int .u64 0, .int .u8 0, .int .u64 0, .bool false] 33)).heap[w.heap.size]? = some (.cells #[.int .i64 0, .int .i64 0, .int .u64 0, .int .u64 0, .int .u64 0, .int .i64 0, .int .u64 0, .int .u8 0, .int .u64 0, .bool false] 33 (0, 0)) := World.alloc_heap_new _ _
  have T'h := Lib.hid T
  have hz'h := Lib.hid hz
  have hz0'h := Lib.hid hz0
  have hz0''h := Lib.hid hz0'
  clear T hz hz0 hz0'
  go_enter Try.func13, Try.ntmps13
  go_wp2
  go_step3
  go_wp2_with (first | (go_at_call 36; refine (T'h.out _).mono ?_; rintro e w1 ⟨rfl, rfl⟩) | (refine wpList_store_row rfl _ _ _ rfl w.heap.size _ rfl rfl 33 _ hz0''h.out infoSg rfl zl_one ?_))
  have hR := setRow_heap _ _ _ #[.int .i64 0, .int .i64 0, .int .u64 0, .int .u64 0, .int .u64 0, .int .i64 0, .int .u64 0, .int .u8 0, .int .u64 0, .bool false] _ _ hz0''h.out
  have hBz := below_setRow' ((Below.refl _ _).alloc (Nat.le_refl _) (.cells #[.int .i64 0, .int .i64 0, .int .u64 0, .int .u64 0, .int .u64 0, .int .i64 0, .int .u64 0, .int .u8 0, .int .u64 0, .bool false] 33)) (show w.heap.size ≤ w.heap.size by omega) #[.int .i64 0, .int .i64 0, .int .u64 0, .int .u64 0, .int .u64 0, .int .i64 0, .int .u64 0, .int .u8 0, .int .u64 0, .bool false]
  obtain ⟨w9, hw9⟩ : ∃ w9, w9 = (w.alloc (.cells #[.int .i64 0, .int .i64 0, .int .u64 0, .int .u64 0, .int .u64 0, .int .i64 0, .int .u64 0, .int .u8 0, .int .u64 0, .bool false] 33)).setRow w.heap.size #[.int .i64 0, .int .i64 0, .int .u64 0, .int .u64 0, .int .u64 0, .int .i64 0, .int .u64 0, .int .u8 0, .int .u64 0, .bool false] := ⟨_, rfl⟩
  rw [← hw9] at hR hBz
  rw [Exit.noGoto_ret]
  change bodyPost _ _ _ _ _ ((w.alloc (.cells #[.int .i64 0, .int .i64 0, .int .u64 0, .int .u64 0, .int .u64 0, .int .i64 0, .int .u64 0, .int .u8 0, .int .u64 0, .bool false] 33)).setRow w.heap.size #[.int .i64 0, .int .i64 0, .int .u64 0, .int .u64 0, .int .u64 0, .int .i64 0, .int .u64 0, .int .u8 0, .int .u64 0, .bool false])
  rw [← hw9]
  obtain ⟨c0, c1, c2, c3, c4, c5, c6, c7, c8, c9⟩ := SgC.of (s := zeroS) hR
  refine bodyPost_ret (v := .tuple #[.agg (sgA zeroS), .int .i64 0, .int .i64 z]) ?_ rfl ⟨rfl, hBz⟩
  simp [results, Try.results13, go_sem, c0, c1, c2, c3, c4, c5, c6, c7, c8, c9, sgA]
set_option maxHeartbeats 1000000 in
theorem run_yes (sp : Option Addr) (n cap : Nat) (ws : List Nat) (slab : Int) (key hash : Nat) (w : World) (h64 : W64 ws) (hS : Sl w sp n (u64s ws)) (hn : 1 ≤ n ∧ n ≤ 8192) (ht : thereB n slab = true) (hk : key < 2 ^ 64) (hh : hash < 2 ^ 64) :
    Calls Try.prog 13 #[.slice sp n cap, .int .i64 slab, .int .u64 key, .int .u64 hash] w fun e w' => e = .returned (.tuple #[.agg (sgA (runS ws slab key hash).1), .int .i64 ((runS ws slab key hash).2 : Nat), .int .i64 0]) ∧ Below w.heap.size w w' := by
  have hlen : n = ws.length := by have := hS.1; rwa [u64s_length] at this
  have T := fun w => there_any sp n cap slab w (by omega)
  rw [if_pos hn, if_pos ht] at T
  have hsl : 0 ≤ slab ∧ slab < 128 := by unfold thereB at ht; simp at ht; omega
  have B := fun w => begin_yes slab key hash w hsl
  have hz0 : (w.alloc (.cells #[.int .i64 0, .int .i64 0, .int .u64 0, .int .u64 0, .int .u64 0, .int .i64 0, .int .u64 0, .int .u8 0, .int .u64 0, .bool false] 33)).heap[w.heap.size]? = some (.cells #[.int .i64 0, .int .i64 0, .int .u64 0, .int .u64 0, .int .u64 0, .int .i64 0, .int .u64 0, .int .u8 0, .int .u64 0, .bool false] 33 (0, 0)) := World.alloc_heap_new _ _
  have hb0 : Below w.heap.size w (w.alloc (.cells #[.int .i64 0, .int .i64 0, .int .u64 0, .int .u64 0, .int .u64 0, .int .i64 0, .int .u64 0, .int .u8 0, .int .u64 0, .bool false] 33)) := (Below.refl _ _).alloc (Nat.le_refl _) _
  have hbok : SgOk (beginS slab key hash) := ⟨by simp [beginS], by simp [beginS]; omega, hk, hh, by simp [beginS], by simp [beginS], by simp [beginS], by simp [beginS], by simp [beginS]⟩
  have hbr : SgRight (beginS slab key hash) := ⟨by simp [beginS], by simpa [beginS] using hsl, by simp [beginS], by simp [beginS], by simp [beginS]⟩
  have hgo : runF ws (1000 - 0) (beginS slab key hash) 0 = runS ws slab key hash := rfl
  have hrest : 0 + restS (beginS slab key hash) ≤ 1000 := by simp [restS, beginS]
  have hbs : (beginS slab key hash).slab = slab := rfl
  have hone := sgA_one (beginS slab key hash)
  have hhas : hasS (beginS slab key hash) = true := rfl
  generalize runS ws slab key hash = tgt at *
  generalize beginS slab key hash = s0 at *
  have T'h := Lib.hid T
  have B'h := Lib.hid B
  have hz0'h := Lib.hid hz0
  have hb0'h := Lib.hid hb0
  have hbok'h := Lib.hid hbok
  have hbr'h := Lib.hid hbr
  have hgo'h := Lib.hid hgo
  have hrest'h := Lib.hid hrest
  have hbs'h := Lib.hid hbs
  have hone'h := Lib.hid hone
  have hhas'h := Lib.hid hhas
  have hlen'h := Lib.hid hlen
  have h64'h := Lib.hid h64
  have hS'h := Lib.hid hS
  have hn'h := Lib.hid hn
  have ht'h := Lib.hid ht
  have hk'h := Lib.hid hk
  have hh'h := Lib.hid hh
  have hsl'h := Lib.hid hsl
  clear T B hz0 hb0 hbok hbr hgo hrest hbs hone hhas hlen h64 hS hn ht hk hh hsl
  go_enter Try.func13, Try.ntmps13
  go_wp2
  refine wp_scope_jumps 0 (fun a' W => ∃ (V : Nat) (s : Sg) (q : Nat) (u15 u16 u17 u18 u19 u20 u21 u22 u23 u24 u25 u26 u27 u28 u29 u30 u31 u32 u33 u34 u35 u36 u37 u38 u39 u40 u41 u42 u43 u44 u45 u46 u47 u48 u49 : Value), a' = { tmps := #[.slice sp n cap, .int .i64 slab, .int .u64 key, .int .u64 hash, undef, undef, undef, undef, .pointer (some ⟨w.heap.size, 0, none⟩), .int .i64 0, .int .i64 0, .int .i64 0, .pointer (some ⟨V, 0, none⟩), .int .i64 0, .int .i64 q, u15, u16, u17, u18, u19, u20, u21, u22, u23, u24, u25, u26, u27, u28, u29, u30, u31, u32, u33, u34, u35, u36, u37, u38, u39, u40, u41, u42, u43, u44, u45, u46, u47, u48, u49], defers := [] } ∧ RunM V w.heap.size w ws tgt slab s q W) (fun a' _ => loadsAt a') rfl ?_ ?_
  · go_wp2_with (first | (go_at_call 36; refine (T'h.out _).mono ?_; rintro e w1 ⟨rfl, rfl⟩) | (go_at_call 12; refine (B'h.out _).mono ?_; rintro e w2 ⟨rfl, hb2⟩; have hV2 := World.alloc_heap_new w2 (.cells #[.int .i64 0, .int .i64 0, .int .u64 0, .int .u64 0, .int .u64 0, .int .i64 0, .int .u64 0, .int .u8 0, .int .u64 0, .bool false] 33); have hV2'h := Lib.hid hV2; clear hV2) | (refine wpList_store_row rfl _ _ _ rfl w2.heap.size (sgA s0) rfl rfl 33 _ hV2'h.out infoSg rfl hone'h.out ?_))
    go_step3
    have hb2s := hb2
    have hM : RunM w2.heap.size w.heap.size w ws tgt slab s0 0 ((w2.alloc (.cells #[.int .i64 0, .int .i64 0, .int .u64 0, .int .u64 0, .int .u64 0, .int .i64 0, .int .u64 0, .int .u8 0, .int .u64 0, .bool false] 33)).setRow w2.heap.size (sgA s0)) := by
      have hsz : w.heap.size < w2.heap.size := by have := hb2.size; simp at this; omega
      refine ⟨setRow_heap _ _ _ _ _ _ hV2'h.out, ?_, by omega, ⟨Nat.le_refl _, by omega⟩, ?_, hbok'h.out, hbr'h.out, hbs'h.out, hgo'h.out, hrest'h.out⟩
      · exact (setRow_other _ _ _ _ (by omega)).trans ((Below.heap_alloc _ _ _ hsz).trans (heap_below hb2 hz0'h.out (lt_of_heap hz0'h.out)))
      · exact below_setRow' ((below_next hb0'h.out hb2).alloc (by omega) _) (by omega) _
    have hh1 : hasS s0 = true := hhas'h.out
    obtain ⟨W, hW⟩ : ∃ W, W = ((w2.alloc (.cells #[.int .i64 0, .int .i64 0, .int .u64 0, .int .u64 0, .int .u64 0, .int .i64 0, .int .u64 0, .int .u8 0, .int .u64 0, .bool false] 33)).setRow w2.heap.size (sgA s0)) := ⟨_, rfl⟩
    rw [← hW] at hM ⊢
    clear hW hb2 hb2s hV2'h
    clear hgo'h hrest'h hbs'h hbok'h hbr'h hone'h B'h T'h hz0'h hb0'h hhas'h
    have N := fun w => need_yes' s0 w hM.ok hM.right hh1
    have hcl := cellS_lt hM.ok hM.right (n := n) (by rw [hM.slab_eq]; exact ht'h.out)
    have hx64 : nthN ws (cellS s0) < 2 ^ 64 := h64'h.out _ (nthN_mem (by have := hlen'h.out; omega))
    have K := fun w => lget_yes s0 (nthN ws (cellS s0)) w hM.ok hM.right hh1 hx64
    obtain ⟨ab, aoff, rfl, hcs⟩ := (hS'h.out.below hM.old).some' (by have := hn'h.out; omega)
    have c1 := hcs (cellS s0) _ (u64s_at (by have := hlen'h.out; omega))
    have hpos := rest_pos hM.right hh1
    have hrt := restS_take (w := nthN ws (cellS s0)) hM.ok hM.right hh1
    have hMn : ∀ W5 : World, W5.heap[w2.heap.size]? = some (.cells (sgA (takeS s0 (nthN ws (cellS s0)))) 33 (0, 0)) → W5.heap[w.heap.size]? = some (.cells #[.int .i64 0, .int .i64 0, .int .u64 0, .int .u64 0, .int .u64 0, .int .i64 0, .int .u64 0, .int .u8 0, .int .u64 0, .bool false] 33 (0, 0)) → Below w.heap.size w W5 →
        RunM (w2.heap.size) w.heap.size w ws tgt slab (takeS s0 (nthN ws (cellS s0))) (0 + 1) W5 := fun W5 h1 h2 h3 =>
      ⟨h1, h2, hM.ne, hM.le, h3, takeS_ok hM.ok hM.right hx64, takeS_right hM.right, by rw [take_slab]; exact hM.slab_eq, by rw [← hM.goes, show 1000 - 0 = (1000 - (0 + 1)) + 1 by have := hM.rest; omega, runF_step hh1], by have := hM.rest; omega⟩
    have hq : (0 : Int) ≤ 1000 := by have := hM.rest; omega
    have hV := hM.var
    have hRs := hM.res
    have hold := hM.old
    have hne := hM.ne
    have hle := hM.le
    clear hM hcs hx64 hrt hpos
    generalize takeS s0 (nthN ws (cellS s0)) = s' at *
    generalize nthN ws (cellS s0) = x at *
    generalize cellS s0 = cl at *
    have hone1 := sgA_one s'
    have hsz10 : (sgA s').size = 10 := rfl
    have d1 : decide (n ≤ cl) = false := by simp; omega
    have hcl' : (cl : Int) < (n : Int) := by omega
    have habl := lt_of_cell c1
    have hVl := lt_of_heap hV
    have hRl := lt_of_heap hRs
    obtain ⟨ph, sl, ky, ha, be, gr, ct, le, va, fo⟩ := s0
    have N'h := Lib.hid N
    have K'h := Lib.hid K
    have hMn'h := Lib.hid hMn
    have hV'h := Lib.hid hV
    have hRs'h := Lib.hid hRs
    have hold'h := Lib.hid hold
    have hne'h := Lib.hid hne
    have hle'h := Lib.hid hle
    have hone1'h := Lib.hid hone1
    have c1'h := Lib.hid c1
    have hcl'h := Lib.hid hcl
    have habl'h := Lib.hid habl
    have hVl'h := Lib.hid hVl
    have hRl'h := Lib.hid hRl
    clear N K hMn hV hRs hold hne hle hone1 c1 hcl habl hVl hRl
    go_wp2_with (first | (refine wpList_load_row rfl _ _ rfl (w2.heap.size) rfl 33 (sgA ⟨ph, sl, ky, ha, be, gr, ct, le, va, fo⟩) (0, 0) _ hV'h.out Try.underlying33 rfl infoSg ?_) | (go_at_call 22; refine (N'h.out _).mono ?_; rintro e w3 ⟨rfl, hb3⟩))
    have hc3 : w3.cell? ⟨ab, aoff + cl, none⟩ = some (.int .u64 x) := (hb3.cell (p := ⟨ab, aoff + cl, none⟩) habl'h.out).trans c1'h.out
    have hV3 := heap_below hb3 hV'h.out hVl'h.out
    have hR3 := heap_below hb3 hRs'h.out hRl'h.out
    have hB3 := hold'h.out.trans (hb3.mono hold'h.out.size)
    have hsC : SgC ⟨ph, sl, ky, ha, be, gr, ct, le, va, fo⟩ (w2.heap.size) w3 := SgC.of hV3
    have hVl3 := lt_of_heap hV3
    have hRl3 := lt_of_heap hR3
    clear hb3
    simp only [SgC] at hsC
    obtain ⟨q0, q1, q2, q3, q4, q5, q6, q7, q8, q9⟩ := hsC
    have hV3'h := Lib.hid hV3
    have hR3'h := Lib.hid hR3
    have hB3'h := Lib.hid hB3
    have hVl3'h := Lib.hid hVl3
    have hRl3'h := Lib.hid hRl3
    clear hV3 hR3 hB3 hVl3 hRl3
    go_region_law (first | (go_simp; go_at_call 24; refine (K'h.out _).mono ?_; rintro e w4 ⟨rfl, hb4⟩; have hb4d : Below w3.heap.size w3.drew w4 := hb4; have hV4 := heap_below hb4d (show w3.drew.heap[w2.heap.size]? = _ from hV3'h.out) hVl3'h.out; have hst := run_storeCells_row (P := Try.prog) _ _ _ _ (sgA s') hV4 rfl hone1'h.out; have hV4'h := Lib.hid hV4; clear hV4))
    all_goals
      have hVn := setRow_heap _ _ _ (sgA s') _ _ hV4'h.out
      have hRn := (setRow_other w4 (w2.heap.size) w.heap.size (sgA s') (fun e => hne'h.out e.symm)).trans (heap_below hb4d (show w3.drew.heap[w.heap.size]? = _ from hR3'h.out) hRl3'h.out)
      have hB4 := (Below.drew hB3'h.out).trans (hb4d.mono hB3'h.out.size)
      have hB5 := below_setRow' hB4 hle'h.out.2 (sgA s')
      clear hst hb4d hB4 hb4
      obtain ⟨W5, hW5⟩ : ∃ W5, W5 = w4.setRow (w2.heap.size) (sgA s') := ⟨_, rfl⟩
      rw [← hW5] at hVn hRn hB5 ⊢
      have hMM := hMn'h.out W5 hVn hRn hB5
      clear hW5 hVn hRn hB5 q0 q1 q2 q3 q4 q5 q6 q7 q8 q9 hc3
      have hMM'h := Lib.hid hMM
      clear hMM
      go_wp2
      go_step3
      exact ⟨rfl, w2.heap.size, s', 1, _, _, _, _, _, _, _, _, _, _, _, _, _, _, _, _, _, _, _, _, _, _, _, _, _, _, _, _, _, _, _, _, _, _, _, rfl, hMM'h.out⟩
  · rintro a' W ⟨V, s, q, u15, u16, u17, u18, u19, u20, u21, u22, u23, u24, u25, u26, u27, u28, u29, u30, u31, u32, u33, u34, u35, u36, u37, u38, u39, u40, u41, u42, u43, u44, u45, u46, u47, u48, u49, rfl, hM⟩
    clear hgo'h hrest'h hbs'h hbok'h hbr'h hone'h B'h T'h hz0'h hb0'h hhas'h
    by_cases hh1 : hasS s = true
    · have N := fun w => need_yes' s w hM.ok hM.right hh1
      have hcl := cellS_lt hM.ok hM.right (n := n) (by rw [hM.slab_eq]; exact ht'h.out)
      have hx64 : nthN ws (cellS s) < 2 ^ 64 := h64'h.out _ (nthN_mem (by have := hlen'h.out; omega))
      have K := fun w => lget_yes s (nthN ws (cellS s)) w hM.ok hM.right hh1 hx64
      obtain ⟨ab, aoff, rfl, hcs⟩ := (hS'h.out.below hM.old).some' (by have := hn'h.out; omega)
      have c1 := hcs (cellS s) _ (u64s_at (by have := hlen'h.out; omega))
      have hpos := rest_pos hM.right hh1
      have hrt := restS_take (w := nthN ws (cellS s)) hM.ok hM.right hh1
      have hMn : ∀ W5 : World, W5.heap[V]? = some (.cells (sgA (takeS s (nthN ws (cellS s)))) 33 (0, 0)) → W5.heap[w.heap.size]? = some (.cells #[.int .i64 0, .int .i64 0, .int .u64 0, .int .u64 0, .int .u64 0, .int .i64 0, .int .u64 0, .int .u8 0, .int .u64 0, .bool false] 33 (0, 0)) → Below w.heap.size w W5 →
          RunM (V) w.heap.size w ws tgt slab (takeS s (nthN ws (cellS s))) (q + 1) W5 := fun W5 h1 h2 h3 =>
        ⟨h1, h2, hM.ne, hM.le, h3, takeS_ok hM.ok hM.right hx64, takeS_right hM.right, by rw [take_slab]; exact hM.slab_eq, by rw [← hM.goes, show 1000 - q = (1000 - (q + 1)) + 1 by have := hM.rest; omega, runF_step hh1], by have := hM.rest; omega⟩
      have hq : (q : Int) ≤ 1000 := by have := hM.rest; omega
      have hV := hM.var
      have hRs := hM.res
      have hold := hM.old
      have hne := hM.ne
      have hle := hM.le
      clear hM hcs hx64 hrt hpos
      generalize takeS s (nthN ws (cellS s)) = s' at *
      generalize nthN ws (cellS s) = x at *
      generalize cellS s = cl at *
      have hone1 := sgA_one s'
      have hsz10 : (sgA s').size = 10 := rfl
      have d1 : decide (n ≤ cl) = false := by simp; omega
      have hcl' : (cl : Int) < (n : Int) := by omega
      have habl := lt_of_cell c1
      have hVl := lt_of_heap hV
      have hRl := lt_of_heap hRs
      obtain ⟨ph, sl, ky, ha, be, gr, ct, le, va, fo⟩ := s
      have N'h := Lib.hid N
      have K'h := Lib.hid K
      have hMn'h := Lib.hid hMn
      have hV'h := Lib.hid hV
      have hRs'h := Lib.hid hRs
      have hold'h := Lib.hid hold
      have hne'h := Lib.hid hne
      have hle'h := Lib.hid hle
      have hone1'h := Lib.hid hone1
      have c1'h := Lib.hid c1
      have hcl'h := Lib.hid hcl
      have habl'h := Lib.hid habl
      have hVl'h := Lib.hid hVl
      have hRl'h := Lib.hid hRl
      clear N K hMn hV hRs hold hne hle hone1 c1 hcl habl hVl hRl
      go_wp2_with (first | (refine wpList_load_row rfl _ _ rfl (V) rfl 33 (sgA ⟨ph, sl, ky, ha, be, gr, ct, le, va, fo⟩) (0, 0) _ hV'h.out Try.underlying33 rfl infoSg ?_) | (go_at_call 22; refine (N'h.out _).mono ?_; rintro e w3 ⟨rfl, hb3⟩))
      have hc3 : w3.cell? ⟨ab, aoff + cl, none⟩ = some (.int .u64 x) := (hb3.cell (p := ⟨ab, aoff + cl, none⟩) habl'h.out).trans c1'h.out
      have hV3 := heap_below hb3 hV'h.out hVl'h.out
      have hR3 := heap_below hb3 hRs'h.out hRl'h.out
      have hB3 := hold'h.out.trans (hb3.mono hold'h.out.size)
      have hsC : SgC ⟨ph, sl, ky, ha, be, gr, ct, le, va, fo⟩ (V) w3 := SgC.of hV3
      have hVl3 := lt_of_heap hV3
      have hRl3 := lt_of_heap hR3
      clear hb3
      simp only [SgC] at hsC
      obtain ⟨q0, q1, q2, q3, q4, q5, q6, q7, q8, q9⟩ := hsC
      have hV3'h := Lib.hid hV3
      have hR3'h := Lib.hid hR3
      have hB3'h := Lib.hid hB3
      have hVl3'h := Lib.hid hVl3
      have hRl3'h := Lib.hid hRl3
      clear hV3 hR3 hB3 hVl3 hRl3
      go_region_law (first | (go_simp; go_at_call 24; refine (K'h.out _).mono ?_; rintro e w4 ⟨rfl, hb4⟩; have hb4d : Below w3.heap.size w3.drew w4 := hb4; have hV4 := heap_below hb4d (show w3.drew.heap[V]? = _ from hV3'h.out) hVl3'h.out; have hst := run_storeCells_row (P := Try.prog) _ _ _ _ (sgA s') hV4 rfl hone1'h.out; have hV4'h := Lib.hid hV4; clear hV4))
      all_goals
        have hVn := setRow_heap _ _ _ (sgA s') _ _ hV4'h.out
        have hRn := (setRow_other w4 (V) w.heap.size (sgA s') (fun e => hne'h.out e.symm)).trans (heap_below hb4d (show w3.drew.heap[w.heap.size]? = _ from hR3'h.out) hRl3'h.out)
        have hB4 := (Below.drew hB3'h.out).trans (hb4d.mono hB3'h.out.size)
        have hB5 := below_setRow' hB4 hle'h.out.2 (sgA s')
        clear hst hb4d hB4 hb4
        obtain ⟨W5, hW5⟩ : ∃ W5, W5 = w4.setRow (V) (sgA s') := ⟨_, rfl⟩
        rw [← hW5] at hVn hRn hB5 ⊢
        have hMM := hMn'h.out W5 hVn hRn hB5
        clear hW5 hVn hRn hB5 q0 q1 q2 q3 q4 q5 q6 q7 q8 q9 hc3
        have hMM'h := Lib.hid hMM
        clear hMM
        go_wp2
        go_step3
        refine ⟨rfl, ⟨V, s', q + 1, _, _, _, _, _, _, _, _, _, _, _, _, _, _, _, _, _, _, _, _, _, _, _, _, _, _, _, _, _, _, _, _, _, _, _, rfl, hMM'h.out⟩, ?_⟩
        simp [loadsAt]
        omega
    · have hh0 : hasS s = false := by simpa using hh1
      have N := fun w => need_over s w hM.ok hM.right hh0
      have htg : tgt = (s, q) := by rw [← hM.goes]; exact runF_stop hh0
      subst htg
      have hV := hM.var
      have hRs := hM.res
      have hold := hM.old
      have hle := hM.le
      have hVl := lt_of_heap hV
      have hRl := lt_of_heap hRs
      have hone1 := sgA_one s
      clear hM
      have N'h := Lib.hid N
      have hV'h := Lib.hid hV
      have hRs'h := Lib.hid hRs
      have hold'h := Lib.hid hold
      have hle'h := Lib.hid hle
      have hVl'h := Lib.hid hVl
      have hRl'h := Lib.hid hRl
      have hone1'h := Lib.hid hone1
      have hh1'h := Lib.hid hh1
      have hh0'h := Lib.hid hh0
      clear N hV hRs hold hle hVl hRl hone1 hh1 hh0
      go_wp2_with (first | (refine wpList_load_row rfl _ _ rfl V rfl 33 (sgA s) (0, 0) _ hV'h.out Try.underlying33 rfl infoSg ?_) | (go_at_call 22; refine (N'h.out _).mono ?_; rintro e w3 ⟨rfl, hb3⟩; have hV3 := heap_below hb3 hV'h.out hVl'h.out; have hR3 := heap_below hb3 hRs'h.out hRl'h.out; have hV3'h := Lib.hid hV3; clear hV3; have hR3'h := Lib.hid hR3; clear hR3) | (refine wpList_load_row rfl _ _ rfl V rfl 33 (sgA s) (0, 0) _ hV3'h.out Try.underlying33 rfl infoSg ?_) | (refine wpList_store_row rfl _ _ _ rfl w.heap.size (sgA s) rfl rfl 33 _ hR3'h.out infoSg rfl hone1'h.out ?_))
      simp only [Exit.jump]
      have hR := setRow_heap _ _ _ (sgA s) _ _ hR3'h.out
      have hB5 := below_setRow' (hold'h.out.trans (hb3.mono hold'h.out.size)) (Nat.le_refl w.heap.size) (sgA s)
      obtain ⟨c0, c1, c2, c3, c4, c5, c6, c7, c8, c9⟩ := SgC.of hR
      generalize w3.setRow w.heap.size (sgA s) = W5 at *
      refine bodyPost_ret (v := .tuple #[.agg (sgA s), .int .i64 (q : Nat), .int .i64 0]) ?_ rfl ⟨rfl, hB5⟩
      simp [results, Try.results13, go_sem, c0, c1, c2, c3, c4, c5, c6, c7, c8, c9, sgA]
end Go.Proofs.Ytoklgjlmjkhmbaa
