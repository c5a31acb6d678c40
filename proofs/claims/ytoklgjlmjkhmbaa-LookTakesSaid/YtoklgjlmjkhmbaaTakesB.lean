/-
  LookTakes: one that may be, and is over.
-/
import Derived.Test.YtoklgjlmjkhmbaaPi
set_option linter.unusedSimpArgs false
set_option linter.unusedVariables false
set_option maxRecDepth 100000
namespace Go.Proofs.Ytoklgjlmjkhmbaa
open Go.RowKit

set_option maxHeartbeats 4000000 in
theorem takesB (s : Sg) (sp1 : Option Addr) (n1 cap1 : Nat) (ws : List Nat) (sp2 : Option Addr) (n2 cap2 : Nat) (xs : List Nat) (w : World) (h : SgOk s) (h64 : W64 ws) (x64 : W64 xs)
    (hS1 : Sl w sp1 n1 (u64s ws)) (hS2 : Sl w sp2 n2 (u64s xs)) (hc1 : sp1 = none → cap1 = 0) (hnc1 : n1 ≤ cap1) (hc2 : sp2 = none → cap2 = 0) (hnc2 : n2 ≤ cap2) (hn1 : n1 ≤ 9223372036854775807) (hn2 : n2 ≤ 9223372036854775807) (hr : SgRight s) (hh : hasS s = false) :
    Calls Try.prog 4 #[.agg (sgA s), .slice sp1 n1 cap1, .slice sp2 n2 cap2] w fun e w' => e = .returned (.bool true) ∧ Below w.heap.size w w' := by
  have R := fun w => ref_right s w h
  rw [(rightS_iff s).2 hr] at R
  have HA := fun w => ref_hasS s w
  rw [hh] at HA
  have CH := fun w => lcheck_yes s w h hr
  have ND := fun w => need_over s w h hr hh
  obtain ⟨m1, hm1⟩ : ∃ m1, m1 = min n1 8 := ⟨_, rfl⟩
  have hmi := takes_min n1 m1 hm1
  obtain ⟨ws1, hws1⟩ : ∃ ws1, ws1 = ws.take m1 := ⟨_, rfl⟩
  have hSm := SlK.of_sl (hS1.take m1 (by omega))
  rw [u64s_take, ← hws1] at hSm
  obtain ⟨i0, hi, hz0, hz1, hz2⟩ := info_parts info_u64w
  have q1 : (0 : Int) ≤ (m1 : Int) := by omega
  have q2 : (m1 : Int) ≤ (cap1 : Int) := by omega
  have q3 : m1 ≤ cap1 := by omega
  have qm : m1 ≤ 8 := by omega
  have h'h := Lib.hid h
  have h64'h := Lib.hid h64
  have x64'h := Lib.hid x64
  have hS1'h := Lib.hid hS1
  have hS2'h := Lib.hid hS2
  have hc1'h := Lib.hid hc1
  have hnc1'h := Lib.hid hnc1
  have hc2'h := Lib.hid hc2
  have hnc2'h := Lib.hid hnc2
  have hn1'h := Lib.hid hn1
  have hn2'h := Lib.hid hn2
  have hr'h := Lib.hid hr
  have hh'h := Lib.hid hh
  have hSm'h := Lib.hid hSm
  have hm1'h := Lib.hid hm1
  have hws1'h := Lib.hid hws1
  have hi'h := Lib.hid hi
  have hz0'h := Lib.hid hz0
  have hz1'h := Lib.hid hz1
  have hz2'h := Lib.hid hz2
  have qm'h := Lib.hid qm
  have R'h := Lib.hid R
  have HA'h := Lib.hid HA
  have CH'h := Lib.hid CH
  have ND'h := Lib.hid ND
  clear h h64 x64 hS1 hS2 hc1 hnc1 hc2 hnc2 hn1 hn2 hr hh hSm hm1 hws1 hi hz0 hz1 hz2 qm R HA CH ND
  go_enter Try.func4, Try.ntmps4
  go_upto_region 1 with fail
  have hO1 := OneS.new s w
  generalize hW : w.alloc (.cells (sgA s) 33) = W at hO1 ⊢
  clear hW
  have hO1'h := Lib.hid hO1
  clear hO1
  go_upto_region 7 with (first | (go_at_call 7; refine (wakes18_any _).mono ?_; rintro e w2 ⟨rfl, hb⟩; have hO2 := hO1'h.out.next hb; have hO2'h := Lib.hid hO2; clear hO2 hb) | (refine wpList_load_row rfl _ _ rfl w.heap.size rfl 33 _ (0, 0) _ hO2'h.out.at0 Try.underlying33 rfl infoSg ?_) | (go_at_call 19; refine (R'h.out _).mono ?_; rintro e w3 ⟨rfl, hb⟩; have hO3 := hO2'h.out.next hb; have hO3'h := Lib.hid hO3; clear hO3 hb) | (refine wpList_load_row_w (by rfl) _ _ rfl w.heap.size rfl 33 _ (0, 0) _ hO3'h.out.at0 Try.underlying33 rfl infoSg ?_) | (go_at_call 20; refine (HA'h.out _).mono ?_; rintro e w4 ⟨rfl, hb⟩; have hO4 := hO3'h.out.next hb; have hO4'h := Lib.hid hO4; clear hO4 hb) | (refine wpList_load_row rfl _ _ rfl w.heap.size rfl 33 _ (0, 0) _ hO4'h.out.at0 Try.underlying33 rfl infoSg ?_) | (go_at_call 21; refine (CH'h.out _).mono ?_; rintro e w5 ⟨rfl, hb⟩; have hO5 := hO4'h.out.next hb; have hO5'h := Lib.hid hO5; clear hO5 hb) | (refine wpList_load_row rfl _ _ rfl w.heap.size rfl 33 _ (0, 0) _ hO5'h.out.at0 Try.underlying33 rfl infoSg ?_) | (go_at_call 22; refine (ND'h.out _).mono ?_; rintro e w6 ⟨rfl, hb⟩; have hO6 := hO5'h.out.next hb; have hO6'h := Lib.hid hO6; clear hO6 hb))
  go_upto_region 12 with (first | (refine wpList_load_row rfl _ _ rfl w.heap.size rfl 33 _ (0, 0) _ hO6'h.out.at0 Try.underlying33 rfl infoSg ?_))
  have hkeep : ∀ W' : World, Below w6.heap.size w6 W' → ((W'.cell? ⟨w.heap.size, 2, none⟩ = some (.int .u64 s.key) ∧ W'.cell? ⟨w.heap.size, 4, none⟩ = some (.int .u64 s.began)) ∧ Below w6.heap.size w6 W') := fun W' hb => by
    have c := SgC.of (hO6'h.out.next hb).at0
    unfold SgC at c
    exact ⟨⟨c.2.2.1, c.2.2.2.2.1⟩, hb⟩
  have hSw : ∀ W' : World, Below w6.heap.size w6 W' → SlK W' 1 sp1 m1 (u64s ws1) := fun W' hb => hSm'h.out.below (hO6'h.out.next hb).old
  have k0 := hkeep _ (Below.refl _ _)
  have hkeep'h := Lib.hid hkeep
  have hSw'h := Lib.hid hSw
  clear hkeep hSw
  obtain ⟨⟨k1, k2⟩, k3⟩ := k0
  go_cut [74, 75, 76] from 64 to 76 (fun t l i wr => ∃ sp9 cap9, t = .slice sp9 (2 + m1) cap9 ∧ l = .int .i64 (2 + m1) ∧ i = .int .i64 0 ∧ wr.ownsRow w6.heap.size 29 1 (.slice sp9 (2 + m1) cap9) (2 + m1) ([.int .u64 s.key, .int .u64 s.began] ++ u64s ws1) ∧ Below w6.heap.size w6 wr)
  case first =>
    go_region_held3 (fun W' => (W'.cell? ⟨w.heap.size, 2, none⟩ = some (.int .u64 s.key) ∧ W'.cell? ⟨w.heap.size, 4, none⟩ = some (.int .u64 s.began)) ∧ Below w6.heap.size w6 W') (first | exact hkeep'h.out _ (by assumption) | exact hkeep'h.out _ (Below.drew (by assumption)) | exact hkeep'h.out _ ((Below.drew (by assumption)).alloc (by simp) _) | exact hkeep'h.out _ (Below.alloc (by assumption) (by simp) _) | exact hkeep'h.out _ hB9 | fail) (first | ((show (if Region.wanted { dst := _, op := Op.call { callee := Callee.builtin Builtin.append, args := _, argTypes := _ }, type := _, pos := _, after := _, guard := _ } _ = true then _ else _)); (refine step_append_slk _ (by rfl) _ _ _ (by rfl) w6.drew.heap.size 29 i0 (.int .u64 0) 1 8 Try.underlying22 hi'h.out hz0'h.out hz1'h.out hz2'h.out (by rfl) (by decide) _ 2 _ (by rfl) (own_lit _ _ 2 _ (by rfl) (by decide)) sp1 m1 _ (u64s ws1) (by rfl) (hSw'h.out _ (by first | assumption | exact Below.alloc (Below.drew (Below.refl _ _)) (by simp) _)) (oneCell_u64s _) (by have := qm'h.out; unfold maxLen; omega) (by have := qm'h.out; omega) (by simp) ?_; intro v9 w9 hown9 hgrow9 hat9; obtain ⟨sp9, cap9, rfl⟩ := row_slice' hown9; have hB9 : Below w6.heap.size w6 w9 := Below.grown (Below.alloc (Below.drew (Below.refl _ _)) (by simp) _) hgrow9 (by simp) (fun j hj => by cases hj; simp))) | go_simp)
    all_goals
      go_wp2
      go_meet
      exact ⟨sp9, cap9, rfl, rfl, rfl, ownsRow_mono hown9 (by simp), hB9⟩
  case rest =>
    obtain ⟨sp9, cap9, rfl, rfl, rfl, hown9, hB9⟩ := hcut
    have hO9 := hO6'h.out.next hB9
    obtain ⟨g9, c9, hv9, _, hg9⟩ := hown9.form (by omega)
    injection hv9 with hv9 _ hv9c
    subst hv9 hv9c
    obtain ⟨ys, hys⟩ : ∃ ys, ys = [s.key, s.began] ++ ws1 := ⟨_, rfl⟩
    have hrow := Sl.of_row hown9 (by have := qm'h.out; unfold maxLen; omega)
    have e1 : [.int .u64 s.key, .int .u64 s.began] ++ u64s ws1 = u64s ys := by rw [hys]; simp [u64s]
    rw [e1] at hrow
    have hyl : 2 + m1 = ys.length := by have := hrow.1; rwa [u64s_length] at this
    have hy64 : ∀ y ∈ ys, y < 2 ^ 64 := by
      intro y hy
      rw [hys] at hy
      simp only [List.cons_append, List.nil_append, List.mem_cons] at hy
      rcases hy with rfl | rfl | hy
      · exact h'h.out.key
      · exact h'h.out.began
      · exact h64'h.out y (by rw [hws1'h.out] at hy; exact List.mem_of_mem_take hy)
    have K := fun x w hx => lget_over s x w h'h.out hr'h.out hh'h.out hx
    clear hown9 e1 hys
    have hO9'h := Lib.hid hO9
    have hrow'h := Lib.hid hrow
    have hyl'h := Lib.hid hyl
    have hy64'h := Lib.hid hy64
    have K'h := Lib.hid K
    clear hO9 hrow hyl hy64 K
    go_wp2
    go_loopg [76] (2 + m1) (fun q i wr => ∃ k : Nat, k + q = 2 + m1 ∧ i = .int .i64 k ∧ Below wc.heap.size wc wr)
    case atStart => exact ⟨0, by omega, rfl, Below.refl _ _⟩
    case round =>
      obtain ⟨k, hk, rfl, hbr⟩ := hrel
      by_cases hlt : k < 2 + m1
      · have hOr := hO9'h.out.next hbr
        have hc := (hrow'h.out.below hbr).cell (u64s_at (by have := hyl'h.out; omega) : _ = some (.int .u64 (nthN ys k)))
        rw [Nat.zero_add] at hc
        have hx64 := hy64'h.out _ (nthN_mem (l := ys) (k := k) (by have := hyl'h.out; omega))
        have K1 := fun w => K'h.out _ w hx64
        generalize nthN ys k = x at *
        have hq := fun w => neq_sg zeroS w
        have hOr'h := Lib.hid hOr
        have hbr'h := Lib.hid hbr
        have hx64'h := Lib.hid hx64
        have K1'h := Lib.hid K1
        have hq'h := Lib.hid hq
        have hk'h := Lib.hid hk
        clear hOr hbr hx64 K1 hq hk
        go_upto_region 15 with fail
        clear hc
        go_upto_region 16 with (first | (refine wpList_load_row rfl _ _ rfl w.heap.size rfl 33 _ (0, 0) _ hOr'h.out.at0 Try.underlying33 rfl infoSg ?_) | (go_at_call 24; refine (K1'h.out _).mono ?_; rintro e w10 ⟨rfl, hb10⟩) | (refine wpList_store_row rfl _ _ _ rfl w10.heap.size (sgA zeroS) rfl rfl 33 _ (World.alloc_heap_new _ _) infoSg rfl (sgA_one _) ?_))
        obtain ⟨hs1, hc1⟩ := stored_s zeroS w10
        have hO15 := hOr'h.out.next (below_next hb10 hc1)
        have hb15 := below_next hb10 hc1
        generalize hW : (w10.alloc (.cells #[.int .i64 0, .int .i64 0, .int .u64 0, .int .u64 0, .int .u64 0, .int .i64 0, .int .u64 0, .int .u8 0, .int .u64 0, .bool false] 33)).setRow w10.heap.size (sgA zeroS) = W15 at hs1 hO15 hb15 ⊢
        clear hW hc1
        have hs1'h := Lib.hid hs1
        have hO15'h := Lib.hid hO15
        have hb15'h := Lib.hid hb15
        clear hs1 hO15 hb15
        go_upto_region 21 with (refine wpList_store_row rfl _ _ _ rfl W15.heap.size (sgA zeroS) rfl rfl 33 _ (World.alloc_heap_new _ _) infoSg rfl (sgA_one _) ?_)
        obtain ⟨hs2, hc2⟩ := stored_s zeroS W15
        generalize hW : (W15.alloc (.cells #[.int .i64 0, .int .i64 0, .int .u64 0, .int .u64 0, .int .u64 0, .int .i64 0, .int .u64 0, .int .u8 0, .int .u64 0, .bool false] 33)).setRow W15.heap.size (sgA zeroS) = W17 at hs2 hc2 ⊢
        clear hW
        have r2 := heap_below hc2 hs1'h.out (lt_of_heap hs1'h.out)
        have rb := below_next hb15'h.out hc2
        have r1 := hs2
        clear hs2 hc2
        have r1'h := Lib.hid r1
        have r2'h := Lib.hid r2
        have rb'h := Lib.hid rb
        clear r1 r2 rb
        have hq := hq'h.out
        go_wp2_with (first | (refine wpList_load_row rfl _ _ rfl w10.heap.size rfl 33 _ (0, 0) _ r2'h.out Try.underlying33 rfl infoSg ?_) | (refine wpList_load_row rfl _ _ rfl W15.heap.size rfl 33 _ (0, 0) _ r1'h.out Try.underlying33 rfl infoSg ?_))
        go_roundg (gk - 1)
        case measure => have := hk'h.out; omega
        case rel => exact ⟨k + 1, by have := hk'h.out; omega, by go_num, below_next hbr'h.out rb'h.out⟩
      · obtain rfl : k = 2 + m1 := by omega
        have hO23 := hO9'h.out.next hbr
        obtain ⟨m2, hm2⟩ : ∃ m2, m2 = min n2 140 := ⟨_, rfl⟩
        have O := fun w h => own_any sp2 n2 cap2 m2 xs w h hc2'h.out hnc2'h.out hm2 hn2'h.out
        obtain ⟨xs2, hxs2⟩ : ∃ xs2, xs2 = xs.take m2 := ⟨_, rfl⟩
        rw [← hxs2] at O
        have x264 : W64 xs2 := by rw [hxs2]; intro y hy; exact x64'h.out y (List.mem_of_mem_take hy)
        have hm4 : m2 ≤ 140 := by omega
        clear hbr hxs2
        have hO23'h := Lib.hid hO23
        have O'h := Lib.hid O
        have x264'h := Lib.hid x264
        have hm2'h := Lib.hid hm2
        have hm4'h := Lib.hid hm4
        have hk'h := Lib.hid hk
        clear hO23 O x264 hm2 hm4 hk
        go_upto_region 25 with (go_at_call 8; refine (O'h.out _ (hS2'h.out.below hO23'h.out.old)).mono ?_; rintro e w24 ⟨sp4, cap4, rfl, hb24, hrow4⟩)
        have hO24 := hO23'h.out.next hb24
        have hS4 := Sl.of_row hrow4 (by have := hm4'h.out; unfold maxLen; omega)
        have hl4 : m2 = xs2.length := by have := hS4.1; rwa [u64s_length] at this
        clear hrow4 hb24
        have RL := fun w => ref_cells sp4 m2 cap4 w (by have := hm4'h.out; omega)
        by_cases hz : 1 ≤ m2
        · have hz1' : decide (1 ≤ m2 ∧ m2 ≤ 8192) = true := by have := hm4'h.out; simp; omega
          rw [hz1'] at RL
          have ST := fun w (h : Sl w sp4 m2 (u64s xs2)) => step_over sp4 m2 cap4 s w (by have := hm4'h.out; omega) h'h.out ⟨hz, by have := hm4'h.out; omega⟩ hr'h.out hh'h.out
          clear hz1'
          have ST'h := Lib.hid ST
          have hS4'h := Lib.hid hS4
          have RL'h := Lib.hid RL
          have hO24'h := Lib.hid hO24
          have hl4'h := Lib.hid hl4
          clear ST hS4 RL hO24 hl4
          go_upto_region 26 with (first | (refine wpList_load_row rfl _ _ rfl w.heap.size rfl 33 _ (0, 0) _ hO24'h.out.at0 Try.underlying33 rfl infoSg ?_) | (go_at_call 26; refine (ST'h.out _ hS4'h.out).mono ?_; rintro e w25 ⟨rfl, hb25⟩) | (refine wpList_store_row rfl _ _ _ rfl w25.heap.size (sgA s) rfl rfl 33 _ (World.alloc_heap_new _ _) infoSg rfl (sgA_one _) ?_))
          obtain ⟨hs25, hc25⟩ := stored_s s w25
          have hb25' := below_next hb25 hc25
          generalize hW : (w25.alloc (.cells #[.int .i64 0, .int .i64 0, .int .u64 0, .int .u64 0, .int .u64 0, .int .i64 0, .int .u64 0, .int .u8 0, .int .u64 0, .bool false] 33)).setRow w25.heap.size (sgA s) = W25 at hs25 hb25' ⊢
          clear hW hc25 hb25
          have hs25'h := Lib.hid hs25
          have hb25''h := Lib.hid hb25'
          clear hs25 hb25'
          go_upto_region 27 with (refine wpList_store_row rfl _ _ _ rfl W25.heap.size (sgA zeroS) rfl rfl 33 _ (World.alloc_heap_new _ _) infoSg rfl (sgA_one _) ?_)
          obtain ⟨hs26, hc26⟩ := stored_s zeroS W25
          generalize hW : (W25.alloc (.cells #[.int .i64 0, .int .i64 0, .int .u64 0, .int .u64 0, .int .u64 0, .int .i64 0, .int .u64 0, .int .u8 0, .int .u64 0, .bool false] 33)).setRow W25.heap.size (sgA zeroS) = W26 at hs26 hc26 ⊢
          clear hW
          have hr26 := heap_below hc26 hs25'h.out (lt_of_heap hs25'h.out)
          have hlt26 := lt_of_heap hs25'h.out
          have hS26 := hS4'h.out.below (below_next hb25''h.out hc26)
          have hO26 := hO24'h.out.next (below_next hb25''h.out hc26)
          have hs26'h := Lib.hid hs26
          have hc26'h := Lib.hid hc26
          have hr26'h := Lib.hid hr26
          have hS26'h := Lib.hid hS26
          have hO26'h := Lib.hid hO26
          clear hs26 hc26 hr26 hS26 hO26
          go_upto_region 35 with (first | (go_at_call 15; refine (RL'h.out _).mono ?_; rintro e w27 ⟨rfl, hw27⟩; obtain rfl := hw27.symm) | (refine wpList_load_row rfl _ _ rfl w.heap.size rfl 33 _ (0, 0) _ hO26'h.out.at0 Try.underlying33 rfl infoSg ?_) | (refine wpList_store_row rfl _ _ _ rfl W25.heap.size (sgA s) rfl rfl 33 _ hs26'h.out infoSg rfl (sgA_one _) ?_))
          have f2 := setRow_heap _ _ _ (sgA s) _ _ hs26'h.out
          have f1 := (setRow_other W26 W25.heap.size w25.heap.size (sgA s) (by omega)).trans hr26'h.out
          have fB := below_setRow' (below_next hb25''h.out hc26'h.out) hb25''h.out.size (sgA s)
          have fO := hO24'h.out.next fB
          have fS := hS4'h.out.below fB
          generalize W26.setRow W25.heap.size (sgA s) = W33 at f1 f2 fO fS ⊢
          clear fB
          have hq := fun w => eql_sg s w
          have f1'h := Lib.hid f1
          have f2'h := Lib.hid f2
          have fO'h := Lib.hid fO
          have fS'h := Lib.hid fS
          clear f1 f2 fO fS
          go_wp2_with (first | (refine wpList_load_row rfl _ _ rfl w25.heap.size rfl 33 _ (0, 0) _ f1'h.out Try.underlying33 rfl infoSg ?_) | (refine wpList_load_row rfl _ _ rfl W25.heap.size rfl 33 _ (0, 0) _ f2'h.out Try.underlying33 rfl infoSg ?_) | (go_at_call 8; refine (O'h.out _ (hS2'h.out.below fO'h.out.old)).mono ?_; rintro e w30 ⟨sp5, cap5, rfl, hb30, hrow5⟩; have hS5 := Sl.of_row hrow5 (by have := hm4'h.out; unfold maxLen; omega); have hS5'h := Lib.hid hS5; clear hS5 hrow5) | (go_at_call 18; refine (same64 _ _ _ _ _ _ _ (fS'h.out.below hb30) hS5'h.out).mono ?_; rintro e w31 ⟨rfl, d, rfl⟩))
          go_ret
          exact ⟨rfl, (fO'h.out.next hb30).old.trans (below_drewN' _ _)⟩
        · skip
          have hz1' : decide (1 ≤ m2 ∧ m2 ≤ 8192) = false := by simp; omega
          rw [hz1'] at RL
          have ST := fun w (h : Sl w sp4 m2 (u64s xs2)) => step_cells sp4 m2 cap4 s w (by have := hm4'h.out; omega) h'h.out (by omega)
          clear hz1'
          have ST'h := Lib.hid ST
          have hS4'h := Lib.hid hS4
          have RL'h := Lib.hid RL
          have hO24'h := Lib.hid hO24
          have hl4'h := Lib.hid hl4
          clear ST hS4 RL hO24 hl4
          go_upto_region 26 with (first | (refine wpList_load_row rfl _ _ rfl w.heap.size rfl 33 _ (0, 0) _ hO24'h.out.at0 Try.underlying33 rfl infoSg ?_) | (go_at_call 26; refine (ST'h.out _ hS4'h.out).mono ?_; rintro e w25 ⟨rfl, hb25⟩) | (refine wpList_store_row rfl _ _ _ rfl w25.heap.size (sgA zeroS) rfl rfl 33 _ (World.alloc_heap_new _ _) infoSg rfl (sgA_one _) ?_))
          obtain ⟨hs25, hc25⟩ := stored_s zeroS w25
          have hb25' := below_next hb25 hc25
          generalize hW : (w25.alloc (.cells #[.int .i64 0, .int .i64 0, .int .u64 0, .int .u64 0, .int .u64 0, .int .i64 0, .int .u64 0, .int .u8 0, .int .u64 0, .bool false] 33)).setRow w25.heap.size (sgA zeroS) = W25 at hs25 hb25' ⊢
          clear hW hc25 hb25
          have hs25'h := Lib.hid hs25
          have hb25''h := Lib.hid hb25'
          clear hs25 hb25'
          go_upto_region 27 with (refine wpList_store_row rfl _ _ _ rfl W25.heap.size (sgA zeroS) rfl rfl 33 _ (World.alloc_heap_new _ _) infoSg rfl (sgA_one _) ?_)
          obtain ⟨hs26, hc26⟩ := stored_s zeroS W25
          generalize hW : (W25.alloc (.cells #[.int .i64 0, .int .i64 0, .int .u64 0, .int .u64 0, .int .u64 0, .int .i64 0, .int .u64 0, .int .u8 0, .int .u64 0, .bool false] 33)).setRow W25.heap.size (sgA zeroS) = W26 at hs26 hc26 ⊢
          clear hW
          have hr26 := heap_below hc26 hs25'h.out (lt_of_heap hs25'h.out)
          have hlt26 := lt_of_heap hs25'h.out
          have hS26 := hS4'h.out.below (below_next hb25''h.out hc26)
          have hO26 := hO24'h.out.next (below_next hb25''h.out hc26)
          have hs26'h := Lib.hid hs26
          have hc26'h := Lib.hid hc26
          have hr26'h := Lib.hid hr26
          have hS26'h := Lib.hid hS26
          have hO26'h := Lib.hid hO26
          clear hs26 hc26 hr26 hS26 hO26
          go_upto_region 35 with (first | (go_at_call 15; refine (RL'h.out _).mono ?_; rintro e w27 ⟨rfl, hw27⟩; obtain rfl := hw27.symm))
          have f1 := hr26'h.out
          have f2 := hs26'h.out
          have fO := hO26'h.out
          have fS := hS26'h.out
          have hq := fun w => eql_sg zeroS w
          have f1'h := Lib.hid f1
          have f2'h := Lib.hid f2
          have fO'h := Lib.hid fO
          have fS'h := Lib.hid fS
          clear f1 f2 fO fS
          go_wp2_with (first | (refine wpList_load_row rfl _ _ rfl w25.heap.size rfl 33 _ (0, 0) _ f1'h.out Try.underlying33 rfl infoSg ?_) | (refine wpList_load_row rfl _ _ rfl W25.heap.size rfl 33 _ (0, 0) _ f2'h.out Try.underlying33 rfl infoSg ?_) | (go_at_call 8; refine (O'h.out _ (hS2'h.out.below fO'h.out.old)).mono ?_; rintro e w30 ⟨sp5, cap5, rfl, hb30, hrow5⟩; have hS5 := Sl.of_row hrow5 (by have := hm4'h.out; unfold maxLen; omega); have hS5'h := Lib.hid hS5; clear hS5 hrow5) | (go_at_call 18; refine (same64 _ _ _ _ _ _ _ (fS'h.out.below hb30) hS5'h.out).mono ?_; rintro e w31 ⟨rfl, d, rfl⟩))
          go_ret
          exact ⟨rfl, (fO'h.out.next hb30).old.trans (below_drewN' _ _)⟩
end Go.Proofs.Ytoklgjlmjkhmbaa
