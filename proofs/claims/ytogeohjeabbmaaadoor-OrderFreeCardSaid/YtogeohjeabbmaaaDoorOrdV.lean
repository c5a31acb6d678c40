/-
  Layer 27 (order): does the layer do anything?
-/
import Derived.Test.YtogeohjeabbmaaaDoorZg
import Derived.BigQuiet
set_option linter.unusedSimpArgs false
set_option linter.unusedVariables false
set_option maxRecDepth 100000
namespace Go.Proofs.YtogeohjeabbmaaaDoor
open Go.RowKit

/-! ### slices.Equal at []int, of one kind of numbers -/
theorem equalI_any (sp sp' : Option Addr) (n n' cap cap' : Nat) (l l' : List Int) (w : World) (h : Sl w sp n (l.map (Value.int .i64))) (h' : Sl w sp' n' (l'.map (Value.int .i64))) :
    Calls Tryd.prog 24 #[.slice sp n cap, .slice sp' n' cap'] w fun e w' => e = .returned (.bool (l == l')) ∧ ∃ d, w' = w.drewN d := by
  have hlen : n = l.length := by have := h.1; simpa using this
  have hlen' : n' = l'.length := by have := h'.1; simpa using this
  have hmax := h.2.1
  unfold maxLen at hmax
  by_cases hnn : n = n'
  · subst hnn
    have hne : ((n : Int) != (n : Int)) = false := by simp
    have hlen'h := Lib.hid hlen
    have hlen''h := Lib.hid hlen'
    have h'h := Lib.hid h
    have h''h := Lib.hid h'
    clear hlen hlen' h h'
    go_enter Tryd.func24, Tryd.ntmps24
    go_wp2
    go_loopg [13] n (fun q i wr => ∃ k : Nat, k + q = n ∧ i = .int .i64 k ∧ (∀ j, j < k → nthZ l j = nthZ l' j) ∧ ∃ d, wr = w.drewN d)
    case atStart => exact ⟨0, by omega, rfl, fun j hj => by omega, 0, rfl⟩
    case round =>
      obtain ⟨k, hk, rfl, hall, d, rfl⟩ := hrel
      have hkn : k ≤ n := by omega
      have hk'h := Lib.hid hk
      have hall'h := Lib.hid hall
      clear hk hall
      by_cases hlt : k < n
      · obtain ⟨b, off, rfl, hc1⟩ := h'h.out.some' (by omega)
        obtain ⟨b', off', rfl, hc2⟩ := h''h.out.some' (by omega)
        have hkl : k < l.length := by have := hlen'h.out; omega
        have hkl' : k < l'.length := by have := hlen''h.out; omega
        have c1 := hc1 k _ (i64s_at hkl)
        have c2 := hc2 k _ (i64s_at hkl')
        have c1' : ∀ q, (w.drewN q).cell? ⟨b, off + k, none⟩ = some (.int .i64 (nthZ l k)) := fun q => c1
        have c2' : ∀ q, (w.drewN q).cell? ⟨b', off' + k, none⟩ = some (.int .i64 (nthZ l' k)) := fun q => c2
        have i1 : (k : Int) < (n : Int) := by omega
        have i2 : (0 : Int) ≤ (k : Int) := by omega
        clear hc1 hc2
        by_cases he : nthZ l k = nthZ l' k
        · have hx : (nthZ l k != nthZ l' k) = false := by simp [he]
          have he'h := Lib.hid he
          clear he
          go_wp2_with fail
          go_quiet (fail)
          go_wp2
          go_roundg (gk - 1)
          case measure => have := hk'h.out; omega
          case rel =>
            refine ⟨k + 1, by have := hk'h.out; omega, by go_num, fun j hj => ?_, d + nq, rfl⟩
            by_cases e : j = k
            · rw [e]; exact he'h.out
            · exact hall'h.out j (by omega)
        · have hx : (nthZ l k != nthZ l' k) = true := by simp [he]
          have hf : (l == l') = false := by
            rw [beq_eq_false_iff_ne]; intro e; exact he (by rw [e])
          have he'h := Lib.hid he
          have hf'h := Lib.hid hf
          clear he hf
          go_wp2_with fail
          go_quiet (fail)
          go_wp2
          go_ret
          exact ⟨ret_bool hf'h.out.symm, d + nq, by first | rfl | exact World.drewN_drewN ..⟩
      · have hn : ¬ (k : Int) < (n : Int) := by omega
        have ht : (l == l') = true := by
          rw [beq_iff_eq]
          refine List.ext_getElem (by have := hlen'h.out; have := hlen''h.out; omega) fun j h1 h2 => ?_
          rw [nthZ_eq h1, nthZ_eq h2]
          exact hall'h.out j (by have := hlen'h.out; omega)
        have ht'h := Lib.hid ht
        clear ht
        go_wp2
        go_ret
        exact ⟨ret_bool ht'h.out.symm, d, rfl⟩
  · have hne : ((n : Int) != (n' : Int)) = true := by simp; omega
    have hf : (l == l') = false := by
      rw [beq_eq_false_iff_ne]; intro e; subst e; omega
    have hlen'h := Lib.hid hlen
    have hlen''h := Lib.hid hlen'
    have h'h := Lib.hid h
    have h''h := Lib.hid h'
    have hnn'h := Lib.hid hnn
    have hf'h := Lib.hid hf
    clear hlen hlen' h h' hnn hf
    go_enter Tryd.func24, Tryd.ntmps24
    go_wp2
    go_ret
    exact ⟨ret_bool hf'h.out.symm, 0, rfl⟩
theorem three_byat {w : World} {e : Ending} {w' : World} (h : ByAtP w (threeL 9) e w') : Below w.heap.size w w' ∧ ∃ sp cap, e = .returned (.tuple #[.slice sp 3 cap, .int .i64 0]) ∧ Sl w' sp 3 (ints [2, 0, 1]) ∧ (∀ b, sp.map (·.block) = some b → w.heap.size ≤ b) := by
  obtain ⟨hb, ⟨hc, _⟩ | ⟨_, C, hp, hs, h⟩⟩ := h
  · rw [three_check] at hc; cases hc
  · obtain rfl := three_sorted hp hs
    rcases h with ⟨h0, _⟩ | ⟨_, sp, cap, he, hS, _, hl⟩
    · exact absurd (by rw [three_behind]) h0
    · exact ⟨hb, sp, cap, he, hS, hl⟩
theorem found_search {w : World} {l : List Mm} {r : List Nat} {k m : Nat} {e : Ending} {w' : World} (h : SearchP w l e w') (hc : checkB l = true) (hl : l.length = k) (hm : manyP l k = m) (hm7 : m ≤ 7) (hs : seekL l = some r) :
    Below w.heap.size w w' ∧ ∃ sp cap, e = .returned (.tuple #[.slice sp r.length cap, .int .i64 0]) ∧ Sl w' sp r.length (ints r) ∧ (∀ b, sp.map (·.block) = some b → w.heap.size ≤ b) := by
  obtain ⟨hb, ⟨hc', _⟩ | ⟨_, h7, _⟩ | ⟨_, _, ⟨hn, _⟩ | ⟨r', sp, cap, hr, he, hS, _, hlo⟩⟩⟩ := h
  · rw [hc] at hc'; cases hc'
  · rw [hl, hm] at h7; omega
  · rw [hs] at hn; cases hn
  · rw [hs] at hr
    obtain rfl : r = r' := by injection hr
    exact ⟨hb, sp, cap, he, hS, hlo⟩
theorem none_search {w : World} {l : List Mm} {k m : Nat} {e : Ending} {w' : World} (h : SearchP w l e w') (hc : checkB l = true) (hl : l.length = k) (hm : manyP l k = m) (hm7 : m ≤ 7) (hs : seekL l = none) :
    Below w.heap.size w w' ∧ e = .returned (.tuple #[.slice none 0 0, .int .i64 4]) := by
  obtain ⟨hb, ⟨hc', _⟩ | ⟨_, h7, _⟩ | ⟨_, _, ⟨hn, he⟩ | ⟨r', sp, cap, hr, _⟩⟩⟩ := h
  · rw [hc] at hc'; cases hc'
  · rw [hl, hm] at h7; omega
  · exact ⟨hb, he⟩
  · rw [hs] at hr; cases hr
theorem made_search {w : World} {l : List Mm} {e : Ending} {w' : World} (h : SearchP w l e w') (hc : checkB l = false) : Below w.heap.size w w' ∧ e = .returned (.tuple #[.slice none 0 0, .int .i64 370]) := by
  obtain ⟨hb, ⟨_, he⟩ | ⟨hc', _⟩ | ⟨hc', _⟩⟩ := h
  · exact ⟨hb, he⟩
  · rw [hc] at hc'; cases hc'
  · rw [hc] at hc'; cases hc'
theorem equal_at (sp sp' : Option Addr) (n n' cap cap' : Nat) (l l' : List Nat) (w : World) (h : Sl w sp n (ints l)) (h' : Sl w sp' n' (ints l')) :
    Calls Tryd.prog 24 #[.slice sp n cap, .slice sp' n' cap'] w fun e w' => e = .returned (.bool (intsZ l == intsZ l')) ∧ ∃ d, w' = w.drewN d := by
  rw [ints_Z] at h h'
  exact equalI_any sp sp' n n' cap cap' _ _ w h h'
theorem Sl.new3 (W : World) (l : List Nat) (h : (ints l).length ≤ maxLen) : Sl (W.alloc (.cells (ints l).toArray 3)) (some ⟨W.heap.size, 0, none⟩) l.length (ints l) := by
  have := (SlK.of_blk (k := 1) (n := l.length) (World.alloc_heap_new W (.cells (ints l).toArray 3)) (by simp [ints]) (by rwa [ints_length] at h)).sl
  simpa using this
/-- The second of the three, as it lies. -/
theorem mid_cells {w : World} {b : Nat} (h : w.heap[b]? = some (.cells (mms (threeL 0)).toArray 39 (0, 0))) :
    w.cell? ⟨b, 13, none⟩ = some (.int .i64 1) ∧ w.cell? ⟨b, 14, none⟩ = some (.int .i64 1) ∧ w.cell? ⟨b, 15, none⟩ = some (.int .u64 5) ∧ w.cell? ⟨b, 16, none⟩ = some (.int .u64 0) ∧ w.cell? ⟨b, 17, none⟩ = some (.int .u64 0) ∧ w.cell? ⟨b, 18, none⟩ = some (.int .i64 0) ∧ w.cell? ⟨b, 19, none⟩ = some (.int .u64 50) ∧
    w.cell? ⟨b, 20, none⟩ = some (.bool true) ∧ w.cell? ⟨b, 21, none⟩ = some (.slice none 0 0) ∧ w.cell? ⟨b, 22, none⟩ = some (.int .i64 2) ∧ w.cell? ⟨b, 23, none⟩ = some (.int .i64 6) ∧ w.cell? ⟨b, 24, none⟩ = some (.int .i64 8) ∧ w.cell? ⟨b, 25, none⟩ = some (.slice none 0 0) :=
  ⟨blk_cell (i := 13) h rfl, blk_cell (i := 14) h rfl, blk_cell (i := 15) h rfl, blk_cell (i := 16) h rfl, blk_cell (i := 17) h rfl, blk_cell (i := 18) h rfl, blk_cell (i := 19) h rfl, blk_cell (i := 20) h rfl, blk_cell (i := 21) h rfl, blk_cell (i := 22) h rfl, blk_cell (i := 23) h rfl, blk_cell (i := 24) h rfl, blk_cell (i := 25) h rfl⟩
theorem two_in {w : World} {b : Nat} (h : w.heap[b]? = some (.cells (mms [mkM thB, mkM thB]).toArray 39 (0, 0))) : MsIn w (some ⟨b, 0, none⟩) 2 [mkM thB, mkM thB] :=
  ⟨by have := SlK.of_blk (k := 13) (n := 2) h rfl (by decide); simpa using this, fun m hm => by
    simp at hm
    subst hm
    exact mkM_in _ _ rfl rfl thB_ok⟩
set_option maxHeartbeats 8000000 in
theorem wakes27_any (w : World) (hT : Tks w) : Calls Tryd.prog 7 #[] w fun e w' => e = .returned (.bool true) ∧ Below w.heap.size w w' := by
  obtain ⟨W1, hW1⟩ : ∃ W1, W1 = w.alloc (.cells (mms (threeL 9)).toArray 39) := ⟨_, rfl⟩
  have TH := three_any w
  rw [← hW1] at TH
  have hB1 : Below w.heap.size w W1 := by rw [hW1]; exact (Below.refl _ _).alloc (Nat.le_refl _) _
  have hb1 : W1.heap[w.heap.size]? = some (.cells (mms (threeL 9)).toArray 39 (0, 0)) := by rw [hW1]; exact World.alloc_heap_new _ _
  have hM1 := three_in 9 (by unfold I64; decide) hb1
  have hlt1 := lt_of_heap hb1
  have BY := byat_any (some ⟨w.heap.size, 0, none⟩) 3 3 (threeL 9) W1 (hT.next hB1) hM1 (by omega) (fun g e => by cases e; exact hlt1)
  clear hW1
  have hT'h := Lib.hid hT
  have TH'h := Lib.hid TH
  have hB1'h := Lib.hid hB1
  have hb1'h := Lib.hid hb1
  have hM1'h := Lib.hid hM1
  have BY'h := Lib.hid BY
  clear hT TH hB1 hb1 hM1 BY
  go_enter Tryd.func7, Tryd.ntmps7
  go_wp2_with fail
  refine TH'h.out.mono ?_
  rintro e w1 ⟨rfl, hw⟩
  obtain rfl := hw.symm
  go_wp2_with fail
  refine BY'h.out.mono ?_
  rintro e w2 hP
  obtain ⟨hb2, sa, ca, rfl, hSa, hLa⟩ := three_byat hP
  have hB2 := below_next hB1'h.out hb2
  have hM2 := hM1'h.out.below hb2
  have SE := search_any (some ⟨w.heap.size, 0, none⟩) 3 3 (threeL 9) w2 (hT'h.out.next hB2) hM2 (by omega)
  have hk2 := heap_below hb2 hb1'h.out hlt1
  have hLa2 : ∀ b, sa.map (·.block) = some b → w.heap.size < b := fun b hb => by have := hLa b hb; omega
  clear hP hb2 hM2 hB1'h hM1'h hb1'h hLa TH'h BY'h
  have hB2'h := Lib.hid hB2
  have hSa'h := Lib.hid hSa
  have hLa2'h := Lib.hid hLa2
  have SE'h := Lib.hid SE
  have hk2'h := Lib.hid hk2
  clear hB2 hSa hLa2 SE hk2
  go_wp2_with fail
  refine SE'h.out.mono ?_
  rintro e w3 hP
  obtain ⟨hb3, ss, cs, rfl, hSs, hLs⟩ := found_search hP three_check rfl three_many (by omega) three_seek
  change Sl w3 ss 3 (ints [2, 0, 1]) at hSs
  have hlt2 := lt_of_heap hk2'h.out
  have hB3 := below_next hB2'h.out hb3
  have hSa3 := hSa'h.out.below hb3
  have hk3 := heap_below hb3 hk2'h.out hlt2
  have hLs2 : ∀ b, ss.map (·.block) = some b → w.heap.size < b := fun b hb => by have := hLs b hb; omega
  clear hP hb3 hLs hB2'h hSa'h hk2'h SE'h hlt1 hlt2
  have hn3 : Sl (w3.alloc (.cells (ints [2, 0, 1]).toArray 3)) (some ⟨w3.heap.size, 0, none⟩) 3 (ints [2, 0, 1]) := Sl.new3 w3 [2, 0, 1] (by decide)
  have hb4 : Below w3.heap.size w3 (w3.alloc (.cells (ints [2, 0, 1]).toArray 3)) := (Below.refl _ _).alloc (Nat.le_refl _) _
  have hB4 := below_next hB3 hb4
  have hk4 := heap_below hb4 hk3 (lt_of_heap hk3)
  have hSa4 := hSa3.below hb4
  have hSs4 := hSs.below hb4
  have BH := behindX_any (some ⟨w.heap.size, 0, none⟩) 3 3 (threeL 9) (some ⟨w3.heap.size, 0, none⟩) 3 3 (intsZ [2, 0, 1]) _ (hT'h.out.next hB4) (three_in 9 (by unfold I64; decide) hk4) (by omega) (by rw [← ints_Z]; exact hn3) (by omega)
  rw [three_behind] at BH
  clear hB3 hk3 hSa3 hSs hn3 hb4
  obtain ⟨W4, hW4⟩ : ∃ W4, W4 = w3.alloc (.cells (ints [2, 0, 1]).toArray 3) := ⟨_, rfl⟩
  rw [← hW4] at hB4 hk4 hSa4 hSs4 BH
  have hB4'h := Lib.hid hB4
  have hk4'h := Lib.hid hk4
  have hSa4'h := Lib.hid hSa4
  have hSs4'h := Lib.hid hSs4
  have hLs2'h := Lib.hid hLs2
  have BH'h := Lib.hid BH
  clear hB4 hk4 hSa4 hSs4 hLs2 BH
  go_wp2_with fail
  change Calls _ _ _ (w3.alloc (.cells (ints [2, 0, 1]).toArray 3)) _
  rw [← hW4]
  clear hW4
  refine BH'h.out.mono ?_
  rintro e w5 ⟨s1, n1, c1, rfl, hb5, hS5, hf5⟩
  obtain rfl : n1 = 1 := by have := hS5.1; rw [prs_length] at this; simp at this; omega
  have hlt4 := lt_of_heap hk4'h.out
  have H5 := ((Hs.nil w5).new #[.slice s1 1 c1] 28)
  have hb5' := below_next hb5 H5.old
  have hB5 := below_next hB4'h.out hb5'
  have hk5 := heap_below hb5' hk4'h.out hlt4
  have hSa5 := hSa4'h.out.below hb5'
  have hSs5 := hSs4'h.out.below hb5'
  have hmb : w.heap.size < w5.heap.size := Nat.lt_of_lt_of_le hlt4 hb5.size
  clear hb5 hb5' hS5 hf5 BH'h hB4'h hk4'h hSa4'h hSs4'h hlt4
  have hm5 : (w5.alloc (.cells #[.slice s1 1 c1] 28)).heap[w5.heap.size]? = some (.cells #[.slice s1 1 c1] 28 (0, 0)) := World.alloc_heap_new _ _
  obtain ⟨W6, hW6⟩ : ∃ W6, W6 = w5.alloc (.cells #[.slice s1 1 c1] 28) := ⟨_, rfl⟩
  rw [← hW6] at hB5 hk5 hSa5 hSs5 hm5
  have SM := search_any (some ⟨w.heap.size, 13, none⟩) 1 2 [mkM thB] W6 (hT'h.out.next hB5) (((three_in 9 (by unfold I64; decide) hk5).take (k := 2) (by omega)).drop (k := 1) (by omega)) (by omega)
  clear H5
  have hB5'h := Lib.hid hB5
  have hk5'h := Lib.hid hk5
  have hSa5'h := Lib.hid hSa5
  have hSs5'h := Lib.hid hSs5
  have hm5'h := Lib.hid hm5
  have hmb'h := Lib.hid hmb
  have SM'h := Lib.hid SM
  clear hB5 hk5 hSa5 hSs5 hm5 hmb SM
  go_wp2_with fail
  change Calls _ _ _ (w5.alloc (.cells #[.slice s1 1 c1] 28)) _
  rw [← hW6]
  clear hW6
  refine SM'h.out.mono ?_
  rintro e w7 hP
  obtain ⟨hb7, rfl⟩ := none_search hP mid_check rfl mid_many (by omega) mid_seek
  have hlt6 := lt_of_heap hk5'h.out
  have hltm := lt_of_heap hm5'h.out
  have hB7 := below_next hB5'h.out hb7
  have hk7 := heap_below hb7 hk5'h.out hlt6
  have hm7 := heap_below hb7 hm5'h.out hltm
  have hSa7 := hSa5'h.out.below hb7
  have hSs7 := hSs5'h.out.below hb7
  have o1 : w7.cell? ⟨w.heap.size, 11, none⟩ = some (.int .i64 9) := blk_cell (i := 11) hk7 rfl
  have of1 := blk_free 11 hk7
  have hk8 : (w7.setCell ⟨w.heap.size, 11, none⟩ (.int .i64 0)).heap[w.heap.size]? = some (.cells (mms (threeL 0)).toArray 39 (0, 0)) := blk_set (i := 11) (.int .i64 0) hk7
  have hm8 := (Below.heap_setCell w7 ⟨w.heap.size, 11, none⟩ (.int .i64 0) w5.heap.size (by show w5.heap.size ≠ w.heap.size; have := hmb'h.out; omega)).trans hm7
  have hSa8 := (SlK.off (SlK.of_sl hSa7) (lb := w.heap.size) (fun b e => Nat.ne_of_gt (hLa2'h.out b e)) 11 (.int .i64 0)).sl
  have hSs8 := (SlK.off (SlK.of_sl hSs7) (lb := w.heap.size) (fun b e => Nat.ne_of_gt (hLs2'h.out b e)) 11 (.int .i64 0)).sl
  have hB8 : Below w.heap.size w (w7.setCell ⟨w.heap.size, 11, none⟩ (.int .i64 0)) := hB7.setCell (Nat.le_refl _) _
  clear hP hb7 hlt6 hltm hB7 hk7 hm7 hSa7 hSs7 hB5'h hk5'h hm5'h hSa5'h hSs5'h hmb'h SM'h hLa2'h hLs2'h
  have hk8'h := Lib.hid hk8
  have hm8'h := Lib.hid hm8
  have hSa8'h := Lib.hid hSa8
  have hSs8'h := Lib.hid hSs8
  have hB8'h := Lib.hid hB8
  clear hk8 hm8 hSa8 hSs8 hB8
  go_upto_region 7 with fail
  clear o1 of1
  generalize World.setCell _ _ _ = W8 at hk8'h hm8'h hSa8'h hSs8'h hB8'h ⊢
  have ST := search_any (some ⟨w.heap.size, 0, none⟩) 2 3 [mkM (thA 0), mkM thB] W8 (hT'h.out.next hB8'h.out) ((three_in 0 (by unfold I64; decide) hk8'h.out).take (k := 2) (by omega)) (by omega)
  have ST'h := Lib.hid ST
  clear ST
  go_wp2_with fail
  refine ST'h.out.mono ?_
  rintro e w9 hP
  obtain ⟨hb9, so, co, rfl, hSo9, -⟩ := found_search hP two_check rfl two_many (by omega) two_seek
  change Sl w9 so 2 (ints [0, 1]) at hSo9
  have hB9 := below_next hB8'h.out hb9
  have hk9 := heap_below hb9 hk8'h.out (lt_of_heap hk8'h.out)
  have hm9 := heap_below hb9 hm8'h.out (lt_of_heap hm8'h.out)
  have hSa9 := hSa8'h.out.below hb9
  have hSs9 := hSs8'h.out.below hb9
  clear hP hb9 ST'h hB8'h hk8'h hm8'h hSa8'h hSs8'h
  have hB9'h := Lib.hid hB9
  have hk9'h := Lib.hid hk9
  have hm9'h := Lib.hid hm9
  have hSa9'h := Lib.hid hSa9
  have hSs9'h := Lib.hid hSs9
  have hSo9'h := Lib.hid hSo9
  clear hB9 hk9 hm9 hSa9 hSs9 hSo9
  go_upto_region 8 with fail
  have hk := hk9'h.out
  clear hk9'h
  refine wp_region_heldF (fun w' => Below w9.heap.size w9 w') 99 (by kernel_rfl) ?_
  have R := (Below.refl w9.heap.size w9).drew
  generalize w9.drew = V0 at R ⊢
  refine wpAnyF_take (i := 0) (v := .slice (some ⟨w.heap.size, 0, none⟩) 3 3) rfl (by kernel_rfl) (by kernel_rfl) (by kernel_rfl) (by kernel_rfl) (fun _ _ _ h => h) (Or.inl ⟨by kernel_rfl, fun w hSw => by (try dsimp only at hSw); go_simp⟩) R ?_; try simp only [Act.put, List.getElem_toArray, List.getElem_cons_succ, List.getElem_cons_zero, List.setIfInBounds_toArray, List.set_cons_zero, List.set_cons_succ]
  refine wpAnyF_take (i := 1) (v := .pointer (some ⟨w.heap.size, 13, none⟩)) rfl (by kernel_rfl) (by kernel_rfl) (by kernel_rfl) (by kernel_rfl) (fun _ _ _ h => h) (Or.inl ⟨by kernel_rfl, fun w hSw => by (try dsimp only at hSw); go_simp⟩) R ?_; try simp only [Act.put, List.getElem_toArray, List.getElem_cons_succ, List.getElem_cons_zero, List.setIfInBounds_toArray, List.set_cons_zero, List.set_cons_succ]
  refine wpAnyF_take (i := 2) (v := .agg #[.int .i64 1, .int .i64 1, .int .u64 5, .int .u64 0, .int .u64 0, .int .i64 0, .int .u64 50, .bool true, .slice none 0 0, .int .i64 2, .int .i64 6, .int .i64 8, .slice none 0 0]) rfl (by kernel_rfl) (by kernel_rfl) (by kernel_rfl) (by kernel_rfl) (fun _ _ _ h => h) (Or.inl ⟨by kernel_rfl, fun w hSw => by have hcc := mid_cells (heap_below hSw hk (lt_of_heap hk)); (try dsimp only at hSw); go_simp⟩) R ?_; try simp only [Act.put, List.getElem_toArray, List.getElem_cons_succ, List.getElem_cons_zero, List.setIfInBounds_toArray, List.set_cons_zero, List.set_cons_succ]
  refine wpAnyF_take (i := 3) (v := .slice (some ⟨w.heap.size, 0, none⟩) 3 3) rfl (by kernel_rfl) (by kernel_rfl) (by kernel_rfl) (by kernel_rfl) (fun _ _ _ h => h) (Or.inl ⟨by kernel_rfl, fun w hSw => by (try dsimp only at hSw); go_simp⟩) R ?_; try simp only [Act.put, List.getElem_toArray, List.getElem_cons_succ, List.getElem_cons_zero, List.setIfInBounds_toArray, List.set_cons_zero, List.set_cons_succ]
  refine wpAnyF_take (i := 4) (v := .pointer (some ⟨w.heap.size, 13, none⟩)) rfl (by kernel_rfl) (by kernel_rfl) (by kernel_rfl) (by kernel_rfl) (fun _ _ _ h => h) (Or.inl ⟨by kernel_rfl, fun w hSw => by (try dsimp only at hSw); go_simp⟩) R ?_; try simp only [Act.put, List.getElem_toArray, List.getElem_cons_succ, List.getElem_cons_zero, List.setIfInBounds_toArray, List.set_cons_zero, List.set_cons_succ]
  refine wpAnyF_take (i := 5) (v := .agg #[.int .i64 1, .int .i64 1, .int .u64 5, .int .u64 0, .int .u64 0, .int .i64 0, .int .u64 50, .bool true, .slice none 0 0, .int .i64 2, .int .i64 6, .int .i64 8, .slice none 0 0]) rfl (by kernel_rfl) (by kernel_rfl) (by kernel_rfl) (by kernel_rfl) (fun _ _ _ h => h) (Or.inl ⟨by kernel_rfl, fun w hSw => by have hcc := mid_cells (heap_below hSw hk (lt_of_heap hk)); (try dsimp only at hSw); go_simp⟩) R ?_; try simp only [Act.put, List.getElem_toArray, List.getElem_cons_succ, List.getElem_cons_zero, List.setIfInBounds_toArray, List.set_cons_zero, List.set_cons_succ]
  refine wpAnyF_one (i := 6) (by kernel_rfl) rfl (fun K hK => ?_); go_simp
  have R1 := below_next R ((Below.refl V0.heap.size V0).alloc (Nat.le_refl _) (.cells (mms [mkM thB, mkM thB]).toArray 39))
  have hT1 := two_in (World.alloc_heap_new V0 (.cells (mms [mkM thB, mkM thB]).toArray 39))
  refine hK.out _ _ (fun _ => R1) ?_; clear hK K; try simp only [Act.put, List.getElem_toArray, List.getElem_cons_succ, List.getElem_cons_zero, List.setIfInBounds_toArray, List.set_cons_zero, List.set_cons_succ]
  refine wpAnyF_one (i := 7) (by kernel_rfl) rfl (fun K hK => ?_); go_simp
  refine (search_any (some ⟨V0.heap.size, 0, none⟩) 2 2 [mkM thB, mkM thB] (V0.alloc (.cells (mms [mkM thB, mkM thB]).toArray 39)) (hT'h.out.next (below_next hB9'h.out R1)) hT1 (by omega)).mono ?_
  rintro e V2 hP
  obtain ⟨hb, rfl⟩ := made_search hP same_check
  have R2 := below_next R1 hb
  clear hP hb hT1
  dsimp only
  refine hK.out _ _ (fun _ => R2) ?_; clear hK K; try simp only [Act.put, List.getElem_toArray, List.getElem_cons_succ, List.getElem_cons_zero, List.setIfInBounds_toArray, List.set_cons_zero, List.set_cons_succ]
  refine wpAnyF_take (i := 8) (v := .tuple #[.slice none 0 0, .int .i64 370]) rfl (by kernel_rfl) (by kernel_rfl) (by kernel_rfl) (by kernel_rfl) (fun _ _ _ h => h) (Or.inl ⟨by kernel_rfl, fun w hSw => by (try dsimp only at hSw); go_simp⟩) R2 ?_; try simp only [Act.put, List.getElem_toArray, List.getElem_cons_succ, List.getElem_cons_zero, List.setIfInBounds_toArray, List.set_cons_zero, List.set_cons_succ]
  refine wpAnyF_take (i := 9) (v := .slice none 0 0) rfl (by kernel_rfl) (by kernel_rfl) (by kernel_rfl) (by kernel_rfl) (fun _ _ _ h => h) (Or.inl ⟨by kernel_rfl, fun w hSw => by (try dsimp only at hSw); go_simp⟩) R2 ?_; try simp only [Act.put, List.getElem_toArray, List.getElem_cons_succ, List.getElem_cons_zero, List.setIfInBounds_toArray, List.set_cons_zero, List.set_cons_succ]
  refine wpAnyF_take (i := 10) (v := .int .i64 370) rfl (by kernel_rfl) (by kernel_rfl) (by kernel_rfl) (by kernel_rfl) (fun _ _ _ h => h) (Or.inl ⟨by kernel_rfl, fun w hSw => by (try dsimp only at hSw); go_simp⟩) R2 ?_; try simp only [Act.put, List.getElem_toArray, List.getElem_cons_succ, List.getElem_cons_zero, List.setIfInBounds_toArray, List.set_cons_zero, List.set_cons_succ]
  refine wpAnyF_take (i := 11) (v := .slice none 0 0) rfl (by kernel_rfl) (by kernel_rfl) (by kernel_rfl) (by kernel_rfl) (fun _ _ _ h => h) (Or.inl ⟨by kernel_rfl, fun w hSw => by (try dsimp only at hSw); go_simp⟩) R2 ?_; try simp only [Act.put, List.getElem_toArray, List.getElem_cons_succ, List.getElem_cons_zero, List.setIfInBounds_toArray, List.set_cons_zero, List.set_cons_succ]
  refine wpAnyF_take (i := 12) (v := .int .i64 370) rfl (by kernel_rfl) (by kernel_rfl) (by kernel_rfl) (by kernel_rfl) (fun _ _ _ h => h) (Or.inl ⟨by kernel_rfl, fun w hSw => by (try dsimp only at hSw); go_simp⟩) R2 ?_; try simp only [Act.put, List.getElem_toArray, List.getElem_cons_succ, List.getElem_cons_zero, List.setIfInBounds_toArray, List.set_cons_zero, List.set_cons_succ]
  refine wpAnyF_done (by kernel_rfl) ?_ _
  have hB10 := below_next hB9'h.out R2
  have hm10 := heap_below R2 hm9'h.out (lt_of_heap hm9'h.out)
  have hSa10 := hSa9'h.out.below R2
  have hSs10 := hSs9'h.out.below R2
  have hSo10 := hSo9'h.out.below R2
  clear R R1 R2 hk hB9'h hm9'h hSa9'h hSs9'h hSo9'h
  have hba : Below V2.heap.size V2 (V2.alloc (.cells (ints [2, 0, 1]).toArray 3)) := (Below.refl _ _).alloc (Nat.le_refl _) _
  have E1 := equal_at sa (some ⟨V2.heap.size, 0, none⟩) 3 3 ca 3 [2, 0, 1] [2, 0, 1] _ (hSa10.below hba) (Sl.new3 V2 [2, 0, 1] (by decide))
  rw [beq_self_eq_true] at E1
  have hB11 := below_next hB10 hba
  have hm11 := heap_below hba hm10 (lt_of_heap hm10)
  have hSa11 := hSa10.below hba
  have hSs11 := hSs10.below hba
  have hSo11 := hSo10.below hba
  clear hB10 hm10 hSa10 hSs10 hSo10 hba
  have hB11'h := Lib.hid hB11
  have hm11'h := Lib.hid hm11
  have hSa11'h := Lib.hid hSa11
  have hSs11'h := Lib.hid hSs11
  have hSo11'h := Lib.hid hSo11
  have E1'h := Lib.hid E1
  clear hB11 hm11 hSa11 hSs11 hSo11 E1
  go_wp2_with fail
  change Calls _ _ _ (V2.alloc (.cells (ints [2, 0, 1]).toArray 3)) _
  generalize V2.alloc _ = V3 at hB11'h hm11'h hSa11'h hSs11'h hSo11'h E1'h ⊢
  refine E1'h.out.mono ?_
  rintro e V4 ⟨rfl, d4, hV4⟩
  have hb4 : Below V3.heap.size V3 V4 := by rw [hV4]; exact below_drewN' _ _
  have hB4 := below_next hB11'h.out hb4
  have hm4 := heap_below hb4 hm11'h.out (lt_of_heap hm11'h.out)
  have hSa4 := hSa11'h.out.below hb4
  have hSs4 := hSs11'h.out.below hb4
  have hSo4 := hSo11'h.out.below hb4
  have E2 := equal_at ss sa 3 3 cs ca [2, 0, 1] [2, 0, 1] V4 hSs4 hSa4
  rw [beq_self_eq_true] at E2
  clear hV4 hb4 hB11'h hm11'h hSa11'h hSs11'h hSo11'h E1'h hSa4 hSs4
  have hB4'h := Lib.hid hB4
  have hm4'h := Lib.hid hm4
  have hSo4'h := Lib.hid hSo4
  have E2'h := Lib.hid E2
  clear hB4 hm4 hSo4 E2
  go_wp2_with fail
  refine E2'h.out.mono ?_
  rintro e V5 ⟨rfl, d5, hV5⟩
  have hb5 : Below V4.heap.size V4 V5 := by rw [hV5]; exact below_drewN' _ _
  have hb6 := below_next hb5 ((Below.refl V5.heap.size V5).alloc (Nat.le_refl _) (.cells (ints [0, 1]).toArray 3))
  have hB6 := below_next hB4'h.out hb6
  have hm6 := heap_below hb6 hm4'h.out (lt_of_heap hm4'h.out)
  have E3 := equal_at so (some ⟨V5.heap.size, 0, none⟩) 2 2 co 2 [0, 1] [0, 1] _ (hSo4'h.out.below hb6) (Sl.new3 V5 [0, 1] (by decide))
  rw [beq_self_eq_true] at E3
  clear hV5 hb5 hb6 hB4'h hm4'h hSo4'h E2'h
  have hB6'h := Lib.hid hB6
  have hm6'h := Lib.hid hm6
  have E3'h := Lib.hid E3
  clear hB6 hm6 E3
  go_wp2_with fail
  change Calls _ _ _ (V5.alloc (.cells (ints [0, 1]).toArray 3)) _
  generalize V5.alloc _ = V6 at hB6'h hm6'h E3'h ⊢
  refine E3'h.out.mono ?_
  rintro e V7 ⟨rfl, d7, hV7⟩
  have hb7 : Below V6.heap.size V6 V7 := by rw [hV7]; exact below_drewN' _ _
  have hB7 := below_next hB6'h.out hb7
  have q7 : V7.cell? ⟨w5.heap.size, 0, none⟩ = some (.slice s1 1 c1) := blk_cell (i := 0) (heap_below hb7 hm6'h.out (lt_of_heap hm6'h.out)) rfl
  have TH := three_any V7
  clear hV7 hb7 hB6'h hm6'h E3'h
  have hB7'h := Lib.hid hB7
  have TH'h := Lib.hid TH
  clear hB7 TH
  go_wp2_with fail
  refine TH'h.out.mono ?_
  rintro e V8 ⟨rfl, hV8⟩
  have hb8 : Below V7.heap.size V7 V8 := by rw [hV8]; exact (Below.refl _ _).alloc (Nat.le_refl _) _
  have hk8 : V8.heap[V7.heap.size]? = some (.cells (mms (threeL 9)).toArray 39 (0, 0)) := by rw [hV8]; exact World.alloc_heap_new _ _
  have hB8 := below_next hB7'h.out hb8
  have FR := free_any (some ⟨V7.heap.size, 0, none⟩) 3 3 (threeL 9) V8 (hT'h.out.next hB8) (three_in 9 (by unfold I64; decide) hk8) (by omega)
  rw [three_free] at FR
  clear hV8 hb8 hk8 hB7'h TH'h q7
  have hB8'h := Lib.hid hB8
  have FR'h := Lib.hid FR
  clear hB8 FR
  go_wp2_with fail
  refine FR'h.out.mono ?_
  rintro e V9 ⟨s9, c9, rfl, hb9, -⟩
  have hB9 := below_next hB8'h.out hb9
  have TH := three_any V9
  clear hb9 hB8'h FR'h
  have hB9'h := Lib.hid hB9
  have TH'h := Lib.hid TH
  clear hB9 TH
  go_wp2_with fail
  refine TH'h.out.mono ?_
  rintro e Va ⟨rfl, hVa⟩
  have hba : Below V9.heap.size V9 Va := by rw [hVa]; exact (Below.refl _ _).alloc (Nat.le_refl _) _
  have hka : Va.heap[V9.heap.size]? = some (.cells (mms (threeL 9)).toArray 39 (0, 0)) := by rw [hVa]; exact World.alloc_heap_new _ _
  have hbb : Below Va.heap.size Va (Va.alloc (.cells (ints [0, 1, 2]).toArray 3)) := (Below.refl _ _).alloc (Nat.le_refl _) _
  have hBb := below_next (below_next hB9'h.out hba) hbb
  have BR := bears_any (some ⟨V9.heap.size, 0, none⟩) 3 3 (threeL 9) (some ⟨Va.heap.size, 0, none⟩) 3 3 (intsZ [0, 1, 2]) _ (hT'h.out.next hBb) (three_in 9 (by unfold I64; decide) (heap_below hbb hka (lt_of_heap hka))) (by omega) (by rw [← ints_Z]; exact Sl.new3 Va [0, 1, 2] (by decide)) (by omega)
  rw [three_not] at BR
  clear hVa hba hka hbb hB9'h TH'h
  have hBb'h := Lib.hid hBb
  have BR'h := Lib.hid BR
  clear hBb BR
  go_wp2_with fail
  change Calls _ _ _ (Va.alloc (.cells (ints [0, 1, 2]).toArray 3)) _
  generalize Va.alloc _ = Vb at hBb'h BR'h ⊢
  refine BR'h.out.mono ?_
  rintro e Vc ⟨rfl, hbc⟩
  have hBc := below_next hBb'h.out hbc
  clear hbc hBb'h BR'h
  have hBc'h := Lib.hid hBc
  clear hBc
  go_wp2
  go_ret
  exact ⟨rfl, hBc'h.out⟩
end Go.Proofs.YtogeohjeabbmaaaDoor
