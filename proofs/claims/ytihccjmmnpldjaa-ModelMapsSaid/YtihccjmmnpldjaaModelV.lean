/-
  The law's own small functions of layer 24; rows of answers, compared.
-/
import Derived.Test.YtihccjmmnpldjaaModelU
import Derived.Test.YtihccjmmnpldjaaModelD
set_option linter.unusedSimpArgs false
set_option linter.unusedVariables false
set_option maxRecDepth 100000
namespace Go.Proofs.Ytihccjmmnpldjaa
open Go.RowKit

theorem thirty_any (w : World) : Calls Try.prog 23 #[] w fun e w' => ∃ b, e = .returned (.agg #[.slice (some ⟨b, 0, none⟩) 1 1]) ∧ Below w.heap.size w w' ∧ SlK w' 2 (some ⟨b, 0, none⟩) 1 (prs [(3, 30)]) := by
  go_enter Try.func23, Try.ntmps23
  go_wp2
  have H := (Hs.nil w).new2 #[.slice (some ⟨w.heap.size + 1, 0, none⟩) 1 1] #[.int .u64 3, .int .u64 30] 24 39
  generalize hW : (w.alloc _).alloc _ = W at H ⊢
  have e0 : W.cell? ⟨w.heap.size, 0, none⟩ = some (.slice (some ⟨w.heap.size + 1, 0, none⟩) 1 1) := blk_cell (i := 0) H.rows.2.1 rfl
  refine bodyPost_ret (v := .agg #[.slice (some ⟨w.heap.size + 1, 0, none⟩) 1 1]) ?_ rfl ⟨_, rfl, H.old, SlK.of_blk H.rows.1 rfl (by decide)⟩
  simp [results, Try.results23, go_sem, e0]
def RowLike (sp : Option Addr) (m : Nat) (ps : Ps) (w : World) (e : Ending) (w' : World) : Prop :=
  ∃ sp' cap', e = .returned (.agg #[.slice sp' m cap']) ∧ Below w.heap.size w w' ∧ SlK w' 2 sp' m (prs ps)
theorem own_any (sp : Option Addr) (n cap : Nat) (ps : Ps) (w : World) (h : SlK w 2 sp n (prs ps)) (hc : sp = none → cap = 0) (hn : n ≤ cap) :
    Calls Try.prog 8 #[.agg #[.slice sp n cap]] w (RowLike sp (min n 40) (ps.take 40) w) := by
  have hmax := h.2.1
  unfold maxLen at hmax
  have H0 := (Hs.nil w).new2 #[.slice sp n cap] #[.slice none 0 0] 24 24
  obtain ⟨W0, hW0⟩ : ∃ W0, W0 = (w.alloc (.cells #[.slice sp n cap] 24)).alloc (.cells #[.slice none 0 0] 24) := ⟨_, rfl⟩
  rw [← hW0] at H0
  have hs := h.below H0.old
  obtain ⟨m, hm⟩ : ∃ m, m = min n 40 := ⟨_, rfl⟩
  have hmv : (if (40 : Int) < (n : Int) then (40 : Int) else (n : Int)) = (m : Int) := by split <;> omega
  have hsl : SlK W0 2 sp m (prs (ps.take 40)) := by
    have h1 := hs.take m (by omega)
    rw [prs_take] at h1
    have hl := prs_len h
    have : ps.take m = ps.take 40 := by
      by_cases hx : n ≤ 40
      · rw [List.take_of_length_le (by omega), List.take_of_length_le (by omega)]
      · rw [show m = 40 by omega]
    rwa [this] at h1
  rw [← hm]
  have hmn : (m : Int) ≤ (cap : Int) := by omega
  have hm0 : (0 : Int) ≤ (m : Int) := by omega
  have C := cloneP_any sp m cap (prs (ps.take 40)) W0 (by omega) (prs_one _) hc hsl
  have x0 : W0.cell? ⟨w.heap.size, 0, none⟩ = some (.slice sp n cap) := blk_cell (i := 0) H0.rows.2.1 rfl
  have x1 : W0.cell? ⟨w.heap.size + 1, 0, none⟩ = some (.slice none 0 0) := blk_cell (i := 0) H0.rows.1 rfl
  have h'h := Lib.hid h
  have H0'h := Lib.hid H0
  have hs'h := Lib.hid hs
  have hm'h := Lib.hid hm
  have hsl'h := Lib.hid hsl
  have C'h := Lib.hid C
  have hW0'h := Lib.hid hW0
  have hc'h := Lib.hid hc
  clear h H0 hs hm hsl C hW0 hc
  go_enter Try.func8, Try.ntmps8
  go_upto_region 1 with fail
  rw [← hW0'h.out]
  go_wp2_with (go_at_call 16; refine C'h.out.mono ?_)
  rintro e w2 ⟨sp', cap', rfl, hb2, hrow⟩
  have H2 := H0'h.out.next hb2
  have y1 : w2.cell? ⟨w.heap.size + 1, 0, none⟩ = some (.slice none 0 0) := blk_cell (i := 0) H2.rows.1 rfl
  have f1 := blk_free 0 H2.rows.1
  have H3 := H2.put 0 rfl 0 (.slice sp' m cap')
  have hr3 := SlK.of_row hrow (by unfold maxLen; omega)
  have hne : sp'.map (·.block) ≠ some (w.heap.size + 1) := fun e => by
    have h1 := (hrow.lt _ (own_slice e)).1
    have h2 := H0'h.out.lt _ (List.mem_cons_self ..)
    simp only at h2
    omega
  have hS3 : SlK (w2.setCell ⟨w.heap.size + 1, 0, none⟩ (.slice sp' m cap')) 2 sp' m (prs (ps.take 40)) := hr3.keep fun b o _ e ho => (Below.heap_setCell w2 ⟨w.heap.size + 1, 0, none⟩ (.slice sp' m cap') b (fun e2 => hne (e.trans (congrArg some e2)))).trans ho
  have H2'h := Lib.hid H2
  have H3'h := Lib.hid H3
  have hr3'h := Lib.hid hr3
  have hS3'h := Lib.hid hS3
  have hb2'h := Lib.hid hb2
  have hrow'h := Lib.hid hrow
  have hne'h := Lib.hid hne
  clear H2 H3 hr3 hS3 hb2 hrow hne
  go_wp2
  have H3 := H3'h.out
  have hS3 := hS3'h.out
  clear H3'h hS3'h
  generalize World.setCell _ _ _ = W3 at H3 hS3 ⊢
  have e0 : W3.cell? ⟨w.heap.size + 1, 0, none⟩ = some (.slice sp' m cap') := blk_cell (i := 0) H3.rows.1 rfl
  refine bodyPost_ret (v := .agg #[.slice sp' m cap']) ?_ rfl ⟨sp', cap', rfl, H3.old, hS3⟩
  simp [results, Try.results8, go_sem, e0]
set_option maxHeartbeats 1000000 in
theorem equalFn_any (sp sp' : Option Addr) (n n' cap cap' : Nat) (xs ys : List An) (w : World) (h : SlK w 4 sp n (ans xs)) (h' : SlK w 4 sp' n' (ans ys)) :
    Calls Try.prog 25 #[.slice sp n cap, .slice sp' n' cap', .func (.func 19) #[] #[]] w fun e w' => e = .returned (.bool (decide (xs = ys))) ∧ Below w.heap.size w w' := by
  have hlen := slk_len anL_len (by decide) h
  have hlen' := slk_len anL_len (by decide) h'
  have hmax := h.2.1
  unfold maxLen at hmax
  by_cases hnn : n = n'
  · subst hnn
    have hne : ((n : Int) != (n : Int)) = false := by simp
    have hlen'h := Lib.hid hlen
    have hlen''h := Lib.hid hlen'
    have h'h := Lib.hid h
    have h''h := Lib.hid h'
    clear hlen hlen' h h'
    go_enter Try.func25, Try.ntmps25
    go_wp2
    go_loopg [17] n (fun q i wr => ∃ k : Nat, k + q = n ∧ i = .int .i64 k ∧ (∀ j, j < k → xs[j]? = ys[j]?) ∧ Below w.heap.size w wr)
    case atStart => exact ⟨0, by omega, rfl, fun j hj => by omega, Below.refl _ _⟩
    case round =>
      obtain ⟨k, hk, rfl, hall, hbr⟩ := hrel
      have hkn : k ≤ n := by omega
      by_cases hlt : k < n
      · have hSr := h'h.out.below hbr
        obtain ⟨b, off, rfl⟩ := slk_some h'h.out (by omega)
        obtain ⟨b', off', rfl⟩ := slk_some h''h.out (by omega)
        have hkl : k < xs.length := by have := hlen'h.out; omega
        have hkl' : k < ys.length := by have := hlen''h.out; omega
        obtain ⟨x, hx⟩ : ∃ x, xs[k]? = some x := ⟨_, List.getElem?_eq_getElem hkl⟩
        obtain ⟨y, hy⟩ : ∃ y, ys[k]? = some y := ⟨_, List.getElem?_eq_getElem hkl'⟩
        have c0 := slk_cell0 anL_len hSr hx (by decide) rfl
        have c1 := slk_cell anL_len hSr hx (i := 1) (by decide) rfl
        have c2 := slk_cell anL_len hSr hx (i := 2) (by decide) rfl
        have c3 := slk_cell anL_len hSr hx (i := 3) (by decide) rfl
        have i1 : (k : Int) < (n : Int) := by omega
        have i2 : (0 : Int) ≤ (k : Int) := by omega
        obtain ⟨W5, hW5⟩ : ∃ W5, W5 = wr.alloc (.cells (anA x none 0 0) 35) := ⟨_, rfl⟩
        have hz5 : W5.heap.size = wr.heap.size + 1 := by rw [hW5]; simp
        have hS1 : SlK W5 4 (some ⟨b', off', none⟩) n (ans ys) := by rw [hW5]; exact (h''h.out.below hbr).below ((Below.refl _ _).alloc (Nat.le_refl _) _)
        have H6 := (Hs.nil wr).new2 (anA x none 0 0) (anA y none 0 0) 35 35
        obtain ⟨W6, hW6⟩ : ∃ W6, W6 = (wr.alloc (.cells (anA x none 0 0) 35)).alloc (.cells (anA y none 0 0) 35) := ⟨_, rfl⟩
        rw [← hW6] at H6
        have M := malike_any x y none none 0 0 0 0 [] [] W6 (SlK.nil _ _ _) (SlK.nil _ _ _)
        obtain ⟨r, hr⟩ : ∃ r, r = alikeB x y [] [] := ⟨_, rfl⟩
        rw [← hr] at M
        have hk'h := Lib.hid hk
        have hall'h := Lib.hid hall
        have hbr'h := Lib.hid hbr
        have hSr'h := Lib.hid hSr
        have hx'h := Lib.hid hx
        have hy'h := Lib.hid hy
        have H6'h := Lib.hid H6
        have hW6'h := Lib.hid hW6
        have M'h := Lib.hid M
        have hr'h := Lib.hid hr
        have hS1'h := Lib.hid hS1
        have hW5'h := Lib.hid hW5
        have hz5'h := Lib.hid hz5
        clear hk hall hbr hSr hx hy H6 hW6 M hr hS1 hW5 hz5
        go_upto_region 6 with fail
        clear c0 c1 c2 c3
        change Code.wp _ _ _ _ (wr.alloc (.cells (anA x none 0 0) 35))
        rw [← hW5'h.out]
        have c0 := slk_cell0 anL_len hS1'h.out hy'h.out (by decide) rfl
        have c1 := slk_cell anL_len hS1'h.out hy'h.out (i := 1) (by decide) rfl
        have c2 := slk_cell anL_len hS1'h.out hy'h.out (i := 2) (by decide) rfl
        have c3 := slk_cell anL_len hS1'h.out hy'h.out (i := 3) (by decide) rfl
        go_upto_region 7 with fail
        clear c0 c1 c2 c3
        rw [hz5'h.out]
        change Code.wp _ _ _ _ (W5.alloc (.cells (anA y none 0 0) 35))
        rw [show W5.alloc (.cells (anA y none 0 0) 35) = W6 by rw [hW6'h.out, hW5'h.out]]
        have hB6 : Below w.heap.size w W6 := below_next hbr'h.out H6'h.out.old
        by_cases he : x = y
        · have hrt : r = true := by rw [hr'h.out]; unfold alikeB; simp [he]
          subst hrt
          have hl6 := H6'h.out.rows
          have hB6'h := Lib.hid hB6
          have he'h := Lib.hid he
          clear hB6 he
          go_wp2_with (first | (refine wpList_load_row rfl _ _ rfl wr.heap.size rfl 35 _ (0, 0) _ H6'h.out.rows.2.1 Try.underlying35 rfl info_an ?_) | (refine wpList_load_row rfl _ _ rfl (wr.heap.size + 1) rfl 35 _ (0, 0) _ H6'h.out.rows.1 Try.underlying35 rfl info_an ?_) | (go_at_call 19; refine M'h.out.mono ?_; rintro e w7 ⟨rfl, hb7⟩; have hb7'h := Lib.hid hb7; clear hb7))
          go_roundg (gk - 1)
          case measure => have := hk'h.out; omega
          case rel =>
            refine ⟨k + 1, by have := hk'h.out; omega, by go_num, fun j hj => ?_, below_next hB6'h.out hb7'h.out⟩
            by_cases e : j = k
            · rw [e, hx'h.out, hy'h.out, he'h.out]
            · exact hall'h.out j (by omega)
        · have hrf : r = false := by rw [hr'h.out]; unfold alikeB; simp [he]
          subst hrf
          have hf : decide (xs = ys) = false := by
            rw [decide_eq_false_iff_not]
            intro e
            have h1 := hx'h.out
            rw [e, hy'h.out] at h1
            exact he (by simpa using h1.symm)
          have hB6'h := Lib.hid hB6
          have he'h := Lib.hid he
          have hf'h := Lib.hid hf
          clear hB6 he hf
          go_wp2_with (first | (refine wpList_load_row rfl _ _ rfl wr.heap.size rfl 35 _ (0, 0) _ H6'h.out.rows.2.1 Try.underlying35 rfl info_an ?_) | (refine wpList_load_row rfl _ _ rfl (wr.heap.size + 1) rfl 35 _ (0, 0) _ H6'h.out.rows.1 Try.underlying35 rfl info_an ?_) | (go_at_call 19; refine M'h.out.mono ?_; rintro e w7 ⟨rfl, hb7⟩; have hb7'h := Lib.hid hb7; clear hb7))
          go_ret
          exact ⟨ret_bool hf'h.out.symm, below_next hB6'h.out hb7'h.out⟩
      · have hn : ¬ (k : Int) < (n : Int) := by omega
        have ht : decide (xs = ys) = true := by
          rw [decide_eq_true_eq]
          refine List.ext_getElem? fun j => ?_
          by_cases hj : j < k
          · exact hall j hj
          · rw [List.getElem?_eq_none (by have := hlen'h.out; omega), List.getElem?_eq_none (by have := hlen''h.out; omega)]
        have ht'h := Lib.hid ht
        have hbr'h := Lib.hid hbr
        have hall'h := Lib.hid hall
        have hk'h := Lib.hid hk
        clear ht hbr hall hk
        go_wp2
        go_ret
        exact ⟨ret_bool ht'h.out.symm, hbr'h.out⟩
  · have hne : ((n : Int) != (n' : Int)) = true := by simp; omega
    have hf : decide (xs = ys) = false := by
      rw [decide_eq_false_iff_not]; intro e; subst e; omega
    have hlen'h := Lib.hid hlen
    have hlen''h := Lib.hid hlen'
    have h'h := Lib.hid h
    have h''h := Lib.hid h'
    have hnn'h := Lib.hid hnn
    have hf'h := Lib.hid hf
    clear hlen hlen' h h' hnn hf
    go_enter Try.func25, Try.ntmps25
    go_wp2
    go_ret
    exact ⟨ret_bool hf'h.out.symm, Below.refl _ _⟩
end Go.Proofs.Ytihccjmmnpldjaa
