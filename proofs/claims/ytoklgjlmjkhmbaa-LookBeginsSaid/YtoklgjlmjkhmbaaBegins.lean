/-
  LookBegins: the walk.
-/
import Derived.Test.YtoklgjlmjkhmbaaPi
import Derived.StillTailTactics
set_option linter.unusedSimpArgs false
set_option linter.unusedVariables false
set_option maxRecDepth 100000
namespace Go.Proofs.Ytoklgjlmjkhmbaa
open Go.RowKit

theorem two_ofB {W : World} {b : Nat} {u v : Value} {t : TypeId} (h : W.heap[b]? = some (.cells #[u, v] t (0, 0))) : W.cell? ⟨b, 0, none⟩ = some u ∧ W.cell? ⟨b, 1, none⟩ = some v :=
  ⟨blk_cell h rfl, blk_cell h rfl⟩
/-- What a block holds, the first m of its cells read as ys. -/
structure CurIs (cur : Array Value) (cap m : Nat) (ys : List Nat) : Prop where
  size : cur.size = cap
  take : cur.toList.take m = u64s ys
  len : ys.length = m
  le : m ≤ cap
  lim : m ≤ maxLen
  w64 : W64 ys
theorem CurIs.at_ {cur : Array Value} {cap m : Nat} {ys : List Nat} (h : CurIs cur cap m ys) {i : Nat} (hi : i < m) : cur[i]? = some (.int .u64 (nthN ys i)) := by
  have := u64s_at (keys := ys) (j := i) (by rw [h.len]; exact hi)
  rw [← h.take, List.getElem?_take, if_pos hi] at this
  simpa using this
theorem CurIs.sl {cur : Array Value} {cap m : Nat} {ys : List Nat} (h : CurIs cur cap m ys) {W : World} {g : Nat} {t : TypeId} (hg : W.heap[g]? = some (.cells cur t (0, 0))) : Sl W (some ⟨g, 0, none⟩) m (u64s ys) :=
  ⟨by rw [u64s_length, h.len], h.lim, .inr ⟨g, 0, rfl, fun j u hu => by
    rw [Nat.zero_add]
    have hj : j < m := by have := (List.getElem?_eq_some_iff.1 hu).1; rwa [u64s_length, h.len] at this
    rw [u64s_at (by rw [h.len]; exact hj)] at hu
    injection hu with hu
    exact blk_cell hg (by rw [h.at_ hj, hu])⟩⟩
theorem CurIs.set {cur : Array Value} {cap m : Nat} {ys : List Nat} (h : CurIs cur cap m ys) {i : Nat} (hi : i < m) {v : Nat} (hv : v < 2 ^ 64) : CurIs (cur.setIfInBounds i (.int .u64 v)) cap m (ys.set i v) := by
  refine ⟨by simp [h.size], ?_, by simp [h.len], h.le, h.lim, fun y hy => ?_⟩
  · rw [Array.toList_setIfInBounds, List.take_set, h.take]
    unfold u64s
    rw [List.map_set]
  · rcases List.mem_or_eq_of_mem_set hy with hy | hy
    · exact h.w64 y hy
    · rw [hy]; exact hv
theorem BegI.le {k0 k1 first last loads : Nat} {s : Sg} (i : BegI k0 k1 first last loads s) : loads ≤ 21 := by
  cases i <;> omega
structure BegR (w : World) (b4 g3 b8 k0 k1 cap m n f l : Nat) (s : Sg) (cur : Array Value) (ys : List Nat) (W : World) : Prop where
  inv : BegI k0 k1 f l n s
  ok : SgOk s
  right : SgRight s
  slab : s.slab = 0
  own : Hs w [(b8, sgA s, 33), (g3, cur, 29), (b4, #[.int .u64 (k0 : Int), .int .u64 (k1 : Int)], 30)] W
  cur : CurIs cur cap m ys
  f64 : f < 2 ^ 64
  l64 : l < 2 ^ 64
theorem take_slab0 (s : Sg) (x : Nat) (h : s.slab = 0) : (takeS s x).slab = 0 := by rw [take_slab, h]
set_option maxHeartbeats 4000000 in
theorem begins_few (sp1 : Option Addr) (n1 cap1 : Nat) (xs : List Nat) (k0 k1 : Nat) (sp2 : Option Addr) (n2 cap2 : Nat) (w : World)
    (hS1 : Sl w sp1 n1 (u64s xs)) (hc1 : sp1 = none → cap1 = 0) (hnc1 : n1 ≤ cap1) (hn1 : n1 ≤ 9223372036854775807) (hf : n1 < 56) :
    Calls Try.prog 5 #[.slice sp1 n1 cap1, .agg #[.int .u64 k0, .int .u64 k1], .slice sp2 n2 cap2] w fun e w' => e = .returned (.bool true) ∧ Below w.heap.size w w' := by
  have O := fun w h => own_any sp1 n1 cap1 n1 xs w h hc1 hnc1 (by omega) hn1
  have H0 := (Hs.nil w).new #[.int .u64 (k0 : Int), .int .u64 (k1 : Int)] 30
  have hS1'h := Lib.hid hS1
  have hc1'h := Lib.hid hc1
  have hnc1'h := Lib.hid hnc1
  have O'h := Lib.hid O
  have H0'h := Lib.hid H0
  clear hS1 hc1 hnc1 O H0
  go_enter Try.func5, Try.ntmps5
  go_wp2_with (first | (go_at_call 7; refine (wakes18_any _).mono ?_; rintro e w2 ⟨rfl, hb2⟩) | (go_at_call 8; refine (O'h.out _ (hS1'h.out.below (H0'h.out.next hb2).old)).mono ?_; rintro e w3 ⟨sp3, cap3, rfl, hb3, hrow3⟩))
  go_ret
  exact ⟨rfl, ((H0'h.out.next hb2).next hb3).old⟩
set_option maxHeartbeats 8000000 in
theorem begins_many (sp1 : Option Addr) (n1 cap1 : Nat) (xs : List Nat) (k0 k1 : Nat) (sp2 : Option Addr) (n2 cap2 : Nat) (ch : List (Nat × Nat)) (w : World) (x64 : W64 xs) (p64 : P64 ch) (hk0 : k0 < 2 ^ 64) (hk1 : k1 < 2 ^ 64)
    (hS1 : Sl w sp1 n1 (u64s xs)) (hS2 : SlK w 2 sp2 n2 (prs ch)) (hc1 : sp1 = none → cap1 = 0) (hnc1 : n1 ≤ cap1) (hn1 : n1 ≤ 9223372036854775807) (hn2 : n2 ≤ 9223372036854775807) (hf : ¬ n1 < 56) :
    Calls Try.prog 5 #[.slice sp1 n1 cap1, .agg #[.int .u64 k0, .int .u64 k1], .slice sp2 n2 cap2] w fun e w' => e = .returned (.bool true) ∧ Below w.heap.size w w' := by
  obtain ⟨m1, hm1⟩ : ∃ m1, m1 = min n1 140 := ⟨_, rfl⟩
  have O := fun w h => own_any sp1 n1 cap1 m1 xs w h hc1 hnc1 hm1 hn1
  have hm : 56 ≤ m1 ∧ m1 ≤ 140 := by omega
  have q1 : 56 ≤ m1 := hm.1
  have H0 := (Hs.nil w).new #[.int .u64 (k0 : Int), .int .u64 (k1 : Int)] 30
  obtain ⟨a0, a1⟩ := two_ofB H0.rows.1
  have hkn : n2 = ch.length := by have := hS2.1; rw [prs_length] at this; omega
  have BG := fun w => begin_yes 0 k0 k1 w ⟨by decide, by decide⟩
  clear hf hm1
  have x64'h := Lib.hid x64
  have p64'h := Lib.hid p64
  have hk0'h := Lib.hid hk0
  have hk1'h := Lib.hid hk1
  have hS1'h := Lib.hid hS1
  have hS2'h := Lib.hid hS2
  have hc1'h := Lib.hid hc1
  have hnc1'h := Lib.hid hnc1
  have hn1'h := Lib.hid hn1
  have O'h := Lib.hid O
  have H0'h := Lib.hid H0
  have hm'h := Lib.hid hm
  have hkn'h := Lib.hid hkn
  have BG'h := Lib.hid BG
  clear x64 p64 hk0 hk1 hS1 hS2 hc1 hnc1 hn1 O H0 hm hkn BG
  go_enter Try.func5, Try.ntmps5
  go_upto_region 6 with (first | (go_at_call 7; refine (wakes18_any _).mono ?_; rintro e w2 ⟨rfl, hb2⟩) | (go_at_call 8; refine (O'h.out _ (hS1'h.out.below (H0'h.out.next hb2).old)).mono ?_; rintro e w3 ⟨sp3, cap3, rfl, hb3, hrow3⟩; have hrow3'h := Lib.hid hrow3; clear hrow3))
  obtain ⟨g3, cp, cur0, hv3, hg3, hh3, hle3, hcap3, hsz3, ht3⟩ : ∃ g cap cur, Value.slice sp3 m1 cap3 = .slice (some ⟨g, 0, none⟩) m1 cap ∧ w2.heap.size ≤ g ∧ w3.heap[g]? = some (.cells cur 29 (0, 0)) ∧ m1 ≤ cap ∧ cap ≤ maxLen ∧ cur.size = cap * 1 ∧ cur.toList.take (m1 * 1) = u64s (xs.take m1) := by
    rcases hrow3'h.out.2 with ⟨_, h0⟩ | h
    · omega
    · exact h
  injection hv3 with hv3a _ hv3b
  subst hv3a hv3b
  have hcur0 : CurIs cur0 cap3 m1 (xs.take m1) := ⟨by simpa using hsz3, by simpa using ht3, by have := hrow3'h.out.1; rw [u64s_length] at this; omega, hle3, by have := hm'h.out; unfold maxLen; omega, fun y hy => x64'h.out y (List.mem_of_mem_take hy)⟩
  have H3 := (H0'h.out.next hb2).more hb3 hh3 hg3
  clear hb2 hb3 hh3 hg3 hle3 hcap3 hsz3 ht3 a0 a1
  obtain ⟨a0, a1⟩ := two_ofB H3.rows.2.1
  have H3'h := Lib.hid H3
  have hcur0'h := Lib.hid hcur0
  clear H3 hcur0
  go_upto_region 7 with (first | (go_at_call 12; refine (BG'h.out _).mono ?_; rintro e w6 ⟨rfl, hb⟩) | (refine wpList_store_row rfl _ _ _ rfl w6.heap.size (sgA (beginS 0 k0 k1)) rfl rfl 33 _ (World.alloc_heap_new _ _) infoSg rfl (sgA_one _) ?_))
  clear a0 a1
  obtain ⟨hs, hc⟩ := stored_s (beginS 0 k0 k1) w6
  have H6 := H3'h.out.more (below_next hb hc) hs hb.size
  generalize World.setRow _ _ _ = W6 at H6 ⊢
  clear hs hc hb
  have hI0 : BegR w w.heap.size g3 w6.heap.size k0 k1 cap3 m1 0 0 0 (beginS 0 k0 k1) cur0 (xs.take m1) W6 :=
    ⟨.new rfl rfl rfl, ⟨by simp [beginS], by simp [beginS], hk0'h.out, hk1'h.out, by simp [beginS], by simp [beginS], by simp [beginS], by simp [beginS], by simp [beginS]⟩, ⟨by simp [beginS], by simp [beginS], by simp [beginS], by simp [beginS], by simp [beginS]⟩, rfl, H6, hcur0'h.out, by decide, by decide⟩
  clear H6
  generalize w6.heap.size = b8 at *
  have hI0'h := Lib.hid hI0
  clear hI0
  go_wp2
  go_loopg [10, 11, 12, 36] 40 (fun q a b c i wr => ∃ (n f l : Nat) (s : Sg) (cur : Array Value) (ys : List Nat), n + q = 40 ∧ i = .int .i64 n ∧ c = .int .i64 n ∧ a = .int .u64 f ∧ b = .int .u64 l ∧ BegR w w.heap.size g3 b8 k0 k1 cap3 m1 n f l s cur ys wr)
  case atStart => exact ⟨0, 0, 0, _, _, _, by omega, rfl, rfl, rfl, rfl, hI0'h.out⟩
  case round =>
    obtain ⟨n, f, l, s, cur, ys, hq, rfl, rfl, rfl, rfl, hR⟩ := hrel
    have hle := hR.inv.le
    have hmod := tmod_two f
    by_cases hh : hasS s = true
    rotate_left
    · replace hh : hasS s = false := by simpa using hh
      have ND := fun w => need_over s w hR.ok hR.right hh
      have hE := hR.inv.fin hh
      have hR'h := Lib.hid hR
      have ND'h := Lib.hid ND
      have hh'h := Lib.hid hh
      have hE'h := Lib.hid hE
      have hq'h := Lib.hid hq
      clear hR ND hh hE hq
      go_upto_region 28 with (first | (refine wpList_load_row rfl _ _ rfl (b8) rfl 33 _ (0, 0) _ (hR'h.out.own.rows.1) Try.underlying33 rfl infoSg ?_) | (go_at_call 22; refine (ND'h.out _).mono ?_; rintro e w13 ⟨rfl, hb⟩))
      have hH := hR'h.out.own.next hb
      clear hb
      obtain ⟨e1, e2⟩ := hE'h.out
      have hc := SgC.of hH.rows.1
      have hB := hH.old
      by_cases hp : f % 2 = 1
      · obtain ⟨p6, n1'⟩ := e1 hp
        obtain rfl : n = 1 := n1'
        have hm2 : (((f % 2 : Nat) : Int) == 1) = true := by rw [hp]; rfl
        have c0 := hc.1
        rw [p6] at c0
        clear e1 e2 hc p6 hp hH
        have hB'h := Lib.hid hB
        clear hB
        go_wp2
        go_ret
        exact ⟨rfl, hB'h.out⟩
      · obtain ⟨p4, nle, p56⟩ := e2 (by omega)
        have hm2 : (((f % 2 : Nat) : Int) == 1) = false := by simp; omega
        have c0 := hc.1
        have c4 := hc.2.2.2.2.1
        rw [p4] at c4
        have nle' : (n : Int) ≤ 21 := by omega
        rcases p56 with ⟨p5, hfl⟩ | ⟨p6, hfl⟩
        · rw [p5] at c0
          obtain rfl : f = l := hfl
          have ee := ne_self f
          clear e1 e2 hc p5 hp hH p4
          have hB'h := Lib.hid hB
          clear hB
          go_wp2
          go_ret
          exact ⟨rfl, hB'h.out⟩
        · rw [p6] at c0
          have f1 : ((f : Int) == (l : Int)) = false := by simp; omega
          have f2 : ((f : Int) != (l : Int)) = true := by simp; omega
          clear e1 e2 hc p6 hp hH p4 hfl
          have hB'h := Lib.hid hB
          clear hB
          go_wp2
          go_ret
          exact ⟨rfl, hB'h.out⟩
    · have h4 := hR.inv.few hR.right hh
      have ND := fun w => need_yes' s w hR.ok hR.right hh
      have hwl := wordS_lt hR.ok
      have hcl : cellS s = 16 + wordS s := by unfold cellS; rw [hR.slab]; simp
      obtain ⟨c, hc⟩ : ∃ c, c = cellS s := ⟨_, rfl⟩
      rw [← hc] at ND hcl
      have hc1' : (16 : Int) ≤ (c : Int) := by omega
      have hc2' : (c : Int) < 56 := by omega
      have hc3' : (c : Int) < (m1 : Int) := by omega
      have hc4' : ¬ (c : Int) < 16 := by omega
      have hc5' : ¬ (56 : Int) ≤ (c : Int) := by omega
      have hcm : c < m1 := by omega
      have hyc : nthN ys c < 2 ^ 64 := hR.cur.w64 _ (nthN_mem (by rw [hR.cur.len]; exact hcm))
      have ST := fun w h => step_yes (some ⟨g3, 0, none⟩) m1 cap3 s w (by have := hm'h.out; omega) hR.ok ys hR.cur.w64 h ⟨by omega, by have := hm'h.out; omega⟩ hR.right hh (by rw [← hc]; exact hcm)
      rw [← hc] at ST
      obtain ⟨x, hx⟩ : ∃ x, x = nthN ys c := ⟨_, rfl⟩
      rw [← hx] at ST hyc
      have hI := hR.inv.step hR.ok hR.right hh x
      have hok' := takeS_ok (w := x) hR.ok hR.right hyc
      have hr' := takeS_right (w := x) hR.right
      have hsl' := take_slab0 s x hR.slab
      obtain ⟨s', hs'⟩ : ∃ s', s' = takeS s x := ⟨_, rfl⟩
      obtain ⟨f', hf'⟩ : ∃ f', f' = if n = 0 then x else f := ⟨_, rfl⟩
      rw [← hf'] at hI
      have hf64 : f' < 2 ^ 64 := by rw [hf']; split; exact hyc; exact hR.f64
      rw [← hs'] at ST hI hok' hr' hsl'
      have CLN := fun w h => clone64_any (some ⟨g3, 0, none⟩) m1 cap3 (u64s ys) w (by have := hm'h.out; omega) (oneCell_u64s _) (fun h => (by cases h)) h
      have hn20 : (n : Int) ≤ 20 := by omega
      clear hwl hcl hs'
      have hR'h := Lib.hid hR
      have ND'h := Lib.hid ND
      have hh'h := Lib.hid hh
      have hq'h := Lib.hid hq
      have ST'h := Lib.hid ST
      have hx'h := Lib.hid hx
      have hyc'h := Lib.hid hyc
      have hI'h := Lib.hid hI
      have hok''h := Lib.hid hok'
      have hr''h := Lib.hid hr'
      have hsl''h := Lib.hid hsl'
      have CLN'h := Lib.hid CLN
      have hc'h := Lib.hid hc
      have h4'h := Lib.hid h4
      have hf''h := Lib.hid hf'
      have hf64'h := Lib.hid hf64
      clear hR ND hh hq ST hx hyc hI hok' hr' hsl' CLN hc h4 hf' hf64
      go_upto_region 17 with (first | (refine wpList_load_row rfl _ _ rfl (b8) rfl 33 _ (0, 0) _ (hR'h.out.own.rows.1) Try.underlying33 rfl infoSg ?_) | (go_at_call 22; refine (ND'h.out _).mono ?_; rintro e w13 ⟨rfl, hb⟩))
      have H13 := hR'h.out.own.next hb
      have cx := blk_cell H13.rows.2.1 (hR'h.out.cur.at_ hcm)
      rw [← hx'h.out] at cx
      clear hb
      have H13'h := Lib.hid H13
      clear H13
      go_upto_if 57 with (fail)
      clear cx
      go_cut [10, 36] from 36 to 97 (fun a i wr => a = .int .u64 f' ∧ i = .int .i64 n ∧ wr = w13)
      case first =>
        by_cases h0 : n = 0
        · have t0 : ((n : Int) == 0) = true := by simp [h0]
          have e0 : f' = x := by rw [hf''h.out, if_pos h0]
          have e0'h := Lib.hid e0
          have h0'h := Lib.hid h0
          clear e0 h0
          go_wp2
          go_meet
          exact ⟨by rw [e0'h.out], rfl, rfl⟩
        · have t0 : ((n : Int) == 0) = false := by simp; omega
          have e0 : f' = f := by rw [hf''h.out, if_neg h0]
          have e0'h := Lib.hid e0
          have h0'h := Lib.hid h0
          clear e0 h0
          go_wp2
          go_meet
          exact ⟨by rw [e0'h.out], rfl, rfl⟩
      case rest =>
        obtain ⟨rfl, rfl, rfl⟩ := hcut
        have hS13 := hR'h.out.cur.sl H13'h.out.rows.2.1
        have hS13'h := Lib.hid hS13
        clear hS13
        go_upto_region 22 with (first | (refine wpList_load_row rfl _ _ rfl (b8) rfl 33 _ (0, 0) _ (H20.rows.1) Try.underlying33 rfl infoSg ?_) | (go_at_call 27; refine (CLN'h.out _ hS13'h.out).mono ?_; rintro e w20 ⟨sp5, cap5, rfl, hb20, hrow5⟩; have H20 := H13'h.out.next hb20) | (go_at_call 26; refine (ST'h.out _ (hS13'h.out.below hb20)).mono ?_; rintro e w21 ⟨rfl, hb21⟩) | (refine wpList_store_row rfl _ _ _ rfl w21.heap.size (sgA s') rfl rfl 33 _ (World.alloc_heap_new _ _) infoSg rfl (sgA_one _) ?_))
        obtain ⟨hs, hc⟩ := stored_s s' w21
        have H21 := H20.more (below_next hb21 hc) hs hb21.size
        have hS5 := (Sl.of_row hrow5 (by have := hm'h.out; unfold maxLen; omega)).below (below_next hb21 hc)
        generalize World.setRow _ _ _ = W21 at H21 hS5 ⊢
        clear hs hc hb20 hb21 H20 hrow5
        have hS21 := hR'h.out.cur.sl H21.rows.2.2.1
        have H21'h := Lib.hid H21
        have hS5'h := Lib.hid hS5
        have hS21'h := Lib.hid hS21
        clear H21 hS5 hS21
        go_upto_region 24 with (go_at_call 18; refine (same64 _ _ _ _ _ _ _ hS21'h.out hS5'h.out).mono ?_; rintro e w22 ⟨rfl, d, rfl⟩)
        have H22 := H21'h.out.drewN d
        have ew : IntKind.i64.wrap ((n : Int) + 1) = (n : Int) + 1 := IntWalk.i64_in _ (by omega)
        have H22'h := Lib.hid H22
        have ew'h := Lib.hid ew
        clear H22 ew
        go_upto_region 25 with (first | (refine wpList_load_row rfl _ _ rfl (w21.heap.size) rfl 33 _ (0, 0) _ (H22'h.out.rows.1) Try.underlying33 rfl infoSg ?_) | (refine wpList_store_row rfl _ _ _ rfl (b8) (sgA s') rfl rfl 33 _ (H22'h.out.rows.2.1) infoSg rfl (sgA_one _) ?_))
        have H24 := (H22'h.out.set 1 rfl (sgA s')).tail
        generalize World.setRow _ _ _ = W24 at H24 ⊢
        have H24'h := Lib.hid H24
        clear H24
        by_cases hch : n < n2
        · have hp := p64'h.out _ (nthP_mem (l := ch) (k := n) (by have := hkn'h.out; omega))
          have hS2w := hS2'h.out.below H24'h.out.old
          obtain ⟨gb, off, hsp, hcs⟩ := hS2w.some' (by omega)
          have hpa := prs_at (ks := ch) (k := n) (by have := hkn'h.out; omega)
          have x0 := hcs _ _ hpa.1
          have x1 := hcs _ _ hpa.2
          rw [← Nat.add_assoc] at x1
          subst hsp
          generalize (nthP ch n).1 = p0 at *
          generalize (nthP ch n).2 = p1 at *
          have m40 : (p0 : Int).tmod 40 = ((p0 % 40 : Nat) : Int) := by rw [Int.tmod_eq_emod_of_nonneg (by omega)]; omega
          obtain ⟨r, hr0⟩ : ∃ r, r = p0 % 40 := ⟨_, rfl⟩
          rw [← hr0] at m40
          have hr40 : r < 40 := by omega
          have y1 := IntWalk.i64_in (r : Int) (by omega)
          have y2 := IntWalk.i64_in (16 + (r : Int)) (by omega)
          have y3 : ((16 : Int) + (r : Int)).toNat = 16 + r := by omega
          have y4 : (16 : Int) + (r : Int) < (m1 : Int) := by omega
          have y5 : (0 : Int) ≤ (16 : Int) + (r : Int) := by omega
          have hrm : 16 + r < m1 := by omega
          have x2 := blk_cell (i := 16 + r) H24'h.out.rows.2.1 (hR'h.out.cur.at_ hrm)
          have x3 := blk_free (16 + r) H24'h.out.rows.2.1
          have hchi : (n : Int) < (n2 : Int) := by omega
          clear hcs hpa hr0
          have hp'h := Lib.hid hp
          have hr40'h := Lib.hid hr40
          have hrm'h := Lib.hid hrm
          have hS2w'h := Lib.hid hS2w
          clear hp hr40 hrm hS2w
          go_upto_region 26 with fail
          go_still_tail 15, (by kernel_rfl)
          change wpList _ _ _ _ _ W24.drew
          go_wp2
          have H26 := H24'h.out.drew.put 1 rfl (16 + r) (.int .u64 (p1 : Int))
          clear x0 x1 x2 x3 y1 y2 y3 y4 y5 m40
          have H26'h := Lib.hid H26
          clear H26
          go_roundg (gk - 1)
          case measure => have := hq'h.out; omega
          case rel => exact ⟨n + 1, f', x, s', _, _, by have := hq'h.out; omega, by go_num, by go_num, rfl, rfl, ⟨hI'h.out, hok''h.out, hr''h.out, hsl''h.out, H26'h.out, hR'h.out.cur.set hrm'h.out hp'h.out.2, hf64'h.out, hyc'h.out⟩⟩
        · have hchi : ¬ (n : Int) < (n2 : Int) := by omega
          go_wp2
          go_roundg (gk - 1)
          case measure => have := hq'h.out; omega
          case rel => exact ⟨n + 1, f', x, s', _, _, by have := hq'h.out; omega, by go_num, by go_num, rfl, rfl, ⟨hI'h.out, hok''h.out, hr''h.out, hsl''h.out, H24'h.out, hR'h.out.cur, hf64'h.out, hyc'h.out⟩⟩
theorem walk_LookBegins (sp1 : Option Addr) (n1 cap1 : Nat) (z1 : List Int) (k0 k1 : Int) (sp2 : Option Addr) (n2 cap2 : Nat) (ks : List (Nat × Nat)) (w : World)
    (nl1 : sp1 = none → cap1 = 0) (lc1 : n1 ≤ cap1) (sl1 : Sl w sp1 n1 (z1.map (Value.int .u64))) (wf1 : ∀ n ∈ z1, (Lit.int .u64 n).wf = true) (wfa : (Lit.int .u64 k0).wf = true) (wfb : (Lit.int .u64 k1).wf = true)
    (nl2 : sp2 = none → cap2 = 0) (lc2 : n2 ≤ cap2) (sl2 : SlK w 2 sp2 n2 (prs ks)) (wf2 : P64 ks) :
    Calls Try.prog 5 #[.slice sp1 n1 cap1, .agg #[.int .u64 k0, .int .u64 k1], .slice sp2 n2 cap2] w fun e w' => e = .returned (.bool true) ∧ Below w.heap.size w w' := by
  rw [u64s_nats wf1] at sl1
  have w1 := nats_w64 wf1
  have m1 := sl1.2.1
  have m2 := sl2.2.1
  unfold maxLen at m1 m2
  obtain ⟨a, rfl, ha⟩ := nat_of_u64 wfa
  obtain ⟨b, rfl, hb⟩ := nat_of_u64 wfb
  by_cases hf : n1 < 56
  · exact begins_few sp1 n1 cap1 _ a b sp2 n2 cap2 w sl1 nl1 lc1 (by omega) hf
  · exact begins_many sp1 n1 cap1 _ a b sp2 n2 cap2 ks w w1 wf2 ha hb sl1 sl2 nl1 lc1 (by omega) (by omega) hf
end Go.Proofs.Ytoklgjlmjkhmbaa
