/-
  Layer 3 (script): Keys.
-/
import Derived.Test.YtifofdciablljaaDoorScrN
import Derived.Test.YtifofdciablljaaDoorPx
import Derived.Test.YtifofdciablljaaDoorMaps
set_option linter.unusedSimpArgs false
set_option linter.unusedVariables false
set_option maxRecDepth 100000
namespace Go.Proofs.YtifofdciablljaaDoor
open Go.RowKit

/-- The keys of calls that take words. -/
def keyL (cs : List Cal) : List Nat := (cs.filter fun c => decide (0 < takesI c.op)).map (·.key)
def keysL (cs : List Cal) : List Nat := sorted64 (onceL (keyL cs))
theorem keyL_next {cs : List Cal} {j : Nat} (h : j < cs.length) : keyL (cs.take (j + 1)) = keyL (cs.take j) ++ (if 0 < takesI (nthCal cs j).op then [(nthCal cs j).key] else []) := by
  have e : cs[j] = nthCal cs j := by have := nthCal_at h; rw [List.getElem?_eq_getElem h] at this; injection this
  unfold keyL
  rw [List.take_succ_eq_append_getElem h, List.filter_append, List.map_append, e]
  by_cases ht : 0 < takesI (nthCal cs j).op <;> simp [ht]
theorem keyL_len (cs : List Cal) (j : Nat) : (keyL (cs.take j)).length ≤ j := by
  unfold keyL
  rw [List.length_map]
  refine Nat.le_trans (List.length_filter_le _ _) ?_
  rw [List.length_take]; omega
theorem row_not_map {W : World} {B : Nat} {e : TypeId} {k n : Nat} {v : Value} {xs : List Value} {mb : Nat} {m : List (Nat × Int)} (h : W.ownsRow B e k v n xs) (hm : MapI W mb m) : ∀ g, v.ownBlock = some g → some mb ≠ some g := by
  intro g hg he
  injection he with he
  subst he
  obtain ⟨⟨es, clock, hb, -⟩, -⟩ := hm
  rcases h.2 with ⟨rfl, -⟩ | ⟨b, cap, cur, rfl, -, hh, -⟩
  · cases hg
  · have e1 : b = mb := by injection hg
    rw [e1, hb] at hh
    injection hh with hh
    cases hh
theorem once_le (ks : List Nat) : (onceL ks).length ≤ ks.length := by
  have : ∀ (ks acc : List Nat), (ks.foldl onceStep acc).length ≤ acc.length + ks.length := by
    intro ks
    induction ks with
    | nil => intro acc; simp
    | cons k r ih =>
      intro acc
      rw [List.foldl_cons]
      have := ih (onceStep acc k)
      have h2 : (onceStep acc k).length ≤ acc.length + 1 := by unfold onceStep; split <;> simp
      simp only [List.length_cons]; omega
  have h := this ks []
  unfold onceL
  simpa using h
theorem cnt_put {m : List (Nat × Int)} {ks : List Nat} {key c0 : Nat} (h : ∀ x, mget m x = (ks.count x : Int)) (hc : ks.count key = c0) : ∀ x, mget ((key, (c0 : Int) + 1) :: m) x = ((ks ++ [key]).count x : Int) := by
  intro x
  unfold mget
  rw [List.count_append]
  by_cases e : key = x
  · subst e; rw [if_pos rfl, hc]; simp
  · rw [if_neg e, h x, List.count_singleton, if_neg (by simpa using e)]; simp
theorem cnt_back {m : List (Nat × Int)} {ks : List Nat} {key c0 : Nat} {u : Int} (h : ∀ x, mget m x = (ks.count x : Int)) (hc : ks.count key = c0) : ∀ x, mget ((key, (c0 : Int)) :: (key, u) :: m) x = ((ks ++ []).count x : Int) := by
  intro x
  rw [List.append_nil]
  unfold mget
  by_cases e : key = x
  · subst e; rw [if_pos rfl, hc]
  · rw [if_neg e]; unfold mget; rw [if_neg e, h x]
/-- While the keys are met. -/
structure KeyI (w : World) (mb : Nat) (cv : Value) (n : Nat) (cs : List Cal) (j : Nat) (m : List (Nat × Int)) (v : Value) (wr : World) : Prop where
  below : Below w.heap.size w wr
  map : MapI wr mb m
  cnt : ∀ x, mget m x = ((keyL (cs.take j)).count x : Int)
  mlen : m.length ≤ 2 * j
  row : wr.ownsRow w.heap.size 22 1 v (onceL (keyL (cs.take j))).length (u64s (onceL (keyL (cs.take j))))
  calls : wr.ownsRow w.heap.size 57 4 cv n (cals cs)
  low : w.heap.size ≤ mb
section
variable {w : World} {mb : Nat} {cv : Value} {n : Nat} {cs : List Cal} {j : Nat} {m : List (Nat × Int)} {v : Value} {wr wr' : World}
theorem KeyI.next (h : KeyI w mb cv n cs j m v wr) (hb : Below wr.heap.size wr wr') : KeyI w mb cv n cs j m v wr' :=
  ⟨below_next h.below hb, h.map.heap (hb.block _ h.map.lt), h.cnt, h.mlen, ownsRow_next h.row hb, ownsRow_next h.calls hb, h.low⟩
theorem KeyI.put {m' : List (Nat × Int)} (h : KeyI w mb cv n cs j m v wr) (hM : MapI wr' mb m') (hg : wr.grownBy wr' (some mb)) : Below w.heap.size w wr' ∧
    wr'.ownsRow w.heap.size 22 1 v (onceL (keyL (cs.take j))).length (u64s (onceL (keyL (cs.take j)))) ∧ wr'.ownsRow w.heap.size 57 4 cv n (cals cs) :=
  ⟨h.below.grown hg h.below.size (fun k hk => by injection hk with hk; subst hk; exact h.low), ownsRow_other h.row hg (row_not_map h.row h.map), ownsRow_other h.calls hg (row_not_map h.calls h.map)⟩
/-- A key that was met before. -/
theorem KeyI.old {key c0 : Nat} {t : Int} (h : KeyI w mb cv n cs j m v wr) (hM : MapI wr' mb ((key, (c0 : Int) + 1) :: m)) (hg : wr.grownBy wr' (some mb)) (hc : (keyL (cs.take j)).count key = c0)
    (hs : keyL (cs.take (j + 1)) = keyL (cs.take j) ++ (if 0 < t then [key] else [])) (ht : 0 < t) (h0 : ¬ c0 = 0) : KeyI w mb cv n cs (j + 1) ((key, (c0 : Int) + 1) :: m) v wr' := by
  obtain ⟨h1, h2, h3⟩ := h.put hM hg
  rw [if_pos ht] at hs
  have hin : key ∈ keyL (cs.take j) := by
    refine Decidable.byContradiction fun hn => h0 ?_
    rw [← hc, List.count_eq_zero]; exact hn
  refine ⟨h1, hM, by rw [hs]; exact cnt_put h.cnt hc, by have := h.mlen; simp only [List.length_cons]; omega, by rw [hs, onceL_snoc, if_pos hin]; exact h2, h3, h.low⟩
/-- A call that takes no words. -/
theorem KeyI.none' {key c0 : Nat} {t : Int} {W8 : World} (h : KeyI w mb cv n cs j m v wr) (hM : MapI wr' mb ((key, (c0 : Int) + 1) :: m)) (hg : wr.grownBy wr' (some mb)) (hM8 : MapI W8 mb ((key, (c0 : Int)) :: (key, (c0 : Int) + 1) :: m)) (hg8 : wr'.grownBy W8 (some mb)) (hc : (keyL (cs.take j)).count key = c0)
    (hs : keyL (cs.take (j + 1)) = keyL (cs.take j) ++ (if 0 < t then [key] else [])) (ht : ¬ 0 < t) : KeyI w mb cv n cs (j + 1) ((key, (c0 : Int)) :: (key, (c0 : Int) + 1) :: m) v W8 := by
  obtain ⟨h1, h2, h3⟩ := h.put hM hg
  rw [if_neg ht] at hs
  refine ⟨h1.grown hg8 h1.size (fun k hk => by injection hk with hk; subst hk; exact h.low), hM8, by rw [hs]; exact cnt_back h.cnt hc, by have := h.mlen; simp only [List.length_cons]; omega, ?_, ownsRow_other h3 hg8 (row_not_map h3 hM), h.low⟩
  rw [hs, List.append_nil]
  exact ownsRow_other h2 hg8 (row_not_map h2 hM)
/-- A key that is new, laid behind the others. -/
theorem KeyI.new {key : Nat} {t : Int} {W7 W9 : World} {v' : Value} (h : KeyI w mb cv n cs j m v wr) (hM : MapI wr' mb ((key, 1) :: m)) (hg : wr.grownBy wr' (some mb)) (hc : (keyL (cs.take j)).count key = 0)
    (hs : keyL (cs.take (j + 1)) = keyL (cs.take j) ++ (if 0 < t then [key] else [])) (ht : 0 < t) (hB : Below wr'.heap.size wr' W7) (hg9 : W7.grownBy W9 v.ownBlock)
    (ho : W9.ownsRow w.heap.size 22 1 v' ((onceL (keyL (cs.take j))).length + 1) (u64s (onceL (keyL (cs.take j))) ++ u64s [key])) : KeyI w mb cv n cs (j + 1) ((key, 1) :: m) v' W9 := by
  obtain ⟨h1, h2, h3⟩ := h.put hM hg
  rw [if_pos ht] at hs
  have hn : key ∉ keyL (cs.take j) := List.count_eq_zero.1 hc
  have r7 := ownsRow_next h2 hB
  have c7 := ownsRow_next h3 hB
  have m7 := hM.heap (hB.block _ hM.lt)
  have b7 := below_next h1 hB
  refine ⟨b7.grown hg9 b7.size (fun k hk => (r7.lt k hk).1), m7.heap (hg9.block _ m7.lt (fun e => row_not_map r7 m7 mb e.symm rfl)), by rw [hs]; exact cnt_put h.cnt hc, by have := h.mlen; simp only [List.length_cons]; omega, ?_, ownsRow_other c7 hg9 (ownsRow_apart c7 r7 (by decide)), h.low⟩
  rw [hs, onceL_snoc, if_neg hn, List.length_append]
  simpa [u64s] using ho
end
set_option maxHeartbeats 4000000 in
theorem keys_any (sm : Sm) (w : World) (hT : Tks w) (h : SmIn w sm) :
    Calls Tryd.prog 18 #[.agg (smA sm)] w fun e w' => ∃ sp n c, e = .returned (.slice sp n c) ∧ Below w.heap.size w w' ∧ w'.ownsRow w.heap.size 22 1 (.slice sp n c) n (u64s (keysL sm.scr.lists.flatten)) := by
  have hmm := @run_makeMap Tryd.prog
  have H0 := (Hs.nil w).new (smA sm) 26
  have hB1 : Below w.heap.size w ((w.alloc (.cells (smA sm) 26)).alloc (.map #[] 0)) := H0.old.alloc (by simp) _
  have hM1 := MapI.made (w.alloc (.cells (smA sm) 26))
  simp only [World.size_alloc] at hM1
  have C := concatC_any sm.lp sm.ln sm.lc sm.rows _ ((h.rows).below hB1)
  have hT1 := hT.next hB1
  have hcat := h.cat
  obtain ⟨cs, hcs⟩ : ∃ cs, cs = sm.scr.lists.flatten := ⟨_, rfl⟩
  rw [← hcs] at hcat ⊢
  rw [hcat] at C
  have hok : ∀ c ∈ cs, CalOk c := fun c hc => by
    rw [hcs] at hc
    obtain ⟨l, hl, hcl⟩ := List.mem_flatten.1 hc
    obtain ⟨r, hr, rfl⟩ := List.mem_map.1 (show l ∈ sm.rows.map (·.cs) from hl)
    exact h.rows.ok r hr c hcl
  have hclen : cs.length ≤ 1056 := by
    have h1 := catC_le h.rows.short sm.ln (by rw [h.rows.len]; exact Nat.le_refl _)
    rw [hcat] at h1
    have := h.rows.few
    omega
  obtain ⟨g, sb, seed, lp, ln, lc, rows, pp, pn, pc, picks⟩ := sm
  simp only at C
  unfold smA at *
  simp only at *
  have hwl := hT.lt
  clear H0 hcs hcat h hT
  have hB1'h := Lib.hid hB1
  have hM1'h := Lib.hid hM1
  have hT1'h := Lib.hid hT1
  have C'h := Lib.hid C
  have hok'h := Lib.hid hok
  clear hB1 hM1 hT1 C hok
  go_enter Tryd.func18, Tryd.ntmps18
  go_wp2_with fail
  refine C'h.out.mono ?_
  rintro e w2 ⟨cp, cc, rfl, hB2, hrow2⟩
  obtain ⟨i0, hi, hz, hs, hby⟩ := info_parts info_clone64
  have hK0 : KeyI w (w.heap.size + 1) (.slice cp cs.length cc) cs.length cs 0 [] (.slice none 0 0) w2 :=
    ⟨below_next hB1'h.out hB2, hM1'h.out.heap (hB2.block _ hM1'h.out.lt), fun x => by simp [mget, keyL], by simp, by rw [show onceL (keyL (cs.take 0)) = [] from by simp [keyL, onceL]]; exact ⟨rfl, .inl ⟨rfl, rfl⟩⟩, ownsRow_mono hrow2 hB1'h.out.size, by omega⟩
  have hT2 := hT1'h.out.next hB2
  have hwlt := hwl
  clear hB2 hrow2 C'h hB1'h hM1'h hT1'h hmm
  obtain ⟨mb, hmb⟩ : ∃ mb, mb = w.heap.size + 1 := ⟨_, rfl⟩
  rw [← hmb] at hK0 ⊢
  have hK0'h := Lib.hid hK0
  have hT2'h := Lib.hid hT2
  have hclen'h := Lib.hid hclen
  have hmb'h := Lib.hid hmb
  have hwlt'h := Lib.hid hwlt
  clear hK0 hT2 hclen hmb hwlt
  go_wp2
  go_loopg [4, 12] cs.length (fun q ov ix wr => ∃ (j : Nat) (m : List (Nat × Int)) (v : Value), j + q = cs.length ∧ ix = .int .i64 (j : Int) ∧ ov = v ∧ Tks wr ∧ KeyI w mb (.slice cp cs.length cc) cs.length cs j m v wr)
  case atStart => exact ⟨0, _, _, by omega, rfl, rfl, hT2'h.out, hK0'h.out⟩
  case round =>
    obtain ⟨j, m, v, hj, rfl, rfl, hTr, hK⟩ := hrel
    clear hT2'h hK0'h
    obtain ⟨vs, vc, rfl⟩ := row_slice' hK.row
    by_cases hlt : j < cs.length
    · have i1 : (j : Int) < (cs.length : Int) := by omega
      have i2 : (0 : Int) ≤ (j : Int) := by omega
      have i3 : (j : Int) < 9223372036854775807 := by have := hclen'h.out; omega
      have hS := SlK.of_row hK.calls (by have := hclen'h.out; unfold maxLen; omega)
      obtain ⟨cb, co, hsp⟩ := slk_some hS (by omega)
      have hstep := keyL_next hlt
      rw [hsp] at hS
      obtain ⟨x0, x1, x2, x3⟩ := cals_cells hS hlt
      have hco := hok'h.out _ (List.mem_of_getElem? (nthCal_at hlt))
      obtain ⟨c, hc⟩ : ∃ c, c = nthCal cs j := ⟨_, rfl⟩
      rw [← hc] at x0 x1 x2 x3 hco hstep
      obtain ⟨op, key, a, b⟩ := c
      obtain ⟨ho1, ho2, hk64, -, -⟩ := hco
      simp only at x0 x1 x2 x3 ho1 ho2 hk64 hstep
      obtain ⟨W5, hW5⟩ : ∃ W5, W5 = wr.alloc (.cells #[.int .i64 op, .int .u64 (key : Int), .int .u64 (a : Int), .int .u64 (b : Int)] 57) := ⟨_, rfl⟩
      have hB5 : Below wr.heap.size wr W5 := by rw [hW5]; exact (Below.refl _ _).alloc (Nat.le_refl _) _
      have hb5 : W5.heap[wr.heap.size]? = some (.cells #[.int .i64 op, .int .u64 (key : Int), .int .u64 (a : Int), .int .u64 (b : Int)] 57 (0, 0)) := by rw [hW5]; exact World.alloc_heap_new _ _
      have hK5 := hK.next hB5
      have hT5 := hTr.next hB5
      have hl5 := hK5.map.look key hk64
      have hcnt := hK5.cnt key
      have hcl : (keyL (cs.take j)).count key ≤ 1056 := Nat.le_trans List.count_le_length (by have := keyL_len cs j; have := hclen'h.out; omega)
      have hcm : (keyL (cs.take j)).count key = 0 ↔ key ∉ keyL (cs.take j) := List.count_eq_zero
      generalize hcc : (keyL (cs.take j)).count key = c0 at hcnt hcl hcm
      rw [hcnt] at hl5
      obtain ⟨W6, hput, hM6, hg6⟩ := hK5.map.put key ((c0 : Int) + 1) hk64 (wf_i64 (by omega) (by omega)) (by have := hK5.mlen; have := hclen'h.out; unfold maxLen; omega)
      have hmbl := hK.low
      have hmbr := hK.map.lt
      have hb6 := (hg6.block _ (lt_of_heap hb5) (fun e => by injection e with e; omega)).trans hb5
      have hT6 : Tks W6 := hT5.below (B := mb) ((Below.refl mb W5).grown hg6 (Nat.le_of_lt hK5.map.lt) (fun k hk => by injection hk with hk; omega)) (by have := hmb'h.out; omega)
      have e0 := blk_cell (i := 0) hb6 rfl
      have e1 := blk_cell (i := 1) hb6 rfl
      have hl6 := hM6.look key hk64
      have hmg : mget ((key, (c0 : Int) + 1) :: m) key = (c0 : Int) + 1 := by unfold mget; rw [if_pos rfl]
      rw [hmg] at hl6
      obtain ⟨t, ht⟩ : ∃ t, t = takesI op := ⟨_, rfl⟩
      have htr := takesI_range op
      rw [← ht] at htr hstep
      have K := takes_any op W6 hT6
      rw [← ht] at K
      have hci : (c0 : Int) < 9223372036854775807 := by omega
      have hcz : (0 : Int) ≤ (c0 : Int) := by omega
      rw [hsp]
      clear hc hS hK hTr hmg hB5 hlt hb5 hcnt hmbr
      have hk64'h := Lib.hid hk64
      have ho1'h := Lib.hid ho1
      have ho2'h := Lib.hid ho2
      have hj'h := Lib.hid hj
      have hW5'h := Lib.hid hW5
      have hK5'h := Lib.hid hK5
      have hT5'h := Lib.hid hT5
      have hput'h := Lib.hid hput
      have hM6'h := Lib.hid hM6
      have hg6'h := Lib.hid hg6
      have hb6'h := Lib.hid hb6
      have hT6'h := Lib.hid hT6
      have hcc'h := Lib.hid hcc
      have hcm'h := Lib.hid hcm
      have hcl'h := Lib.hid hcl
      have hstep'h := Lib.hid hstep
      have ht'h := Lib.hid ht
      have K'h := Lib.hid K
      have hsp'h := Lib.hid hsp
      have hl6'h := Lib.hid hl6
      have e0'h := Lib.hid e0
      have e1'h := Lib.hid e1
      clear hk64 ho1 ho2 hj hW5 hK5 hT5 hput hM6 hg6 hb6 hT6 hcc hcm hcl hstep ht K hsp hl6 e0 e1
      have hl5r := hl5
      have hputr := hput'h.out
      rw [hW5'h.out] at hl5r hputr
      have hl6 := hl6'h.out
      have e0 := e0'h.out
      have e1 := e1'h.out
      clear hl5 hput'h hl6'h e0'h e1'h hW5'h
      go_wp2_with fail
      refine K'h.out.mono ?_
      rintro e w7 ⟨rfl, hw7⟩
      obtain rfl := hw7.symm
      by_cases h0 : 0 < t
      · have d1 : decide (0 < t) = true := decide_eq_true h0
        have d2 : decide (t ≤ 0) = false := decide_eq_false (by omega)
        have h0'h := Lib.hid h0
        clear h0
        clear htr
        by_cases hc0 : c0 = 0
        · subst hc0
          have e01 : ((0 : Nat) : Int) + 1 = 1 := rfl
          rw [e01] at hl6 hputr
          obtain ⟨L, hL⟩ : ∃ L, L = onceL (keyL (cs.take j)) := ⟨_, rfl⟩
          have hr5 := hK5'h.out.row
          rw [← hL] at hr5 ⊢
          have hr6 : W6.ownsRow w.heap.size 22 1 (.slice vs L.length vc) L.length (u64s L) := ownsRow_other hr5 hg6'h.out (row_not_map hr5 hK5'h.out.map)
          have hB7 := (Below.refl W6.heap.size W6).alloc (Nat.le_refl _) (.cells #[.int .u64 (key : Int)] 22)
          have hsl : SlK (W6.alloc (.cells #[.int .u64 (key : Int)] 22)) 1 (some ⟨W6.heap.size, 0, none⟩) 1 (u64s [key]) := SlK.of_blk (World.alloc_heap_new _ _) rfl (by unfold maxLen; omega)
          have hr7 := ownsRow_next hr6 hB7
          have hb7 : w.heap.size ≤ (W6.alloc (.cells #[.int .u64 (key : Int)] 22)).heap.size := by have := hK5'h.out.below.size; have := hg6'h.out.size; have := hB7.size; omega
          have hLl : L.length ≤ 2000 := by rw [hL]; exact Nat.le_trans (once_le _) (by have := keyL_len cs j; have := hclen'h.out; omega)
          clear hr5 hr6
          have hL'h := Lib.hid hL
          have hB7'h := Lib.hid hB7
          have hsl'h := Lib.hid hsl
          have hr7'h := Lib.hid hr7
          have hb7'h := Lib.hid hb7
          have hLl'h := Lib.hid hLl
          clear hL hB7 hsl hr7 hb7 hLl
          go_wp2_with (at_builtin; refine wpList_append_slk _ rfl (.tmp 32) (.tmp 35) 24 rfl w.heap.size 22 i0 (.int .u64 0) 1 8 Tryd.underlying24 hi hz hs hby rfl (by decide) (.slice vs L.length vc) L.length (u64s L) rfl hr7'h.out _ 1 1 (u64s [key]) rfl hsl'h.out (oneCell_u64s _) (by have := hLl'h.out; unfold maxLen; omega) (by have := hLl'h.out; omega) hb7'h.out ?_; intro v' w9 hown' hgrow hwh; have hg9 := Lib.hid hgrow; have ho9 := Lib.hid hown'; clear hgrow hown' hwh)
          have hK9 := hK5'h.out.new hM6'h.out hg6'h.out hcc'h.out hstep'h.out h0'h.out hB7'h.out (by have := hg9.out; rw [hL'h.out] at this; exact this) (by have := ho9.out; rw [hL'h.out] at this; exact this)
          have hT7 := hT6'h.out.next hB7'h.out
          have hT9 : Tks w9 := hT7.below (B := w.heap.size) ((Below.refl w.heap.size _).grown hg9.out hb7'h.out (fun k hk => (hr7'h.out.lt k hk).1)) (by have := hwlt'h.out; exact this)
          rw [← hsp'h.out]
          go_roundg (gk - 1)
          case measure => have := hj'h.out; omega
          case rel => exact ⟨j + 1, _, v', by have := hj'h.out; omega, by have := hclen'h.out; have := hj'h.out; go_num, rfl, hT9, hK9⟩
        · have hc1 : (((c0 : Int) + 1) == 1) = false := by simp; omega
          go_wp2_with fail
          refine K'h.out.mono ?_
          rintro e w7 ⟨rfl, hw7⟩
          obtain rfl := hw7.symm
          have hK9 := hK5'h.out.old hM6'h.out hg6'h.out hcc'h.out hstep'h.out h0'h.out hc0
          have hK9'h := Lib.hid hK9
          clear hK9
          go_wp2
          rw [← hsp'h.out]
          go_roundg (gk - 1)
          case measure => have := hj'h.out; omega
          case rel => exact ⟨j + 1, _, .slice vs (onceL (keyL (cs.take j))).length vc, by have := hj'h.out; omega, by have := hclen'h.out; have := hj'h.out; go_num, rfl, hT6'h.out, hK9'h.out⟩
      · have d1 : decide (0 < t) = false := decide_eq_false h0
        have d2 : decide (t ≤ 0) = true := decide_eq_true (by omega)
        have h0'h := Lib.hid h0
        clear h0
        clear htr
        go_wp2_with fail
        refine K'h.out.mono ?_
        rintro e w7 ⟨rfl, hw7⟩
        obtain rfl := hw7.symm
        obtain ⟨W8, hput8, hM8, hg8⟩ := hM6'h.out.put key (c0 : Int) hk64'h.out (wf_i64 (by have := hcl'h.out; omega) (by have := hcl'h.out; omega)) (by have := hK5'h.out.mlen; have := hclen'h.out; simp only [List.length_cons]; unfold maxLen; omega)
        have hK9 := hK5'h.out.none' hM6'h.out hg6'h.out hM8 hg8 hcc'h.out hstep'h.out (by have := h0'h.out; omega)
        have hT9 : Tks W8 := hT6'h.out.below (B := mb) ((Below.refl mb W6).grown hg8 (Nat.le_of_lt hM6'h.out.lt) (fun k hk => by injection hk with hk; omega)) (by have := hmb'h.out; omega)
        clear hM8 hg8
        have hK9'h := Lib.hid hK9
        have hT9'h := Lib.hid hT9
        clear hK9 hT9
        go_wp2
        rw [← hsp'h.out]
        go_roundg (gk - 1)
        case measure => have := hj'h.out; omega
        case rel => exact ⟨j + 1, _, .slice vs (onceL (keyL (cs.take j))).length vc, by have := hj'h.out; omega, by have := hclen'h.out; have := hj'h.out; go_num, rfl, hT9'h.out, hK9'h.out⟩
    · have i1 : ¬ (j : Int) < (cs.length : Int) := by omega
      have hjn : j = cs.length := by omega
      have hB := hK.below
      have hr := hK.row
      rw [hjn, List.take_length] at hr
      obtain ⟨L, hL⟩ : ∃ L, L = onceL (keyL cs) := ⟨_, rfl⟩
      rw [← hL] at hr
      have hLl : L.length ≤ 2000 := by rw [hL]; exact Nat.le_trans (once_le _) (by have := keyL_len cs cs.length; rw [List.take_length] at this; have := hclen'h.out; omega)
      have S := sort_own64 w.heap.size L.length vc vs L wr hr (by omega)
      rw [hjn, List.take_length, ← hL]
      rw [hjn] at i1
      clear hK hTr hr
      have hB'h := Lib.hid hB
      have S'h := Lib.hid S
      have hL'h := Lib.hid hL
      clear hB S hL
      go_wp2_with fail
      refine S'h.out.mono ?_
      rintro e w8 ⟨rfl, hb8, hr8⟩
      go_wp2
      go_ret
      exact ⟨_, _, _, rfl, hB'h.out.trans hb8, by unfold keysL; rw [← hL'h.out]; exact hr8⟩
end Go.Proofs.YtifofdciablljaaDoor
