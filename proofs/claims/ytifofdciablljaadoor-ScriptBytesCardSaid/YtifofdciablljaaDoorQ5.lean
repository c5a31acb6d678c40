/-
  Several texts of mine in one: ScrO ScrP ScrQ ScrR ScrT ScrU OpenT OpenSc.
-/
import Derived.Test.YtifofdciablljaaDoorQ4
import Derived.Test.YtifofdciablljaaDoorQ3
import Derived.Test.YtifofdciablljaaDoorQ1
import Derived.Laws.BytesArg
import Derived.Shelf.Bytes.SlSmallAll
import Derived.Lib.Bytes
import Derived.Deep.LoopGhost
import Derived.Test.YtifofdciablljaaDoorRows
import Derived.Test.YtifofdciablljaaDoorQ2
import Derived.WalkKit
import Derived.ProofKit
import Derived.OpenShut
import Derived.Deep.DeepHandedRow
import Derived.Lib.LaidTab
/-
  Layer 3 (script): Keys.
-/
set_option linter.unusedSimpArgs false
set_option linter.unusedVariables false
set_option maxRecDepth 100000
namespace Go.Proofs.YtifofdciablljaaDoor
open Go.RowKit

/-- The keys of calls that take words. -/
def keyL (cs : List Cal) : List Nat := (cs.filter fun c => decide (0 < takesI c.op)).map (·.key)
def keysL (cs : List Cal) : List Nat := sorted64 (onceL (keyL cs))
theorem keyL_next {cs : List Cal} {j : Nat} (h : j < cs.length) : keyL (cs.take (j + 1)) = keyL (cs.take j) ++ (if 0 < takesI (nthCal cs j).op then [(nthCal cs j).key] else []) := by
  have e : cs[j] = nthCal cs j := by have := nthCal_at h; rw [List.getElem?_eq_getElem h] at this; injection this
  unfold keyL
  rw [List.take_succ_eq_append_getElem h, List.filter_append, List.map_append, e]
  by_cases ht : 0 < takesI (nthCal cs j).op <;> simp [ht]
theorem keyL_len (cs : List Cal) (j : Nat) : (keyL (cs.take j)).length ≤ j := by
  unfold keyL
  rw [List.length_map]
  refine Nat.le_trans (List.length_filter_le _ _) ?_
  rw [List.length_take]; omega
theorem row_not_map {W : World} {B : Nat} {e : TypeId} {k n : Nat} {v : Value} {xs : List Value} {mb : Nat} {m : List (Nat × Int)} (h : W.ownsRow B e k v n xs) (hm : MapI W mb m) : ∀ g, v.ownBlock = some g → some mb ≠ some g := by
  intro g hg he
  injection he with he
  subst he
  obtain ⟨⟨es, clock, hb, -⟩, -⟩ := hm
  rcases h.2 with ⟨rfl, -⟩ | ⟨b, cap, cur, rfl, -, hh, -⟩
  · cases hg
  · have e1 : b = mb := by injection hg
    rw [e1, hb] at hh
    injection hh with hh
    cases hh
theorem once_le (ks : List Nat) : (onceL ks).length ≤ ks.length := by
  have : ∀ (ks acc : List Nat), (ks.foldl onceStep acc).length ≤ acc.length + ks.length := by
    intro ks
    induction ks with
    | nil => intro acc; simp
    | cons k r ih =>
      intro acc
      rw [List.foldl_cons]
      have := ih (onceStep acc k)
      have h2 : (onceStep acc k).length ≤ acc.length + 1 := by unfold onceStep; split <;> simp
      simp only [List.length_cons]; omega
  have h := this ks []
  unfold onceL
  simpa using h
theorem cnt_put {m : List (Nat × Int)} {ks : List Nat} {key c0 : Nat} (h : ∀ x, mget m x = (ks.count x : Int)) (hc : ks.count key = c0) : ∀ x, mget ((key, (c0 : Int) + 1) :: m) x = ((ks ++ [key]).count x : Int) := by
  intro x
  unfold mget
  rw [List.count_append]
  by_cases e : key = x
  · subst e; rw [if_pos rfl, hc]; simp
  · rw [if_neg e, h x, List.count_singleton, if_neg (by simpa using e)]; simp
theorem cnt_back {m : List (Nat × Int)} {ks : List Nat} {key c0 : Nat} {u : Int} (h : ∀ x, mget m x = (ks.count x : Int)) (hc : ks.count key = c0) : ∀ x, mget ((key, (c0 : Int)) :: (key, u) :: m) x = ((ks ++ []).count x : Int) := by
  intro x
  rw [List.append_nil]
  unfold mget
  by_cases e : key = x
  · subst e; rw [if_pos rfl, hc]
  · rw [if_neg e]; unfold mget; rw [if_neg e, h x]
/-- While the keys are met. -/
structure KeyI (w : World) (mb : Nat) (cv : Value) (n : Nat) (cs : List Cal) (j : Nat) (m : List (Nat × Int)) (v : Value) (wr : World) : Prop where
  below : Below w.heap.size w wr
  map : MapI wr mb m
  cnt : ∀ x, mget m x = ((keyL (cs.take j)).count x : Int)
  mlen : m.length ≤ 2 * j
  row : wr.ownsRow w.heap.size 22 1 v (onceL (keyL (cs.take j))).length (u64s (onceL (keyL (cs.take j))))
  calls : wr.ownsRow w.heap.size 57 4 cv n (cals cs)
  low : w.heap.size ≤ mb
section
variable {w : World} {mb : Nat} {cv : Value} {n : Nat} {cs : List Cal} {j : Nat} {m : List (Nat × Int)} {v : Value} {wr wr' : World}
theorem KeyI.next (h : KeyI w mb cv n cs j m v wr) (hb : Below wr.heap.size wr wr') : KeyI w mb cv n cs j m v wr' :=
  ⟨below_next h.below hb, h.map.heap (hb.block _ h.map.lt), h.cnt, h.mlen, ownsRow_next h.row hb, ownsRow_next h.calls hb, h.low⟩
theorem KeyI.put {m' : List (Nat × Int)} (h : KeyI w mb cv n cs j m v wr) (hM : MapI wr' mb m') (hg : wr.grownBy wr' (some mb)) : Below w.heap.size w wr' ∧
    wr'.ownsRow w.heap.size 22 1 v (onceL (keyL (cs.take j))).length (u64s (onceL (keyL (cs.take j)))) ∧ wr'.ownsRow w.heap.size 57 4 cv n (cals cs) :=
  ⟨h.below.grown hg h.below.size (fun k hk => by injection hk with hk; subst hk; exact h.low), ownsRow_other h.row hg (row_not_map h.row h.map), ownsRow_other h.calls hg (row_not_map h.calls h.map)⟩
/-- A key that was met before. -/
theorem KeyI.old {key c0 : Nat} {t : Int} (h : KeyI w mb cv n cs j m v wr) (hM : MapI wr' mb ((key, (c0 : Int) + 1) :: m)) (hg : wr.grownBy wr' (some mb)) (hc : (keyL (cs.take j)).count key = c0)
    (hs : keyL (cs.take (j + 1)) = keyL (cs.take j) ++ (if 0 < t then [key] else [])) (ht : 0 < t) (h0 : ¬ c0 = 0) : KeyI w mb cv n cs (j + 1) ((key, (c0 : Int) + 1) :: m) v wr' := by
  obtain ⟨h1, h2, h3⟩ := h.put hM hg
  rw [if_pos ht] at hs
  have hin : key ∈ keyL (cs.take j) := by
    refine Decidable.byContradiction fun hn => h0 ?_
    rw [← hc, List.count_eq_zero]; exact hn
  refine ⟨h1, hM, by rw [hs]; exact cnt_put h.cnt hc, by have := h.mlen; simp only [List.length_cons]; omega, by rw [hs, onceL_snoc, if_pos hin]; exact h2, h3, h.low⟩
/-- A call that takes no words. -/
theorem KeyI.none' {key c0 : Nat} {t : Int} {W8 : World} (h : KeyI w mb cv n cs j m v wr) (hM : MapI wr' mb ((key, (c0 : Int) + 1) :: m)) (hg : wr.grownBy wr' (some mb)) (hM8 : MapI W8 mb ((key, (c0 : Int)) :: (key, (c0 : Int) + 1) :: m)) (hg8 : wr'.grownBy W8 (some mb)) (hc : (keyL (cs.take j)).count key = c0)
    (hs : keyL (cs.take (j + 1)) = keyL (cs.take j) ++ (if 0 < t then [key] else [])) (ht : ¬ 0 < t) : KeyI w mb cv n cs (j + 1) ((key, (c0 : Int)) :: (key, (c0 : Int) + 1) :: m) v W8 := by
  obtain ⟨h1, h2, h3⟩ := h.put hM hg
  rw [if_neg ht] at hs
  refine ⟨h1.grown hg8 h1.size (fun k hk => by injection hk with hk; subst hk; exact h.low), hM8, by rw [hs]; exact cnt_back h.cnt hc, by have := h.mlen; simp only [List.length_cons]; omega, ?_, ownsRow_other h3 hg8 (row_not_map h3 hM), h.low⟩
  rw [hs, List.append_nil]
  exact ownsRow_other h2 hg8 (row_not_map h2 hM)
/-- A key that is new, laid behind the others. -/
theorem KeyI.new {key : Nat} {t : Int} {W7 W9 : World} {v' : Value} (h : KeyI w mb cv n cs j m v wr) (hM : MapI wr' mb ((key, 1) :: m)) (hg : wr.grownBy wr' (some mb)) (hc : (keyL (cs.take j)).count key = 0)
    (hs : keyL (cs.take (j + 1)) = keyL (cs.take j) ++ (if 0 < t then [key] else [])) (ht : 0 < t) (hB : Below wr'.heap.size wr' W7) (hg9 : W7.grownBy W9 v.ownBlock)
    (ho : W9.ownsRow w.heap.size 22 1 v' ((onceL (keyL (cs.take j))).length + 1) (u64s (onceL (keyL (cs.take j))) ++ u64s [key])) : KeyI w mb cv n cs (j + 1) ((key, 1) :: m) v' W9 := by
  obtain ⟨h1, h2, h3⟩ := h.put hM hg
  rw [if_pos ht] at hs
  have hn : key ∉ keyL (cs.take j) := List.count_eq_zero.1 hc
  have r7 := ownsRow_next h2 hB
  have c7 := ownsRow_next h3 hB
  have m7 := hM.heap (hB.block _ hM.lt)
  have b7 := below_next h1 hB
  refine ⟨b7.grown hg9 b7.size (fun k hk => (r7.lt k hk).1), m7.heap (hg9.block _ m7.lt (fun e => row_not_map r7 m7 mb e.symm rfl)), by rw [hs]; exact cnt_put h.cnt hc, by have := h.mlen; simp only [List.length_cons]; omega, ?_, ownsRow_other c7 hg9 (ownsRow_apart c7 r7 (by decide)), h.low⟩
  rw [hs, onceL_snoc, if_neg hn, List.length_append]
  simpa [u64s] using ho
end
set_option maxHeartbeats 4000000 in
theorem keys_any (sm : Sm) (w : World) (hT : Tks w) (h : SmIn w sm) :
    Calls Tryd.prog 18 #[.agg (smA sm)] w fun e w' => ∃ sp n c, e = .returned (.slice sp n c) ∧ Below w.heap.size w w' ∧ w'.ownsRow w.heap.size 22 1 (.slice sp n c) n (u64s (keysL sm.scr.lists.flatten)) := by
  have hmm := @run_makeMap Tryd.prog
  have H0 := (Hs.nil w).new (smA sm) 26
  have hB1 : Below w.heap.size w ((w.alloc (.cells (smA sm) 26)).alloc (.map #[] 0)) := H0.old.alloc (by simp) _
  have hM1 := MapI.made (w.alloc (.cells (smA sm) 26))
  simp only [World.size_alloc] at hM1
  have C := concatC_any sm.lp sm.ln sm.lc sm.rows _ ((h.rows).below hB1)
  have hT1 := hT.next hB1
  have hcat := h.cat
  obtain ⟨cs, hcs⟩ : ∃ cs, cs = sm.scr.lists.flatten := ⟨_, rfl⟩
  rw [← hcs] at hcat ⊢
  rw [hcat] at C
  have hok : ∀ c ∈ cs, CalOk c := fun c hc => by
    rw [hcs] at hc
    obtain ⟨l, hl, hcl⟩ := List.mem_flatten.1 hc
    obtain ⟨r, hr, rfl⟩ := List.mem_map.1 (show l ∈ sm.rows.map (·.cs) from hl)
    exact h.rows.ok r hr c hcl
  have hclen : cs.length ≤ 1056 := by
    have h1 := catC_le h.rows.short sm.ln (by rw [h.rows.len]; exact Nat.le_refl _)
    rw [hcat] at h1
    have := h.rows.few
    omega
  obtain ⟨g, sb, seed, lp, ln, lc, rows, pp, pn, pc, picks⟩ := sm
  simp only at C
  unfold smA at *
  simp only at *
  have hwl := hT.lt
  clear H0 hcs hcat h hT
  have hB1'h := Lib.hid hB1
  have hM1'h := Lib.hid hM1
  have hT1'h := Lib.hid hT1
  have C'h := Lib.hid C
  have hok'h := Lib.hid hok
  clear hB1 hM1 hT1 C hok
  go_enter Tryd.func18, Tryd.ntmps18
  go_wp2_with fail
  refine C'h.out.mono ?_
  rintro e w2 ⟨cp, cc, rfl, hB2, hrow2⟩
  obtain ⟨i0, hi, hz, hs, hby⟩ := info_parts info_clone64
  have hK0 : KeyI w (w.heap.size + 1) (.slice cp cs.length cc) cs.length cs 0 [] (.slice none 0 0) w2 :=
    ⟨below_next hB1'h.out hB2, hM1'h.out.heap (hB2.block _ hM1'h.out.lt), fun x => by simp [mget, keyL], by simp, by rw [show onceL (keyL (cs.take 0)) = [] from by simp [keyL, onceL]]; exact ⟨rfl, .inl ⟨rfl, rfl⟩⟩, ownsRow_mono hrow2 hB1'h.out.size, by omega⟩
  have hT2 := hT1'h.out.next hB2
  have hwlt := hwl
  clear hB2 hrow2 C'h hB1'h hM1'h hT1'h hmm
  obtain ⟨mb, hmb⟩ : ∃ mb, mb = w.heap.size + 1 := ⟨_, rfl⟩
  rw [← hmb] at hK0 ⊢
  have hK0'h := Lib.hid hK0
  have hT2'h := Lib.hid hT2
  have hclen'h := Lib.hid hclen
  have hmb'h := Lib.hid hmb
  have hwlt'h := Lib.hid hwlt
  clear hK0 hT2 hclen hmb hwlt
  go_wp2
  go_loopg [4, 12] cs.length (fun q ov ix wr => ∃ (j : Nat) (m : List (Nat × Int)) (v : Value), j + q = cs.length ∧ ix = .int .i64 (j : Int) ∧ ov = v ∧ Tks wr ∧ KeyI w mb (.slice cp cs.length cc) cs.length cs j m v wr)
  case atStart => exact ⟨0, _, _, by omega, rfl, rfl, hT2'h.out, hK0'h.out⟩
  case round =>
    obtain ⟨j, m, v, hj, rfl, rfl, hTr, hK⟩ := hrel
    clear hT2'h hK0'h
    obtain ⟨vs, vc, rfl⟩ := row_slice' hK.row
    by_cases hlt : j < cs.length
    · have i1 : (j : Int) < (cs.length : Int) := by omega
      have i2 : (0 : Int) ≤ (j : Int) := by omega
      have i3 : (j : Int) < 9223372036854775807 := by have := hclen'h.out; omega
      have hS := SlK.of_row hK.calls (by have := hclen'h.out; unfold maxLen; omega)
      obtain ⟨cb, co, hsp⟩ := slk_some hS (by omega)
      have hstep := keyL_next hlt
      rw [hsp] at hS
      obtain ⟨x0, x1, x2, x3⟩ := cals_cells hS hlt
      have hco := hok'h.out _ (List.mem_of_getElem? (nthCal_at hlt))
      obtain ⟨c, hc⟩ : ∃ c, c = nthCal cs j := ⟨_, rfl⟩
      rw [← hc] at x0 x1 x2 x3 hco hstep
      obtain ⟨op, key, a, b⟩ := c
      obtain ⟨ho1, ho2, hk64, -, -⟩ := hco
      simp only at x0 x1 x2 x3 ho1 ho2 hk64 hstep
      obtain ⟨W5, hW5⟩ : ∃ W5, W5 = wr.alloc (.cells #[.int .i64 op, .int .u64 (key : Int), .int .u64 (a : Int), .int .u64 (b : Int)] 57) := ⟨_, rfl⟩
      have hB5 : Below wr.heap.size wr W5 := by rw [hW5]; exact (Below.refl _ _).alloc (Nat.le_refl _) _
      have hb5 : W5.heap[wr.heap.size]? = some (.cells #[.int .i64 op, .int .u64 (key : Int), .int .u64 (a : Int), .int .u64 (b : Int)] 57 (0, 0)) := by rw [hW5]; exact World.alloc_heap_new _ _
      have hK5 := hK.next hB5
      have hT5 := hTr.next hB5
      have hl5 := hK5.map.look key hk64
      have hcnt := hK5.cnt key
      have hcl : (keyL (cs.take j)).count key ≤ 1056 := Nat.le_trans List.count_le_length (by have := keyL_len cs j; have := hclen'h.out; omega)
      have hcm : (keyL (cs.take j)).count key = 0 ↔ key ∉ keyL (cs.take j) := List.count_eq_zero
      generalize hcc : (keyL (cs.take j)).count key = c0 at hcnt hcl hcm
      rw [hcnt] at hl5
      obtain ⟨W6, hput, hM6, hg6⟩ := hK5.map.put key ((c0 : Int) + 1) hk64 (wf_i64 (by omega) (by omega)) (by have := hK5.mlen; have := hclen'h.out; unfold maxLen; omega)
      have hmbl := hK.low
      have hmbr := hK.map.lt
      have hb6 := (hg6.block _ (lt_of_heap hb5) (fun e => by injection e with e; omega)).trans hb5
      have hT6 : Tks W6 := hT5.below (B := mb) ((Below.refl mb W5).grown hg6 (Nat.le_of_lt hK5.map.lt) (fun k hk => by injection hk with hk; omega)) (by have := hmb'h.out; omega)
      have e0 := blk_cell (i := 0) hb6 rfl
      have e1 := blk_cell (i := 1) hb6 rfl
      have hl6 := hM6.look key hk64
      have hmg : mget ((key, (c0 : Int) + 1) :: m) key = (c0 : Int) + 1 := by unfold mget; rw [if_pos rfl]
      rw [hmg] at hl6
      obtain ⟨t, ht⟩ : ∃ t, t = takesI op := ⟨_, rfl⟩
      have htr := takesI_range op
      rw [← ht] at htr hstep
      have K := takes_any op W6 hT6
      rw [← ht] at K
      have hci : (c0 : Int) < 9223372036854775807 := by omega
      have hcz : (0 : Int) ≤ (c0 : Int) := by omega
      rw [hsp]
      clear hc hS hK hTr hmg hB5 hlt hb5 hcnt hmbr
      have hk64'h := Lib.hid hk64
      have ho1'h := Lib.hid ho1
      have ho2'h := Lib.hid ho2
      have hj'h := Lib.hid hj
      have hW5'h := Lib.hid hW5
      have hK5'h := Lib.hid hK5
      have hT5'h := Lib.hid hT5
      have hput'h := Lib.hid hput
      have hM6'h := Lib.hid hM6
      have hg6'h := Lib.hid hg6
      have hb6'h := Lib.hid hb6
      have hT6'h := Lib.hid hT6
      have hcc'h := Lib.hid hcc
      have hcm'h := Lib.hid hcm
      have hcl'h := Lib.hid hcl
      have hstep'h := Lib.hid hstep
      have ht'h := Lib.hid ht
      have K'h := Lib.hid K
      have hsp'h := Lib.hid hsp
      have hl6'h := Lib.hid hl6
      have e0'h := Lib.hid e0
      have e1'h := Lib.hid e1
      clear hk64 ho1 ho2 hj hW5 hK5 hT5 hput hM6 hg6 hb6 hT6 hcc hcm hcl hstep ht K hsp hl6 e0 e1
      have hl5r := hl5
      have hputr := hput'h.out
      rw [hW5'h.out] at hl5r hputr
      have hl6 := hl6'h.out
      have e0 := e0'h.out
      have e1 := e1'h.out
      clear hl5 hput'h hl6'h e0'h e1'h hW5'h
      go_wp2_with fail
      refine K'h.out.mono ?_
      rintro e w7 ⟨rfl, hw7⟩
      obtain rfl := hw7.symm
      by_cases h0 : 0 < t
      · have d1 : decide (0 < t) = true := decide_eq_true h0
        have d2 : decide (t ≤ 0) = false := decide_eq_false (by omega)
        have h0'h := Lib.hid h0
        clear h0
        clear htr
        by_cases hc0 : c0 = 0
        · subst hc0
          have e01 : ((0 : Nat) : Int) + 1 = 1 := rfl
          rw [e01] at hl6 hputr
          obtain ⟨L, hL⟩ : ∃ L, L = onceL (keyL (cs.take j)) := ⟨_, rfl⟩
          have hr5 := hK5'h.out.row
          rw [← hL] at hr5 ⊢
          have hr6 : W6.ownsRow w.heap.size 22 1 (.slice vs L.length vc) L.length (u64s L) := ownsRow_other hr5 hg6'h.out (row_not_map hr5 hK5'h.out.map)
          have hB7 := (Below.refl W6.heap.size W6).alloc (Nat.le_refl _) (.cells #[.int .u64 (key : Int)] 22)
          have hsl : SlK (W6.alloc (.cells #[.int .u64 (key : Int)] 22)) 1 (some ⟨W6.heap.size, 0, none⟩) 1 (u64s [key]) := SlK.of_blk (World.alloc_heap_new _ _) rfl (by unfold maxLen; omega)
          have hr7 := ownsRow_next hr6 hB7
          have hb7 : w.heap.size ≤ (W6.alloc (.cells #[.int .u64 (key : Int)] 22)).heap.size := by have := hK5'h.out.below.size; have := hg6'h.out.size; have := hB7.size; omega
          have hLl : L.length ≤ 2000 := by rw [hL]; exact Nat.le_trans (once_le _) (by have := keyL_len cs j; have := hclen'h.out; omega)
          clear hr5 hr6
          have hL'h := Lib.hid hL
          have hB7'h := Lib.hid hB7
          have hsl'h := Lib.hid hsl
          have hr7'h := Lib.hid hr7
          have hb7'h := Lib.hid hb7
          have hLl'h := Lib.hid hLl
          clear hL hB7 hsl hr7 hb7 hLl
          go_wp2_with (at_builtin; refine wpList_append_slk _ rfl (.tmp 32) (.tmp 35) 24 rfl w.heap.size 22 i0 (.int .u64 0) 1 8 Tryd.underlying24 hi hz hs hby rfl (by decide) (.slice vs L.length vc) L.length (u64s L) rfl hr7'h.out _ 1 1 (u64s [key]) rfl hsl'h.out (oneCell_u64s _) (by have := hLl'h.out; unfold maxLen; omega) (by have := hLl'h.out; omega) hb7'h.out ?_; intro v' w9 hown' hgrow hwh; have hg9 := Lib.hid hgrow; have ho9 := Lib.hid hown'; clear hgrow hown' hwh)
          have hK9 := hK5'h.out.new hM6'h.out hg6'h.out hcc'h.out hstep'h.out h0'h.out hB7'h.out (by have := hg9.out; rw [hL'h.out] at this; exact this) (by have := ho9.out; rw [hL'h.out] at this; exact this)
          have hT7 := hT6'h.out.next hB7'h.out
          have hT9 : Tks w9 := hT7.below (B := w.heap.size) ((Below.refl w.heap.size _).grown hg9.out hb7'h.out (fun k hk => (hr7'h.out.lt k hk).1)) (by have := hwlt'h.out; exact this)
          rw [← hsp'h.out]
          go_roundg (gk - 1)
          case measure => have := hj'h.out; omega
          case rel => exact ⟨j + 1, _, v', by have := hj'h.out; omega, by have := hclen'h.out; have := hj'h.out; go_num, rfl, hT9, hK9⟩
        · have hc1 : (((c0 : Int) + 1) == 1) = false := by simp; omega
          go_wp2_with fail
          refine K'h.out.mono ?_
          rintro e w7 ⟨rfl, hw7⟩
          obtain rfl := hw7.symm
          have hK9 := hK5'h.out.old hM6'h.out hg6'h.out hcc'h.out hstep'h.out h0'h.out hc0
          have hK9'h := Lib.hid hK9
          clear hK9
          go_wp2
          rw [← hsp'h.out]
          go_roundg (gk - 1)
          case measure => have := hj'h.out; omega
          case rel => exact ⟨j + 1, _, .slice vs (onceL (keyL (cs.take j))).length vc, by have := hj'h.out; omega, by have := hclen'h.out; have := hj'h.out; go_num, rfl, hT6'h.out, hK9'h.out⟩
      · have d1 : decide (0 < t) = false := decide_eq_false h0
        have d2 : decide (t ≤ 0) = true := decide_eq_true (by omega)
        have h0'h := Lib.hid h0
        clear h0
        clear htr
        go_wp2_with fail
        refine K'h.out.mono ?_
        rintro e w7 ⟨rfl, hw7⟩
        obtain rfl := hw7.symm
        obtain ⟨W8, hput8, hM8, hg8⟩ := hM6'h.out.put key (c0 : Int) hk64'h.out (wf_i64 (by have := hcl'h.out; omega) (by have := hcl'h.out; omega)) (by have := hK5'h.out.mlen; have := hclen'h.out; simp only [List.length_cons]; unfold maxLen; omega)
        have hK9 := hK5'h.out.none' hM6'h.out hg6'h.out hM8 hg8 hcc'h.out hstep'h.out (by have := h0'h.out; omega)
        have hT9 : Tks W8 := hT6'h.out.below (B := mb) ((Below.refl mb W6).grown hg8 (Nat.le_of_lt hM6'h.out.lt) (fun k hk => by injection hk with hk; omega)) (by have := hmb'h.out; omega)
        clear hM8 hg8
        have hK9'h := Lib.hid hK9
        have hT9'h := Lib.hid hT9
        clear hK9 hT9
        go_wp2
        rw [← hsp'h.out]
        go_roundg (gk - 1)
        case measure => have := hj'h.out; omega
        case rel => exact ⟨j + 1, _, .slice vs (onceL (keyL (cs.take j))).length vc, by have := hj'h.out; omega, by have := hclen'h.out; have := hj'h.out; go_num, rfl, hT9'h.out, hK9'h.out⟩
    · have i1 : ¬ (j : Int) < (cs.length : Int) := by omega
      have hjn : j = cs.length := by omega
      have hB := hK.below
      have hr := hK.row
      rw [hjn, List.take_length] at hr
      obtain ⟨L, hL⟩ : ∃ L, L = onceL (keyL cs) := ⟨_, rfl⟩
      rw [← hL] at hr
      have hLl : L.length ≤ 2000 := by rw [hL]; exact Nat.le_trans (once_le _) (by have := keyL_len cs cs.length; rw [List.take_length] at this; have := hclen'h.out; omega)
      have S := sort_own64 w.heap.size L.length vc vs L wr hr (by omega)
      rw [hjn, List.take_length, ← hL]
      rw [hjn] at i1
      clear hK hTr hr
      have hB'h := Lib.hid hB
      have S'h := Lib.hid S
      have hL'h := Lib.hid hL
      clear hB S hL
      go_wp2_with fail
      refine S'h.out.mono ?_
      rintro e w8 ⟨rfl, hb8, hr8⟩
      go_wp2
      go_ret
      exact ⟨_, _, _, rfl, hB'h.out.trans hb8, by unfold keysL; rw [← hL'h.out]; exact hr8⟩
end Go.Proofs.YtifofdciablljaaDoor

/-
  bytes.Equal and bytes.HasPrefix at rows of bytes.
-/
set_option linter.unusedSimpArgs false
set_option linter.unusedVariables false
set_option maxRecDepth 100000
namespace Go.Proofs.YtifofdciablljaaDoor
open Go.RowKit

def strB (bs : List Nat) : ByteArray := strOfNums (bs.map fun (b : Nat) => (b : Int))
theorem strB_list (bs : List Nat) : (strB bs).toList = bs.map fun (b : Nat) => UInt8.ofNat b := by
  unfold strB
  rw [Lib.strOfNums_toList]
  unfold Lib.bytesOf
  rw [List.map_map]
  rfl
theorem strB_nums (l : List Nat) (hl : ∀ b ∈ l, b < 256) : (l.map fun (b : Nat) => UInt8.ofNat b).map (·.toNat) = l := by
  rw [List.map_map]
  conv => rhs; rw [← List.map_id l]
  refine List.map_congr_left fun b hb => ?_
  have := hl b hb
  simp only [Function.comp, UInt8.toNat_ofNat', id]
  omega
theorem strB_eq {bs cs : List Nat} (hb : ∀ b ∈ bs, b < 256) (hc : ∀ b ∈ cs, b < 256) : ((strB bs).toList == (strB cs).toList) = decide (bs = cs) := by
  rw [strB_list, strB_list]
  by_cases e : bs = cs
  · subst e; simp
  · rw [decide_eq_false e, beq_eq_false_iff_ne]
    intro h
    apply e
    rw [← strB_nums bs hb, ← strB_nums cs hc, h]
theorem conv_bytes {w : World} {sp : Option Addr} {n : Nat} {bs : List Nat} (h : Sl w sp n (u8s bs)) (cap : Nat) : (convert 38 9 (.slice sp n cap)).run Tryd.prog w = .ok (.string (strB bs)) w := by
  have hl : bs.length = n := by have := h.1; rw [u8s_length] at this; exact this.symm
  rcases Nat.eq_zero_or_pos n with h0 | h0
  · subst h0
    obtain rfl : bs = [] := List.eq_nil_of_length_eq_zero hl
    have e : strB [] = ByteArray.empty := rfl
    rw [e]
    exact run_convert_bytes_zero w 38 5 Tryd.underlying38 Tryd.underlying5 sp cap _ Tryd.underlying9
  · obtain ⟨b, o, rfl, hc⟩ := (SlK.of_sl h).some' h0
    refine run_convert_bytes_arg w 38 5 Tryd.underlying38 Tryd.underlying5 b o n cap (bs.map fun (b : Nat) => (b : Int)) (by rw [List.length_map]; exact hl) (fun i hi => ?_) _ Tryd.underlying9
    have hu : (u8s bs)[i]? = some (.int .u8 ((bs.map fun (b : Nat) => (b : Int)).getD i 0)) := by
      unfold u8s
      rw [List.getElem?_map, List.getD_eq_getElem?_getD, List.getElem?_map, List.getElem?_eq_getElem (by omega)]
      rfl
    exact hc i _ hu
theorem eqB_any (sp sp' : Option Addr) (n n' cap cap' : Nat) (bs cs : List Nat) (w : World) (h : Sl w sp n (u8s bs)) (h' : Sl w sp' n' (u8s cs)) (hb : ∀ b ∈ bs, b < 256) (hc : ∀ b ∈ cs, b < 256) :
    Calls Tryd.prog 20 #[.slice sp n cap, .slice sp' n' cap'] w fun e w' => e = .returned (.bool (decide (bs = cs))) ∧ w' = w := by
  have g1 := conv_bytes h cap
  have g2 := conv_bytes h' cap'
  rw [← strB_eq hb hc]
  generalize strB bs = x at *
  generalize strB cs = y at *
  clear h h' hb hc
  go_enter Tryd.func20, Tryd.ntmps20
  go_wp2
  go_ret
  exact ⟨rfl, rfl⟩
/-- The first bytes of a row. -/
def preB (bs cs : List Nat) : Bool := decide (cs.length ≤ bs.length) && decide (bs.take cs.length = cs)
theorem hasB_any (sp sp' : Option Addr) (n n' cap cap' : Nat) (bs cs : List Nat) (w : World) (h : Sl w sp n (u8s bs)) (h' : Sl w sp' n' (u8s cs)) (hb : ∀ b ∈ bs, b < 256) (hc : ∀ b ∈ cs, b < 256) (hcap : n ≤ cap) (hnil : sp = none → cap = 0) :
    Calls Tryd.prog 28 #[.slice sp n cap, .slice sp' n' cap'] w fun e w' => e = .returned (.bool (preB bs cs)) ∧ w' = w := by
  have hl : bs.length = n := by have := h.1; rw [u8s_length] at this; exact this.symm
  have hl' : cs.length = n' := by have := h'.1; rw [u8s_length] at this; exact this.symm
  unfold preB
  rw [hl, hl']
  by_cases hle : n' ≤ n
  · have hi : (n' : Int) ≤ (n : Int) := by omega
    have hi2 : (n' : Int) ≤ (cap : Int) := by omega
    have hi3 : ¬ (n' : Int) < 0 := by omega
    have E := fun w (hw : Sl w sp n (u8s bs)) (hw' : Sl w sp' n' (u8s cs)) => eqB_any sp sp' n' n' cap cap' (bs.take n') cs w (by have := hw.take n' hle; unfold u8s at *; rw [← List.map_take] at this; exact this) hw' (fun b hbm => hb b (List.mem_of_mem_take hbm)) hc
    rw [decide_eq_true hle, Bool.true_and]
    have E'h := Lib.hid E
    have h'h := Lib.hid h
    have h''h := Lib.hid h'
    have hb'h := Lib.hid hb
    have hc'h := Lib.hid hc
    clear E h h' hb hc
    go_enter Tryd.func28, Tryd.ntmps28
    go_wp2_with (go_at_call 20; refine (E'h.out _ h'h.out h''h.out).mono ?_; rintro e w' ⟨rfl, hw⟩; obtain rfl := hw.symm)
    go_ret
    exact ⟨rfl, rfl⟩
  · have hi : ¬ (n' : Int) ≤ (n : Int) := by omega
    rw [decide_eq_false hle, Bool.false_and]
    clear h h' hb hc
    go_enter Tryd.func28, Tryd.ntmps28
    go_wp2
    go_ret
    exact ⟨rfl, rfl⟩
end Go.Proofs.YtifofdciablljaaDoor

/-
  Layer 3 (script): the chapter's script, and what the layer is asked first.
-/
set_option linter.unusedSimpArgs false
set_option linter.unusedVariables false
set_option maxRecDepth 100000
namespace Go.Proofs.YtifofdciablljaaDoor
open Go.RowKit

def smallS : Scr := ⟨1, 2, 5, [[⟨2, 7, 9, 0⟩, ⟨7, 0, 0, 0⟩]], [0, 1]⟩
def SmAt (w : World) (S : Scr) (e : Ending) (w' : World) : Prop := ∃ sm : Sm, e = .returned (.agg (smA sm)) ∧ Below w.heap.size w w' ∧ SmIn w' sm ∧ sm.scr = S
theorem small_any (w : World) : Calls Tryd.prog 34 #[] w fun e w' => SmAt w smallS e w' := by
  go_enter Tryd.func34, Tryd.ntmps34
  go_wp2
  have H0 := ((((Hs.nil w).new #[.int .i64 1, .int .i64 2, .int .u64 5, .slice (some ⟨w.heap.size + 1 + 1, 0, none⟩) 1 1, .slice (some ⟨w.heap.size + 1 + 1 + 1, 0, none⟩) 2 2] 26).new #[.int .i64 2, .int .u64 7, .int .u64 9, .int .u64 0, .int .i64 7, .int .u64 0, .int .u64 0, .int .u64 0] 57).new #[.slice (some ⟨w.heap.size + 1, 0, none⟩) 2 2] 55).new #[.int .u64 0, .int .u64 1] 22
  simp only [World.size_alloc] at H0
  generalize World.alloc _ _ = W at H0 ⊢
  have d0 : W.cell? ⟨w.heap.size, 0, none⟩ = some (.int .i64 1) := blk_cell (i := 0) H0.rows.2.2.2.1 rfl
  have d1 : W.cell? ⟨w.heap.size, 1, none⟩ = some (.int .i64 2) := blk_cell (i := 1) H0.rows.2.2.2.1 rfl
  have d2 : W.cell? ⟨w.heap.size, 2, none⟩ = some (.int .u64 5) := blk_cell (i := 2) H0.rows.2.2.2.1 rfl
  have d3 : W.cell? ⟨w.heap.size, 3, none⟩ = some (.slice (some ⟨w.heap.size + 1 + 1, 0, none⟩) 1 1) := blk_cell (i := 3) H0.rows.2.2.2.1 rfl
  have d4 : W.cell? ⟨w.heap.size, 4, none⟩ = some (.slice (some ⟨w.heap.size + 1 + 1 + 1, 0, none⟩) 2 2) := blk_cell (i := 4) H0.rows.2.2.2.1 rfl
  obtain ⟨sm, hsm⟩ : ∃ sm : Sm, sm = ⟨1, 2, 5, some ⟨w.heap.size + 1 + 1, 0, none⟩, 1, 1, [⟨some ⟨w.heap.size + 1, 0, none⟩, 2, 2, [⟨2, 7, 9, 0⟩, ⟨7, 0, 0, 0⟩]⟩], some ⟨w.heap.size + 1 + 1 + 1, 0, none⟩, 2, 2, [0, 1]⟩ := ⟨_, rfl⟩
  have hA : SmAt w smallS (.returned (.agg (smA sm))) W := by
    refine ⟨sm, rfl, H0.old, ?_, by rw [hsm]; rfl⟩
    have hok : ∀ c ∈ ([⟨2, 7, 9, 0⟩, ⟨7, 0, 0, 0⟩] : List Cal), CalOk c := by
      intro c hc
      simp only [List.mem_cons, List.mem_nil_iff, or_false] at hc
      rcases hc with rfl | rfl <;> exact ⟨by decide, by decide, by decide, by decide, by decide⟩
    rw [hsm]
    refine ⟨⟨SlK.of_blk (H0.rows.2.1) rfl (show 1 ≤ maxLen by decide), fun r hr => ?_, fun r hr => ?_, fun r hr => ?_, fun r hr => ?_, by simp, fun r hr => ?_⟩, (SlK.of_blk (H0.rows.1) rfl (show 2 ≤ maxLen by decide)).sl, ?_, show (5 : Nat) < 2 ^ 64 by decide, ⟨show (-9223372036854775808 : Int) ≤ 1 by decide, show (1 : Int) ≤ 9223372036854775807 by decide⟩, ⟨show (-9223372036854775808 : Int) ≤ 2 by decide, show (2 : Int) ≤ 9223372036854775807 by decide⟩, by simp, show 1 ≤ 1 by decide, by simp, show 2 ≤ 2 by decide, show 2 ≤ 4200 by decide⟩
    · simp only [List.mem_singleton] at hr; subst hr; exact SlK.of_blk (k := 4) (n := 2) (H0.rows.2.2.1) rfl (by decide)
    · simp only [List.mem_singleton] at hr; subst hr; simp
    · simp only [List.mem_singleton] at hr; subst hr; simp
    · simp only [List.mem_singleton] at hr; subst hr; exact hok
    · simp only [List.mem_singleton] at hr; subst hr; simp
    · intro x hx; simp only [List.mem_cons, List.mem_nil_iff, or_false] at hx; rcases hx with rfl | rfl <;> decide
  rw [hsm] at hA
  unfold smA at hA
  clear H0 hsm
  refine bodyPost_ret (v := .agg #[.int .i64 1, .int .i64 2, .int .u64 5, .slice (some ⟨w.heap.size + 1 + 1, 0, none⟩) 1 1, .slice (some ⟨w.heap.size + 1 + 1 + 1, 0, none⟩) 2 2]) ?_ rfl hA
  simp [results, Tryd.results34, go_sem, d0, d1, d2, d3, d4]
theorem small_num {n : Nat} (h : n < 128) : numB n = [n] := numB_small h
def smallB : List Nat := [1, 2, 5, 2, 2, 7, 9, 7, 2, 0, 1]
theorem small_right : rightS smallS = true := by decide
theorem small_bytes : bytesS smallS = smallB := by
  unfold bytesS
  rw [show encS smallS = smallB by decide]
  simp [smallB, small_num]
theorem small_300 : numB 300 = [172, 2] := by rw [numB_great (by decide), numB_small (by decide)]
theorem small_read : scriptR (smallB ++ [99]) = some (smallS, [99]) := by kernel_rfl
theorem small_wrong : scriptR [1, 2, 5, 2, 2, 7, 9, 7, 2, 0] = none := by kernel_rfl
theorem small_keys : keysL smallS.lists.flatten = [7] := by
  unfold keysL
  rw [show onceL (keyL smallS.lists.flatten) = [7] by decide]
  simp [sorted64]
set_option maxHeartbeats 4000000 in
theorem wakes_any (w : World) (hT : Tks w) : Calls Tryd.prog 9 #[] w fun e w' => e = .returned (.bool true) ∧ Below w.heap.size w w' := by
  have hT'h := Lib.hid hT
  clear hT
  go_enter Tryd.func9, Tryd.ntmps9
  go_wp2_with fail
  refine (small_any w).mono ?_
  rintro e w1 ⟨sm, rfl, hB1, hIn1, hs1⟩
  have hT1 := hT'h.out.next hB1
  have E := encode_yes sm w1 hT1 hIn1 (by rw [hs1]; exact small_right)
  rw [hs1, small_bytes, show smallB.length = 11 from rfl] at E
  clear hs1 hIn1
  have hB1'h := Lib.hid hB1
  have hT1'h := Lib.hid hT1
  have E'h := Lib.hid E
  clear hB1 hT1 E
  go_wp2_with fail
  refine E'h.out.mono ?_
  rintro e w2 ⟨v, rfl, hB2, hrow2⟩
  obtain ⟨bp, bc, rfl⟩ := row_slice' hrow2
  have hS2 := Sl.of_row hrow2 (by decide)
  have hn2 := row_nil' hrow2
  have hB02 := below_next hB1'h.out hB2
  have hT2 := hT1'h.out.next hB2
  clear hB2 hrow2 E'h
  have hS2'h := Lib.hid hS2
  have hn2'h := Lib.hid hn2
  have hB02'h := Lib.hid hB02
  have hT2'h := Lib.hid hT2
  clear hS2 hn2 hB02 hT2
  go_wp2_with fail
  refine (clone8_any bp 11 bc (u8s smallB) w2 (by decide) (u8s_one _) hn2'h.out hS2'h.out).mono ?_
  rintro e w3 ⟨cp, cc, rfl, hB3, hrow3⟩
  obtain ⟨i0, hi, hz, hs, hby⟩ := info_parts info_clone8
  have hB4 := (Below.refl w3.heap.size w3).alloc (Nat.le_refl _) (.cells #[.int .u8 99] 5)
  have hsl4 : SlK (w3.alloc (.cells #[.int .u8 99] 5)) 1 (some ⟨w3.heap.size, 0, none⟩) 1 (u8s [99]) := SlK.of_blk (World.alloc_heap_new _ _) rfl (by decide)
  have hr4 := ownsRow_next hrow3 hB4
  have hb4 := Nat.le_trans hB3.size hB4.size
  have hB24 := below_next hB3 hB4
  clear hB3 hrow3 hB4
  have hsl4'h := Lib.hid hsl4
  have hr4'h := Lib.hid hr4
  have hb4'h := Lib.hid hb4
  have hB24'h := Lib.hid hB24
  clear hsl4 hr4 hb4 hB24
  go_wp2_with (at_builtin; refine wpList_append_slk _ rfl (.tmp 16) (.tmp 17) 38 rfl w2.heap.size 5 i0 (.int .u8 0) 1 1 Tryd.underlying38 hi hz hs hby rfl (by decide) (.slice cp 11 cc) 11 (u8s smallB) rfl hr4'h.out _ 1 1 (u8s [99]) rfl hsl4'h.out (u8s_one _) (by decide) (by decide) hb4'h.out ?_; intro v' w5 hown' hgrow hwh; obtain ⟨dp, dc, hv', -, -, -⟩ := row_form hown'; subst hv'; have hS5 := Sl.of_row hown' (by decide); have hB5 := (Below.refl w2.heap.size _).grown hgrow hb4'h.out (fun q hq => (hr4'h.out.lt q hq).1); clear hown' hgrow hwh; have hS5'h := Lib.hid hS5; have hB5'h := Lib.hid hB5; clear hS5 hB5)
  have hB25 := hB24'h.out.trans hB5'h.out
  have hT5 := hT2'h.out.next hB25
  have hS5b := hS2'h.out.below hB25
  have hB05 := below_next hB02'h.out hB25
  have hS5 := hS5'h.out
  rw [u8s_app] at hS5
  have D := decode_any dp 12 dc (smallB ++ [99]) w5 hT5 hS5 (by decide) (by decide)
  rw [small_read] at D
  clear hB25 hS5 hsl4'h hr4'h hb4'h hB24'h hS5'h hB5'h hT2'h hS2'h hB02'h hT1'h hB1'h
  have hT5'h := Lib.hid hT5
  have hS5b'h := Lib.hid hS5b
  have hB05'h := Lib.hid hB05
  have D'h := Lib.hid D
  clear hT5 hS5b hB05 D
  refine D'h.out.mono ?_
  rintro e w6 ⟨hB6, sm6, rfl, hIn6, hs6, -⟩
  clear D'h
  have hT6 := hT5'h.out.next hB6
  have hS6 := hS5b'h.out.below hB6
  have hB06 := below_next hB05'h.out hB6
  rw [show ((12 - ([99] : List Nat).length : Nat) : Int) = 11 from rfl]
  clear hB6 hT5'h hS5b'h hB05'h
  obtain ⟨g, sb, seed, lp, ln, lc, rows, pp, pn, pc, ps⟩ := sm6
  obtain ⟨sm6, hsm6⟩ : ∃ s : Sm, s = ⟨g, sb, seed, lp, ln, lc, rows, pp, pn, pc, ps⟩ := ⟨_, rfl⟩
  have hA : smA sm6 = #[.int .i64 g, .int .i64 sb, .int .u64 (seed : Int), .slice lp ln lc, .slice pp pn pc] := by rw [hsm6]; rfl
  rw [← hsm6] at hIn6 hs6 ⊢
  rw [hA]
  obtain ⟨W7, hW7⟩ : ∃ W7, W7 = w6.alloc (.cells (smA sm6) 26) := ⟨_, rfl⟩
  have hB7 : Below w6.heap.size w6 W7 := by rw [hW7]; exact (Below.refl _ _).alloc (Nat.le_refl _) _
  have hb7 : W7.heap[w6.heap.size]? = some (.cells (smA sm6) 26) := by rw [hW7]; exact World.alloc_heap_new _ _
  obtain ⟨W8, hW8⟩ : ∃ W8, W8 = W7.alloc (.cells #[.int .u8 1, .int .u8 2, .int .u8 5, .int .u8 2, .int .u8 2, .int .u8 7, .int .u8 9, .int .u8 7, .int .u8 2, .int .u8 0] 5) := ⟨_, rfl⟩
  have hB8 : Below W7.heap.size W7 W8 := by rw [hW8]; exact (Below.refl _ _).alloc (Nat.le_refl _) _
  have hS8 : Sl W8 (some ⟨W7.heap.size, 0, none⟩) 10 (u8s [1, 2, 5, 2, 2, 7, 9, 7, 2, 0]) := by rw [hW8]; exact (SlK.of_blk (k := 1) (n := 10) (World.alloc_heap_new _ _) rfl (by decide)).sl
  have hb8 := heap_below hB8 hb7 (lt_of_heap hb7)
  have hB68 := hB7.trans (hB8.mono hB7.size)
  have hT8 := hT6.next hB68
  have D := decode_any _ 10 10 _ W8 hT8 hS8 (by decide) (by decide)
  rw [small_wrong] at D
  have hS8b := hS6.below hB68
  have hIn8 := hIn6.below hB68
  have hB08 := below_next hB06 hB68
  clear hB7 hb7 hB8 hS8 hB68 hIn6 hS6 hT6 hB06
  have hsm6'h := Lib.hid hsm6
  have hA'h := Lib.hid hA
  have D'h := Lib.hid D
  have hb8'h := Lib.hid hb8
  have hT8'h := Lib.hid hT8
  have hIn8'h := Lib.hid hIn8
  have hB08'h := Lib.hid hB08
  have hs6'h := Lib.hid hs6
  have hS8b'h := Lib.hid hS8b
  have hW7'h := Lib.hid hW7
  have hW8'h := Lib.hid hW8
  clear hsm6 hA D hb8 hT8 hIn8 hB08 hs6 hS8b hW7 hW8
  go_wp2_with fail
  rw [← hA'h.out, ← hW7'h.out, show w6.heap.size + 1 = W7.heap.size by rw [hW7'h.out]; simp, ← hW8'h.out, hA'h.out]
  refine D'h.out.mono ?_
  rintro e w9 ⟨hB9, h9⟩
  simp only at h9
  subst h9
  clear D'h
  have hB10 := (Below.refl w9.heap.size w9).alloc (Nat.le_refl _) (.cells zeroSm 26)
  have hB810 := below_next hB9 hB10
  have hb10 := heap_below hB810 hb8'h.out (lt_of_heap hb8'h.out)
  have hT10 := hT8'h.out.next hB810
  have hIn10 := hIn8'h.out.below hB810
  have hS10 := hS8b'h.out.below hB810
  have hB010 := below_next hB08'h.out hB810
  clear hb8'h hT8'h hIn8'h hS8b'h hB08'h hB9 hB10 hB810
  have hb10'h := Lib.hid hb10
  have hT10'h := Lib.hid hT10
  have hIn10'h := Lib.hid hIn10
  have hS10'h := Lib.hid hS10
  have hB010'h := Lib.hid hB010
  clear hb10 hT10 hIn10 hS10 hB010
  go_upto_region 4 with fail
  change Code.wp _ _ _ _ (w9.alloc (.cells zeroSm 26))
  generalize w9.alloc _ = W at *
  have hb10 := hb10'h.out
  have hT10 := hT10'h.out
  have hIn10 := hIn10'h.out
  have hS10 := hS10'h.out
  have hB010 := hB010'h.out
  clear hb10'h hT10'h hIn10'h hS10'h hB010'h
  rw [hA'h.out] at hb10
  refine wp_region_heldF (fun w' => Below W.heap.size W w') 99 (by kernel_rfl) ?_
  have R := (Below.refl W.heap.size W).drew
  generalize W.drew = V0 at R ⊢
  refine wpAnyF_take (i := 0) (v := .int .i64 0) rfl (by kernel_rfl) (by kernel_rfl) (by kernel_rfl) (by kernel_rfl) (fun _ _ _ h => h) (Or.inl ⟨by kernel_rfl, fun w hSw => by (try dsimp only at hSw); go_simp⟩) R ?_; try simp only [Act.put, List.getElem_toArray, List.getElem_cons_succ, List.getElem_cons_zero, List.setIfInBounds_toArray, List.set_cons_zero, List.set_cons_succ]
  refine wpAnyF_take (i := 1) (v := .bool true) rfl (by kernel_rfl) (by kernel_rfl) (by kernel_rfl) (by kernel_rfl) (fun _ _ _ h => h) (Or.inl ⟨by kernel_rfl, fun w hSw => by (try dsimp only at hSw); go_simp⟩) R ?_; try simp only [Act.put, List.getElem_toArray, List.getElem_cons_succ, List.getElem_cons_zero, List.setIfInBounds_toArray, List.set_cons_zero, List.set_cons_succ]
  refine wpAnyF_take (i := 2) (v := .bool true) rfl (by kernel_rfl) (by kernel_rfl) (by kernel_rfl) (by kernel_rfl) (fun _ _ _ h => h) (Or.inl ⟨by kernel_rfl, fun w hSw => by (try dsimp only at hSw); go_simp⟩) R ?_; try simp only [Act.put, List.getElem_toArray, List.getElem_cons_succ, List.getElem_cons_zero, List.setIfInBounds_toArray, List.set_cons_zero, List.set_cons_succ]
  refine wpAnyF_take (i := 3) (v := .int .i64 0) rfl (by kernel_rfl) (by kernel_rfl) (by kernel_rfl) (by kernel_rfl) (fun _ _ _ h => h) (Or.inl ⟨by kernel_rfl, fun w hSw => by (try dsimp only at hSw); go_simp⟩) R ?_; try simp only [Act.put, List.getElem_toArray, List.getElem_cons_succ, List.getElem_cons_zero, List.setIfInBounds_toArray, List.set_cons_zero, List.set_cons_succ]
  refine wpAnyF_take (i := 4) (v := .bool true) rfl (by kernel_rfl) (by kernel_rfl) (by kernel_rfl) (by kernel_rfl) (fun _ _ _ h => h) (Or.inl ⟨by kernel_rfl, fun w hSw => by (try dsimp only at hSw); go_simp⟩) R ?_; try simp only [Act.put, List.getElem_toArray, List.getElem_cons_succ, List.getElem_cons_zero, List.setIfInBounds_toArray, List.set_cons_zero, List.set_cons_succ]
  refine wpAnyF_take (i := 5) (v := .bool true) rfl (by kernel_rfl) (by kernel_rfl) (by kernel_rfl) (by kernel_rfl) (fun _ _ _ h => h) (Or.inl ⟨by kernel_rfl, fun w hSw => by (try dsimp only at hSw); go_simp⟩) R ?_; try simp only [Act.put, List.getElem_toArray, List.getElem_cons_succ, List.getElem_cons_zero, List.setIfInBounds_toArray, List.set_cons_zero, List.set_cons_succ]
  refine wpAnyF_take (i := 6) (v := .bool true) rfl (by kernel_rfl) (by kernel_rfl) (by kernel_rfl) (by kernel_rfl) (fun _ _ _ h => h) (Or.inl ⟨by kernel_rfl, fun w hSw => by (try dsimp only at hSw); go_simp⟩) R ?_; try simp only [Act.put, List.getElem_toArray, List.getElem_cons_succ, List.getElem_cons_zero, List.setIfInBounds_toArray, List.set_cons_zero, List.set_cons_succ]
  refine wpAnyF_take (i := 7) (v := .int .i64 131) rfl (by kernel_rfl) (by kernel_rfl) (by kernel_rfl) (by kernel_rfl) (fun _ _ _ h => h) (Or.inl ⟨by kernel_rfl, fun w hSw => by (try dsimp only at hSw); go_simp⟩) R ?_; try simp only [Act.put, List.getElem_toArray, List.getElem_cons_succ, List.getElem_cons_zero, List.setIfInBounds_toArray, List.set_cons_zero, List.set_cons_succ]
  refine wpAnyF_take (i := 8) (v := .bool true) rfl (by kernel_rfl) (by kernel_rfl) (by kernel_rfl) (by kernel_rfl) (fun _ _ _ h => h) (Or.inl ⟨by kernel_rfl, fun w hSw => by (try dsimp only at hSw); go_simp⟩) R ?_; try simp only [Act.put, List.getElem_toArray, List.getElem_cons_succ, List.getElem_cons_zero, List.setIfInBounds_toArray, List.set_cons_zero, List.set_cons_succ]
  refine wpAnyF_take (i := 9) (v := .bool true) rfl (by kernel_rfl) (by kernel_rfl) (by kernel_rfl) (by kernel_rfl) (fun _ _ _ h => h) (Or.inl ⟨by kernel_rfl, fun w hSw => by (try dsimp only at hSw); go_simp⟩) R ?_; try simp only [Act.put, List.getElem_toArray, List.getElem_cons_succ, List.getElem_cons_zero, List.setIfInBounds_toArray, List.set_cons_zero, List.set_cons_succ]
  refine wpAnyF_take (i := 10) (v := .bool true) rfl (by kernel_rfl) (by kernel_rfl) (by kernel_rfl) (by kernel_rfl) (fun _ _ _ h => h) (Or.inl ⟨by kernel_rfl, fun w hSw => by (try dsimp only at hSw); go_simp⟩) R ?_; try simp only [Act.put, List.getElem_toArray, List.getElem_cons_succ, List.getElem_cons_zero, List.setIfInBounds_toArray, List.set_cons_zero, List.set_cons_succ]
  refine wpAnyF_take (i := 11) (v := .int .i64 11) rfl (by kernel_rfl) (by kernel_rfl) (by kernel_rfl) (by kernel_rfl) (fun _ _ _ h => h) (Or.inl ⟨by kernel_rfl, fun w hSw => by (try dsimp only at hSw); go_simp⟩) R ?_; try simp only [Act.put, List.getElem_toArray, List.getElem_cons_succ, List.getElem_cons_zero, List.setIfInBounds_toArray, List.set_cons_zero, List.set_cons_succ]
  refine wpAnyF_take (i := 12) (v := .bool true) rfl (by kernel_rfl) (by kernel_rfl) (by kernel_rfl) (by kernel_rfl) (fun _ _ _ h => h) (Or.inl ⟨by kernel_rfl, fun w hSw => by (try dsimp only at hSw); go_simp⟩) R ?_; try simp only [Act.put, List.getElem_toArray, List.getElem_cons_succ, List.getElem_cons_zero, List.setIfInBounds_toArray, List.set_cons_zero, List.set_cons_succ]
  refine wpAnyF_take (i := 13) (v := .bool true) rfl (by kernel_rfl) (by kernel_rfl) (by kernel_rfl) (by kernel_rfl) (fun _ _ _ h => h) (Or.inl ⟨by kernel_rfl, fun w hSw => by (try dsimp only at hSw); go_simp⟩) R ?_; try simp only [Act.put, List.getElem_toArray, List.getElem_cons_succ, List.getElem_cons_zero, List.setIfInBounds_toArray, List.set_cons_zero, List.set_cons_succ]
  refine wpAnyF_take (i := 14) (v := .bool true) rfl (by kernel_rfl) (by kernel_rfl) (by kernel_rfl) (by kernel_rfl) (fun _ _ _ h => h) (Or.inl ⟨by kernel_rfl, fun w hSw => by (try dsimp only at hSw); go_simp⟩) R ?_; try simp only [Act.put, List.getElem_toArray, List.getElem_cons_succ, List.getElem_cons_zero, List.setIfInBounds_toArray, List.set_cons_zero, List.set_cons_succ]
  refine wpAnyF_take (i := 15) (v := .slice bp 11 bc) rfl (by kernel_rfl) (by kernel_rfl) (by kernel_rfl) (by kernel_rfl) (fun _ _ _ h => h) (Or.inl ⟨by kernel_rfl, fun w hSw => by (try dsimp only at hSw); go_simp⟩) R ?_; try simp only [Act.put, List.getElem_toArray, List.getElem_cons_succ, List.getElem_cons_zero, List.setIfInBounds_toArray, List.set_cons_zero, List.set_cons_succ]
  refine wpAnyF_one (i := 16) (by kernel_rfl) rfl (fun K hK => ?_); go_simp
  have R1 := below_next R ((Below.refl V0.heap.size V0).alloc (Nat.le_refl _) (.cells #[.int .u8 1, .int .u8 2, .int .u8 5, .int .u8 2, .int .u8 2, .int .u8 7, .int .u8 9, .int .u8 7, .int .u8 2, .int .u8 0, .int .u8 1] 5))
  have hS1 : Sl (V0.alloc (.cells #[.int .u8 1, .int .u8 2, .int .u8 5, .int .u8 2, .int .u8 2, .int .u8 7, .int .u8 9, .int .u8 7, .int .u8 2, .int .u8 0, .int .u8 1] 5)) (some ⟨V0.heap.size, 0, none⟩) 11 (u8s smallB) := (SlK.of_blk (k := 1) (n := 11) (World.alloc_heap_new _ _) rfl (by decide)).sl
  refine hK.out _ _ (fun _ => R1) ?_; clear hK K; try simp only [Act.put, List.getElem_toArray, List.getElem_cons_succ, List.getElem_cons_zero, List.setIfInBounds_toArray, List.set_cons_zero, List.set_cons_succ]
  refine wpAnyF_one (i := 17) (by kernel_rfl) rfl (fun K hK => ?_); go_simp
  refine (eqB_any _ _ 11 11 _ _ smallB smallB _ (hS10.below R1) hS1 (by decide) (by decide)).mono ?_
  rintro e V1 ⟨rfl, hV1⟩
  rw [hV1, decide_eq_true rfl]
  clear hV1 hS1
  dsimp only
  refine hK.out _ _ (fun _ => R1) ?_; clear hK K; try simp only [Act.put, List.getElem_toArray, List.getElem_cons_succ, List.getElem_cons_zero, List.setIfInBounds_toArray, List.set_cons_zero, List.set_cons_succ]
  generalize V0.alloc _ = V1 at R1 ⊢
  clear R
  refine wpAnyF_take (i := 18) (v := .bool true) rfl (by kernel_rfl) (by kernel_rfl) (by kernel_rfl) (by kernel_rfl) (fun _ _ _ h => h) (Or.inl ⟨by kernel_rfl, fun w hSw => by (try dsimp only at hSw); go_simp⟩) R1 ?_; try simp only [Act.put, List.getElem_toArray, List.getElem_cons_succ, List.getElem_cons_zero, List.setIfInBounds_toArray, List.set_cons_zero, List.set_cons_succ]
  refine wpAnyF_take (i := 19) (v := .bool true) rfl (by kernel_rfl) (by kernel_rfl) (by kernel_rfl) (by kernel_rfl) (fun _ _ _ h => h) (Or.inl ⟨by kernel_rfl, fun w hSw => by (try dsimp only at hSw); go_simp⟩) R1 ?_; try simp only [Act.put, List.getElem_toArray, List.getElem_cons_succ, List.getElem_cons_zero, List.setIfInBounds_toArray, List.set_cons_zero, List.set_cons_succ]
  refine wpAnyF_take (i := 20) (v := .agg #[.int .i64 g, .int .i64 sb, .int .u64 (seed : Int), .slice lp ln lc, .slice pp pn pc]) rfl (by kernel_rfl) (by kernel_rfl) (by kernel_rfl) (by kernel_rfl) (fun _ _ _ h => h) (Or.inl ⟨by kernel_rfl, fun w hSw => run_load_agg (by rfl) (by rfl) (heap_below hSw hb10 (lt_of_heap hb10)) Tryd.underlying26 rfl info_sm⟩) R1 ?_; try simp only [Act.put, List.getElem_toArray, List.getElem_cons_succ, List.getElem_cons_zero, List.setIfInBounds_toArray, List.set_cons_zero, List.set_cons_succ]
  refine wpAnyF_one (i := 21) (by kernel_rfl) rfl (fun K hK => ?_); go_simp
  refine (small_any V1).mono ?_
  rintro e V2 ⟨sm', rfl, hB2, hIn2, hs2⟩
  have R2 := below_next R1 hB2
  clear R1 hB2
  dsimp only
  refine hK.out _ _ (fun _ => R2) ?_; clear hK K; try simp only [Act.put, List.getElem_toArray, List.getElem_cons_succ, List.getElem_cons_zero, List.setIfInBounds_toArray, List.set_cons_zero, List.set_cons_succ]
  refine wpAnyF_one (i := 22) (by kernel_rfl) rfl (fun K hK => ?_); go_simp
  have C := same_any sm6 sm' V2 (hIn10.below R2) hIn2
  rw [hs6'h.out, hs2, decide_eq_true rfl] at C
  rw [hA'h.out] at C
  refine C.mono ?_
  rintro e V3 ⟨rfl, hB3⟩
  have R3 := below_next R2 hB3
  clear R2 hB3 C hIn2
  dsimp only
  refine hK.out _ _ (fun _ => R3) ?_; clear hK K; try simp only [Act.put, List.getElem_toArray, List.getElem_cons_succ, List.getElem_cons_zero, List.setIfInBounds_toArray, List.set_cons_zero, List.set_cons_succ]
  refine wpAnyF_take (i := 23) (v := .bool true) rfl (by kernel_rfl) (by kernel_rfl) (by kernel_rfl) (by kernel_rfl) (fun _ _ _ h => h) (Or.inl ⟨by kernel_rfl, fun w hSw => by (try dsimp only at hSw); go_simp⟩) R3 ?_; try simp only [Act.put, List.getElem_toArray, List.getElem_cons_succ, List.getElem_cons_zero, List.setIfInBounds_toArray, List.set_cons_zero, List.set_cons_succ]
  refine wpAnyF_take (i := 24) (v := .bool true) rfl (by kernel_rfl) (by kernel_rfl) (by kernel_rfl) (by kernel_rfl) (fun _ _ _ h => h) (Or.inl ⟨by kernel_rfl, fun w hSw => by (try dsimp only at hSw); go_simp⟩) R3 ?_; try simp only [Act.put, List.getElem_toArray, List.getElem_cons_succ, List.getElem_cons_zero, List.setIfInBounds_toArray, List.set_cons_zero, List.set_cons_succ]
  refine wpAnyF_one (i := 25) (by kernel_rfl) rfl (fun K hK => ?_); go_simp
  refine (takes_any 4 V3 (hT10.next R3)).mono ?_
  rintro e V4 ⟨rfl, hV4⟩
  rw [hV4, show takesI 4 = 3 from rfl]
  clear hV4
  dsimp only
  refine hK.out _ _ (fun _ => R3) ?_; clear hK K; try simp only [Act.put, List.getElem_toArray, List.getElem_cons_succ, List.getElem_cons_zero, List.setIfInBounds_toArray, List.set_cons_zero, List.set_cons_succ]
  refine wpAnyF_take (i := 26) (v := .bool true) rfl (by kernel_rfl) (by kernel_rfl) (by kernel_rfl) (by kernel_rfl) (fun _ _ _ h => h) (Or.inl ⟨by kernel_rfl, fun w hSw => by (try dsimp only at hSw); go_simp⟩) R3 ?_; try simp only [Act.put, List.getElem_toArray, List.getElem_cons_succ, List.getElem_cons_zero, List.setIfInBounds_toArray, List.set_cons_zero, List.set_cons_succ]
  refine wpAnyF_take (i := 27) (v := .bool true) rfl (by kernel_rfl) (by kernel_rfl) (by kernel_rfl) (by kernel_rfl) (fun _ _ _ h => h) (Or.inl ⟨by kernel_rfl, fun w hSw => by (try dsimp only at hSw); go_simp⟩) R3 ?_; try simp only [Act.put, List.getElem_toArray, List.getElem_cons_succ, List.getElem_cons_zero, List.setIfInBounds_toArray, List.set_cons_zero, List.set_cons_succ]
  refine wpAnyF_take (i := 28) (v := .bool true) rfl (by kernel_rfl) (by kernel_rfl) (by kernel_rfl) (by kernel_rfl) (fun _ _ _ h => h) (Or.inl ⟨by kernel_rfl, fun w hSw => by (try dsimp only at hSw); go_simp⟩) R3 ?_; try simp only [Act.put, List.getElem_toArray, List.getElem_cons_succ, List.getElem_cons_zero, List.setIfInBounds_toArray, List.set_cons_zero, List.set_cons_succ]
  refine wpAnyF_two (i := 29) (j := 30) (by kernel_rfl) rfl rfl (fun K hK => ?_) (fun K hK => ?_)
  ·
    go_simp
    refine (number_any 300 V3 (by decide)).mono ?_
    rw [small_300]
    rintro e V5 ⟨nv, rfl, hrow5, hB5⟩
    obtain ⟨np, nc, rfl⟩ := row_slice' hrow5
    rw [show ([172, 2] : List Nat).length = 2 from rfl] at hrow5 ⊢
    have hS5 := Sl.of_row hrow5 (by decide)
    have R5 := below_next R3 hB5
    clear hB5 hrow5 R3
    dsimp only
    refine hK.out _ _ (fun _ => R5) ?_; clear hK K; try simp only [Act.put, List.getElem_toArray, List.getElem_cons_succ, List.getElem_cons_zero, List.setIfInBounds_toArray, List.set_cons_zero, List.set_cons_succ]
    refine wpAnyF_one (i := 30) (by kernel_rfl) rfl (fun K hK => ?_); go_simp
    have hB6 := (Below.refl V5.heap.size V5).alloc (Nat.le_refl _) (.cells #[.int .u8 172, .int .u8 2] 5)
    have R6 := below_next R5 hB6
    have hS6 : Sl (V5.alloc (.cells #[.int .u8 172, .int .u8 2] 5)) (some ⟨V5.heap.size, 0, none⟩) 2 (u8s [172, 2]) := (SlK.of_blk (k := 1) (n := 2) (World.alloc_heap_new _ _) rfl (by decide)).sl
    have hS5b := hS5.below hB6
    clear hB6 hS5 R5
    refine hK.out _ _ (fun _ => R6) ?_; clear hK K; try simp only [Act.put, List.getElem_toArray, List.getElem_cons_succ, List.getElem_cons_zero, List.setIfInBounds_toArray, List.set_cons_zero, List.set_cons_succ]
    generalize V5.alloc _ = V6 at R6 hS6 hS5b ⊢
    have R7 := R6
    refine wpAnyF_one (i := 31) (by kernel_rfl) rfl (fun K hK => ?_); go_simp
    refine (eqB_any _ _ 2 2 _ _ [172, 2] [172, 2] _ hS5b hS6 (by decide) (by decide)).mono ?_
    rintro e V7 ⟨rfl, hV7⟩
    rw [hV7, decide_eq_true rfl]
    clear hV7
    dsimp only
    refine hK.out _ _ (fun _ => R7) ?_; clear hK K; try simp only [Act.put, List.getElem_toArray, List.getElem_cons_succ, List.getElem_cons_zero, List.setIfInBounds_toArray, List.set_cons_zero, List.set_cons_succ]
    refine wpAnyF_take (i := 32) (v := .bool true) rfl (by kernel_rfl) (by kernel_rfl) (by kernel_rfl) (by kernel_rfl) (fun _ _ _ h => h) (Or.inl ⟨by kernel_rfl, fun w hSw => by (try dsimp only at hSw); go_simp⟩) R7 ?_; try simp only [Act.put, List.getElem_toArray, List.getElem_cons_succ, List.getElem_cons_zero, List.setIfInBounds_toArray, List.set_cons_zero, List.set_cons_succ]
    refine wpAnyF_take (i := 33) (v := .bool true) rfl (by kernel_rfl) (by kernel_rfl) (by kernel_rfl) (by kernel_rfl) (fun _ _ _ h => h) (Or.inl ⟨by kernel_rfl, fun w hSw => by (try dsimp only at hSw); go_simp⟩) R7 ?_; try simp only [Act.put, List.getElem_toArray, List.getElem_cons_succ, List.getElem_cons_zero, List.setIfInBounds_toArray, List.set_cons_zero, List.set_cons_succ]
    refine wpAnyF_take (i := 34) (v := .agg #[.int .i64 g, .int .i64 sb, .int .u64 (seed : Int), .slice lp ln lc, .slice pp pn pc]) rfl (by kernel_rfl) (by kernel_rfl) (by kernel_rfl) (by kernel_rfl) (fun _ _ _ h => h) (Or.inl ⟨by kernel_rfl, fun w hSw => run_load_agg (by rfl) (by rfl) (heap_below hSw hb10 (lt_of_heap hb10)) Tryd.underlying26 rfl info_sm⟩) R7 ?_; try simp only [Act.put, List.getElem_toArray, List.getElem_cons_succ, List.getElem_cons_zero, List.setIfInBounds_toArray, List.set_cons_zero, List.set_cons_succ]
    have hK := fun V (hV : Below W.heap.size W V) => keys_any sm6 V (hT10.next hV) (hIn10.below hV)
    rw [hs6'h.out, small_keys, hA'h.out] at hK
    have hKK := Lib.hid hK
    clear hK
    refine wpAnyF_two (i := 35) (j := 36) (by kernel_rfl) rfl rfl (fun K hK => ?_) (fun K hK => ?_)
    ·
      go_simp
      refine (hKK.out _ R7).mono ?_
      rintro e V8 ⟨kp, kn, kc, rfl, hB8, hrow8⟩
      dsimp only
      have hk1 := hrow8.1
      obtain rfl : kn = 1 := by simpa [u64s] using hk1.symm
      have hSk := Sl.of_row hrow8 (by decide)
      have R8 := below_next R7 hB8
      clear hB8 hrow8 hk1
      refine hK.out _ _ (fun _ => R8) ?_; clear hK K; try simp only [Act.put, List.getElem_toArray, List.getElem_cons_succ, List.getElem_cons_zero, List.setIfInBounds_toArray, List.set_cons_zero, List.set_cons_succ]
      refine wpAnyF_one (i := 36) (by kernel_rfl) rfl (fun K hK => ?_); go_simp
      have hB9 := (Below.refl V8.heap.size V8).alloc (Nat.le_refl _) (.cells #[.int .u64 7] 22)
      have R9 := below_next R8 hB9
      have hS9 : Sl (V8.alloc (.cells #[.int .u64 7] 22)) (some ⟨V8.heap.size, 0, none⟩) 1 (u64s [7]) := (SlK.of_blk (k := 1) (n := 1) (World.alloc_heap_new _ _) rfl (by decide)).sl
      have hSk9 := hSk.below hB9
      clear hB9 hSk
      refine hK.out _ _ (fun _ => R9) ?_; clear hK K; try simp only [Act.put, List.getElem_toArray, List.getElem_cons_succ, List.getElem_cons_zero, List.setIfInBounds_toArray, List.set_cons_zero, List.set_cons_succ]
      refine wpAnyF_one (i := 37) (by kernel_rfl) rfl (fun K hK => ?_); go_simp
      refine (equalU_any _ _ 1 1 _ _ [7] [7] _ hSk9 hS9).mono ?_
      rintro e V9 ⟨rfl, d, hV9⟩
      rw [hV9, decide_eq_true rfl]
      clear hV9
      dsimp only
      have R10 := R9.trans (below_drewN' _ d)
      refine hK.out _ _ (fun _ => R10) ?_; clear hK K; try simp only [Act.put, List.getElem_toArray, List.getElem_cons_succ, List.getElem_cons_zero, List.setIfInBounds_toArray, List.set_cons_zero, List.set_cons_succ]
      refine wpAnyF_take (i := 38) (v := .bool true) rfl (by kernel_rfl) (by kernel_rfl) (by kernel_rfl) (by kernel_rfl) (fun _ _ _ h => h) (Or.inl ⟨by kernel_rfl, fun w hSw => by (try dsimp only at hSw); go_simp⟩) R10 ?_; try simp only [Act.put, List.getElem_toArray, List.getElem_cons_succ, List.getElem_cons_zero, List.setIfInBounds_toArray, List.set_cons_zero, List.set_cons_succ]
      refine wpAnyF_take (i := 39) (v := .bool true) rfl (by kernel_rfl) (by kernel_rfl) (by kernel_rfl) (by kernel_rfl) (fun _ _ _ h => h) (Or.inl ⟨by kernel_rfl, fun w hSw => by (try dsimp only at hSw); go_simp⟩) R10 ?_; try simp only [Act.put, List.getElem_toArray, List.getElem_cons_succ, List.getElem_cons_zero, List.setIfInBounds_toArray, List.set_cons_zero, List.set_cons_succ]
      refine wpAnyF_done (by kernel_rfl) ?_ _
      have hR := below_next hB010 R10
      clear hB010 hT10 hIn10 hS10 hb10 R7 R8 R9 R10 hSk9 hS9 hKK
      generalize World.drewN _ _ = V10 at hR ⊢
      have hRR := Lib.hid hR
      clear hR
      go_wp2
      go_ret
      exact ⟨rfl, hRR.out⟩
    ·
      go_simp
      have hB9 := (Below.refl V6.heap.size V6).alloc (Nat.le_refl _) (.cells #[.int .u64 7] 22)
      have R9 := below_next R7 hB9
      have hS9 : Sl (V6.alloc (.cells #[.int .u64 7] 22)) (some ⟨V6.heap.size, 0, none⟩) 1 (u64s [7]) := (SlK.of_blk (k := 1) (n := 1) (World.alloc_heap_new _ _) rfl (by decide)).sl
      clear hB9
      refine hK.out _ _ (fun _ => R9) ?_; clear hK K; try simp only [Act.put, List.getElem_toArray, List.getElem_cons_succ, List.getElem_cons_zero, List.setIfInBounds_toArray, List.set_cons_zero, List.set_cons_succ]
      refine wpAnyF_one (i := 35) (by kernel_rfl) rfl (fun K hK => ?_); go_simp
      refine (hKK.out _ R9).mono ?_
      rintro e V8 ⟨kp, kn, kc, rfl, hB8, hrow8⟩
      dsimp only
      have hk1 := hrow8.1
      obtain rfl : kn = 1 := by simpa [u64s] using hk1.symm
      have hSk := Sl.of_row hrow8 (by decide)
      have hS10b := hS9.below hB8
      have R8 := below_next R9 hB8
      clear hB8 hrow8 hk1 hS9
      refine hK.out _ _ (fun _ => R8) ?_; clear hK K; try simp only [Act.put, List.getElem_toArray, List.getElem_cons_succ, List.getElem_cons_zero, List.setIfInBounds_toArray, List.set_cons_zero, List.set_cons_succ]
      refine wpAnyF_one (i := 37) (by kernel_rfl) rfl (fun K hK => ?_); go_simp
      refine (equalU_any _ _ 1 1 _ _ [7] [7] _ hSk hS10b).mono ?_
      rintro e V9 ⟨rfl, d, hV9⟩
      rw [hV9, decide_eq_true rfl]
      clear hV9
      dsimp only
      have R10 := R8.trans (below_drewN' _ d)
      refine hK.out _ _ (fun _ => R10) ?_; clear hK K; try simp only [Act.put, List.getElem_toArray, List.getElem_cons_succ, List.getElem_cons_zero, List.setIfInBounds_toArray, List.set_cons_zero, List.set_cons_succ]
      refine wpAnyF_take (i := 38) (v := .bool true) rfl (by kernel_rfl) (by kernel_rfl) (by kernel_rfl) (by kernel_rfl) (fun _ _ _ h => h) (Or.inl ⟨by kernel_rfl, fun w hSw => by (try dsimp only at hSw); go_simp⟩) R10 ?_; try simp only [Act.put, List.getElem_toArray, List.getElem_cons_succ, List.getElem_cons_zero, List.setIfInBounds_toArray, List.set_cons_zero, List.set_cons_succ]
      refine wpAnyF_take (i := 39) (v := .bool true) rfl (by kernel_rfl) (by kernel_rfl) (by kernel_rfl) (by kernel_rfl) (fun _ _ _ h => h) (Or.inl ⟨by kernel_rfl, fun w hSw => by (try dsimp only at hSw); go_simp⟩) R10 ?_; try simp only [Act.put, List.getElem_toArray, List.getElem_cons_succ, List.getElem_cons_zero, List.setIfInBounds_toArray, List.set_cons_zero, List.set_cons_succ]
      refine wpAnyF_done (by kernel_rfl) ?_ _
      have hR := below_next hB010 R10
      clear hB010 hT10 hIn10 hS10 hb10 R7 R8 R9 R10 hSk hS10b hKK
      generalize World.drewN _ _ = V10 at hR ⊢
      have hRR := Lib.hid hR
      clear hR
      go_wp2
      go_ret
      exact ⟨rfl, hRR.out⟩
  ·
    go_simp
    have hB6 := (Below.refl V3.heap.size V3).alloc (Nat.le_refl _) (.cells #[.int .u8 172, .int .u8 2] 5)
    have R6 := below_next R3 hB6
    have hS6 : Sl (V3.alloc (.cells #[.int .u8 172, .int .u8 2] 5)) (some ⟨V3.heap.size, 0, none⟩) 2 (u8s [172, 2]) := (SlK.of_blk (k := 1) (n := 2) (World.alloc_heap_new _ _) rfl (by decide)).sl
    clear hB6 R3
    refine hK.out _ _ (fun _ => R6) ?_; clear hK K; try simp only [Act.put, List.getElem_toArray, List.getElem_cons_succ, List.getElem_cons_zero, List.setIfInBounds_toArray, List.set_cons_zero, List.set_cons_succ]
    generalize V3.alloc _ = V6 at R6 hS6 ⊢
    refine wpAnyF_one (i := 29) (by kernel_rfl) rfl (fun K hK => ?_); go_simp
    refine (number_any 300 V6 (by decide)).mono ?_
    rw [small_300]
    rintro e V5 ⟨nv, rfl, hrow5, hB5⟩
    obtain ⟨np, nc, rfl⟩ := row_slice' hrow5
    rw [show ([172, 2] : List Nat).length = 2 from rfl] at hrow5 ⊢
    have hS5 := Sl.of_row hrow5 (by decide)
    have hS6b := hS6.below hB5
    have R5 := below_next R6 hB5
    clear hB5 hrow5 R6 hS6
    dsimp only
    refine hK.out _ _ (fun _ => R5) ?_; clear hK K; try simp only [Act.put, List.getElem_toArray, List.getElem_cons_succ, List.getElem_cons_zero, List.setIfInBounds_toArray, List.set_cons_zero, List.set_cons_succ]
    have R7 := R5
    refine wpAnyF_one (i := 31) (by kernel_rfl) rfl (fun K hK => ?_); go_simp
    refine (eqB_any _ _ 2 2 _ _ [172, 2] [172, 2] _ hS5 hS6b (by decide) (by decide)).mono ?_
    rintro e V7 ⟨rfl, hV7⟩
    rw [hV7, decide_eq_true rfl]
    clear hV7
    dsimp only
    refine hK.out _ _ (fun _ => R7) ?_; clear hK K; try simp only [Act.put, List.getElem_toArray, List.getElem_cons_succ, List.getElem_cons_zero, List.setIfInBounds_toArray, List.set_cons_zero, List.set_cons_succ]
    refine wpAnyF_take (i := 32) (v := .bool true) rfl (by kernel_rfl) (by kernel_rfl) (by kernel_rfl) (by kernel_rfl) (fun _ _ _ h => h) (Or.inl ⟨by kernel_rfl, fun w hSw => by (try dsimp only at hSw); go_simp⟩) R7 ?_; try simp only [Act.put, List.getElem_toArray, List.getElem_cons_succ, List.getElem_cons_zero, List.setIfInBounds_toArray, List.set_cons_zero, List.set_cons_succ]
    refine wpAnyF_take (i := 33) (v := .bool true) rfl (by kernel_rfl) (by kernel_rfl) (by kernel_rfl) (by kernel_rfl) (fun _ _ _ h => h) (Or.inl ⟨by kernel_rfl, fun w hSw => by (try dsimp only at hSw); go_simp⟩) R7 ?_; try simp only [Act.put, List.getElem_toArray, List.getElem_cons_succ, List.getElem_cons_zero, List.setIfInBounds_toArray, List.set_cons_zero, List.set_cons_succ]
    refine wpAnyF_take (i := 34) (v := .agg #[.int .i64 g, .int .i64 sb, .int .u64 (seed : Int), .slice lp ln lc, .slice pp pn pc]) rfl (by kernel_rfl) (by kernel_rfl) (by kernel_rfl) (by kernel_rfl) (fun _ _ _ h => h) (Or.inl ⟨by kernel_rfl, fun w hSw => run_load_agg (by rfl) (by rfl) (heap_below hSw hb10 (lt_of_heap hb10)) Tryd.underlying26 rfl info_sm⟩) R7 ?_; try simp only [Act.put, List.getElem_toArray, List.getElem_cons_succ, List.getElem_cons_zero, List.setIfInBounds_toArray, List.set_cons_zero, List.set_cons_succ]
    have hK := fun V (hV : Below W.heap.size W V) => keys_any sm6 V (hT10.next hV) (hIn10.below hV)
    rw [hs6'h.out, small_keys, hA'h.out] at hK
    have hKK := Lib.hid hK
    clear hK
    refine wpAnyF_two (i := 35) (j := 36) (by kernel_rfl) rfl rfl (fun K hK => ?_) (fun K hK => ?_)
    ·
      go_simp
      refine (hKK.out _ R7).mono ?_
      rintro e V8 ⟨kp, kn, kc, rfl, hB8, hrow8⟩
      dsimp only
      have hk1 := hrow8.1
      obtain rfl : kn = 1 := by simpa [u64s] using hk1.symm
      have hSk := Sl.of_row hrow8 (by decide)
      have R8 := below_next R7 hB8
      clear hB8 hrow8 hk1
      refine hK.out _ _ (fun _ => R8) ?_; clear hK K; try simp only [Act.put, List.getElem_toArray, List.getElem_cons_succ, List.getElem_cons_zero, List.setIfInBounds_toArray, List.set_cons_zero, List.set_cons_succ]
      refine wpAnyF_one (i := 36) (by kernel_rfl) rfl (fun K hK => ?_); go_simp
      have hB9 := (Below.refl V8.heap.size V8).alloc (Nat.le_refl _) (.cells #[.int .u64 7] 22)
      have R9 := below_next R8 hB9
      have hS9 : Sl (V8.alloc (.cells #[.int .u64 7] 22)) (some ⟨V8.heap.size, 0, none⟩) 1 (u64s [7]) := (SlK.of_blk (k := 1) (n := 1) (World.alloc_heap_new _ _) rfl (by decide)).sl
      have hSk9 := hSk.below hB9
      clear hB9 hSk
      refine hK.out _ _ (fun _ => R9) ?_; clear hK K; try simp only [Act.put, List.getElem_toArray, List.getElem_cons_succ, List.getElem_cons_zero, List.setIfInBounds_toArray, List.set_cons_zero, List.set_cons_succ]
      refine wpAnyF_one (i := 37) (by kernel_rfl) rfl (fun K hK => ?_); go_simp
      refine (equalU_any _ _ 1 1 _ _ [7] [7] _ hSk9 hS9).mono ?_
      rintro e V9 ⟨rfl, d, hV9⟩
      rw [hV9, decide_eq_true rfl]
      clear hV9
      dsimp only
      have R10 := R9.trans (below_drewN' _ d)
      refine hK.out _ _ (fun _ => R10) ?_; clear hK K; try simp only [Act.put, List.getElem_toArray, List.getElem_cons_succ, List.getElem_cons_zero, List.setIfInBounds_toArray, List.set_cons_zero, List.set_cons_succ]
      refine wpAnyF_take (i := 38) (v := .bool true) rfl (by kernel_rfl) (by kernel_rfl) (by kernel_rfl) (by kernel_rfl) (fun _ _ _ h => h) (Or.inl ⟨by kernel_rfl, fun w hSw => by (try dsimp only at hSw); go_simp⟩) R10 ?_; try simp only [Act.put, List.getElem_toArray, List.getElem_cons_succ, List.getElem_cons_zero, List.setIfInBounds_toArray, List.set_cons_zero, List.set_cons_succ]
      refine wpAnyF_take (i := 39) (v := .bool true) rfl (by kernel_rfl) (by kernel_rfl) (by kernel_rfl) (by kernel_rfl) (fun _ _ _ h => h) (Or.inl ⟨by kernel_rfl, fun w hSw => by (try dsimp only at hSw); go_simp⟩) R10 ?_; try simp only [Act.put, List.getElem_toArray, List.getElem_cons_succ, List.getElem_cons_zero, List.setIfInBounds_toArray, List.set_cons_zero, List.set_cons_succ]
      refine wpAnyF_done (by kernel_rfl) ?_ _
      have hR := below_next hB010 R10
      clear hB010 hT10 hIn10 hS10 hb10 R7 R8 R9 R10 hSk9 hS9 hKK
      generalize World.drewN _ _ = V10 at hR ⊢
      have hRR := Lib.hid hR
      clear hR
      go_wp2
      go_ret
      exact ⟨rfl, hRR.out⟩
    ·
      go_simp
      have hB9 := (Below.refl V5.heap.size V5).alloc (Nat.le_refl _) (.cells #[.int .u64 7] 22)
      have R9 := below_next R7 hB9
      have hS9 : Sl (V5.alloc (.cells #[.int .u64 7] 22)) (some ⟨V5.heap.size, 0, none⟩) 1 (u64s [7]) := (SlK.of_blk (k := 1) (n := 1) (World.alloc_heap_new _ _) rfl (by decide)).sl
      clear hB9
      refine hK.out _ _ (fun _ => R9) ?_; clear hK K; try simp only [Act.put, List.getElem_toArray, List.getElem_cons_succ, List.getElem_cons_zero, List.setIfInBounds_toArray, List.set_cons_zero, List.set_cons_succ]
      refine wpAnyF_one (i := 35) (by kernel_rfl) rfl (fun K hK => ?_); go_simp
      refine (hKK.out _ R9).mono ?_
      rintro e V8 ⟨kp, kn, kc, rfl, hB8, hrow8⟩
      dsimp only
      have hk1 := hrow8.1
      obtain rfl : kn = 1 := by simpa [u64s] using hk1.symm
      have hSk := Sl.of_row hrow8 (by decide)
      have hS10b := hS9.below hB8
      have R8 := below_next R9 hB8
      clear hB8 hrow8 hk1 hS9
      refine hK.out _ _ (fun _ => R8) ?_; clear hK K; try simp only [Act.put, List.getElem_toArray, List.getElem_cons_succ, List.getElem_cons_zero, List.setIfInBounds_toArray, List.set_cons_zero, List.set_cons_succ]
      refine wpAnyF_one (i := 37) (by kernel_rfl) rfl (fun K hK => ?_); go_simp
      refine (equalU_any _ _ 1 1 _ _ [7] [7] _ hSk hS10b).mono ?_
      rintro e V9 ⟨rfl, d, hV9⟩
      rw [hV9, decide_eq_true rfl]
      clear hV9
      dsimp only
      have R10 := R8.trans (below_drewN' _ d)
      refine hK.out _ _ (fun _ => R10) ?_; clear hK K; try simp only [Act.put, List.getElem_toArray, List.getElem_cons_succ, List.getElem_cons_zero, List.setIfInBounds_toArray, List.set_cons_zero, List.set_cons_succ]
      refine wpAnyF_take (i := 38) (v := .bool true) rfl (by kernel_rfl) (by kernel_rfl) (by kernel_rfl) (by kernel_rfl) (fun _ _ _ h => h) (Or.inl ⟨by kernel_rfl, fun w hSw => by (try dsimp only at hSw); go_simp⟩) R10 ?_; try simp only [Act.put, List.getElem_toArray, List.getElem_cons_succ, List.getElem_cons_zero, List.setIfInBounds_toArray, List.set_cons_zero, List.set_cons_succ]
      refine wpAnyF_take (i := 39) (v := .bool true) rfl (by kernel_rfl) (by kernel_rfl) (by kernel_rfl) (by kernel_rfl) (fun _ _ _ h => h) (Or.inl ⟨by kernel_rfl, fun w hSw => by (try dsimp only at hSw); go_simp⟩) R10 ?_; try simp only [Act.put, List.getElem_toArray, List.getElem_cons_succ, List.getElem_cons_zero, List.setIfInBounds_toArray, List.set_cons_zero, List.set_cons_succ]
      refine wpAnyF_done (by kernel_rfl) ?_ _
      have hR := below_next hB010 R10
      clear hB010 hT10 hIn10 hS10 hb10 R7 R8 R9 R10 hSk hS10b hKK
      generalize World.drewN _ _ = V10 at hR ⊢
      have hRR := Lib.hid hR
      clear hR
      go_wp2
      go_ret
      exact ⟨rfl, hRR.out⟩
end Go.Proofs.YtifofdciablljaaDoor

/-
  Layer 3 (script): own.
-/
set_option linter.unusedSimpArgs false
set_option linter.unusedVariables false
set_option maxRecDepth 100000
namespace Go.Proofs.YtifofdciablljaaDoor
open Go.RowKit

/-- A script as an argument lies in memory. -/
structure SmArg (w : World) (s : Sm) : Prop where
  rows : SlK w 1 s.lp s.ln (s.rows.map crV)
  each : ∀ r ∈ s.rows, SlK w 4 r.sp r.len (cals r.cs)
  nil : ∀ r ∈ s.rows, r.sp = none → r.cap = 0
  le : ∀ r ∈ s.rows, r.len ≤ r.cap
  ok : ∀ r ∈ s.rows, ∀ c ∈ r.cs, CalOk c
  picks : Sl w s.pp s.pn (u64s s.picks)
  w64 : W64 s.picks
  seed : s.seed < 2 ^ 64
  g : -9223372036854775808 ≤ s.goers ∧ s.goers ≤ 9223372036854775807
  sl : -9223372036854775808 ≤ s.slabs ∧ s.slabs ≤ 9223372036854775807
  lnil : s.lp = none → s.lc = 0
  lle : s.ln ≤ s.lc
  pnil : s.pp = none → s.pc = 0
  ple : s.pn ≤ s.pc
theorem SmArg.below {w w' : World} {s : Sm} (h : SmArg w s) (hb : Below w.heap.size w w') : SmArg w' s :=
  ⟨h.rows.below hb, fun r hr => (h.each r hr).below hb, h.nil, h.le, h.ok, h.picks.below hb, h.w64, h.seed, h.g, h.sl, h.lnil, h.lle, h.pnil, h.ple⟩
def ownS (s : Scr) : Scr := ⟨s.goers, s.slabs, s.seed, (s.lists.take 10).map (·.take 66), s.picks.take 4100⟩
theorem blk_apart {W : World} {b B : Nat} {e t : TypeId} {k n : Nat} {v : Value} {xs : List Value} {cs : Array Value} (h : W.ownsRow B e k v n xs) (hb : W.heap[b]? = some (.cells cs t (0, 0))) (hne : e ≠ t) : ∀ g, v.ownBlock = some g → some b ≠ some g := by
  intro g hg he
  injection he with he
  subst he
  rcases h.2 with ⟨rfl, -⟩ | ⟨b', cap, cur, rfl, -, hh, -⟩
  · cases hg
  · have e1 : b' = b := by injection hg
    rw [e1, hb] at hh
    injection hh with hh
    injection hh with _ hh _
    exact hne hh.symm
theorem ownsRow_kept {w w' : World} {B : Nat} {e : TypeId} {k n : Nat} {v : Value} {xs : List Value} (h : w.ownsRow B e k v n xs) (hh : Kept (fun b => B ≤ b) w w') : w'.ownsRow B e k v n xs := by
  refine ⟨h.1, h.2.imp id ?_⟩
  rintro ⟨g, cap, cur, h1, hb, hg, hr⟩
  exact ⟨g, cap, cur, h1, hb, (hh.block g (lt_of_heap hg) hb).trans hg, hr⟩
/-- While a script is laid together in a block of one's own. -/
structure OutI (W0 : World) (ob : Nat) (v0 v1 v2 lv pv : Value) (rows : List CRow) (ps : List Nat) (wr : World) : Prop where
  low : Below W0.heap.size W0 wr
  blk : wr.heap[ob]? = some (.cells #[v0, v1, v2, lv, pv] 26)
  hob : W0.heap.size ≤ ob
  outer : wr.ownsRow W0.heap.size 55 1 lv rows.length (rows.map crV)
  inner : ∀ r ∈ rows, wr.ownsRow W0.heap.size 57 4 (crV r) r.len (cals r.cs)
  len : ∀ r ∈ rows, r.len = r.cs.length ∧ r.cs.length ≤ 66 ∧ ∀ c ∈ r.cs, CalOk c
  picks : wr.ownsRow W0.heap.size 22 1 pv ps.length (u64s ps)
section
variable {W0 : World} {ob : Nat} {v0 v1 v2 lv pv : Value} {rows : List CRow} {ps : List Nat} {wr wr' : World}
theorem OutI.next (h : OutI W0 ob v0 v1 v2 lv pv rows ps wr) (hb : Below wr.heap.size wr wr') : OutI W0 ob v0 v1 v2 lv pv rows ps wr' :=
  ⟨below_next h.low hb, heap_below hb h.blk (lt_of_heap h.blk), h.hob, ownsRow_next h.outer hb, fun r hr => ownsRow_next (h.inner r hr) hb, h.len, ownsRow_next h.picks hb⟩
theorem OutI.c3 (h : OutI W0 ob v0 v1 v2 lv pv rows ps wr) : wr.cell? ⟨ob, 3, none⟩ = some lv := blk_cell (i := 3) h.blk rfl
theorem OutI.kept (h : OutI W0 ob v0 v1 v2 lv pv rows ps wr) (hg : wr.grownBy wr' lv.ownBlock) : wr'.heap[ob]? = some (.cells #[v0, v1, v2, lv, pv] 26) :=
  (hg.block ob (lt_of_heap h.blk) (blk_other' h.outer h.blk)).trans h.blk
where blk_other' {W : World} {b B : Nat} {n : Nat} {v : Value} {xs : List Value} {cs : Array Value} (h : W.ownsRow B 55 1 v n xs) (hb : W.heap[b]? = some (.cells cs 26 (0, 0))) : some b ≠ v.ownBlock := fun e => blk_apart h hb (by decide) b e.symm rfl
/-- A row more, and the store of the row of rows. -/
theorem OutI.push {r : CRow} {lv' : Value} (h : OutI W0 ob v0 v1 v2 lv pv rows ps wr) (hr : wr.ownsRow W0.heap.size 57 4 (crV r) r.len (cals r.cs)) (hl : r.len = r.cs.length ∧ r.cs.length ≤ 66 ∧ ∀ c ∈ r.cs, CalOk c)
    (ho : wr'.ownsRow W0.heap.size 55 1 lv' (rows.length + 1) (rows.map crV ++ [crV r])) (hg : wr.grownBy wr' lv.ownBlock) : OutI W0 ob v0 v1 v2 lv' pv (rows ++ [r]) ps (wr'.setCell ⟨ob, 3, none⟩ lv') := by
  have hne : ∀ (x : CRow), wr.ownsRow W0.heap.size 57 4 (crV x) x.len (cals x.cs) → ∀ g, (crV x).ownBlock = some g → lv.ownBlock ≠ some g := fun x hx => ownsRow_apart hx h.outer (by decide)
  have hb' := h.kept hg
  have z1 : ∀ x ∈ rows ++ [r], wr'.ownsRow W0.heap.size 57 4 (crV x) x.len (cals x.cs) := fun x hx => by
    rcases List.mem_append.1 hx with hx | hx
    · exact ownsRow_other (h.inner x hx) hg (hne x (h.inner x hx))
    · obtain rfl : x = r := by simpa using hx
      exact ownsRow_other hr hg (hne x hr)
  have z2 := ownsRow_other h.picks hg (ownsRow_apart h.picks h.outer (by decide))
  have hgT : wr'.grownBy (wr'.setCell ⟨ob, 3, none⟩ lv') (some ob) := ⟨rfl, rfl, rfl, by simp [World.setCell], fun k hk hne => Below.heap_setCell _ _ _ _ (fun e => hne (by rw [e]))⟩
  refine ⟨(h.low.grown hg h.low.size (fun k hk => (h.outer.lt k hk).1)).grown hgT ?_ (fun k hk => by injection hk with hk; subst hk; exact h.hob), ?_, h.hob, ?_, fun x hx => ?_, fun x hx => ?_, ?_⟩
  · exact Nat.le_trans h.low.size hg.size
  · exact blk_set (i := 3) _ hb'
  · have : wr'.ownsRow W0.heap.size 55 1 lv' (rows ++ [r]).length ((rows ++ [r]).map crV) := by simpa using ho
    exact ownsRow_other this hgT (blk_apart this hb' (by decide))
  · exact ownsRow_other (z1 x hx) hgT (blk_apart (z1 x hx) hb' (by decide))
  · rcases List.mem_append.1 hx with hx | hx
    · exact h.len x hx
    · obtain rfl : x = r := by simpa using hx
      exact hl
  · exact ownsRow_other z2 hgT (blk_apart z2 hb' (by decide))
/-- The script, as it lies. -/
theorem OutI.script {lp : Option Addr} {ln lc : Nat} {pp : Option Addr} {pn pc : Nat} {g sb : Int} {seed : Nat} (h : OutI W0 ob (.int .i64 g) (.int .i64 sb) (.int .u64 (seed : Int)) (.slice lp ln lc) (.slice pp pn pc) rows ps wr)
    (hg : -9223372036854775808 ≤ g ∧ g ≤ 9223372036854775807) (hsb : -9223372036854775808 ≤ sb ∧ sb ≤ 9223372036854775807) (hseed : seed < 2 ^ 64) (hn : rows.length ≤ 16) (hp : ps.length ≤ 4200) (h64 : W64 ps) :
    SmIn wr ⟨g, sb, seed, lp, ln, lc, rows, pp, pn, pc, ps⟩ ∧ SmOwn W0.heap.size ⟨g, sb, seed, lp, ln, lc, rows, pp, pn, pc, ps⟩ wr ∧ ln = rows.length ∧ pn = ps.length := by
  obtain ⟨s1, c1, e1, k1, k2, -⟩ := row_form h.outer
  obtain ⟨s2, c2, e2, k3, k4, -⟩ := row_form h.picks
  have hln : ln = rows.length := by injection e1
  have hpn : pn = ps.length := by injection e2
  have hlc : c1 = lc := by injection e1 with a b c; exact c.symm
  have hpc : c2 = pc := by injection e2 with a b c; exact c.symm
  have hls : s1 = lp := by injection e1 with a b c; exact a.symm
  have hps : s2 = pp := by injection e2 with a b c; exact a.symm
  subst hlc hpc hls hps hln hpn
  have m1 : rows.length ≤ maxLen := by unfold maxLen; omega
  have m2 : ps.length ≤ maxLen := by unfold maxLen; omega
  refine ⟨⟨⟨SlK.of_row h.outer m1, fun r hr => ?_, fun r hr => ?_, fun r hr => ?_, fun r hr => (h.len r hr).2.2, hn, fun r hr => (h.len r hr).2.1⟩,
    (SlK.of_row h.picks m2).sl, h64, hseed, hg, hsb, k2, k1, k4, k3, hp⟩, ⟨h.outer, h.inner, h.picks⟩, rfl, rfl⟩
  · exact SlK.of_row (h.inner r hr) (by have := h.len r hr; unfold maxLen; omega)
  · exact row_nil' (h.inner r hr)
  · obtain ⟨s3, c3, e3, k5, -, -⟩ := row_form (h.inner r hr)
    have hc : r.cap = c3 := by unfold crV at e3; injection e3
    rw [hc]; exact k5
end
/-- A script of one's own. -/
def CutAt (w : World) (S : Scr) (e : Ending) (w' : World) : Prop := ∃ sm : Sm, e = .returned (.agg (smA sm)) ∧ Below w.heap.size w w' ∧ SmIn w' sm ∧ SmOwn w.heap.size sm w' ∧ sm.scr = S
theorem SmOwn.mono {B B' : Nat} {sm : Sm} {w : World} (h : SmOwn B sm w) (hb : B' ≤ B) : SmOwn B' sm w :=
  ⟨ownsRow_mono h.outer hb, fun r hr => ownsRow_mono (h.inner r hr) hb, ownsRow_mono h.picks hb⟩
set_option maxHeartbeats 4000000 in
theorem own_own (s : Sm) (w : World) (h : SmArg w s) :
    Calls Tryd.prog 10 #[.agg (smA s)] w fun e w' => CutAt w (ownS s.scr) e w' := by
  obtain ⟨g, sb, seed, lp, ln, lc, rows, pp, pn, pc, ps⟩ := s
  have hg := h.g
  have hsb := h.sl
  have hseed := h.seed
  have hlnm := h.rows.2.1
  have hrl : ln = rows.length := by have := h.rows.1; simpa using this.symm
  obtain ⟨m, hm⟩ : ∃ m : Nat, min (pn : Int) 4100 = (m : Int) := ⟨(min (pn : Int) 4100).toNat, by omega⟩
  have hmp : m ≤ pn := by omega
  have hpl : pn = ps.length := by have := h.picks.1; rw [u64s_length] at this; exact this
  have hpm : ps.take 4100 = ps.take m := List.take_eq_take_iff.2 (by omega)
  have hk64 : W64 (ps.take m) := fun k hk => h.w64 k (List.mem_of_mem_take hk)
  have hple := h.ple
  have hpnil := h.pnil
  simp only at hg hsb hseed hlnm hple hpnil
  have i1 : (m : Int) ≤ (pc : Int) := by omega
  have i2 : ¬ (m : Int) < 0 := by omega
  obtain ⟨W0, hW0⟩ : ∃ W0, W0 = (w.alloc (.cells #[.int .i64 g, .int .i64 sb, .int .u64 (seed : Int), .slice lp ln lc, .slice pp pn pc] 26)).alloc (.cells zeroSm 26) := ⟨_, rfl⟩
  have hB00 : Below w.heap.size w W0 := by rw [hW0]; exact ((Below.refl _ _).alloc (Nat.le_refl _) _).alloc (by simp) _
  have hbx : W0.heap[w.heap.size]? = some (.cells #[.int .i64 g, .int .i64 sb, .int .u64 (seed : Int), .slice lp ln lc, .slice pp pn pc] 26) := by rw [hW0]; exact (Below.heap_alloc _ _ _ (by simp)).trans (World.alloc_heap_new _ _)
  have hbr : W0.heap[w.heap.size + 1]? = some (.cells zeroSm 26) := by rw [hW0]; exact heap_alloc2_new w _ _
  have hW0s : W0.heap.size = w.heap.size + 2 := by rw [hW0]; simp
  have hA0 := h.below hB00
  have hP0 := hA0.picks.take m hmp
  rw [u64s_take] at hP0
  have hPn : pp = none → pc = 0 := hpnil
  obtain ⟨i0, hi, hz, hs, hby⟩ := info_parts info_lst
  unfold smA
  simp only
  have R := (Below.refl W0.heap.size W0).drew
  have hP1 := hP0.below R
  have x0 : W0.cell? ⟨w.heap.size, 0, none⟩ = some (.int .i64 g) := blk_cell (i := 0) hbx rfl
  have x1 : W0.cell? ⟨w.heap.size, 1, none⟩ = some (.int .i64 sb) := blk_cell (i := 1) hbx rfl
  have x2 : W0.cell? ⟨w.heap.size, 2, none⟩ = some (.int .u64 (seed : Int)) := blk_cell (i := 2) hbx rfl
  have x4 : W0.cell? ⟨w.heap.size, 4, none⟩ = some (.slice pp pn pc) := blk_cell (i := 4) hbx rfl
  have hxl := lt_of_heap hbx
  clear hple hpnil hP0
  have h'h := Lib.hid h
  have hg'h := Lib.hid hg
  have hsb'h := Lib.hid hsb
  have hseed'h := Lib.hid hseed
  have hlnm'h := Lib.hid hlnm
  have hrl'h := Lib.hid hrl
  have hmp'h := Lib.hid hmp
  have hpl'h := Lib.hid hpl
  have hpm'h := Lib.hid hpm
  have hk64'h := Lib.hid hk64
  have hB00'h := Lib.hid hB00
  have hbx'h := Lib.hid hbx
  have hbr'h := Lib.hid hbr
  have hW0s'h := Lib.hid hW0s
  have hA0'h := Lib.hid hA0
  have hPn'h := Lib.hid hPn
  have hP1'h := Lib.hid hP1
  have R'h := Lib.hid R
  clear h hg hsb hseed hlnm hrl hmp hpl hpm hk64 hB00 hbx hbr hW0s hA0 hPn hP1 R
  go_enter Tryd.func10, Tryd.ntmps10
  go_upto_region 1 with fail
  change Code.wp _ _ _ _ ((w.alloc (.cells #[.int .i64 g, .int .i64 sb, .int .u64 (seed : Int), .slice lp ln lc, .slice pp pn pc] 26)).alloc (.cells zeroSm 26))
  rw [← hW0]
  refine wp_region_heldF (fun w' => Below W0.heap.size W0 w') 99 (by kernel_rfl) ?_
  clear hW0
  have R := R'h.out
  clear R'h
  have hP1 := hP1'h.out
  clear hP1'h
  generalize W0.drew = V0 at R hP1 ⊢
  refine wpAnyF_take (i := 0) (v := .pointer (some ⟨w.heap.size, 0, none⟩)) rfl (by kernel_rfl) (by kernel_rfl) (by kernel_rfl) (by kernel_rfl) (fun _ _ _ h => h) (Or.inl ⟨by kernel_rfl, fun w hSw => by (try dsimp only at hSw); go_simp⟩) R ?_; try simp only [Act.put, List.getElem_toArray, List.getElem_cons_succ, List.getElem_cons_zero, List.setIfInBounds_toArray, List.set_cons_zero, List.set_cons_succ]
  refine wpAnyF_take (i := 1) (v := .int .i64 g) rfl (by kernel_rfl) (by kernel_rfl) (by kernel_rfl) (by kernel_rfl) (fun _ _ _ h => h) (Or.inl ⟨by kernel_rfl, fun w hSw => by have hcc := (hSw.cell hxl).trans x0; (try dsimp only at hSw); go_simp⟩) R ?_; try simp only [Act.put, List.getElem_toArray, List.getElem_cons_succ, List.getElem_cons_zero, List.setIfInBounds_toArray, List.set_cons_zero, List.set_cons_succ]
  refine wpAnyF_take (i := 2) (v := .pointer (some ⟨w.heap.size, 1, none⟩)) rfl (by kernel_rfl) (by kernel_rfl) (by kernel_rfl) (by kernel_rfl) (fun _ _ _ h => h) (Or.inl ⟨by kernel_rfl, fun w hSw => by (try dsimp only at hSw); go_simp⟩) R ?_; try simp only [Act.put, List.getElem_toArray, List.getElem_cons_succ, List.getElem_cons_zero, List.setIfInBounds_toArray, List.set_cons_zero, List.set_cons_succ]
  refine wpAnyF_take (i := 3) (v := .int .i64 sb) rfl (by kernel_rfl) (by kernel_rfl) (by kernel_rfl) (by kernel_rfl) (fun _ _ _ h => h) (Or.inl ⟨by kernel_rfl, fun w hSw => by have hcc := (hSw.cell hxl).trans x1; (try dsimp only at hSw); go_simp⟩) R ?_; try simp only [Act.put, List.getElem_toArray, List.getElem_cons_succ, List.getElem_cons_zero, List.setIfInBounds_toArray, List.set_cons_zero, List.set_cons_succ]
  refine wpAnyF_take (i := 4) (v := .pointer (some ⟨w.heap.size, 2, none⟩)) rfl (by kernel_rfl) (by kernel_rfl) (by kernel_rfl) (by kernel_rfl) (fun _ _ _ h => h) (Or.inl ⟨by kernel_rfl, fun w hSw => by (try dsimp only at hSw); go_simp⟩) R ?_; try simp only [Act.put, List.getElem_toArray, List.getElem_cons_succ, List.getElem_cons_zero, List.setIfInBounds_toArray, List.set_cons_zero, List.set_cons_succ]
  refine wpAnyF_take (i := 5) (v := .int .u64 (seed : Int)) rfl (by kernel_rfl) (by kernel_rfl) (by kernel_rfl) (by kernel_rfl) (fun _ _ _ h => h) (Or.inl ⟨by kernel_rfl, fun w hSw => by have hcc := (hSw.cell hxl).trans x2; (try dsimp only at hSw); go_simp⟩) R ?_; try simp only [Act.put, List.getElem_toArray, List.getElem_cons_succ, List.getElem_cons_zero, List.setIfInBounds_toArray, List.set_cons_zero, List.set_cons_succ]
  refine wpAnyF_take (i := 6) (v := .pointer (some ⟨w.heap.size, 4, none⟩)) rfl (by kernel_rfl) (by kernel_rfl) (by kernel_rfl) (by kernel_rfl) (fun _ _ _ h => h) (Or.inl ⟨by kernel_rfl, fun w hSw => by (try dsimp only at hSw); go_simp⟩) R ?_; try simp only [Act.put, List.getElem_toArray, List.getElem_cons_succ, List.getElem_cons_zero, List.setIfInBounds_toArray, List.set_cons_zero, List.set_cons_succ]
  refine wpAnyF_take (i := 7) (v := .slice pp pn pc) rfl (by kernel_rfl) (by kernel_rfl) (by kernel_rfl) (by kernel_rfl) (fun _ _ _ h => h) (Or.inl ⟨by kernel_rfl, fun w hSw => by have hcc := (hSw.cell hxl).trans x4; (try dsimp only at hSw); go_simp⟩) R ?_; try simp only [Act.put, List.getElem_toArray, List.getElem_cons_succ, List.getElem_cons_zero, List.setIfInBounds_toArray, List.set_cons_zero, List.set_cons_succ]
  refine wpAnyF_take (i := 8) (v := .pointer (some ⟨w.heap.size, 4, none⟩)) rfl (by kernel_rfl) (by kernel_rfl) (by kernel_rfl) (by kernel_rfl) (fun _ _ _ h => h) (Or.inl ⟨by kernel_rfl, fun w hSw => by (try dsimp only at hSw); go_simp⟩) R ?_; try simp only [Act.put, List.getElem_toArray, List.getElem_cons_succ, List.getElem_cons_zero, List.setIfInBounds_toArray, List.set_cons_zero, List.set_cons_succ]
  refine wpAnyF_take (i := 9) (v := .slice pp pn pc) rfl (by kernel_rfl) (by kernel_rfl) (by kernel_rfl) (by kernel_rfl) (fun _ _ _ h => h) (Or.inl ⟨by kernel_rfl, fun w hSw => by have hcc := (hSw.cell hxl).trans x4; (try dsimp only at hSw); go_simp⟩) R ?_; try simp only [Act.put, List.getElem_toArray, List.getElem_cons_succ, List.getElem_cons_zero, List.setIfInBounds_toArray, List.set_cons_zero, List.set_cons_succ]
  refine wpAnyF_take (i := 10) (v := .int .i64 (pn : Int)) rfl (by kernel_rfl) (by kernel_rfl) (by kernel_rfl) (by kernel_rfl) (fun _ _ _ h => h) (Or.inl ⟨by kernel_rfl, fun w hSw => by (try dsimp only at hSw); go_simp⟩) R ?_; try simp only [Act.put, List.getElem_toArray, List.getElem_cons_succ, List.getElem_cons_zero, List.setIfInBounds_toArray, List.set_cons_zero, List.set_cons_succ]
  refine wpAnyF_take (i := 11) (v := .int .i64 (m : Int)) rfl (by kernel_rfl) (by kernel_rfl) (by kernel_rfl) (by kernel_rfl) (fun _ _ _ h => h) (Or.inl ⟨by kernel_rfl, fun w hSw => by (try dsimp only at hSw); go_simp⟩) R ?_; try simp only [Act.put, List.getElem_toArray, List.getElem_cons_succ, List.getElem_cons_zero, List.setIfInBounds_toArray, List.set_cons_zero, List.set_cons_succ]
  refine wpAnyF_take (i := 12) (v := .slice pp m pc) rfl (by kernel_rfl) (by kernel_rfl) (by kernel_rfl) (by kernel_rfl) (fun _ _ _ h => h) (Or.inl ⟨by kernel_rfl, fun w hSw => by (try dsimp only at hSw); go_simp⟩) R ?_; try simp only [Act.put, List.getElem_toArray, List.getElem_cons_succ, List.getElem_cons_zero, List.setIfInBounds_toArray, List.set_cons_zero, List.set_cons_succ]
  clear x0 x1 x2 x4
  refine wpAnyF_two (i := 13) (j := 15) (by kernel_rfl) rfl rfl (fun K hK => ?_) (fun K hK => ?_)
  ·
    go_simp
    refine (clone64_any pp m pc (u64s (ps.take m)) V0 (by omega) (oneCell_u64s _) hPn'h.out hP1).mono ?_
    rintro e V1 ⟨cp, cc, rfl, hB1, hrow1⟩
    dsimp only
    have R1 := below_next R hB1
    have hrow1 := ownsRow_mono hrow1 R.size
    clear hB1 R hP1
    refine hK.out _ _ (fun _ => R1) ?_; clear hK K; try simp only [Act.put, List.getElem_toArray, List.getElem_cons_succ, List.getElem_cons_zero, List.setIfInBounds_toArray, List.set_cons_zero, List.set_cons_succ]
    refine wpAnyF_take (i := 14) (v := .agg #[.int .i64 g, .int .i64 sb, .int .u64 (seed : Int), .slice none 0 0, .slice cp m cc]) rfl (by kernel_rfl) (by kernel_rfl) (by kernel_rfl) (by kernel_rfl) (fun _ _ _ h => h) (Or.inl ⟨by kernel_rfl, fun w hSw => by (try dsimp only at hSw); go_simp⟩) R1 ?_; try simp only [Act.put, List.getElem_toArray, List.getElem_cons_succ, List.getElem_cons_zero, List.setIfInBounds_toArray, List.set_cons_zero, List.set_cons_succ]
    refine wpAnyF_one (i := 15) (by kernel_rfl) rfl (fun K hK => ?_); go_simp
    have R2 := below_next R1 ((Below.refl V1.heap.size V1).alloc (Nat.le_refl _) (.cells zeroSm 26))
    refine hK.out _ _ (fun _ => R2) ?_; clear hK K; try simp only [Act.put, List.getElem_toArray, List.getElem_cons_succ, List.getElem_cons_zero, List.setIfInBounds_toArray, List.set_cons_zero, List.set_cons_succ]
    refine wpAnyF_one (i := 16) (by kernel_rfl) rfl (fun K hK => ?_); go_simp
    have hlen : (ps.take m).length = m := by rw [List.length_take]; have := hmp'h.out; have := hpl'h.out; omega
    have hI0 : OutI W0 V1.heap.size (.int .i64 g) (.int .i64 sb) (.int .u64 (seed : Int)) (.slice none 0 0) (.slice cp m cc) [] (ps.take m) (V1.alloc (.cells #[.int .i64 g, .int .i64 sb, .int .u64 (seed : Int), .slice none 0 0, .slice cp m cc] 26)) :=
      ⟨below_next R1 ((Below.refl V1.heap.size V1).alloc (Nat.le_refl _) _), World.alloc_heap_new _ _, R1.size, ⟨rfl, .inl ⟨rfl, rfl⟩⟩, fun r hr => by simp at hr, fun r hr => by simp at hr, by rw [hlen]; exact ownsRow_next hrow1 ((Below.refl V1.heap.size V1).alloc (Nat.le_refl _) _)⟩
    refine hK.out _ _ (fun _ => hI0.low) ?_
    clear hK K R1 R2 hrow1 hlen
    try simp only [Act.put, List.getElem_toArray, List.getElem_cons_succ, List.getElem_cons_zero, List.setIfInBounds_toArray, List.set_cons_zero, List.set_cons_succ]
    refine wpAnyF_done (by kernel_rfl) ?_ _
    generalize hob : V1.heap.size = ob at hI0 ⊢
    generalize V1.alloc _ = W9 at hI0 ⊢
    clear hob
    have hI9 : OutI W0 ob (.int .i64 g) (.int .i64 sb) (.int .u64 (seed : Int)) (.slice none 0 0) (.slice cp m cc) [] (ps.take m) W9 := hI0
    have x3 : W9.cell? ⟨w.heap.size, 3, none⟩ = some (.slice lp ln lc) := blk_cell (i := 3) (heap_below hI9.low hbx'h.out (lt_of_heap hbx'h.out)) rfl
    have hI9'h := Lib.hid hI9
    clear hI9
    go_wp2
    go_loopg [24] ln (fun q ix wr => ∃ (j : Nat) (outs : List CRow) (lv : Value), j + q = ln ∧ ix = .int .i64 (j : Int) ∧ outs.length = min j 10 ∧ outs.map (·.cs) = ((rows.take j).take 10).map (fun r => r.cs.take 66) ∧ OutI W0 ob (.int .i64 g) (.int .i64 sb) (.int .u64 (seed : Int)) lv (.slice cp m cc) outs (ps.take m) wr)
    case atStart => exact ⟨0, [], _, by omega, rfl, rfl, rfl, hI9'h.out⟩
    case round =>
      obtain ⟨j, outs, lv, hj, rfl, hol, hom, hI⟩ := hrel
      clear hI9'h x3
      obtain ⟨op, oc, rfl⟩ := row_slice' hI.outer
      by_cases hlt : j < ln
      · have i1 : (j : Int) < (ln : Int) := by omega
        have i2 : (0 : Int) ≤ (j : Int) := by omega
        have i3 : (j : Int) < 9223372036854775807 := by have := hlnm'h.out; unfold maxLen at this; omega
        have hA := hA0'h.out.below hI.low
        obtain ⟨b, o, hsp, hc⟩ := hA.rows.some' (by simp only; omega)
        simp only at hsp
        have hjl : j < rows.length := by have := hrl'h.out; omega
        obtain ⟨r, hr⟩ : ∃ r, r = nthR rows j := ⟨_, rfl⟩
        have hmem : r ∈ rows := by rw [hr]; exact nthR_mem hjl
        have c1 : wr.cell? ⟨b, o + j, none⟩ = some (.slice r.sp r.len r.cap) := by
          have := hc j (crV r) (by rw [List.getElem?_map, nthR_at hjl, hr]; rfl)
          exact this
        have hE := hA.each r hmem
        have hN := hA.nil r hmem
        have hL := hA.le r hmem
        have hO := hA.ok r hmem
        have htk : rows.take (j + 1) = rows.take j ++ [r] := by
          rw [List.take_succ_eq_append_getElem hjl]
          have := nthR_at hjl
          rw [List.getElem?_eq_getElem hjl] at this
          injection this with this
          rw [this, hr]
        obtain ⟨rs, rl, rc, rws⟩ := r
        simp only at c1 hE hN hL hO
        have hrl4 : rl = rws.length := slk_len calL_len (by decide) hE
        clear hr hc hmem
        rw [hsp]
        by_cases h10 : j < 10
        · have i4 : (j : Int) < 10 := by omega
          obtain ⟨k, hk⟩ : ∃ k : Nat, min (rl : Int) 66 = (k : Int) := ⟨(min (rl : Int) 66).toNat, by omega⟩
          have hk66 : k ≤ 66 := by omega
          have hkr : k ≤ rl := by omega
          have hkn : k = min 66 rws.length := by omega
          have hEk : SlK wr 4 rs k (cals (rws.take k)) := by
            have := hE.take k hkr
            unfold cals at this ⊢
            rw [flat_take calL_len] at this
            exact this
          have i5 : (k : Int) ≤ (rc : Int) := by omega
          have i6 : ¬ (k : Int) < 0 := by omega
          obtain ⟨V0, hV0⟩ : ∃ V0, V0 = wr.drew := ⟨_, rfl⟩
          have hB0 : Below wr.heap.size wr V0 := by rw [hV0]; exact (Below.refl wr.heap.size wr).drew
          have hIV := hI.next hB0
          have hEV := hEk.below hB0
          have hoc : outs.length ≤ 10 := by omega
          have R4 := hIV.c3
          have hlz := hIV.low.size
          clear hE hI hB0 hL hEk
          have hj'h := Lib.hid hj
          have hol'h := Lib.hid hol
          have hom'h := Lib.hid hom
          have hIV'h := Lib.hid hIV
          have hEV'h := Lib.hid hEV
          have hkr'h := Lib.hid hkr
          have hkn'h := Lib.hid hkn
          have hO'h := Lib.hid hO
          have htk'h := Lib.hid htk
          have hrl4'h := Lib.hid hrl4
          have hN'h := Lib.hid hN
          have hoc'h := Lib.hid hoc
          have hlz'h := Lib.hid hlz
          clear hj hol hom hIV hEV hkr hkn hO htk hrl4 hN hoc hlz
          go_upto_region 6 with fail
          refine wp_region_heldF (fun w' => w'.cell? ⟨ob, 3, none⟩ = some (.slice op outs.length oc)) 11 (by kernel_rfl) ?_
          rw [← hV0]
          clear hV0
          refine wpAnyF_take (i := 0) (v := .pointer (some ⟨ob, 3, none⟩)) rfl (by kernel_rfl) (by kernel_rfl) (by kernel_rfl) (by kernel_rfl) (fun _ _ _ h => h) (Or.inl ⟨by kernel_rfl, fun w hSw => by (try dsimp only at hSw); go_simp⟩) R4 ?_; try simp only [Act.put, List.getElem_toArray, List.getElem_cons_succ, List.getElem_cons_zero, List.setIfInBounds_toArray, List.set_cons_zero, List.set_cons_succ]
          refine wpAnyF_take (i := 1) (v := .slice op outs.length oc) rfl (by kernel_rfl) (by kernel_rfl) (by kernel_rfl) (by kernel_rfl) (fun _ _ _ h => h) (Or.inl ⟨by kernel_rfl, fun w hSw => by (try dsimp only at hSw); go_simp⟩) R4 ?_; try simp only [Act.put, List.getElem_toArray, List.getElem_cons_succ, List.getElem_cons_zero, List.setIfInBounds_toArray, List.set_cons_zero, List.set_cons_succ]
          refine wpAnyF_take (i := 2) (v := .slice rs rl rc) rfl (by kernel_rfl) (by kernel_rfl) (by kernel_rfl) (by kernel_rfl) (fun _ _ _ h => h) (Or.inl ⟨by kernel_rfl, fun w hSw => by (try dsimp only at hSw); go_simp⟩) R4 ?_; try simp only [Act.put, List.getElem_toArray, List.getElem_cons_succ, List.getElem_cons_zero, List.setIfInBounds_toArray, List.set_cons_zero, List.set_cons_succ]
          refine wpAnyF_take (i := 3) (v := .slice rs rl rc) rfl (by kernel_rfl) (by kernel_rfl) (by kernel_rfl) (by kernel_rfl) (fun _ _ _ h => h) (Or.inl ⟨by kernel_rfl, fun w hSw => by (try dsimp only at hSw); go_simp⟩) R4 ?_; try simp only [Act.put, List.getElem_toArray, List.getElem_cons_succ, List.getElem_cons_zero, List.setIfInBounds_toArray, List.set_cons_zero, List.set_cons_succ]
          refine wpAnyF_take (i := 4) (v := .int .i64 (rl : Int)) rfl (by kernel_rfl) (by kernel_rfl) (by kernel_rfl) (by kernel_rfl) (fun _ _ _ h => h) (Or.inl ⟨by kernel_rfl, fun w hSw => by (try dsimp only at hSw); go_simp⟩) R4 ?_; try simp only [Act.put, List.getElem_toArray, List.getElem_cons_succ, List.getElem_cons_zero, List.setIfInBounds_toArray, List.set_cons_zero, List.set_cons_succ]
          refine wpAnyF_take (i := 5) (v := .int .i64 (k : Int)) rfl (by kernel_rfl) (by kernel_rfl) (by kernel_rfl) (by kernel_rfl) (fun _ _ _ h => h) (Or.inl ⟨by kernel_rfl, fun w hSw => by (try dsimp only at hSw); go_simp⟩) R4 ?_; try simp only [Act.put, List.getElem_toArray, List.getElem_cons_succ, List.getElem_cons_zero, List.setIfInBounds_toArray, List.set_cons_zero, List.set_cons_succ]
          refine wpAnyF_take (i := 6) (v := .slice rs k rc) rfl (by kernel_rfl) (by kernel_rfl) (by kernel_rfl) (by kernel_rfl) (fun _ _ _ h => h) (Or.inl ⟨by kernel_rfl, fun w hSw => by (try dsimp only at hSw); go_simp⟩) R4 ?_; try simp only [Act.put, List.getElem_toArray, List.getElem_cons_succ, List.getElem_cons_zero, List.setIfInBounds_toArray, List.set_cons_zero, List.set_cons_succ]
          refine wpAnyF_one (i := 7) (by kernel_rfl) rfl (fun K hK => ?_); go_simp
          refine (cloneCal_any rs k rc (cals (rws.take k)) V0 (by omega) (cals_one _) hN'h.out hEV'h.out).mono ?_
          rintro e V1 ⟨ks, kc, rfl, hB1, hrow1⟩
          dsimp only
          have hI1 := hIV'h.out.next hB1
          have hrow1 := ownsRow_mono hrow1 hlz'h.out
          clear R4 hB1 hIV'h hEV'h
          have R4 := hI1.c3
          refine hK.out _ _ (fun _ => R4) ?_; clear hK K; try simp only [Act.put, List.getElem_toArray, List.getElem_cons_succ, List.getElem_cons_zero, List.setIfInBounds_toArray, List.set_cons_zero, List.set_cons_succ]
          refine wpAnyF_one (i := 8) (by kernel_rfl) rfl (fun K hK => ?_); go_simp
          have hB2 := (Below.refl V1.heap.size V1).alloc (Nat.le_refl _) (.cells #[.slice ks k kc] 55)
          have hI2 := hI1.next hB2
          have hrow2 := ownsRow_next hrow1 hB2
          have hsl : SlK (V1.alloc (.cells #[.slice ks k kc] 55)) 1 (some ⟨V1.heap.size, 0, none⟩) 1 [crV ⟨ks, k, kc, rws.take k⟩] := SlK.of_blk (World.alloc_heap_new _ _) rfl (by decide)
          clear R4 hI1 hrow1 hB2
          have R4 := hI2.c3
          refine hK.out _ _ (fun _ => R4) ?_; clear hK K; try simp only [Act.put, List.getElem_toArray, List.getElem_cons_succ, List.getElem_cons_zero, List.setIfInBounds_toArray, List.set_cons_zero, List.set_cons_succ]
          generalize V1.alloc _ = V2 at R4 hI2 hrow2 hsl ⊢
          refine wpAnyF_one (i := 9) (by kernel_rfl) rfl (fun K hK => ?_)
          refine step_append_slk _ rfl (.tmp 32) (.tmp 39) 23 rfl W0.heap.size 55 i0 (.slice none 0 0) 1 24 Tryd.underlying23 hi hz hs hby rfl (by decide) (.slice op outs.length oc) outs.length (outs.map crV) rfl hI2.outer _ 1 1 _ rfl hsl (by intro v hv; simp at hv; subst hv; rfl) (by have := hoc'h.out; unfold maxLen; omega) (by have := hoc'h.out; omega) hI2.low.size ?_
          intro v' V3 hown3 hgrow3 hwh3
          have hI4 := hI2.push (r := ⟨ks, k, kc, rws.take k⟩) hrow2 ⟨by show k = (rws.take k).length; rw [List.length_take]; have := hkr'h.out; have := hrl4'h.out; omega, by show (rws.take k).length ≤ 66; rw [List.length_take]; omega, fun c hc => hO'h.out c (List.mem_of_mem_take hc)⟩ hown3 hgrow3
          have hb3 := hI2.kept hgrow3
          obtain ⟨sp', cp', hv', -, -, -⟩ := row_form hown3
          subst hv'
          have y9 : V3.cell? ⟨ob, 3, none⟩ = some (.slice op outs.length oc) := blk_cell (i := 3) hb3 rfl
          have f9 := blk_free 3 hb3
          clear hgrow3 hwh3 hown3 R4 hI2 hsl hb3 hrow2
          refine hK.out _ _ (fun _ => y9) ?_; clear hK K; try simp only [Act.put, List.getElem_toArray, List.getElem_cons_succ, List.getElem_cons_zero, List.setIfInBounds_toArray, List.set_cons_zero, List.set_cons_succ]
          refine wpAnyF_one (i := 10) (by kernel_rfl) rfl (fun K hK => ?_); go_simp
          refine hK.out _ _ (fun _ => y9) ?_; clear hK K; try simp only [Act.put, List.getElem_toArray, List.getElem_cons_succ, List.getElem_cons_zero, List.setIfInBounds_toArray, List.set_cons_zero, List.set_cons_succ]
          refine wpAnyF_one (i := 11) (by kernel_rfl) rfl (fun K hK => ?_); go_simp
          refine hK.out _ _ (fun h => absurd rfl h) ?_
          clear hK K y9 f9
          try simp only [Act.put, List.getElem_toArray, List.getElem_cons_succ, List.getElem_cons_zero, List.setIfInBounds_toArray, List.set_cons_zero, List.set_cons_succ]
          refine wpAnyF_done (by kernel_rfl) ?_ _
          have hI4'h := Lib.hid hI4
          clear hI4
          go_wp2
          rw [← hsp]
          go_roundg (gk - 1)
          case measure => have := hj'h.out; omega
          case rel => exact ⟨j + 1, outs ++ [⟨ks, k, kc, rws.take k⟩], _, by have := hj'h.out; omega, by go_num, by rw [List.length_append, hol'h.out]; show min j 10 + 1 = _; omega, by
            have hjl' : (rows.take j).length = j := by rw [List.length_take]; omega
            have e66 : rws.take k = rws.take 66 := by rw [hkn'h.out]; exact List.take_eq_take_iff.2 (by omega)
            rw [htk'h.out, List.map_append, hom'h.out, List.take_of_length_le (l := rows.take j ++ _) (by rw [List.length_append, hjl', List.length_singleton]; omega), List.take_of_length_le (l := rows.take j) (by rw [hjl']; omega), List.map_append]
            rw [e66]; rfl, hI4'h.out⟩
        · have i4 : ¬ (j : Int) < 10 := by omega
          have hj'h := Lib.hid hj
          have hol'h := Lib.hid hol
          have hom'h := Lib.hid hom
          have hI'h := Lib.hid hI
          have htk'h := Lib.hid htk
          clear hj hol hom hI htk
          clear hE hL hO hN hrl4
          go_wp2
          rw [← hsp]
          go_roundg (gk - 1)
          case measure => have := hj'h.out; omega
          case rel => exact ⟨j + 1, outs, _, by have := hj'h.out; omega, by go_num, by rw [hol'h.out]; omega, by
            have hjl' : (rows.take j).length = j := by rw [List.length_take]; omega
            rw [htk'h.out, List.take_append_of_le_length (by rw [hjl']; omega)]; exact hom'h.out, hI'h.out⟩
      · have i1 : ¬ (j : Int) < (ln : Int) := by omega
        have hjn : j = rows.length := by have := hrl'h.out; omega
        rw [hjn, List.take_length] at hom
        obtain ⟨hIn, hOwn, -, -⟩ := hI.script hg'h.out hsb'h.out hseed'h.out (by omega) (by rw [List.length_take]; omega) hk64'h.out
        have hb0 := hI.blk
        have y0 : wr.cell? ⟨ob, 0, none⟩ = some (.int .i64 g) := blk_cell (i := 0) hb0 rfl
        have y1 : wr.cell? ⟨ob, 1, none⟩ = some (.int .i64 sb) := blk_cell (i := 1) hb0 rfl
        have y2 : wr.cell? ⟨ob, 2, none⟩ = some (.int .u64 (seed : Int)) := blk_cell (i := 2) hb0 rfl
        have y3 : wr.cell? ⟨ob, 3, none⟩ = some (.slice op outs.length oc) := blk_cell (i := 3) hb0 rfl
        have y4 : wr.cell? ⟨ob, 4, none⟩ = some (.slice cp m cc) := blk_cell (i := 4) hb0 rfl
        have hbr := heap_below hI.low hbr'h.out (lt_of_heap hbr'h.out)
        have z0 : wr.cell? ⟨w.heap.size + 1, 0, none⟩ = some (.int .i64 0) := blk_cell (i := 0) hbr rfl
        have z1 : wr.cell? ⟨w.heap.size + 1, 1, none⟩ = some (.int .i64 0) := blk_cell (i := 1) hbr rfl
        have z2 : wr.cell? ⟨w.heap.size + 1, 2, none⟩ = some (.int .u64 0) := blk_cell (i := 2) hbr rfl
        have z3 : wr.cell? ⟨w.heap.size + 1, 3, none⟩ = some (.slice none 0 0) := blk_cell (i := 3) hbr rfl
        have z4 : wr.cell? ⟨w.heap.size + 1, 4, none⟩ = some (.slice none 0 0) := blk_cell (i := 4) hbr rfl
        have f0 := blk_free 0 hbr
        have f1 := blk_free 1 hbr
        have f2 := blk_free 2 hbr
        have f3 := blk_free 3 hbr
        have f4 := blk_free 4 hbr
        have hlow := hB00'h.out.trans (hI.low.mono (by rw [hW0s'h.out]; omega))
        clear hI hb0 hj
        rw [hjn]
        rw [hjn] at i1
        have hom'h := Lib.hid hom
        have hIn'h := Lib.hid hIn
        have hOwn'h := Lib.hid hOwn
        have hbr'h := Lib.hid hbr
        have hlow'h := Lib.hid hlow
        have hol'h := Lib.hid hol
        clear hom hIn hOwn hbr hlow hol
        go_wp2
        have hK5 := ((((Kept.setCell (fun b => W0.heap.size ≤ b) wr ⟨w.heap.size + 1, 0, none⟩ (.int .i64 g) (by simp only; rw [hW0s'h.out]; omega)).trans (Kept.setCell _ _ ⟨w.heap.size + 1, 1, none⟩ (.int .i64 sb) (by simp only; rw [hW0s'h.out]; omega))).trans (Kept.setCell _ _ ⟨w.heap.size + 1, 2, none⟩ (.int .u64 (seed : Int)) (by simp only; rw [hW0s'h.out]; omega))).trans (Kept.setCell _ _ ⟨w.heap.size + 1, 3, none⟩ (.slice op outs.length oc) (by simp only; rw [hW0s'h.out]; omega))).trans (Kept.setCell _ _ ⟨w.heap.size + 1, 4, none⟩ (.slice cp m cc) (by simp only; rw [hW0s'h.out]; omega))
        have hOwn2 := hOwn'h.out.keep hK5
        have hIn2 := hIn'h.out.own hOwn2
        have hlow2 := ((((hlow'h.out.setCell (p := ⟨w.heap.size + 1, 0, none⟩) (by simp) (.int .i64 g)).setCell (p := ⟨w.heap.size + 1, 1, none⟩) (by simp) (.int .i64 sb)).setCell (p := ⟨w.heap.size + 1, 2, none⟩) (by simp) (.int .u64 (seed : Int))).setCell (p := ⟨w.heap.size + 1, 3, none⟩) (by simp) (.slice op outs.length oc)).setCell (p := ⟨w.heap.size + 1, 4, none⟩) (by simp) (.slice cp m cc)
        have hbr2 := blk_set (i := 4) (.slice cp m cc) (blk_set (i := 3) (.slice op outs.length oc) (blk_set (i := 2) (.int .u64 (seed : Int)) (blk_set (i := 1) (.int .i64 sb) (blk_set (i := 0) (.int .i64 g) hbr'h.out))))
        clear y0 y1 y2 y3 y4 z0 z1 z2 z3 z4 f0 f1 f2 f3 f4 hK5
        generalize World.setCell _ _ _ = W2 at hIn2 hlow2 hbr2 hOwn2 ⊢
        have d0 : W2.cell? ⟨w.heap.size + 1, 0, none⟩ = some (.int .i64 g) := blk_cell (i := 0) hbr2 rfl
        have d1 : W2.cell? ⟨w.heap.size + 1, 1, none⟩ = some (.int .i64 sb) := blk_cell (i := 1) hbr2 rfl
        have d2 : W2.cell? ⟨w.heap.size + 1, 2, none⟩ = some (.int .u64 (seed : Int)) := blk_cell (i := 2) hbr2 rfl
        have d3 : W2.cell? ⟨w.heap.size + 1, 3, none⟩ = some (.slice op outs.length oc) := blk_cell (i := 3) hbr2 rfl
        have d4 : W2.cell? ⟨w.heap.size + 1, 4, none⟩ = some (.slice cp m cc) := blk_cell (i := 4) hbr2 rfl
        have hfin : CutAt w (ownS (Sm.scr ⟨g, sb, seed, lp, ln, lc, rows, pp, pn, pc, ps⟩)) (.returned (.agg (smA ⟨g, sb, seed, op, outs.length, oc, outs, cp, m, cc, ps.take m⟩))) W2 := by
          refine ⟨_, rfl, hlow2, hIn2, hOwn2.mono (by rw [hW0s'h.out]; omega), ?_⟩
          unfold ownS Sm.scr
          simp only
          rw [hom'h.out, ← List.map_take, List.map_map, hpm'h.out]
          rfl
        unfold smA at hfin
        clear hIn2 hbr2 hlow2 hOwn2
        refine bodyPost_ret (v := .agg #[.int .i64 g, .int .i64 sb, .int .u64 (seed : Int), .slice op outs.length oc, .slice cp m cc]) ?_ rfl hfin
        simp [results, Tryd.results10, go_sem, d0, d1, d2, d3, d4]
  ·
    go_simp
    have R1 := below_next R ((Below.refl V0.heap.size V0).alloc (Nat.le_refl _) (.cells zeroSm 26))
    have hob0 : W0.heap.size ≤ V0.heap.size := R.size
    have hb1 : (V0.alloc (.cells zeroSm 26)).heap[V0.heap.size]? = some (.cells zeroSm 26) := World.alloc_heap_new _ _
    have hP2 := hP1.below ((Below.refl V0.heap.size V0).alloc (Nat.le_refl _) (.cells zeroSm 26))
    refine hK.out _ _ (fun _ => R1) ?_; clear hK K; try simp only [Act.put, List.getElem_toArray, List.getElem_cons_succ, List.getElem_cons_zero, List.setIfInBounds_toArray, List.set_cons_zero, List.set_cons_succ]
    clear R hP1
    generalize V0.heap.size = ob at hob0 hb1 ⊢
    generalize V0.alloc _ = V1 at R1 hb1 hP2 ⊢
    refine wpAnyF_one (i := 13) (by kernel_rfl) rfl (fun K hK => ?_); go_simp
    refine (clone64_any pp m pc (u64s (ps.take m)) V1 (by omega) (oneCell_u64s _) hPn'h.out hP2).mono ?_
    rintro e V2 ⟨cp, cc, rfl, hB2, hrow2⟩
    dsimp only
    have R2 := below_next R1 hB2
    have hb2 := heap_below hB2 hb1 (lt_of_heap hb1)
    have hlo := lt_of_heap hb1
    have hw1 := R1.size
    clear hB2 R1 hP2 hb1
    refine hK.out _ _ (fun _ => R2) ?_; clear hK K; try simp only [Act.put, List.getElem_toArray, List.getElem_cons_succ, List.getElem_cons_zero, List.setIfInBounds_toArray, List.set_cons_zero, List.set_cons_succ]
    refine wpAnyF_take (i := 14) (v := .agg #[.int .i64 g, .int .i64 sb, .int .u64 (seed : Int), .slice none 0 0, .slice cp m cc]) rfl (by kernel_rfl) (by kernel_rfl) (by kernel_rfl) (by kernel_rfl) (fun _ _ _ h => h) (Or.inl ⟨by kernel_rfl, fun w hSw => by (try dsimp only at hSw); go_simp⟩) R2 ?_; try simp only [Act.put, List.getElem_toArray, List.getElem_cons_succ, List.getElem_cons_zero, List.setIfInBounds_toArray, List.set_cons_zero, List.set_cons_succ]
    have z0 : V2.cell? ⟨ob, 0, none⟩ = some (.int .i64 0) := blk_cell (i := 0) hb2 rfl
    have z1 : V2.cell? ⟨ob, 1, none⟩ = some (.int .i64 0) := blk_cell (i := 1) hb2 rfl
    have z2 : V2.cell? ⟨ob, 2, none⟩ = some (.int .u64 0) := blk_cell (i := 2) hb2 rfl
    have z3 : V2.cell? ⟨ob, 3, none⟩ = some (.slice none 0 0) := blk_cell (i := 3) hb2 rfl
    have z4 : V2.cell? ⟨ob, 4, none⟩ = some (.slice none 0 0) := blk_cell (i := 4) hb2 rfl
    have f0 := blk_free 0 hb2
    have f1 := blk_free 1 hb2
    have f2 := blk_free 2 hb2
    have f3 := blk_free 3 hb2
    have f4 := blk_free 4 hb2
    refine wpAnyF_one (i := 16) (by kernel_rfl) rfl (fun K hK => ?_); go_simp
    have hlen : (ps.take m).length = m := by rw [List.length_take]; have := hmp'h.out; have := hpl'h.out; omega
    have hK5 := ((((Kept.setCell (fun b => V1.heap.size ≤ b) V2 ⟨ob, 0, none⟩ (.int .i64 g) (by simp only; omega)).trans (Kept.setCell _ _ ⟨ob, 1, none⟩ (.int .i64 sb) (by simp only; omega))).trans (Kept.setCell _ _ ⟨ob, 2, none⟩ (.int .u64 (seed : Int)) (by simp only; omega))).trans (Kept.setCell _ _ ⟨ob, 3, none⟩ (.slice none 0 0) (by simp only; omega))).trans (Kept.setCell _ _ ⟨ob, 4, none⟩ (.slice cp m cc) (by simp only; omega))
    have hrow3 := ownsRow_mono (ownsRow_kept hrow2 hK5) hw1
    have hb3 := blk_set (i := 4) (.slice cp m cc) (blk_set (i := 3) (.slice none 0 0) (blk_set (i := 2) (.int .u64 (seed : Int)) (blk_set (i := 1) (.int .i64 sb) (blk_set (i := 0) (.int .i64 g) hb2))))
    have R3 := ((((R2.setCell (p := ⟨ob, 0, none⟩) hob0 (.int .i64 g)).setCell (p := ⟨ob, 1, none⟩) hob0 (.int .i64 sb)).setCell (p := ⟨ob, 2, none⟩) hob0 (.int .u64 (seed : Int))).setCell (p := ⟨ob, 3, none⟩) hob0 (.slice none 0 0)).setCell (p := ⟨ob, 4, none⟩) hob0 (.slice cp m cc)
    refine hK.out _ _ (fun _ => R3) ?_
    clear hK K R2 hrow2 hK5 z0 z1 z2 z3 z4 f0 f1 f2 f3 f4 hb2
    generalize World.setCell _ _ _ = W9 at hrow3 hb3 R3 ⊢
    have hI0 : OutI W0 ob (.int .i64 g) (.int .i64 sb) (.int .u64 (seed : Int)) (.slice none 0 0) (.slice cp m cc) [] (ps.take m) W9 :=
      ⟨R3, hb3, hob0, ⟨rfl, .inl ⟨rfl, rfl⟩⟩, fun r hr => by simp at hr, fun r hr => by simp at hr, by rw [hlen]; exact hrow3⟩
    clear hrow3 hb3 R3 hlen hlo hw1 hob0
    try simp only [Act.put, List.getElem_toArray, List.getElem_cons_succ, List.getElem_cons_zero, List.setIfInBounds_toArray, List.set_cons_zero, List.set_cons_succ]
    refine wpAnyF_done (by kernel_rfl) ?_ _
    have hI9 : OutI W0 ob (.int .i64 g) (.int .i64 sb) (.int .u64 (seed : Int)) (.slice none 0 0) (.slice cp m cc) [] (ps.take m) W9 := hI0
    have x3 : W9.cell? ⟨w.heap.size, 3, none⟩ = some (.slice lp ln lc) := blk_cell (i := 3) (heap_below hI9.low hbx'h.out (lt_of_heap hbx'h.out)) rfl
    have hI9'h := Lib.hid hI9
    clear hI9
    go_wp2
    go_loopg [24] ln (fun q ix wr => ∃ (j : Nat) (outs : List CRow) (lv : Value), j + q = ln ∧ ix = .int .i64 (j : Int) ∧ outs.length = min j 10 ∧ outs.map (·.cs) = ((rows.take j).take 10).map (fun r => r.cs.take 66) ∧ OutI W0 ob (.int .i64 g) (.int .i64 sb) (.int .u64 (seed : Int)) lv (.slice cp m cc) outs (ps.take m) wr)
    case atStart => exact ⟨0, [], _, by omega, rfl, rfl, rfl, hI9'h.out⟩
    case round =>
      obtain ⟨j, outs, lv, hj, rfl, hol, hom, hI⟩ := hrel
      clear hI9'h x3
      obtain ⟨op, oc, rfl⟩ := row_slice' hI.outer
      by_cases hlt : j < ln
      · have i1 : (j : Int) < (ln : Int) := by omega
        have i2 : (0 : Int) ≤ (j : Int) := by omega
        have i3 : (j : Int) < 9223372036854775807 := by have := hlnm'h.out; unfold maxLen at this; omega
        have hA := hA0'h.out.below hI.low
        obtain ⟨b, o, hsp, hc⟩ := hA.rows.some' (by simp only; omega)
        simp only at hsp
        have hjl : j < rows.length := by have := hrl'h.out; omega
        obtain ⟨r, hr⟩ : ∃ r, r = nthR rows j := ⟨_, rfl⟩
        have hmem : r ∈ rows := by rw [hr]; exact nthR_mem hjl
        have c1 : wr.cell? ⟨b, o + j, none⟩ = some (.slice r.sp r.len r.cap) := by
          have := hc j (crV r) (by rw [List.getElem?_map, nthR_at hjl, hr]; rfl)
          exact this
        have hE := hA.each r hmem
        have hN := hA.nil r hmem
        have hL := hA.le r hmem
        have hO := hA.ok r hmem
        have htk : rows.take (j + 1) = rows.take j ++ [r] := by
          rw [List.take_succ_eq_append_getElem hjl]
          have := nthR_at hjl
          rw [List.getElem?_eq_getElem hjl] at this
          injection this with this
          rw [this, hr]
        obtain ⟨rs, rl, rc, rws⟩ := r
        simp only at c1 hE hN hL hO
        have hrl4 : rl = rws.length := slk_len calL_len (by decide) hE
        clear hr hc hmem
        rw [hsp]
        by_cases h10 : j < 10
        · have i4 : (j : Int) < 10 := by omega
          obtain ⟨k, hk⟩ : ∃ k : Nat, min (rl : Int) 66 = (k : Int) := ⟨(min (rl : Int) 66).toNat, by omega⟩
          have hk66 : k ≤ 66 := by omega
          have hkr : k ≤ rl := by omega
          have hkn : k = min 66 rws.length := by omega
          have hEk : SlK wr 4 rs k (cals (rws.take k)) := by
            have := hE.take k hkr
            unfold cals at this ⊢
            rw [flat_take calL_len] at this
            exact this
          have i5 : (k : Int) ≤ (rc : Int) := by omega
          have i6 : ¬ (k : Int) < 0 := by omega
          obtain ⟨V0, hV0⟩ : ∃ V0, V0 = wr.drew := ⟨_, rfl⟩
          have hB0 : Below wr.heap.size wr V0 := by rw [hV0]; exact (Below.refl wr.heap.size wr).drew
          have hIV := hI.next hB0
          have hEV := hEk.below hB0
          have hoc : outs.length ≤ 10 := by omega
          have R4 := hIV.c3
          have hlz := hIV.low.size
          clear hE hI hB0 hL hEk
          have hj'h := Lib.hid hj
          have hol'h := Lib.hid hol
          have hom'h := Lib.hid hom
          have hIV'h := Lib.hid hIV
          have hEV'h := Lib.hid hEV
          have hkr'h := Lib.hid hkr
          have hkn'h := Lib.hid hkn
          have hO'h := Lib.hid hO
          have htk'h := Lib.hid htk
          have hrl4'h := Lib.hid hrl4
          have hN'h := Lib.hid hN
          have hoc'h := Lib.hid hoc
          have hlz'h := Lib.hid hlz
          clear hj hol hom hIV hEV hkr hkn hO htk hrl4 hN hoc hlz
          go_upto_region 6 with fail
          refine wp_region_heldF (fun w' => w'.cell? ⟨ob, 3, none⟩ = some (.slice op outs.length oc)) 11 (by kernel_rfl) ?_
          rw [← hV0]
          clear hV0
          refine wpAnyF_take (i := 0) (v := .pointer (some ⟨ob, 3, none⟩)) rfl (by kernel_rfl) (by kernel_rfl) (by kernel_rfl) (by kernel_rfl) (fun _ _ _ h => h) (Or.inl ⟨by kernel_rfl, fun w hSw => by (try dsimp only at hSw); go_simp⟩) R4 ?_; try simp only [Act.put, List.getElem_toArray, List.getElem_cons_succ, List.getElem_cons_zero, List.setIfInBounds_toArray, List.set_cons_zero, List.set_cons_succ]
          refine wpAnyF_take (i := 1) (v := .slice op outs.length oc) rfl (by kernel_rfl) (by kernel_rfl) (by kernel_rfl) (by kernel_rfl) (fun _ _ _ h => h) (Or.inl ⟨by kernel_rfl, fun w hSw => by (try dsimp only at hSw); go_simp⟩) R4 ?_; try simp only [Act.put, List.getElem_toArray, List.getElem_cons_succ, List.getElem_cons_zero, List.setIfInBounds_toArray, List.set_cons_zero, List.set_cons_succ]
          refine wpAnyF_take (i := 2) (v := .slice rs rl rc) rfl (by kernel_rfl) (by kernel_rfl) (by kernel_rfl) (by kernel_rfl) (fun _ _ _ h => h) (Or.inl ⟨by kernel_rfl, fun w hSw => by (try dsimp only at hSw); go_simp⟩) R4 ?_; try simp only [Act.put, List.getElem_toArray, List.getElem_cons_succ, List.getElem_cons_zero, List.setIfInBounds_toArray, List.set_cons_zero, List.set_cons_succ]
          refine wpAnyF_take (i := 3) (v := .slice rs rl rc) rfl (by kernel_rfl) (by kernel_rfl) (by kernel_rfl) (by kernel_rfl) (fun _ _ _ h => h) (Or.inl ⟨by kernel_rfl, fun w hSw => by (try dsimp only at hSw); go_simp⟩) R4 ?_; try simp only [Act.put, List.getElem_toArray, List.getElem_cons_succ, List.getElem_cons_zero, List.setIfInBounds_toArray, List.set_cons_zero, List.set_cons_succ]
          refine wpAnyF_take (i := 4) (v := .int .i64 (rl : Int)) rfl (by kernel_rfl) (by kernel_rfl) (by kernel_rfl) (by kernel_rfl) (fun _ _ _ h => h) (Or.inl ⟨by kernel_rfl, fun w hSw => by (try dsimp only at hSw); go_simp⟩) R4 ?_; try simp only [Act.put, List.getElem_toArray, List.getElem_cons_succ, List.getElem_cons_zero, List.setIfInBounds_toArray, List.set_cons_zero, List.set_cons_succ]
          refine wpAnyF_take (i := 5) (v := .int .i64 (k : Int)) rfl (by kernel_rfl) (by kernel_rfl) (by kernel_rfl) (by kernel_rfl) (fun _ _ _ h => h) (Or.inl ⟨by kernel_rfl, fun w hSw => by (try dsimp only at hSw); go_simp⟩) R4 ?_; try simp only [Act.put, List.getElem_toArray, List.getElem_cons_succ, List.getElem_cons_zero, List.setIfInBounds_toArray, List.set_cons_zero, List.set_cons_succ]
          refine wpAnyF_take (i := 6) (v := .slice rs k rc) rfl (by kernel_rfl) (by kernel_rfl) (by kernel_rfl) (by kernel_rfl) (fun _ _ _ h => h) (Or.inl ⟨by kernel_rfl, fun w hSw => by (try dsimp only at hSw); go_simp⟩) R4 ?_; try simp only [Act.put, List.getElem_toArray, List.getElem_cons_succ, List.getElem_cons_zero, List.setIfInBounds_toArray, List.set_cons_zero, List.set_cons_succ]
          refine wpAnyF_one (i := 7) (by kernel_rfl) rfl (fun K hK => ?_); go_simp
          refine (cloneCal_any rs k rc (cals (rws.take k)) V0 (by omega) (cals_one _) hN'h.out hEV'h.out).mono ?_
          rintro e V1 ⟨ks, kc, rfl, hB1, hrow1⟩
          dsimp only
          have hI1 := hIV'h.out.next hB1
          have hrow1 := ownsRow_mono hrow1 hlz'h.out
          clear R4 hB1 hIV'h hEV'h
          have R4 := hI1.c3
          refine hK.out _ _ (fun _ => R4) ?_; clear hK K; try simp only [Act.put, List.getElem_toArray, List.getElem_cons_succ, List.getElem_cons_zero, List.setIfInBounds_toArray, List.set_cons_zero, List.set_cons_succ]
          refine wpAnyF_one (i := 8) (by kernel_rfl) rfl (fun K hK => ?_); go_simp
          have hB2 := (Below.refl V1.heap.size V1).alloc (Nat.le_refl _) (.cells #[.slice ks k kc] 55)
          have hI2 := hI1.next hB2
          have hrow2 := ownsRow_next hrow1 hB2
          have hsl : SlK (V1.alloc (.cells #[.slice ks k kc] 55)) 1 (some ⟨V1.heap.size, 0, none⟩) 1 [crV ⟨ks, k, kc, rws.take k⟩] := SlK.of_blk (World.alloc_heap_new _ _) rfl (by decide)
          clear R4 hI1 hrow1 hB2
          have R4 := hI2.c3
          refine hK.out _ _ (fun _ => R4) ?_; clear hK K; try simp only [Act.put, List.getElem_toArray, List.getElem_cons_succ, List.getElem_cons_zero, List.setIfInBounds_toArray, List.set_cons_zero, List.set_cons_succ]
          generalize V1.alloc _ = V2 at R4 hI2 hrow2 hsl ⊢
          refine wpAnyF_one (i := 9) (by kernel_rfl) rfl (fun K hK => ?_)
          refine step_append_slk _ rfl (.tmp 32) (.tmp 39) 23 rfl W0.heap.size 55 i0 (.slice none 0 0) 1 24 Tryd.underlying23 hi hz hs hby rfl (by decide) (.slice op outs.length oc) outs.length (outs.map crV) rfl hI2.outer _ 1 1 _ rfl hsl (by intro v hv; simp at hv; subst hv; rfl) (by have := hoc'h.out; unfold maxLen; omega) (by have := hoc'h.out; omega) hI2.low.size ?_
          intro v' V3 hown3 hgrow3 hwh3
          have hI4 := hI2.push (r := ⟨ks, k, kc, rws.take k⟩) hrow2 ⟨by show k = (rws.take k).length; rw [List.length_take]; have := hkr'h.out; have := hrl4'h.out; omega, by show (rws.take k).length ≤ 66; rw [List.length_take]; omega, fun c hc => hO'h.out c (List.mem_of_mem_take hc)⟩ hown3 hgrow3
          have hb3 := hI2.kept hgrow3
          obtain ⟨sp', cp', hv', -, -, -⟩ := row_form hown3
          subst hv'
          have y9 : V3.cell? ⟨ob, 3, none⟩ = some (.slice op outs.length oc) := blk_cell (i := 3) hb3 rfl
          have f9 := blk_free 3 hb3
          clear hgrow3 hwh3 hown3 R4 hI2 hsl hb3 hrow2
          refine hK.out _ _ (fun _ => y9) ?_; clear hK K; try simp only [Act.put, List.getElem_toArray, List.getElem_cons_succ, List.getElem_cons_zero, List.setIfInBounds_toArray, List.set_cons_zero, List.set_cons_succ]
          refine wpAnyF_one (i := 10) (by kernel_rfl) rfl (fun K hK => ?_); go_simp
          refine hK.out _ _ (fun _ => y9) ?_; clear hK K; try simp only [Act.put, List.getElem_toArray, List.getElem_cons_succ, List.getElem_cons_zero, List.setIfInBounds_toArray, List.set_cons_zero, List.set_cons_succ]
          refine wpAnyF_one (i := 11) (by kernel_rfl) rfl (fun K hK => ?_); go_simp
          refine hK.out _ _ (fun h => absurd rfl h) ?_
          clear hK K y9 f9
          try simp only [Act.put, List.getElem_toArray, List.getElem_cons_succ, List.getElem_cons_zero, List.setIfInBounds_toArray, List.set_cons_zero, List.set_cons_succ]
          refine wpAnyF_done (by kernel_rfl) ?_ _
          have hI4'h := Lib.hid hI4
          clear hI4
          go_wp2
          rw [← hsp]
          go_roundg (gk - 1)
          case measure => have := hj'h.out; omega
          case rel => exact ⟨j + 1, outs ++ [⟨ks, k, kc, rws.take k⟩], _, by have := hj'h.out; omega, by go_num, by rw [List.length_append, hol'h.out]; show min j 10 + 1 = _; omega, by
            have hjl' : (rows.take j).length = j := by rw [List.length_take]; omega
            have e66 : rws.take k = rws.take 66 := by rw [hkn'h.out]; exact List.take_eq_take_iff.2 (by omega)
            rw [htk'h.out, List.map_append, hom'h.out, List.take_of_length_le (l := rows.take j ++ _) (by rw [List.length_append, hjl', List.length_singleton]; omega), List.take_of_length_le (l := rows.take j) (by rw [hjl']; omega), List.map_append]
            rw [e66]; rfl, hI4'h.out⟩
        · have i4 : ¬ (j : Int) < 10 := by omega
          have hj'h := Lib.hid hj
          have hol'h := Lib.hid hol
          have hom'h := Lib.hid hom
          have hI'h := Lib.hid hI
          have htk'h := Lib.hid htk
          clear hj hol hom hI htk
          clear hE hL hO hN hrl4
          go_wp2
          rw [← hsp]
          go_roundg (gk - 1)
          case measure => have := hj'h.out; omega
          case rel => exact ⟨j + 1, outs, _, by have := hj'h.out; omega, by go_num, by rw [hol'h.out]; omega, by
            have hjl' : (rows.take j).length = j := by rw [List.length_take]; omega
            rw [htk'h.out, List.take_append_of_le_length (by rw [hjl']; omega)]; exact hom'h.out, hI'h.out⟩
      · have i1 : ¬ (j : Int) < (ln : Int) := by omega
        have hjn : j = rows.length := by have := hrl'h.out; omega
        rw [hjn, List.take_length] at hom
        obtain ⟨hIn, hOwn, -, -⟩ := hI.script hg'h.out hsb'h.out hseed'h.out (by omega) (by rw [List.length_take]; omega) hk64'h.out
        have hb0 := hI.blk
        have y0 : wr.cell? ⟨ob, 0, none⟩ = some (.int .i64 g) := blk_cell (i := 0) hb0 rfl
        have y1 : wr.cell? ⟨ob, 1, none⟩ = some (.int .i64 sb) := blk_cell (i := 1) hb0 rfl
        have y2 : wr.cell? ⟨ob, 2, none⟩ = some (.int .u64 (seed : Int)) := blk_cell (i := 2) hb0 rfl
        have y3 : wr.cell? ⟨ob, 3, none⟩ = some (.slice op outs.length oc) := blk_cell (i := 3) hb0 rfl
        have y4 : wr.cell? ⟨ob, 4, none⟩ = some (.slice cp m cc) := blk_cell (i := 4) hb0 rfl
        have hbr := heap_below hI.low hbr'h.out (lt_of_heap hbr'h.out)
        have z0 : wr.cell? ⟨w.heap.size + 1, 0, none⟩ = some (.int .i64 0) := blk_cell (i := 0) hbr rfl
        have z1 : wr.cell? ⟨w.heap.size + 1, 1, none⟩ = some (.int .i64 0) := blk_cell (i := 1) hbr rfl
        have z2 : wr.cell? ⟨w.heap.size + 1, 2, none⟩ = some (.int .u64 0) := blk_cell (i := 2) hbr rfl
        have z3 : wr.cell? ⟨w.heap.size + 1, 3, none⟩ = some (.slice none 0 0) := blk_cell (i := 3) hbr rfl
        have z4 : wr.cell? ⟨w.heap.size + 1, 4, none⟩ = some (.slice none 0 0) := blk_cell (i := 4) hbr rfl
        have f0 := blk_free 0 hbr
        have f1 := blk_free 1 hbr
        have f2 := blk_free 2 hbr
        have f3 := blk_free 3 hbr
        have f4 := blk_free 4 hbr
        have hlow := hB00'h.out.trans (hI.low.mono (by rw [hW0s'h.out]; omega))
        clear hI hb0 hj
        rw [hjn]
        rw [hjn] at i1
        have hom'h := Lib.hid hom
        have hIn'h := Lib.hid hIn
        have hOwn'h := Lib.hid hOwn
        have hbr'h := Lib.hid hbr
        have hlow'h := Lib.hid hlow
        have hol'h := Lib.hid hol
        clear hom hIn hOwn hbr hlow hol
        go_wp2
        have hK5 := ((((Kept.setCell (fun b => W0.heap.size ≤ b) wr ⟨w.heap.size + 1, 0, none⟩ (.int .i64 g) (by simp only; rw [hW0s'h.out]; omega)).trans (Kept.setCell _ _ ⟨w.heap.size + 1, 1, none⟩ (.int .i64 sb) (by simp only; rw [hW0s'h.out]; omega))).trans (Kept.setCell _ _ ⟨w.heap.size + 1, 2, none⟩ (.int .u64 (seed : Int)) (by simp only; rw [hW0s'h.out]; omega))).trans (Kept.setCell _ _ ⟨w.heap.size + 1, 3, none⟩ (.slice op outs.length oc) (by simp only; rw [hW0s'h.out]; omega))).trans (Kept.setCell _ _ ⟨w.heap.size + 1, 4, none⟩ (.slice cp m cc) (by simp only; rw [hW0s'h.out]; omega))
        have hOwn2 := hOwn'h.out.keep hK5
        have hIn2 := hIn'h.out.own hOwn2
        have hlow2 := ((((hlow'h.out.setCell (p := ⟨w.heap.size + 1, 0, none⟩) (by simp) (.int .i64 g)).setCell (p := ⟨w.heap.size + 1, 1, none⟩) (by simp) (.int .i64 sb)).setCell (p := ⟨w.heap.size + 1, 2, none⟩) (by simp) (.int .u64 (seed : Int))).setCell (p := ⟨w.heap.size + 1, 3, none⟩) (by simp) (.slice op outs.length oc)).setCell (p := ⟨w.heap.size + 1, 4, none⟩) (by simp) (.slice cp m cc)
        have hbr2 := blk_set (i := 4) (.slice cp m cc) (blk_set (i := 3) (.slice op outs.length oc) (blk_set (i := 2) (.int .u64 (seed : Int)) (blk_set (i := 1) (.int .i64 sb) (blk_set (i := 0) (.int .i64 g) hbr'h.out))))
        clear y0 y1 y2 y3 y4 z0 z1 z2 z3 z4 f0 f1 f2 f3 f4 hK5
        generalize World.setCell _ _ _ = W2 at hIn2 hlow2 hbr2 hOwn2 ⊢
        have d0 : W2.cell? ⟨w.heap.size + 1, 0, none⟩ = some (.int .i64 g) := blk_cell (i := 0) hbr2 rfl
        have d1 : W2.cell? ⟨w.heap.size + 1, 1, none⟩ = some (.int .i64 sb) := blk_cell (i := 1) hbr2 rfl
        have d2 : W2.cell? ⟨w.heap.size + 1, 2, none⟩ = some (.int .u64 (seed : Int)) := blk_cell (i := 2) hbr2 rfl
        have d3 : W2.cell? ⟨w.heap.size + 1, 3, none⟩ = some (.slice op outs.length oc) := blk_cell (i := 3) hbr2 rfl
        have d4 : W2.cell? ⟨w.heap.size + 1, 4, none⟩ = some (.slice cp m cc) := blk_cell (i := 4) hbr2 rfl
        have hfin : CutAt w (ownS (Sm.scr ⟨g, sb, seed, lp, ln, lc, rows, pp, pn, pc, ps⟩)) (.returned (.agg (smA ⟨g, sb, seed, op, outs.length, oc, outs, cp, m, cc, ps.take m⟩))) W2 := by
          refine ⟨_, rfl, hlow2, hIn2, hOwn2.mono (by rw [hW0s'h.out]; omega), ?_⟩
          unfold ownS Sm.scr
          simp only
          rw [hom'h.out, ← List.map_take, List.map_map, hpm'h.out]
          rfl
        unfold smA at hfin
        clear hIn2 hbr2 hlow2 hOwn2
        refine bodyPost_ret (v := .agg #[.int .i64 g, .int .i64 sb, .int .u64 (seed : Int), .slice op outs.length oc, .slice cp m cc]) ?_ rfl hfin
        simp [results, Tryd.results10, go_sem, d0, d1, d2, d3, d4]
theorem own_any (s : Sm) (w : World) (h : SmArg w s) :
    Calls Tryd.prog 10 #[.agg (smA s)] w fun e w' => SmAt w (ownS s.scr) e w' :=
  (own_own s w h).mono fun e w' ⟨sm, he, hB, hI, _, hs⟩ => ⟨sm, he, hB, hI, hs⟩
end Go.Proofs.YtifofdciablljaaDoor

/-
  slices.Contains at rows of int and of uint64.
-/
set_option linter.unusedSimpArgs false
set_option linter.unusedVariables false
set_option maxRecDepth 100000
namespace Go.Proofs.YtifofdciablljaaDoor
open Go.RowKit

theorem index_int (sp : Option Addr) (n cap : Nat) (l : List Int) (x : Int) (w : World) (h : Sl w sp n (l.map (Value.int .i64))) :
    Calls Tryd.prog 66 #[.slice sp n cap, .int .i64 x] w fun e w' => e = .returned (.int .i64 (idxG (· == x) l)) ∧ w' = w := by
  have hlen : n = l.length := by have := h.1; simpa using this
  have hmax := h.2.1
  unfold maxLen at hmax
  obtain ⟨z, hz⟩ : ∃ z, z = idxG (· == x) l := ⟨_, rfl⟩
  rw [← hz]
  have hlen'h := Lib.hid hlen
  have h'h := Lib.hid h
  have hz'h := Lib.hid hz
  clear hlen h hz
  go_enter Tryd.func66, Tryd.ntmps66
  go_wp2
  go_loopg [8] n (fun q i wr => ∃ k : Nat, k + q = n ∧ i = .int .i64 k ∧ (∀ j, (hj : j < k) → (hl : j < l.length) → (l[j] == x) = false) ∧ wr = w)
  case atStart => exact ⟨0, by omega, rfl, fun j hj => by omega, rfl⟩
  case round =>
    obtain ⟨k, hk, rfl, hall, rfl⟩ := hrel
    have hkn : k ≤ n := by omega
    by_cases hlt : k < n
    · have hkl : k < l.length := by have := hlen'h.out; omega
      obtain ⟨b, off, rfl, hcs⟩ := h'h.out.some' (by omega)
      obtain ⟨y, hy⟩ : ∃ y, l[k]? = some y := ⟨_, List.getElem?_eq_getElem hkl⟩
      have hyk : l[k] = y := by rw [List.getElem?_eq_getElem hkl] at hy; injection hy
      have c1 : wr.cell? ⟨b, off + k, none⟩ = some (.int .i64 y) := hcs k _ (by rw [List.getElem?_map, hy]; rfl)
      have hi1 : (k : Int) < (n : Int) := by omega
      have h0k : (0 : Int) ≤ (k : Int) := by omega
      clear hcs
      by_cases hv : y = x
      · have hr : z = (k : Int) := by rw [hz'h.out]; exact idxG_hit hkl (fun j hj => hall j hj (by omega)) (by rw [hyk, hv]; simp)
        have he : (x == y) = true := by rw [hv]; simp
        clear hyk
        have hk'h := Lib.hid hk
        have hall'h := Lib.hid hall
        have hr'h := Lib.hid hr
        have hv'h := Lib.hid hv
        have hkl'h := Lib.hid hkl
        have hy'h := Lib.hid hy
        clear hk hall hr hv hkl hy
        go_wp2
        go_ret
        exact ⟨ret_i64 hr'h.out.symm, rfl⟩
      · have hall' : ∀ j, (hj : j < k + 1) → (hl : j < l.length) → (l[j] == x) = false := fun j hj hl => by
          by_cases e : j = k
          · subst e; rw [hyk]; simpa using hv
          · exact hall j (by omega) hl
        have he : (x == y) = false := by simpa using fun e : x = y => hv e.symm
        clear hyk
        have hk'h := Lib.hid hk
        have hall'h := Lib.hid hall
        have hv'h := Lib.hid hv
        have hkl'h := Lib.hid hkl
        have hall''h := Lib.hid hall'
        have hy'h := Lib.hid hy
        clear hk hall hv hkl hall' hy
        go_wp2
        go_roundg (gk - 1)
        case measure => have := hk'h.out; omega
        case rel => exact ⟨k + 1, by have := hk'h.out; omega, by go_num, hall''h.out, rfl⟩
    · have hr : z = -1 := by rw [hz'h.out]; exact idxG_none (fun j hj => hall j (by have := hlen'h.out; omega) hj)
      have hd : ¬ ((k : Int) < (n : Int)) := by omega
      have hk'h := Lib.hid hk
      have hall'h := Lib.hid hall
      have hr'h := Lib.hid hr
      clear hk hall hr
      go_wp2
      go_ret
      exact ⟨ret_i64 hr'h.out.symm, rfl⟩
theorem contains_int (sp : Option Addr) (n cap : Nat) (l : List Int) (x : Int) (w : World) (h : Sl w sp n (l.map (Value.int .i64))) :
    Calls Tryd.prog 50 #[.slice sp n cap, .int .i64 x] w fun e w' => e = .returned (.bool (l.contains x)) ∧ w' = w := by
  have I := index_int sp n cap l x w h
  have hr : decide (idxG (· == x) l ≥ 0) = l.contains x := by
    rw [show decide (idxG (· == x) l ≥ 0) = decide (0 ≤ idxG (· == x) l) from rfl, idxG_any, List.contains_eq_any_beq]
    congr 1
    funext y
    simp [Bool.beq_comm (a := x)]
  generalize idxG (· == x) l = z at *
  generalize l.contains x = b at *
  have I'h := Lib.hid I
  have h'h := Lib.hid h
  have hr'h := Lib.hid hr
  clear I h hr
  go_enter Tryd.func50, Tryd.ntmps50
  go_wp2_with (first | (go_at_call 66; refine I'h.out.mono ?_; rintro e w2 ⟨rfl, hw2⟩; obtain rfl := hw2.symm))
  go_ret
  exact ⟨ret_bool hr'h.out, rfl⟩
theorem index_u64 (sp : Option Addr) (n cap : Nat) (l : List Int) (x : Int) (w : World) (h : Sl w sp n (l.map (Value.int .u64))) :
    Calls Tryd.prog 51 #[.slice sp n cap, .int .u64 x] w fun e w' => e = .returned (.int .i64 (idxG (· == x) l)) ∧ w' = w := by
  have hlen : n = l.length := by have := h.1; simpa using this
  have hmax := h.2.1
  unfold maxLen at hmax
  obtain ⟨z, hz⟩ : ∃ z, z = idxG (· == x) l := ⟨_, rfl⟩
  rw [← hz]
  have hlen'h := Lib.hid hlen
  have h'h := Lib.hid h
  have hz'h := Lib.hid hz
  clear hlen h hz
  go_enter Tryd.func51, Tryd.ntmps51
  go_wp2
  go_loopg [8] n (fun q i wr => ∃ k : Nat, k + q = n ∧ i = .int .i64 k ∧ (∀ j, (hj : j < k) → (hl : j < l.length) → (l[j] == x) = false) ∧ wr = w)
  case atStart => exact ⟨0, by omega, rfl, fun j hj => by omega, rfl⟩
  case round =>
    obtain ⟨k, hk, rfl, hall, rfl⟩ := hrel
    have hkn : k ≤ n := by omega
    by_cases hlt : k < n
    · have hkl : k < l.length := by have := hlen'h.out; omega
      obtain ⟨b, off, rfl, hcs⟩ := h'h.out.some' (by omega)
      obtain ⟨y, hy⟩ : ∃ y, l[k]? = some y := ⟨_, List.getElem?_eq_getElem hkl⟩
      have hyk : l[k] = y := by rw [List.getElem?_eq_getElem hkl] at hy; injection hy
      have c1 : wr.cell? ⟨b, off + k, none⟩ = some (.int .u64 y) := hcs k _ (by rw [List.getElem?_map, hy]; rfl)
      have hi1 : (k : Int) < (n : Int) := by omega
      have h0k : (0 : Int) ≤ (k : Int) := by omega
      clear hcs
      by_cases hv : y = x
      · have hr : z = (k : Int) := by rw [hz'h.out]; exact idxG_hit hkl (fun j hj => hall j hj (by omega)) (by rw [hyk, hv]; simp)
        have he : (x == y) = true := by rw [hv]; simp
        clear hyk
        have hk'h := Lib.hid hk
        have hall'h := Lib.hid hall
        have hr'h := Lib.hid hr
        have hv'h := Lib.hid hv
        have hkl'h := Lib.hid hkl
        have hy'h := Lib.hid hy
        clear hk hall hr hv hkl hy
        go_wp2
        go_ret
        exact ⟨ret_i64 hr'h.out.symm, rfl⟩
      · have hall' : ∀ j, (hj : j < k + 1) → (hl : j < l.length) → (l[j] == x) = false := fun j hj hl => by
          by_cases e : j = k
          · subst e; rw [hyk]; simpa using hv
          · exact hall j (by omega) hl
        have he : (x == y) = false := by simpa using fun e : x = y => hv e.symm
        clear hyk
        have hk'h := Lib.hid hk
        have hall'h := Lib.hid hall
        have hv'h := Lib.hid hv
        have hkl'h := Lib.hid hkl
        have hall''h := Lib.hid hall'
        have hy'h := Lib.hid hy
        clear hk hall hv hkl hall' hy
        go_wp2
        go_roundg (gk - 1)
        case measure => have := hk'h.out; omega
        case rel => exact ⟨k + 1, by have := hk'h.out; omega, by go_num, hall''h.out, rfl⟩
    · have hr : z = -1 := by rw [hz'h.out]; exact idxG_none (fun j hj => hall j (by have := hlen'h.out; omega) hj)
      have hd : ¬ ((k : Int) < (n : Int)) := by omega
      have hk'h := Lib.hid hk
      have hall'h := Lib.hid hall
      have hr'h := Lib.hid hr
      clear hk hall hr
      go_wp2
      go_ret
      exact ⟨ret_i64 hr'h.out.symm, rfl⟩
theorem contains_u64 (sp : Option Addr) (n cap : Nat) (l : List Int) (x : Int) (w : World) (h : Sl w sp n (l.map (Value.int .u64))) :
    Calls Tryd.prog 32 #[.slice sp n cap, .int .u64 x] w fun e w' => e = .returned (.bool (l.contains x)) ∧ w' = w := by
  have I := index_u64 sp n cap l x w h
  have hr : decide (idxG (· == x) l ≥ 0) = l.contains x := by
    rw [show decide (idxG (· == x) l ≥ 0) = decide (0 ≤ idxG (· == x) l) from rfl, idxG_any, List.contains_eq_any_beq]
    congr 1
    funext y
    simp [Bool.beq_comm (a := x)]
  generalize idxG (· == x) l = z at *
  generalize l.contains x = b at *
  have I'h := Lib.hid I
  have h'h := Lib.hid h
  have hr'h := Lib.hid hr
  clear I h hr
  go_enter Tryd.func32, Tryd.ntmps32
  go_wp2_with (first | (go_at_call 51; refine I'h.out.mono ?_; rintro e w2 ⟨rfl, hw2⟩; obtain rfl := hw2.symm))
  go_ret
  exact ⟨ret_bool hr'h.out, rfl⟩
end Go.Proofs.YtifofdciablljaaDoor

/-
  Layer 3 (script): Cut.
-/
set_option linter.unusedSimpArgs false
set_option linter.unusedVariables false
set_option maxRecDepth 100000
namespace Go.Proofs.YtifofdciablljaaDoor
open Go.RowKit

/-- A script that is cut. -/
def cutS (s : Scr) (picks : Int) (G : List Int) : Scr := ⟨s.goers, s.slabs, s.seed, (List.range s.lists.length).map (fun (i : Nat) => if G.contains (i : Int) then s.lists.getD i [] else []), s.picks.take picks.toNat⟩
theorem nth_lists {rows : List CRow} {i : Nat} (h : i < rows.length) : (rows.map (·.cs)).getD i [] = (nthR rows i).cs := by
  have := nthR_at h
  rw [List.getD_eq_getElem?_getD, List.getElem?_map, this]
  rfl
set_option maxHeartbeats 4000000 in
theorem cut_any (s : Sm) (picks : Int) (gp : Option Addr) (gn gc : Nat) (G : List Int) (w : World) (h : SmIn w s) (hG : Sl w gp gn (G.map (Value.int .i64))) :
    Calls Tryd.prog 30 #[.agg (smA s), .int .i64 picks, .slice gp gn gc] w fun e w' => CutAt w (cutS s.scr picks G) e w' := by
  obtain ⟨g, sb, seed, lp, ln, lc, rows, pp, pn, pc, ps⟩ := s
  have hg := h.g
  have hsb := h.sl
  have hseed := h.seed
  have hfew := h.rows.few
  have hmany := h.many
  have hrl : ln = rows.length := h.rows.len
  obtain ⟨q0, hq0⟩ : ∃ q0 : Int, min picks (pn : Int) = q0 := ⟨_, rfl⟩
  obtain ⟨m, hm⟩ : ∃ m : Nat, max 0 q0 = (m : Int) := ⟨(max 0 q0).toNat, by omega⟩
  have hmp : m ≤ pn := by omega
  have hpl : pn = ps.length := by have := h.picks.1; rw [u64s_length] at this; exact this
  have hpm : ps.take picks.toNat = ps.take m := List.take_eq_take_iff.2 (by omega)
  have hk64 : W64 (ps.take m) := fun k hk => h.w64 k (List.mem_of_mem_take hk)
  have hple := h.ple
  have hpnil := h.pnil
  simp only at hg hsb hseed hfew hmany hple hpnil
  have i1 : (m : Int) ≤ (pc : Int) := by omega
  have i2 : ¬ (m : Int) < 0 := by omega
  obtain ⟨W0, hW0⟩ : ∃ W0, W0 = (w.alloc (.cells #[.int .i64 g, .int .i64 sb, .int .u64 (seed : Int), .slice lp ln lc, .slice pp pn pc] 26)).alloc (.cells zeroSm 26) := ⟨_, rfl⟩
  have hB00 : Below w.heap.size w W0 := by rw [hW0]; exact ((Below.refl _ _).alloc (Nat.le_refl _) _).alloc (by simp) _
  have hbx : W0.heap[w.heap.size]? = some (.cells #[.int .i64 g, .int .i64 sb, .int .u64 (seed : Int), .slice lp ln lc, .slice pp pn pc] 26) := by rw [hW0]; exact (Below.heap_alloc _ _ _ (by simp)).trans (World.alloc_heap_new _ _)
  have hbr : W0.heap[w.heap.size + 1]? = some (.cells zeroSm 26) := by rw [hW0]; exact heap_alloc2_new w _ _
  have hW0s : W0.heap.size = w.heap.size + 2 := by rw [hW0]; simp
  have hA0 := h.below hB00
  have hP0 := hA0.picks.take m hmp
  have hG0 := hG
  rw [u64s_take] at hP0
  have hPn : pp = none → pc = 0 := hpnil
  obtain ⟨i0, hi, hz, hs, hby⟩ := info_parts info_lst
  unfold smA
  simp only
  have R := (Below.refl W0.heap.size W0).drew
  have hP1 := hP0.below R
  have x0 : W0.cell? ⟨w.heap.size, 0, none⟩ = some (.int .i64 g) := blk_cell (i := 0) hbx rfl
  have x1 : W0.cell? ⟨w.heap.size, 1, none⟩ = some (.int .i64 sb) := blk_cell (i := 1) hbx rfl
  have x2 : W0.cell? ⟨w.heap.size, 2, none⟩ = some (.int .u64 (seed : Int)) := blk_cell (i := 2) hbx rfl
  have x4 : W0.cell? ⟨w.heap.size, 4, none⟩ = some (.slice pp pn pc) := blk_cell (i := 4) hbx rfl
  have hxl := lt_of_heap hbx
  clear hple hpnil hP0 hG
  have h'h := Lib.hid h
  have hg'h := Lib.hid hg
  have hsb'h := Lib.hid hsb
  have hseed'h := Lib.hid hseed
  have hfew'h := Lib.hid hfew
  have hmany'h := Lib.hid hmany
  have hrl'h := Lib.hid hrl
  have hmp'h := Lib.hid hmp
  have hpl'h := Lib.hid hpl
  have hpm'h := Lib.hid hpm
  have hk64'h := Lib.hid hk64
  have hB00'h := Lib.hid hB00
  have hbx'h := Lib.hid hbx
  have hbr'h := Lib.hid hbr
  have hW0s'h := Lib.hid hW0s
  have hA0'h := Lib.hid hA0
  have hPn'h := Lib.hid hPn
  have hP1'h := Lib.hid hP1
  have R'h := Lib.hid R
  have hG0'h := Lib.hid hG0
  clear h hg hsb hseed hfew hmany hrl hmp hpl hpm hk64 hB00 hbx hbr hW0s hA0 hPn hP1 R hG0
  go_enter Tryd.func30, Tryd.ntmps30
  go_upto_region 1 with fail
  change Code.wp _ _ _ _ ((w.alloc (.cells #[.int .i64 g, .int .i64 sb, .int .u64 (seed : Int), .slice lp ln lc, .slice pp pn pc] 26)).alloc (.cells zeroSm 26))
  rw [← hW0]
  refine wp_region_heldF (fun w' => Below W0.heap.size W0 w') 99 (by kernel_rfl) ?_
  clear hW0
  have R := R'h.out
  clear R'h
  have hP1 := hP1'h.out
  clear hP1'h
  generalize W0.drew = V0 at R hP1 ⊢
  refine wpAnyF_take (i := 0) (v := .pointer (some ⟨w.heap.size, 0, none⟩)) rfl (by kernel_rfl) (by kernel_rfl) (by kernel_rfl) (by kernel_rfl) (fun _ _ _ h => h) (Or.inl ⟨by kernel_rfl, fun w hSw => by (try dsimp only at hSw); go_simp⟩) R ?_; try simp only [Act.put, List.getElem_toArray, List.getElem_cons_succ, List.getElem_cons_zero, List.setIfInBounds_toArray, List.set_cons_zero, List.set_cons_succ]
  refine wpAnyF_take (i := 1) (v := .int .i64 g) rfl (by kernel_rfl) (by kernel_rfl) (by kernel_rfl) (by kernel_rfl) (fun _ _ _ h => h) (Or.inl ⟨by kernel_rfl, fun w hSw => by have hcc := (hSw.cell hxl).trans x0; (try dsimp only at hSw); go_simp⟩) R ?_; try simp only [Act.put, List.getElem_toArray, List.getElem_cons_succ, List.getElem_cons_zero, List.setIfInBounds_toArray, List.set_cons_zero, List.set_cons_succ]
  refine wpAnyF_take (i := 2) (v := .pointer (some ⟨w.heap.size, 1, none⟩)) rfl (by kernel_rfl) (by kernel_rfl) (by kernel_rfl) (by kernel_rfl) (fun _ _ _ h => h) (Or.inl ⟨by kernel_rfl, fun w hSw => by (try dsimp only at hSw); go_simp⟩) R ?_; try simp only [Act.put, List.getElem_toArray, List.getElem_cons_succ, List.getElem_cons_zero, List.setIfInBounds_toArray, List.set_cons_zero, List.set_cons_succ]
  refine wpAnyF_take (i := 3) (v := .int .i64 sb) rfl (by kernel_rfl) (by kernel_rfl) (by kernel_rfl) (by kernel_rfl) (fun _ _ _ h => h) (Or.inl ⟨by kernel_rfl, fun w hSw => by have hcc := (hSw.cell hxl).trans x1; (try dsimp only at hSw); go_simp⟩) R ?_; try simp only [Act.put, List.getElem_toArray, List.getElem_cons_succ, List.getElem_cons_zero, List.setIfInBounds_toArray, List.set_cons_zero, List.set_cons_succ]
  refine wpAnyF_take (i := 4) (v := .pointer (some ⟨w.heap.size, 2, none⟩)) rfl (by kernel_rfl) (by kernel_rfl) (by kernel_rfl) (by kernel_rfl) (fun _ _ _ h => h) (Or.inl ⟨by kernel_rfl, fun w hSw => by (try dsimp only at hSw); go_simp⟩) R ?_; try simp only [Act.put, List.getElem_toArray, List.getElem_cons_succ, List.getElem_cons_zero, List.setIfInBounds_toArray, List.set_cons_zero, List.set_cons_succ]
  refine wpAnyF_take (i := 5) (v := .int .u64 (seed : Int)) rfl (by kernel_rfl) (by kernel_rfl) (by kernel_rfl) (by kernel_rfl) (fun _ _ _ h => h) (Or.inl ⟨by kernel_rfl, fun w hSw => by have hcc := (hSw.cell hxl).trans x2; (try dsimp only at hSw); go_simp⟩) R ?_; try simp only [Act.put, List.getElem_toArray, List.getElem_cons_succ, List.getElem_cons_zero, List.setIfInBounds_toArray, List.set_cons_zero, List.set_cons_succ]
  refine wpAnyF_take (i := 6) (v := .pointer (some ⟨w.heap.size, 4, none⟩)) rfl (by kernel_rfl) (by kernel_rfl) (by kernel_rfl) (by kernel_rfl) (fun _ _ _ h => h) (Or.inl ⟨by kernel_rfl, fun w hSw => by (try dsimp only at hSw); go_simp⟩) R ?_; try simp only [Act.put, List.getElem_toArray, List.getElem_cons_succ, List.getElem_cons_zero, List.setIfInBounds_toArray, List.set_cons_zero, List.set_cons_succ]
  refine wpAnyF_take (i := 7) (v := .slice pp pn pc) rfl (by kernel_rfl) (by kernel_rfl) (by kernel_rfl) (by kernel_rfl) (fun _ _ _ h => h) (Or.inl ⟨by kernel_rfl, fun w hSw => by have hcc := (hSw.cell hxl).trans x4; (try dsimp only at hSw); go_simp⟩) R ?_; try simp only [Act.put, List.getElem_toArray, List.getElem_cons_succ, List.getElem_cons_zero, List.setIfInBounds_toArray, List.set_cons_zero, List.set_cons_succ]
  refine wpAnyF_take (i := 8) (v := .int .i64 picks) rfl (by kernel_rfl) (by kernel_rfl) (by kernel_rfl) (by kernel_rfl) (fun _ _ _ h => h) (Or.inl ⟨by kernel_rfl, fun w hSw => by (try dsimp only at hSw); go_simp⟩) R ?_; try simp only [Act.put, List.getElem_toArray, List.getElem_cons_succ, List.getElem_cons_zero, List.setIfInBounds_toArray, List.set_cons_zero, List.set_cons_succ]
  refine wpAnyF_take (i := 9) (v := .pointer (some ⟨w.heap.size, 4, none⟩)) rfl (by kernel_rfl) (by kernel_rfl) (by kernel_rfl) (by kernel_rfl) (fun _ _ _ h => h) (Or.inl ⟨by kernel_rfl, fun w hSw => by (try dsimp only at hSw); go_simp⟩) R ?_; try simp only [Act.put, List.getElem_toArray, List.getElem_cons_succ, List.getElem_cons_zero, List.setIfInBounds_toArray, List.set_cons_zero, List.set_cons_succ]
  refine wpAnyF_take (i := 10) (v := .slice pp pn pc) rfl (by kernel_rfl) (by kernel_rfl) (by kernel_rfl) (by kernel_rfl) (fun _ _ _ h => h) (Or.inl ⟨by kernel_rfl, fun w hSw => by have hcc := (hSw.cell hxl).trans x4; (try dsimp only at hSw); go_simp⟩) R ?_; try simp only [Act.put, List.getElem_toArray, List.getElem_cons_succ, List.getElem_cons_zero, List.setIfInBounds_toArray, List.set_cons_zero, List.set_cons_succ]
  refine wpAnyF_take (i := 11) (v := .int .i64 (pn : Int)) rfl (by kernel_rfl) (by kernel_rfl) (by kernel_rfl) (by kernel_rfl) (fun _ _ _ h => h) (Or.inl ⟨by kernel_rfl, fun w hSw => by (try dsimp only at hSw); go_simp⟩) R ?_; try simp only [Act.put, List.getElem_toArray, List.getElem_cons_succ, List.getElem_cons_zero, List.setIfInBounds_toArray, List.set_cons_zero, List.set_cons_succ]
  refine wpAnyF_take (i := 12) (v := .int .i64 q0) rfl (by kernel_rfl) (by kernel_rfl) (by kernel_rfl) (by kernel_rfl) (fun _ _ _ h => h) (Or.inl ⟨by kernel_rfl, fun w hSw => by (try dsimp only at hSw); go_simp⟩) R ?_; try simp only [Act.put, List.getElem_toArray, List.getElem_cons_succ, List.getElem_cons_zero, List.setIfInBounds_toArray, List.set_cons_zero, List.set_cons_succ]
  refine wpAnyF_take (i := 13) (v := .int .i64 (m : Int)) rfl (by kernel_rfl) (by kernel_rfl) (by kernel_rfl) (by kernel_rfl) (fun _ _ _ h => h) (Or.inl ⟨by kernel_rfl, fun w hSw => by (try dsimp only at hSw); go_simp⟩) R ?_; try simp only [Act.put, List.getElem_toArray, List.getElem_cons_succ, List.getElem_cons_zero, List.setIfInBounds_toArray, List.set_cons_zero, List.set_cons_succ]
  refine wpAnyF_take (i := 14) (v := .slice pp m pc) rfl (by kernel_rfl) (by kernel_rfl) (by kernel_rfl) (by kernel_rfl) (fun _ _ _ h => h) (Or.inl ⟨by kernel_rfl, fun w hSw => by (try dsimp only at hSw); go_simp⟩) R ?_; try simp only [Act.put, List.getElem_toArray, List.getElem_cons_succ, List.getElem_cons_zero, List.setIfInBounds_toArray, List.set_cons_zero, List.set_cons_succ]
  clear x0 x1 x2 x4
  refine wpAnyF_two (i := 15) (j := 17) (by kernel_rfl) rfl rfl (fun K hK => ?_) (fun K hK => ?_)
  ·
    go_simp
    refine (clone64_any pp m pc (u64s (ps.take m)) V0 (by have := hmany'h.out; have := hmp'h.out; omega) (oneCell_u64s _) hPn'h.out hP1).mono ?_
    rintro e V1 ⟨cp, cc, rfl, hB1, hrow1⟩
    dsimp only
    have R1 := below_next R hB1
    have hrow1 := ownsRow_mono hrow1 R.size
    clear hB1 R hP1
    refine hK.out _ _ (fun _ => R1) ?_; clear hK K; try simp only [Act.put, List.getElem_toArray, List.getElem_cons_succ, List.getElem_cons_zero, List.setIfInBounds_toArray, List.set_cons_zero, List.set_cons_succ]
    refine wpAnyF_take (i := 16) (v := .agg #[.int .i64 g, .int .i64 sb, .int .u64 (seed : Int), .slice none 0 0, .slice cp m cc]) rfl (by kernel_rfl) (by kernel_rfl) (by kernel_rfl) (by kernel_rfl) (fun _ _ _ h => h) (Or.inl ⟨by kernel_rfl, fun w hSw => by (try dsimp only at hSw); go_simp⟩) R1 ?_; try simp only [Act.put, List.getElem_toArray, List.getElem_cons_succ, List.getElem_cons_zero, List.setIfInBounds_toArray, List.set_cons_zero, List.set_cons_succ]
    refine wpAnyF_one (i := 17) (by kernel_rfl) rfl (fun K hK => ?_); go_simp
    have R2 := below_next R1 ((Below.refl V1.heap.size V1).alloc (Nat.le_refl _) (.cells zeroSm 26))
    refine hK.out _ _ (fun _ => R2) ?_; clear hK K; try simp only [Act.put, List.getElem_toArray, List.getElem_cons_succ, List.getElem_cons_zero, List.setIfInBounds_toArray, List.set_cons_zero, List.set_cons_succ]
    refine wpAnyF_one (i := 18) (by kernel_rfl) rfl (fun K hK => ?_); go_simp
    have hlen : (ps.take m).length = m := by rw [List.length_take]; have := hmp'h.out; have := hpl'h.out; omega
    have hI0 : OutI W0 V1.heap.size (.int .i64 g) (.int .i64 sb) (.int .u64 (seed : Int)) (.slice none 0 0) (.slice cp m cc) [] (ps.take m) (V1.alloc (.cells #[.int .i64 g, .int .i64 sb, .int .u64 (seed : Int), .slice none 0 0, .slice cp m cc] 26)) :=
      ⟨below_next R1 ((Below.refl V1.heap.size V1).alloc (Nat.le_refl _) _), World.alloc_heap_new _ _, R1.size, ⟨rfl, .inl ⟨rfl, rfl⟩⟩, fun r hr => by simp at hr, fun r hr => by simp at hr, by rw [hlen]; exact ownsRow_next hrow1 ((Below.refl V1.heap.size V1).alloc (Nat.le_refl _) _)⟩
    refine hK.out _ _ (fun _ => hI0.low) ?_
    clear hK K R1 R2 hrow1 hlen
    try simp only [Act.put, List.getElem_toArray, List.getElem_cons_succ, List.getElem_cons_zero, List.setIfInBounds_toArray, List.set_cons_zero, List.set_cons_succ]
    refine wpAnyF_done (by kernel_rfl) ?_ _
    generalize hob : V1.heap.size = ob at hI0 ⊢
    generalize V1.alloc _ = W9 at hI0 ⊢
    clear hob
    have hI9 : OutI W0 ob (.int .i64 g) (.int .i64 sb) (.int .u64 (seed : Int)) (.slice none 0 0) (.slice cp m cc) [] (ps.take m) W9 := hI0
    have x3 : W9.cell? ⟨w.heap.size, 3, none⟩ = some (.slice lp ln lc) := blk_cell (i := 3) (heap_below hI9.low hbx'h.out (lt_of_heap hbx'h.out)) rfl
    have hI9'h := Lib.hid hI9
    clear hI9
    go_wp2
    go_loopg [31] ln (fun q ix wr => ∃ (j : Nat) (outs : List CRow) (lv : Value), j + q = ln ∧ ix = .int .i64 (j : Int) ∧ outs.length = j ∧ outs.map (·.cs) = (List.range j).map (fun (i : Nat) => if G.contains (i : Int) then (nthR rows i).cs else []) ∧ OutI W0 ob (.int .i64 g) (.int .i64 sb) (.int .u64 (seed : Int)) lv (.slice cp m cc) outs (ps.take m) wr)
    case atStart => exact ⟨0, [], _, by omega, rfl, rfl, rfl, hI9'h.out⟩
    case round =>
      obtain ⟨j, outs, lv, hj, rfl, hol, hom, hI⟩ := hrel
      clear hI9'h x3
      obtain ⟨op, oc, rfl⟩ := row_slice' hI.outer
      by_cases hlt : j < ln
      · have i1 : (j : Int) < (ln : Int) := by omega
        have i2 : (0 : Int) ≤ (j : Int) := by omega
        have i3 : (j : Int) < 9223372036854775807 := by have := hfew'h.out; omega
        have hA := hA0'h.out.below hI.low
        obtain ⟨b, o, hsp, hc⟩ := hA.rows.sl.some' (by simp only; omega)
        simp only at hsp
        have hjl : j < rows.length := by have := hrl'h.out; omega
        obtain ⟨r, hr⟩ : ∃ r, r = nthR rows j := ⟨_, rfl⟩
        have hmem : r ∈ rows := by rw [hr]; exact nthR_mem hjl
        have c1 : wr.cell? ⟨b, o + j, none⟩ = some (.slice r.sp r.len r.cap) := by
          have := hc j (crV r) (by rw [List.getElem?_map, nthR_at hjl, hr]; rfl)
          exact this
        have hE := hA.rows.each r hmem
        have hN := hA.rows.nil r hmem
        have hO := hA.rows.ok r hmem
        have hS := hA.rows.short r hmem
        have hGr := hG0'h.out.below (below_next hB00'h.out hI.low)
        have C := contains_int gp gn gc G (j : Int) wr hGr
        obtain ⟨rs, rl, rc, rws⟩ := r
        simp only at c1 hE hN hO hS
        have hrl4 : rl = rws.length := slk_len calL_len (by decide) hE
        have hrws : (nthR rows j).cs = rws := by rw [← hr]
        clear hr hc hmem hGr hA
        rw [hsp]
        cases hct : G.contains (j : Int) with
        | true =>
          rw [hct] at C
          have hj'h := Lib.hid hj
          have hol'h := Lib.hid hol
          have hom'h := Lib.hid hom
          have hI'h := Lib.hid hI
          have hE'h := Lib.hid hE
          have hN'h := Lib.hid hN
          have hO'h := Lib.hid hO
          have hS'h := Lib.hid hS
          have hrl4'h := Lib.hid hrl4
          have hrws'h := Lib.hid hrws
          have C'h := Lib.hid C
          have hct'h := Lib.hid hct
          clear hj hol hom hI hE hN hO hS hrl4 hrws C hct
          go_wp2_with fail
          refine C'h.out.mono ?_
          rintro e w7 ⟨rfl, hw7⟩
          obtain rfl := hw7.symm
          go_wp2_with fail
          refine (cloneCal_any rs rl rc (cals rws) wr (by have := hrl4'h.out; have := hS'h.out; omega) (cals_one _) hN'h.out hE'h.out).mono ?_
          rintro e V1 ⟨ks, kc, rfl, hB1, hrow1⟩
          have hIV := hI'h.out.next hB1
          obtain ⟨r', hr'⟩ : ∃ r' : CRow, r' = ⟨ks, rl, kc, rws⟩ := ⟨_, rfl⟩
          have hr'V : crV r' = .slice ks rl kc := by rw [hr']; rfl
          have hr'c : (if G.contains (j : Int) then (nthR rows j).cs else []) = r'.cs := by rw [hct'h.out, hrws'h.out, hr']; rfl
          have hrv : V1.ownsRow W0.heap.size 57 4 (crV r') r'.len (cals r'.cs) := by rw [hr']; exact ownsRow_mono hrow1 hI'h.out.low.size
          have hlv : r'.len = r'.cs.length ∧ r'.cs.length ≤ 66 ∧ ∀ c ∈ r'.cs, CalOk c := by rw [hr']; exact ⟨hrl4'h.out, hS'h.out, hO'h.out⟩
          clear hr' hrow1 hB1 hI'h c1 hE'h hO'h hS'h hN'h hrl4'h C'h
          have hIV'h := Lib.hid hIV
          have hrv'h := Lib.hid hrv
          have hlv'h := Lib.hid hlv
          clear hIV hrv hlv
          have hoc : outs.length ≤ 16 := by have := hol'h.out; have := hfew'h.out; omega
          have hlz := hIV'h.out.low.size
          have hB2 := (Below.refl V1.heap.size V1).alloc (Nat.le_refl _) (.cells #[.slice ks rl kc] 55)
          have hI2 := hIV'h.out.next hB2
          have hrow2 := ownsRow_next hrv'h.out hB2
          have hsl : SlK (V1.alloc (.cells #[.slice ks rl kc] 55)) 1 (some ⟨V1.heap.size, 0, none⟩) 1 [crV r'] := by rw [hr'V]; exact SlK.of_blk (World.alloc_heap_new _ _) rfl (by decide)
          have y3 : V1.cell? ⟨ob, 3, none⟩ = some (.slice op outs.length oc) := hIV'h.out.c3
          clear hB2
          have hI2'h := Lib.hid hI2
          have hrow2'h := Lib.hid hrow2
          have hsl'h := Lib.hid hsl
          have hoc'h := Lib.hid hoc
          have hlz'h := Lib.hid hlz
          have hr'V'h := Lib.hid hr'V
          have hr'c'h := Lib.hid hr'c
          clear hI2 hrow2 hsl hoc hlz hr'V hr'c
          go_wp2_with (at_builtin; refine wpList_append_slk _ rfl (.tmp 42) (.tmp 44) 23 rfl W0.heap.size 55 i0 (.slice none 0 0) 1 24 Tryd.underlying23 hi hz hs hby rfl (by decide) (.slice op outs.length oc) outs.length (outs.map crV) rfl hI2'h.out.outer _ 1 1 _ rfl hsl'h.out (by intro v hv; simp at hv; subst hv; rfl) (by have := hoc'h.out; unfold maxLen; omega) (by have := hoc'h.out; omega) hI2'h.out.low.size ?_; intro v' V3 hown3 hgrow3 hwh3; have hI4 := hI2'h.out.push (r := r') hrow2'h.out hlv'h.out hown3 hgrow3; have hb3 := hI2'h.out.kept hgrow3; obtain ⟨sp', cp', hv', -, -, -⟩ := row_form hown3; subst hv'; have y9 : V3.cell? ⟨ob, 3, none⟩ = some (.slice op outs.length oc) := blk_cell (i := 3) hb3 rfl; have f9 := blk_free 3 hb3; clear hgrow3 hwh3 hown3 hb3; have hI4'h := Lib.hid hI4; clear hI4)
          rw [← hsp]
          go_roundg (gk - 1)
          case measure => have := hj'h.out; omega
          case rel => exact ⟨j + 1, outs ++ [r'], _, by have := hj'h.out; omega, by go_num, by rw [List.length_append, hol'h.out]; rfl, by rw [List.map_append, hom'h.out, List.range_succ, List.map_append]; simp only [List.map_cons, List.map_nil]; rw [hr'c'h.out], hI4'h.out⟩
        | false =>
          rw [hct] at C
          have hj'h := Lib.hid hj
          have hol'h := Lib.hid hol
          have hom'h := Lib.hid hom
          have hI'h := Lib.hid hI
          have hrws'h := Lib.hid hrws
          have C'h := Lib.hid C
          have hct'h := Lib.hid hct
          clear hj hol hom hI hrws C hct
          clear hE hN hO hS hrl4
          go_wp2_with fail
          refine C'h.out.mono ?_
          rintro e w7 ⟨rfl, hw7⟩
          obtain rfl := hw7.symm
          have hIV := hI'h.out
          obtain ⟨r', hr'⟩ : ∃ r' : CRow, r' = ⟨none, 0, 0, []⟩ := ⟨_, rfl⟩
          have hr'V : crV r' = .slice none 0 0 := by rw [hr']; rfl
          have hr'c : (if G.contains (j : Int) then (nthR rows j).cs else []) = r'.cs := by rw [hct'h.out, hr']; rfl
          have hrv : wr.ownsRow W0.heap.size 57 4 (crV r') r'.len (cals r'.cs) := by rw [hr']; exact ⟨rfl, .inl ⟨rfl, rfl⟩⟩
          have hlv : r'.len = r'.cs.length ∧ r'.cs.length ≤ 66 ∧ ∀ c ∈ r'.cs, CalOk c := by rw [hr']; exact ⟨rfl, by simp, fun c hc => by simp at hc⟩
          clear hr' hI'h c1 C'h
          have hIV'h := Lib.hid hIV
          have hrv'h := Lib.hid hrv
          have hlv'h := Lib.hid hlv
          clear hIV hrv hlv
          have hoc : outs.length ≤ 16 := by have := hol'h.out; have := hfew'h.out; omega
          have hlz := hIV'h.out.low.size
          have hB2 := (Below.refl wr.heap.size wr).alloc (Nat.le_refl _) (.cells #[.slice none 0 0] 55)
          have hI2 := hIV'h.out.next hB2
          have hrow2 := ownsRow_next hrv'h.out hB2
          have hsl : SlK (wr.alloc (.cells #[.slice none 0 0] 55)) 1 (some ⟨wr.heap.size, 0, none⟩) 1 [crV r'] := by rw [hr'V]; exact SlK.of_blk (World.alloc_heap_new _ _) rfl (by decide)
          have y3 : wr.cell? ⟨ob, 3, none⟩ = some (.slice op outs.length oc) := hIV'h.out.c3
          clear hB2
          have hI2'h := Lib.hid hI2
          have hrow2'h := Lib.hid hrow2
          have hsl'h := Lib.hid hsl
          have hoc'h := Lib.hid hoc
          have hlz'h := Lib.hid hlz
          have hr'V'h := Lib.hid hr'V
          have hr'c'h := Lib.hid hr'c
          clear hI2 hrow2 hsl hoc hlz hr'V hr'c
          go_wp2_with (at_builtin; refine wpList_append_slk _ rfl (.tmp 42) (.tmp 44) 23 rfl W0.heap.size 55 i0 (.slice none 0 0) 1 24 Tryd.underlying23 hi hz hs hby rfl (by decide) (.slice op outs.length oc) outs.length (outs.map crV) rfl hI2'h.out.outer _ 1 1 _ rfl hsl'h.out (by intro v hv; simp at hv; subst hv; rfl) (by have := hoc'h.out; unfold maxLen; omega) (by have := hoc'h.out; omega) hI2'h.out.low.size ?_; intro v' V3 hown3 hgrow3 hwh3; have hI4 := hI2'h.out.push (r := r') hrow2'h.out hlv'h.out hown3 hgrow3; have hb3 := hI2'h.out.kept hgrow3; obtain ⟨sp', cp', hv', -, -, -⟩ := row_form hown3; subst hv'; have y9 : V3.cell? ⟨ob, 3, none⟩ = some (.slice op outs.length oc) := blk_cell (i := 3) hb3 rfl; have f9 := blk_free 3 hb3; clear hgrow3 hwh3 hown3 hb3; have hI4'h := Lib.hid hI4; clear hI4)
          rw [← hsp]
          go_roundg (gk - 1)
          case measure => have := hj'h.out; omega
          case rel => exact ⟨j + 1, outs ++ [r'], _, by have := hj'h.out; omega, by go_num, by rw [List.length_append, hol'h.out]; rfl, by rw [List.map_append, hom'h.out, List.range_succ, List.map_append]; simp only [List.map_cons, List.map_nil]; rw [hr'c'h.out], hI4'h.out⟩
      · have i1 : ¬ (j : Int) < (ln : Int) := by omega
        have hjn : j = rows.length := by have := hrl'h.out; omega
        obtain ⟨hIn, hOwn, -, -⟩ := hI.script hg'h.out hsb'h.out hseed'h.out (by have := hfew'h.out; omega) (by rw [List.length_take]; have := hmany'h.out; have := hpl'h.out; omega) hk64'h.out
        have hb0 := hI.blk
        have y0 : wr.cell? ⟨ob, 0, none⟩ = some (.int .i64 g) := blk_cell (i := 0) hb0 rfl
        have y1 : wr.cell? ⟨ob, 1, none⟩ = some (.int .i64 sb) := blk_cell (i := 1) hb0 rfl
        have y2 : wr.cell? ⟨ob, 2, none⟩ = some (.int .u64 (seed : Int)) := blk_cell (i := 2) hb0 rfl
        have y3 : wr.cell? ⟨ob, 3, none⟩ = some (.slice op outs.length oc) := blk_cell (i := 3) hb0 rfl
        have y4 : wr.cell? ⟨ob, 4, none⟩ = some (.slice cp m cc) := blk_cell (i := 4) hb0 rfl
        have hbr := heap_below hI.low hbr'h.out (lt_of_heap hbr'h.out)
        have z0 : wr.cell? ⟨w.heap.size + 1, 0, none⟩ = some (.int .i64 0) := blk_cell (i := 0) hbr rfl
        have z1 : wr.cell? ⟨w.heap.size + 1, 1, none⟩ = some (.int .i64 0) := blk_cell (i := 1) hbr rfl
        have z2 : wr.cell? ⟨w.heap.size + 1, 2, none⟩ = some (.int .u64 0) := blk_cell (i := 2) hbr rfl
        have z3 : wr.cell? ⟨w.heap.size + 1, 3, none⟩ = some (.slice none 0 0) := blk_cell (i := 3) hbr rfl
        have z4 : wr.cell? ⟨w.heap.size + 1, 4, none⟩ = some (.slice none 0 0) := blk_cell (i := 4) hbr rfl
        have f0 := blk_free 0 hbr
        have f1 := blk_free 1 hbr
        have f2 := blk_free 2 hbr
        have f3 := blk_free 3 hbr
        have f4 := blk_free 4 hbr
        have hlow := hB00'h.out.trans (hI.low.mono (by rw [hW0s'h.out]; omega))
        clear hI hb0 hj
        rw [hjn]
        rw [hjn] at i1 hom
        have hom'h := Lib.hid hom
        have hIn'h := Lib.hid hIn
        have hOwn'h := Lib.hid hOwn
        have hbr'h := Lib.hid hbr
        have hlow'h := Lib.hid hlow
        have hol'h := Lib.hid hol
        clear hom hIn hOwn hbr hlow hol
        go_wp2
        have hK5 := ((((Kept.setCell (fun b => W0.heap.size ≤ b) wr ⟨w.heap.size + 1, 0, none⟩ (.int .i64 g) (by simp only; rw [hW0s'h.out]; omega)).trans (Kept.setCell _ _ ⟨w.heap.size + 1, 1, none⟩ (.int .i64 sb) (by simp only; rw [hW0s'h.out]; omega))).trans (Kept.setCell _ _ ⟨w.heap.size + 1, 2, none⟩ (.int .u64 (seed : Int)) (by simp only; rw [hW0s'h.out]; omega))).trans (Kept.setCell _ _ ⟨w.heap.size + 1, 3, none⟩ (.slice op outs.length oc) (by simp only; rw [hW0s'h.out]; omega))).trans (Kept.setCell _ _ ⟨w.heap.size + 1, 4, none⟩ (.slice cp m cc) (by simp only; rw [hW0s'h.out]; omega))
        have hOwn2 := hOwn'h.out.keep hK5
        have hIn2 := hIn'h.out.own hOwn2
        have hlow2 := ((((hlow'h.out.setCell (p := ⟨w.heap.size + 1, 0, none⟩) (by simp) (.int .i64 g)).setCell (p := ⟨w.heap.size + 1, 1, none⟩) (by simp) (.int .i64 sb)).setCell (p := ⟨w.heap.size + 1, 2, none⟩) (by simp) (.int .u64 (seed : Int))).setCell (p := ⟨w.heap.size + 1, 3, none⟩) (by simp) (.slice op outs.length oc)).setCell (p := ⟨w.heap.size + 1, 4, none⟩) (by simp) (.slice cp m cc)
        have hbr2 := blk_set (i := 4) (.slice cp m cc) (blk_set (i := 3) (.slice op outs.length oc) (blk_set (i := 2) (.int .u64 (seed : Int)) (blk_set (i := 1) (.int .i64 sb) (blk_set (i := 0) (.int .i64 g) hbr'h.out))))
        clear y0 y1 y2 y3 y4 z0 z1 z2 z3 z4 f0 f1 f2 f3 f4 hK5
        generalize World.setCell _ _ _ = W2 at hIn2 hlow2 hbr2 hOwn2 ⊢
        have d0 : W2.cell? ⟨w.heap.size + 1, 0, none⟩ = some (.int .i64 g) := blk_cell (i := 0) hbr2 rfl
        have d1 : W2.cell? ⟨w.heap.size + 1, 1, none⟩ = some (.int .i64 sb) := blk_cell (i := 1) hbr2 rfl
        have d2 : W2.cell? ⟨w.heap.size + 1, 2, none⟩ = some (.int .u64 (seed : Int)) := blk_cell (i := 2) hbr2 rfl
        have d3 : W2.cell? ⟨w.heap.size + 1, 3, none⟩ = some (.slice op outs.length oc) := blk_cell (i := 3) hbr2 rfl
        have d4 : W2.cell? ⟨w.heap.size + 1, 4, none⟩ = some (.slice cp m cc) := blk_cell (i := 4) hbr2 rfl
        have hfin : CutAt w (cutS (Sm.scr ⟨g, sb, seed, lp, ln, lc, rows, pp, pn, pc, ps⟩) picks G) (.returned (.agg (smA ⟨g, sb, seed, op, outs.length, oc, outs, cp, m, cc, ps.take m⟩))) W2 := by
          refine ⟨_, rfl, hlow2, hIn2, hOwn2.mono (by rw [hW0s'h.out]; omega), ?_⟩
          unfold cutS Sm.scr
          simp only
          rw [hom'h.out, List.length_map, hpm'h.out]
          congr 1
          refine List.map_congr_left fun i hi => ?_
          rw [nth_lists (List.mem_range.1 hi)]
        unfold smA at hfin
        clear hIn2 hbr2 hlow2 hOwn2
        refine bodyPost_ret (v := .agg #[.int .i64 g, .int .i64 sb, .int .u64 (seed : Int), .slice op outs.length oc, .slice cp m cc]) ?_ rfl hfin
        simp [results, Tryd.results30, go_sem, d0, d1, d2, d3, d4]
  ·
    go_simp
    have R1 := below_next R ((Below.refl V0.heap.size V0).alloc (Nat.le_refl _) (.cells zeroSm 26))
    have hob0 : W0.heap.size ≤ V0.heap.size := R.size
    have hb1 : (V0.alloc (.cells zeroSm 26)).heap[V0.heap.size]? = some (.cells zeroSm 26) := World.alloc_heap_new _ _
    have hP2 := hP1.below ((Below.refl V0.heap.size V0).alloc (Nat.le_refl _) (.cells zeroSm 26))
    refine hK.out _ _ (fun _ => R1) ?_; clear hK K; try simp only [Act.put, List.getElem_toArray, List.getElem_cons_succ, List.getElem_cons_zero, List.setIfInBounds_toArray, List.set_cons_zero, List.set_cons_succ]
    clear R hP1
    generalize V0.heap.size = ob at hob0 hb1 ⊢
    generalize V0.alloc _ = V1 at R1 hb1 hP2 ⊢
    refine wpAnyF_one (i := 15) (by kernel_rfl) rfl (fun K hK => ?_); go_simp
    refine (clone64_any pp m pc (u64s (ps.take m)) V1 (by have := hmany'h.out; have := hmp'h.out; omega) (oneCell_u64s _) hPn'h.out hP2).mono ?_
    rintro e V2 ⟨cp, cc, rfl, hB2, hrow2⟩
    dsimp only
    have R2 := below_next R1 hB2
    have hb2 := heap_below hB2 hb1 (lt_of_heap hb1)
    have hlo := lt_of_heap hb1
    have hw1 := R1.size
    clear hB2 R1 hP2 hb1
    refine hK.out _ _ (fun _ => R2) ?_; clear hK K; try simp only [Act.put, List.getElem_toArray, List.getElem_cons_succ, List.getElem_cons_zero, List.setIfInBounds_toArray, List.set_cons_zero, List.set_cons_succ]
    refine wpAnyF_take (i := 16) (v := .agg #[.int .i64 g, .int .i64 sb, .int .u64 (seed : Int), .slice none 0 0, .slice cp m cc]) rfl (by kernel_rfl) (by kernel_rfl) (by kernel_rfl) (by kernel_rfl) (fun _ _ _ h => h) (Or.inl ⟨by kernel_rfl, fun w hSw => by (try dsimp only at hSw); go_simp⟩) R2 ?_; try simp only [Act.put, List.getElem_toArray, List.getElem_cons_succ, List.getElem_cons_zero, List.setIfInBounds_toArray, List.set_cons_zero, List.set_cons_succ]
    have z0 : V2.cell? ⟨ob, 0, none⟩ = some (.int .i64 0) := blk_cell (i := 0) hb2 rfl
    have z1 : V2.cell? ⟨ob, 1, none⟩ = some (.int .i64 0) := blk_cell (i := 1) hb2 rfl
    have z2 : V2.cell? ⟨ob, 2, none⟩ = some (.int .u64 0) := blk_cell (i := 2) hb2 rfl
    have z3 : V2.cell? ⟨ob, 3, none⟩ = some (.slice none 0 0) := blk_cell (i := 3) hb2 rfl
    have z4 : V2.cell? ⟨ob, 4, none⟩ = some (.slice none 0 0) := blk_cell (i := 4) hb2 rfl
    have f0 := blk_free 0 hb2
    have f1 := blk_free 1 hb2
    have f2 := blk_free 2 hb2
    have f3 := blk_free 3 hb2
    have f4 := blk_free 4 hb2
    refine wpAnyF_one (i := 18) (by kernel_rfl) rfl (fun K hK => ?_); go_simp
    have hlen : (ps.take m).length = m := by rw [List.length_take]; have := hmp'h.out; have := hpl'h.out; omega
    have hK5 := ((((Kept.setCell (fun b => V1.heap.size ≤ b) V2 ⟨ob, 0, none⟩ (.int .i64 g) (by simp only; omega)).trans (Kept.setCell _ _ ⟨ob, 1, none⟩ (.int .i64 sb) (by simp only; omega))).trans (Kept.setCell _ _ ⟨ob, 2, none⟩ (.int .u64 (seed : Int)) (by simp only; omega))).trans (Kept.setCell _ _ ⟨ob, 3, none⟩ (.slice none 0 0) (by simp only; omega))).trans (Kept.setCell _ _ ⟨ob, 4, none⟩ (.slice cp m cc) (by simp only; omega))
    have hrow3 := ownsRow_mono (ownsRow_kept hrow2 hK5) hw1
    have hb3 := blk_set (i := 4) (.slice cp m cc) (blk_set (i := 3) (.slice none 0 0) (blk_set (i := 2) (.int .u64 (seed : Int)) (blk_set (i := 1) (.int .i64 sb) (blk_set (i := 0) (.int .i64 g) hb2))))
    have R3 := ((((R2.setCell (p := ⟨ob, 0, none⟩) hob0 (.int .i64 g)).setCell (p := ⟨ob, 1, none⟩) hob0 (.int .i64 sb)).setCell (p := ⟨ob, 2, none⟩) hob0 (.int .u64 (seed : Int))).setCell (p := ⟨ob, 3, none⟩) hob0 (.slice none 0 0)).setCell (p := ⟨ob, 4, none⟩) hob0 (.slice cp m cc)
    refine hK.out _ _ (fun _ => R3) ?_
    clear hK K R2 hrow2 hK5 z0 z1 z2 z3 z4 f0 f1 f2 f3 f4 hb2
    generalize World.setCell _ _ _ = W9 at hrow3 hb3 R3 ⊢
    have hI0 : OutI W0 ob (.int .i64 g) (.int .i64 sb) (.int .u64 (seed : Int)) (.slice none 0 0) (.slice cp m cc) [] (ps.take m) W9 :=
      ⟨R3, hb3, hob0, ⟨rfl, .inl ⟨rfl, rfl⟩⟩, fun r hr => by simp at hr, fun r hr => by simp at hr, by rw [hlen]; exact hrow3⟩
    clear hrow3 hb3 R3 hlen hlo hw1 hob0
    try simp only [Act.put, List.getElem_toArray, List.getElem_cons_succ, List.getElem_cons_zero, List.setIfInBounds_toArray, List.set_cons_zero, List.set_cons_succ]
    refine wpAnyF_done (by kernel_rfl) ?_ _
    have hI9 : OutI W0 ob (.int .i64 g) (.int .i64 sb) (.int .u64 (seed : Int)) (.slice none 0 0) (.slice cp m cc) [] (ps.take m) W9 := hI0
    have x3 : W9.cell? ⟨w.heap.size, 3, none⟩ = some (.slice lp ln lc) := blk_cell (i := 3) (heap_below hI9.low hbx'h.out (lt_of_heap hbx'h.out)) rfl
    have hI9'h := Lib.hid hI9
    clear hI9
    go_wp2
    go_loopg [31] ln (fun q ix wr => ∃ (j : Nat) (outs : List CRow) (lv : Value), j + q = ln ∧ ix = .int .i64 (j : Int) ∧ outs.length = j ∧ outs.map (·.cs) = (List.range j).map (fun (i : Nat) => if G.contains (i : Int) then (nthR rows i).cs else []) ∧ OutI W0 ob (.int .i64 g) (.int .i64 sb) (.int .u64 (seed : Int)) lv (.slice cp m cc) outs (ps.take m) wr)
    case atStart => exact ⟨0, [], _, by omega, rfl, rfl, rfl, hI9'h.out⟩
    case round =>
      obtain ⟨j, outs, lv, hj, rfl, hol, hom, hI⟩ := hrel
      clear hI9'h x3
      obtain ⟨op, oc, rfl⟩ := row_slice' hI.outer
      by_cases hlt : j < ln
      · have i1 : (j : Int) < (ln : Int) := by omega
        have i2 : (0 : Int) ≤ (j : Int) := by omega
        have i3 : (j : Int) < 9223372036854775807 := by have := hfew'h.out; omega
        have hA := hA0'h.out.below hI.low
        obtain ⟨b, o, hsp, hc⟩ := hA.rows.sl.some' (by simp only; omega)
        simp only at hsp
        have hjl : j < rows.length := by have := hrl'h.out; omega
        obtain ⟨r, hr⟩ : ∃ r, r = nthR rows j := ⟨_, rfl⟩
        have hmem : r ∈ rows := by rw [hr]; exact nthR_mem hjl
        have c1 : wr.cell? ⟨b, o + j, none⟩ = some (.slice r.sp r.len r.cap) := by
          have := hc j (crV r) (by rw [List.getElem?_map, nthR_at hjl, hr]; rfl)
          exact this
        have hE := hA.rows.each r hmem
        have hN := hA.rows.nil r hmem
        have hO := hA.rows.ok r hmem
        have hS := hA.rows.short r hmem
        have hGr := hG0'h.out.below (below_next hB00'h.out hI.low)
        have C := contains_int gp gn gc G (j : Int) wr hGr
        obtain ⟨rs, rl, rc, rws⟩ := r
        simp only at c1 hE hN hO hS
        have hrl4 : rl = rws.length := slk_len calL_len (by decide) hE
        have hrws : (nthR rows j).cs = rws := by rw [← hr]
        clear hr hc hmem hGr hA
        rw [hsp]
        cases hct : G.contains (j : Int) with
        | true =>
          rw [hct] at C
          have hj'h := Lib.hid hj
          have hol'h := Lib.hid hol
          have hom'h := Lib.hid hom
          have hI'h := Lib.hid hI
          have hE'h := Lib.hid hE
          have hN'h := Lib.hid hN
          have hO'h := Lib.hid hO
          have hS'h := Lib.hid hS
          have hrl4'h := Lib.hid hrl4
          have hrws'h := Lib.hid hrws
          have C'h := Lib.hid C
          have hct'h := Lib.hid hct
          clear hj hol hom hI hE hN hO hS hrl4 hrws C hct
          go_wp2_with fail
          refine C'h.out.mono ?_
          rintro e w7 ⟨rfl, hw7⟩
          obtain rfl := hw7.symm
          go_wp2_with fail
          refine (cloneCal_any rs rl rc (cals rws) wr (by have := hrl4'h.out; have := hS'h.out; omega) (cals_one _) hN'h.out hE'h.out).mono ?_
          rintro e V1 ⟨ks, kc, rfl, hB1, hrow1⟩
          have hIV := hI'h.out.next hB1
          obtain ⟨r', hr'⟩ : ∃ r' : CRow, r' = ⟨ks, rl, kc, rws⟩ := ⟨_, rfl⟩
          have hr'V : crV r' = .slice ks rl kc := by rw [hr']; rfl
          have hr'c : (if G.contains (j : Int) then (nthR rows j).cs else []) = r'.cs := by rw [hct'h.out, hrws'h.out, hr']; rfl
          have hrv : V1.ownsRow W0.heap.size 57 4 (crV r') r'.len (cals r'.cs) := by rw [hr']; exact ownsRow_mono hrow1 hI'h.out.low.size
          have hlv : r'.len = r'.cs.length ∧ r'.cs.length ≤ 66 ∧ ∀ c ∈ r'.cs, CalOk c := by rw [hr']; exact ⟨hrl4'h.out, hS'h.out, hO'h.out⟩
          clear hr' hrow1 hB1 hI'h c1 hE'h hO'h hS'h hN'h hrl4'h C'h
          have hIV'h := Lib.hid hIV
          have hrv'h := Lib.hid hrv
          have hlv'h := Lib.hid hlv
          clear hIV hrv hlv
          have hoc : outs.length ≤ 16 := by have := hol'h.out; have := hfew'h.out; omega
          have hlz := hIV'h.out.low.size
          have hB2 := (Below.refl V1.heap.size V1).alloc (Nat.le_refl _) (.cells #[.slice ks rl kc] 55)
          have hI2 := hIV'h.out.next hB2
          have hrow2 := ownsRow_next hrv'h.out hB2
          have hsl : SlK (V1.alloc (.cells #[.slice ks rl kc] 55)) 1 (some ⟨V1.heap.size, 0, none⟩) 1 [crV r'] := by rw [hr'V]; exact SlK.of_blk (World.alloc_heap_new _ _) rfl (by decide)
          have y3 : V1.cell? ⟨ob, 3, none⟩ = some (.slice op outs.length oc) := hIV'h.out.c3
          clear hB2
          have hI2'h := Lib.hid hI2
          have hrow2'h := Lib.hid hrow2
          have hsl'h := Lib.hid hsl
          have hoc'h := Lib.hid hoc
          have hlz'h := Lib.hid hlz
          have hr'V'h := Lib.hid hr'V
          have hr'c'h := Lib.hid hr'c
          clear hI2 hrow2 hsl hoc hlz hr'V hr'c
          go_wp2_with (at_builtin; refine wpList_append_slk _ rfl (.tmp 42) (.tmp 44) 23 rfl W0.heap.size 55 i0 (.slice none 0 0) 1 24 Tryd.underlying23 hi hz hs hby rfl (by decide) (.slice op outs.length oc) outs.length (outs.map crV) rfl hI2'h.out.outer _ 1 1 _ rfl hsl'h.out (by intro v hv; simp at hv; subst hv; rfl) (by have := hoc'h.out; unfold maxLen; omega) (by have := hoc'h.out; omega) hI2'h.out.low.size ?_; intro v' V3 hown3 hgrow3 hwh3; have hI4 := hI2'h.out.push (r := r') hrow2'h.out hlv'h.out hown3 hgrow3; have hb3 := hI2'h.out.kept hgrow3; obtain ⟨sp', cp', hv', -, -, -⟩ := row_form hown3; subst hv'; have y9 : V3.cell? ⟨ob, 3, none⟩ = some (.slice op outs.length oc) := blk_cell (i := 3) hb3 rfl; have f9 := blk_free 3 hb3; clear hgrow3 hwh3 hown3 hb3; have hI4'h := Lib.hid hI4; clear hI4)
          rw [← hsp]
          go_roundg (gk - 1)
          case measure => have := hj'h.out; omega
          case rel => exact ⟨j + 1, outs ++ [r'], _, by have := hj'h.out; omega, by go_num, by rw [List.length_append, hol'h.out]; rfl, by rw [List.map_append, hom'h.out, List.range_succ, List.map_append]; simp only [List.map_cons, List.map_nil]; rw [hr'c'h.out], hI4'h.out⟩
        | false =>
          rw [hct] at C
          have hj'h := Lib.hid hj
          have hol'h := Lib.hid hol
          have hom'h := Lib.hid hom
          have hI'h := Lib.hid hI
          have hrws'h := Lib.hid hrws
          have C'h := Lib.hid C
          have hct'h := Lib.hid hct
          clear hj hol hom hI hrws C hct
          clear hE hN hO hS hrl4
          go_wp2_with fail
          refine C'h.out.mono ?_
          rintro e w7 ⟨rfl, hw7⟩
          obtain rfl := hw7.symm
          have hIV := hI'h.out
          obtain ⟨r', hr'⟩ : ∃ r' : CRow, r' = ⟨none, 0, 0, []⟩ := ⟨_, rfl⟩
          have hr'V : crV r' = .slice none 0 0 := by rw [hr']; rfl
          have hr'c : (if G.contains (j : Int) then (nthR rows j).cs else []) = r'.cs := by rw [hct'h.out, hr']; rfl
          have hrv : wr.ownsRow W0.heap.size 57 4 (crV r') r'.len (cals r'.cs) := by rw [hr']; exact ⟨rfl, .inl ⟨rfl, rfl⟩⟩
          have hlv : r'.len = r'.cs.length ∧ r'.cs.length ≤ 66 ∧ ∀ c ∈ r'.cs, CalOk c := by rw [hr']; exact ⟨rfl, by simp, fun c hc => by simp at hc⟩
          clear hr' hI'h c1 C'h
          have hIV'h := Lib.hid hIV
          have hrv'h := Lib.hid hrv
          have hlv'h := Lib.hid hlv
          clear hIV hrv hlv
          have hoc : outs.length ≤ 16 := by have := hol'h.out; have := hfew'h.out; omega
          have hlz := hIV'h.out.low.size
          have hB2 := (Below.refl wr.heap.size wr).alloc (Nat.le_refl _) (.cells #[.slice none 0 0] 55)
          have hI2 := hIV'h.out.next hB2
          have hrow2 := ownsRow_next hrv'h.out hB2
          have hsl : SlK (wr.alloc (.cells #[.slice none 0 0] 55)) 1 (some ⟨wr.heap.size, 0, none⟩) 1 [crV r'] := by rw [hr'V]; exact SlK.of_blk (World.alloc_heap_new _ _) rfl (by decide)
          have y3 : wr.cell? ⟨ob, 3, none⟩ = some (.slice op outs.length oc) := hIV'h.out.c3
          clear hB2
          have hI2'h := Lib.hid hI2
          have hrow2'h := Lib.hid hrow2
          have hsl'h := Lib.hid hsl
          have hoc'h := Lib.hid hoc
          have hlz'h := Lib.hid hlz
          have hr'V'h := Lib.hid hr'V
          have hr'c'h := Lib.hid hr'c
          clear hI2 hrow2 hsl hoc hlz hr'V hr'c
          go_wp2_with (at_builtin; refine wpList_append_slk _ rfl (.tmp 42) (.tmp 44) 23 rfl W0.heap.size 55 i0 (.slice none 0 0) 1 24 Tryd.underlying23 hi hz hs hby rfl (by decide) (.slice op outs.length oc) outs.length (outs.map crV) rfl hI2'h.out.outer _ 1 1 _ rfl hsl'h.out (by intro v hv; simp at hv; subst hv; rfl) (by have := hoc'h.out; unfold maxLen; omega) (by have := hoc'h.out; omega) hI2'h.out.low.size ?_; intro v' V3 hown3 hgrow3 hwh3; have hI4 := hI2'h.out.push (r := r') hrow2'h.out hlv'h.out hown3 hgrow3; have hb3 := hI2'h.out.kept hgrow3; obtain ⟨sp', cp', hv', -, -, -⟩ := row_form hown3; subst hv'; have y9 : V3.cell? ⟨ob, 3, none⟩ = some (.slice op outs.length oc) := blk_cell (i := 3) hb3 rfl; have f9 := blk_free 3 hb3; clear hgrow3 hwh3 hown3 hb3; have hI4'h := Lib.hid hI4; clear hI4)
          rw [← hsp]
          go_roundg (gk - 1)
          case measure => have := hj'h.out; omega
          case rel => exact ⟨j + 1, outs ++ [r'], _, by have := hj'h.out; omega, by go_num, by rw [List.length_append, hol'h.out]; rfl, by rw [List.map_append, hom'h.out, List.range_succ, List.map_append]; simp only [List.map_cons, List.map_nil]; rw [hr'c'h.out], hI4'h.out⟩
      · have i1 : ¬ (j : Int) < (ln : Int) := by omega
        have hjn : j = rows.length := by have := hrl'h.out; omega
        obtain ⟨hIn, hOwn, -, -⟩ := hI.script hg'h.out hsb'h.out hseed'h.out (by have := hfew'h.out; omega) (by rw [List.length_take]; have := hmany'h.out; have := hpl'h.out; omega) hk64'h.out
        have hb0 := hI.blk
        have y0 : wr.cell? ⟨ob, 0, none⟩ = some (.int .i64 g) := blk_cell (i := 0) hb0 rfl
        have y1 : wr.cell? ⟨ob, 1, none⟩ = some (.int .i64 sb) := blk_cell (i := 1) hb0 rfl
        have y2 : wr.cell? ⟨ob, 2, none⟩ = some (.int .u64 (seed : Int)) := blk_cell (i := 2) hb0 rfl
        have y3 : wr.cell? ⟨ob, 3, none⟩ = some (.slice op outs.length oc) := blk_cell (i := 3) hb0 rfl
        have y4 : wr.cell? ⟨ob, 4, none⟩ = some (.slice cp m cc) := blk_cell (i := 4) hb0 rfl
        have hbr := heap_below hI.low hbr'h.out (lt_of_heap hbr'h.out)
        have z0 : wr.cell? ⟨w.heap.size + 1, 0, none⟩ = some (.int .i64 0) := blk_cell (i := 0) hbr rfl
        have z1 : wr.cell? ⟨w.heap.size + 1, 1, none⟩ = some (.int .i64 0) := blk_cell (i := 1) hbr rfl
        have z2 : wr.cell? ⟨w.heap.size + 1, 2, none⟩ = some (.int .u64 0) := blk_cell (i := 2) hbr rfl
        have z3 : wr.cell? ⟨w.heap.size + 1, 3, none⟩ = some (.slice none 0 0) := blk_cell (i := 3) hbr rfl
        have z4 : wr.cell? ⟨w.heap.size + 1, 4, none⟩ = some (.slice none 0 0) := blk_cell (i := 4) hbr rfl
        have f0 := blk_free 0 hbr
        have f1 := blk_free 1 hbr
        have f2 := blk_free 2 hbr
        have f3 := blk_free 3 hbr
        have f4 := blk_free 4 hbr
        have hlow := hB00'h.out.trans (hI.low.mono (by rw [hW0s'h.out]; omega))
        clear hI hb0 hj
        rw [hjn]
        rw [hjn] at i1 hom
        have hom'h := Lib.hid hom
        have hIn'h := Lib.hid hIn
        have hOwn'h := Lib.hid hOwn
        have hbr'h := Lib.hid hbr
        have hlow'h := Lib.hid hlow
        have hol'h := Lib.hid hol
        clear hom hIn hOwn hbr hlow hol
        go_wp2
        have hK5 := ((((Kept.setCell (fun b => W0.heap.size ≤ b) wr ⟨w.heap.size + 1, 0, none⟩ (.int .i64 g) (by simp only; rw [hW0s'h.out]; omega)).trans (Kept.setCell _ _ ⟨w.heap.size + 1, 1, none⟩ (.int .i64 sb) (by simp only; rw [hW0s'h.out]; omega))).trans (Kept.setCell _ _ ⟨w.heap.size + 1, 2, none⟩ (.int .u64 (seed : Int)) (by simp only; rw [hW0s'h.out]; omega))).trans (Kept.setCell _ _ ⟨w.heap.size + 1, 3, none⟩ (.slice op outs.length oc) (by simp only; rw [hW0s'h.out]; omega))).trans (Kept.setCell _ _ ⟨w.heap.size + 1, 4, none⟩ (.slice cp m cc) (by simp only; rw [hW0s'h.out]; omega))
        have hOwn2 := hOwn'h.out.keep hK5
        have hIn2 := hIn'h.out.own hOwn2
        have hlow2 := ((((hlow'h.out.setCell (p := ⟨w.heap.size + 1, 0, none⟩) (by simp) (.int .i64 g)).setCell (p := ⟨w.heap.size + 1, 1, none⟩) (by simp) (.int .i64 sb)).setCell (p := ⟨w.heap.size + 1, 2, none⟩) (by simp) (.int .u64 (seed : Int))).setCell (p := ⟨w.heap.size + 1, 3, none⟩) (by simp) (.slice op outs.length oc)).setCell (p := ⟨w.heap.size + 1, 4, none⟩) (by simp) (.slice cp m cc)
        have hbr2 := blk_set (i := 4) (.slice cp m cc) (blk_set (i := 3) (.slice op outs.length oc) (blk_set (i := 2) (.int .u64 (seed : Int)) (blk_set (i := 1) (.int .i64 sb) (blk_set (i := 0) (.int .i64 g) hbr'h.out))))
        clear y0 y1 y2 y3 y4 z0 z1 z2 z3 z4 f0 f1 f2 f3 f4 hK5
        generalize World.setCell _ _ _ = W2 at hIn2 hlow2 hbr2 hOwn2 ⊢
        have d0 : W2.cell? ⟨w.heap.size + 1, 0, none⟩ = some (.int .i64 g) := blk_cell (i := 0) hbr2 rfl
        have d1 : W2.cell? ⟨w.heap.size + 1, 1, none⟩ = some (.int .i64 sb) := blk_cell (i := 1) hbr2 rfl
        have d2 : W2.cell? ⟨w.heap.size + 1, 2, none⟩ = some (.int .u64 (seed : Int)) := blk_cell (i := 2) hbr2 rfl
        have d3 : W2.cell? ⟨w.heap.size + 1, 3, none⟩ = some (.slice op outs.length oc) := blk_cell (i := 3) hbr2 rfl
        have d4 : W2.cell? ⟨w.heap.size + 1, 4, none⟩ = some (.slice cp m cc) := blk_cell (i := 4) hbr2 rfl
        have hfin : CutAt w (cutS (Sm.scr ⟨g, sb, seed, lp, ln, lc, rows, pp, pn, pc, ps⟩) picks G) (.returned (.agg (smA ⟨g, sb, seed, op, outs.length, oc, outs, cp, m, cc, ps.take m⟩))) W2 := by
          refine ⟨_, rfl, hlow2, hIn2, hOwn2.mono (by rw [hW0s'h.out]; omega), ?_⟩
          unfold cutS Sm.scr
          simp only
          rw [hom'h.out, List.length_map, hpm'h.out]
          congr 1
          refine List.map_congr_left fun i hi => ?_
          rw [nth_lists (List.mem_range.1 hi)]
        unfold smA at hfin
        clear hIn2 hbr2 hlow2 hOwn2
        refine bodyPost_ret (v := .agg #[.int .i64 g, .int .i64 sb, .int .u64 (seed : Int), .slice op outs.length oc, .slice cp m cc]) ?_ rfl hfin
        simp [results, Tryd.results30, go_sem, d0, d1, d2, d3, d4]
end Go.Proofs.YtifofdciablljaaDoor

/-
  What the rows of the chapter list: the table of the words that calls take; a world for the witness.
-/
set_option linter.unusedSimpArgs false
set_option linter.unusedVariables false
namespace Go.Proofs.YtifofdciablljaaDoor
open Go.ChangeShapes Go.WideShapes Go.ChangeAt Go.RowKit

theorem gTab : Tryd.prog.globalNamed "honeycomb/script.takes" = some 0 := by kernel_rfl
theorem gTabType : (Tryd.prog.globals[0]?).map (·.type) = some 66 := by kernel_rfl
theorem cellsTab : Tryd.prog.cellsOf 66 = 8 := by kernel_rfl
theorem cellsInt : Tryd.prog.cellsOf 3 = 1 := by kernel_rfl
theorem tableT {W : World} (h : laidMetH Tryd.prog [("honeycomb/script.takes", Rows.laid_honeycomb_script_takes)] W) : Lib.TabIs Tryd.prog W "honeycomb/script.takes" .i64 tkL :=
  Lib.tabIs_of_head (rest := []) gTab gTabType Tryd.underlying66 Tryd.underlying3 cellsInt cellsTab h
theorem tks_of {W : World} (h : laidMetH Tryd.prog [("honeycomb/script.takes", Rows.laid_honeycomb_script_takes)] W) : Tks W := fun i hi => by
  have := (tableT h).cell gTab i (by exact hi)
  rw [this, List.getD_eq_getElem?_getD, List.getElem?_eq_getElem (show i < tkL.length from hi)]
/-- A world for the witness: the settled one, the table holding what its initialiser lays. -/
noncomputable def laidW (os : Os) : World :=
  { World.holding Tryd.prog os ⟨#[], #[], []⟩ with heap := (World.holding Tryd.prog os ⟨#[], #[], []⟩).heap.modify 0 fun
      | .cells _ t frozen => .cells #[.int .i64 (-1), .int .i64 1, .int .i64 2, .int .i64 1, .int .i64 3, .int .i64 2, .int .i64 0, .int .i64 0] t frozen
      | o => o }
end Go.Proofs.YtifofdciablljaaDoor

/-
  Arguments of layer 3, opened: scripts.
-/
set_option linter.unusedSimpArgs false
set_option linter.unusedVariables false
set_option maxRecDepth 100000
namespace Go.Proofs.YtifofdciablljaaDoor
open Go.ChangeShapes Go.WideShapes Go.RowKit Go.Joins Go.Deep
variable {H : Type} {enc : TypeId × Value → H} {w : World} {base : Nat} {spare : Nat → Bool} {held : Bool}

section
variable {P : Program}
theorem open_slice_c {α : Type} {t e : TypeId} {c : Value} {n0 : Nat} {y0 : DataW H × List MemPlace} (f : α → List Value) (K : Nat) (ok : α → Prop) (hk : ∀ x, (f x).length = K) (hK : 0 < K) (ht : P.underlying t = some (.slice e)) (hC : P.cellsOf e = K)
    (hE : ∀ (n : Nat) (cs' : List Value) (y : DataW H × List MemPlace), cs'.length = K → DataW.trod enc P w base spare held n e cs' = some y → ∃ x, cs' = f x ∧ ok x)
    (hf : DataW.trod enc P w base spare held n0 t [c] = some y0) :
    ∃ (sp : Option Addr) (len cap : Nat) (xs : List α), c = .slice sp len cap ∧ SlK w K sp len (xs.flatMap f) ∧ len = xs.length ∧ (∀ x ∈ xs, ok x) ∧ (sp = none → cap = 0) ∧ len ≤ cap := by
  rcases open_slice ht hf with ⟨hcs, _⟩ | ⟨a, len, cap, m, n, D, Pl, hcs, _, hl, hm, hmm, _, hx⟩
  · have e : c = .slice none 0 0 := by simpa using hcs
    exact ⟨none, 0, 0, [], e, SlK.nil _ _ _, rfl, fun x hx => (by cases hx), fun _ => rfl, Nat.le_refl _⟩
  · have e : c = .slice (some a) len cap := by simpa using hcs
    have hlm : len ≤ m := by rw [hmm]; split <;> omega
    rw [hC] at hx
    obtain ⟨xs, hxl, hxs⟩ := pick_list (p := fun i x => w.cells? base (a.add (i * K)) K = some (f x) ∧ ok x) len (fun i hi => by
      obtain ⟨cs', h1, h2⟩ := hx i (by omega)
      obtain ⟨_, hlen, _⟩ := World.cells?_some h1
      obtain ⟨x, rfl, hok⟩ := hE n cs' _ hlen h2
      exact ⟨x, h1, hok⟩)
    refine ⟨some a, len, cap, xs, e, ⟨by rw [flatMap_len hk, hxl], Nat.le_trans hl hm, ?_⟩, hxl.symm, fun x hx => ?_, fun h => (by cases h), hl⟩
    · by_cases h0 : len = 0
      · exact .inl h0
      · obtain ⟨b, off, spot⟩ := a
        have h1 := (World.cells?_some (hxs 0 (by omega)).1).2.2 0 hK
        have h2 : (f (xs[0]'(by omega)))[0]? = some ((f (xs[0]'(by omega)))[0]'(by rw [hk]; exact hK)) := List.getElem?_eq_getElem _
        have hspot : spot = none := by
          have := World.cell?_spot (h1.trans h2)
          simpa [Addr.add] using this
        subst hspot
        refine .inr ⟨b, off, rfl, fun j u hu => ?_⟩
        have hadd : ∀ q, (⟨b, off, none⟩ : Addr).add q = ⟨b, off + q, none⟩ := fun q => by unfold Addr.add; split <;> simp_all
        have hadd2 : ∀ q s, (⟨b, q, none⟩ : Addr).add s = ⟨b, q + s, none⟩ := fun q s => by unfold Addr.add; split <;> simp_all
        have hj : j < xs.length * K := by
          have := (List.getElem?_eq_some_iff.1 hu).1
          rwa [flatMap_len hk] at this
        have hq : j / K < xs.length := (Nat.div_lt_iff_lt_mul hK).2 hj
        have hr : j % K < K := Nat.mod_lt _ hK
        have hd : j / K * K + j % K = j := by rw [Nat.mul_comm]; exact Nat.div_add_mod j K
        have h3 := (World.cells?_some (hxs (j / K) hq).1).2.2 (j % K) hr
        rw [hadd, hadd2, Nat.add_assoc, hd] at h3
        rw [h3, ← flatMap_get hk xs (j / K) (j % K) hr hq, hd]
        exact hu
    · obtain ⟨i, hi, rfl⟩ := List.mem_iff_getElem.1 hx
      exact (hxs i hi).2
/-- The fields of a struct that lies in a row. -/
theorem trod_fields {t : TypeId} {fs : Array Field} {cs : List Value} {n0 : Nat} {y0 : DataW H × List MemPlace} (hs : P.underlying t = some (.struct fs)) (hone : oneCellFields P fs = true) (hl : cs.length = fs.size)
    (hf : DataW.trod enc P w base spare held n0 t cs = some y0) :
    ∀ (j : Nat) (f : Field), fs[j]? = some f → ∃ (c : Value) (n : Nat) (y : DataW H × List MemPlace), cs[j]? = some c ∧ DataW.trod enc P w base spare held n f.type [c] = some y := by
  obtain ⟨xs, n, _, hx, _, hl', hg⟩ := DataW.trod_struct hs hf
  intro j f hj
  have hjl : j < fs.size := (Array.getElem?_eq_some_iff.1 hj).1
  obtain ⟨ho, hk⟩ := hone_of hone j f hj
  have h1 := hg j f hj
  rw [ho, hk] at h1
  have e : (cs.drop j).take 1 = [cs[j]'(by omega)] := by
    rw [List.drop_eq_getElem_cons (by omega)]; rfl
  rw [e, List.getElem?_eq_getElem (by omega)] at h1
  exact ⟨cs[j]'(by omega), n, _, List.getElem?_eq_getElem (by omega), h1⟩
theorem field_at {fs : Array Field} {cs : List Value} (hf : ∀ (j : Nat) (f : Field), fs[j]? = some f → ∃ (c : Value) (n : Nat) (y : DataW H × List MemPlace), cs[j]? = some c ∧ DataW.trod enc P w base spare held n f.type [c] = some y)
    (j : Nat) (t : TypeId) (hj : (fs[j]?).map (·.type) = some t) : ∃ (c : Value) (n : Nat) (y : DataW H × List MemPlace), cs[j]? = some c ∧ DataW.trod enc P w base spare held n t [c] = some y := by
  cases hfj : fs[j]? with
  | none => rw [hfj] at hj; cases hj
  | some f =>
    rw [hfj] at hj
    obtain ⟨c, n, y, hc, ht'⟩ := hf j f hfj
    have ef : f.type = t := by simpa using hj
    rw [ef] at ht'
    exact ⟨c, n, y, hc, ht'⟩
end
theorem list4 {cs : List Value} {c0 c1 c2 c3 : Value} (hl : cs.length = 4) (h0 : cs[0]? = some c0) (h1 : cs[1]? = some c1) (h2 : cs[2]? = some c2) (h3 : cs[3]? = some c3) : cs = [c0, c1, c2, c3] := by
  match cs, hl with
  | [a0, a1, a2, a3], _ => simp at h0 h1 h2 h3; rw [h0, h1, h2, h3]
theorem list5 {cs : List Value} {c0 c1 c2 c3 c4 : Value} (hl : cs.length = 5) (h0 : cs[0]? = some c0) (h1 : cs[1]? = some c1) (h2 : cs[2]? = some c2) (h3 : cs[3]? = some c3) (h4 : cs[4]? = some c4) : cs = [c0, c1, c2, c3, c4] := by
  match cs, hl with
  | [a0, a1, a2, a3, a4], _ => simp at h0 h1 h2 h3 h4; rw [h0, h1, h2, h3, h4]
theorem calc_cells {cs : List Value} {fs : Array Field} (hl : cs.length = 4) (hf : ∀ (j : Nat) (f : Field), fs[j]? = some f → ∃ (c : Value) (n : Nat) (y : DataW H × List MemPlace), cs[j]? = some c ∧ DataW.trod enc Tryd.prog w base spare held n f.type [c] = some y)
    (h0 : (fs[0]?).map (·.type) = some 3) (h1 : (fs[1]?).map (·.type) = some 22) (h2 : (fs[2]?).map (·.type) = some 22) (h3 : (fs[3]?).map (·.type) = some 22) : ∃ c : Cal, cs = calL c ∧ CalOk c := by
  obtain ⟨z0, e0, w0⟩ := field_int hf 0 3 .i64 h0 Tryd.underlying3
  obtain ⟨z1, e1, w1⟩ := field_int hf 1 22 .u64 h1 Tryd.underlying22
  obtain ⟨z2, e2, w2⟩ := field_int hf 2 22 .u64 h2 Tryd.underlying22
  obtain ⟨z3, e3, w3⟩ := field_int hf 3 22 .u64 h3 Tryd.underlying22
  obtain ⟨n1, rfl, b1⟩ := nat_of_u64 w1
  obtain ⟨n2, rfl, b2⟩ := nat_of_u64 w2
  obtain ⟨n3, rfl, b3⟩ := nat_of_u64 w3
  have := wf_i64' w0
  exact ⟨⟨z0, n1, n2, n3⟩, list4 hl e0 e1 e2 e3, this.1, this.2, b1, b2, b3⟩
theorem calls_row {n : Nat} {c : Value} {y : DataW H × List MemPlace} (h : DataW.trod enc Tryd.prog w base spare held n 55 [c] = some y) : ∃ r : CRow, c = crV r ∧ SlK w 4 r.sp r.len (cals r.cs) ∧ (r.sp = none → r.cap = 0) ∧ r.len ≤ r.cap ∧ ∀ c ∈ r.cs, CalOk c := by
  obtain ⟨sp, len, cap, xs, hc, hS, _, hok, hn, hle⟩ := open_slice_c calL 4 CalOk calL_len (by decide) Tryd.underlying55 (by kernel_rfl) (fun n cs y hl hy => calc_cells hl (trod_fields Tryd.underlying57 (by kernel_rfl) hl hy) rfl rfl rfl rfl) h
  exact ⟨⟨sp, len, cap, xs⟩, hc, hS, hn, hle, hok⟩
theorem single_of {cs : List Value} (h : cs.length = 1) : ∃ c, cs = [c] := by
  match cs, h with
  | [c], _ => exact ⟨c, rfl⟩
theorem open_script {r : Reach} {b0 : Nat} {v : Value} {d : DataW H} {p : List MemPlace} (hv : Value.okWide Tryd.prog w r b0 26 v) (h : DataW.Trod enc Tryd.prog w base spare held 26 v d p) : ∃ s : Sm, v = .agg (smA s) ∧ SmArg w s := by
  obtain ⟨cs, rfl, hl, hf⟩ := open_cells Tryd.underlying26 (by kernel_rfl) (by kernel_rfl) hv h
  obtain ⟨z0, e0, w0⟩ := field_int hf 0 3 .i64 rfl Tryd.underlying3
  obtain ⟨z1, e1, w1⟩ := field_int hf 1 3 .i64 rfl Tryd.underlying3
  obtain ⟨z2, e2, w2⟩ := field_int hf 2 22 .u64 rfl Tryd.underlying22
  obtain ⟨seed, rfl, b2⟩ := nat_of_u64 w2
  obtain ⟨c3, n3, y3, e3, t3⟩ := field_at hf 3 23 rfl
  obtain ⟨lp, ln, lc, rows, rfl, hS, _, hok, hn, hle⟩ := open_slice_c (fun r : CRow => [crV r]) 1 (fun r => SlK w 4 r.sp r.len (cals r.cs) ∧ (r.sp = none → r.cap = 0) ∧ r.len ≤ r.cap ∧ ∀ c ∈ r.cs, CalOk c) (fun _ => rfl) (by decide) Tryd.underlying23 (by kernel_rfl) (fun n cs y hl hy => by
    obtain ⟨c, rfl⟩ := single_of hl
    obtain ⟨r, rfl, hr⟩ := calls_row hy
    exact ⟨r, rfl, hr⟩) t3
  obtain ⟨c4, n4, y4, e4, t4⟩ := field_at hf 4 24 rfl
  obtain ⟨pp, pn, pc, ps, rfl, hP, _, hpok, hpn, hple⟩ := open_slice_c (fun n : Nat => [Value.int .u64 (n : Int)]) 1 (fun n => n < 2 ^ 64) (fun _ => rfl) (by decide) Tryd.underlying24 (by kernel_rfl) (fun n cs y hl hy => by
    obtain ⟨c, rfl⟩ := single_of hl
    obtain ⟨z, hc, -, hw⟩ := DataW.trod_int Tryd.underlying22 hy
    obtain ⟨k, rfl, hk⟩ := nat_of_u64 hw
    injection hc with hc
    subst hc
    exact ⟨k, rfl, hk⟩) t4
  have hS' : SlK w 1 lp ln (rows.map crV) := by rw [List.map_eq_flatMap]; exact hS
  have hP' : Sl w pp pn (u64s ps) := by
    have : u64s ps = ps.flatMap fun n : Nat => [Value.int .u64 (n : Int)] := by unfold u64s; rw [List.map_eq_flatMap]
    rw [this]; exact hP.sl
  rw [list5 hl e0 e1 e2 e3 e4]
  exact ⟨⟨z0, z1, seed, lp, ln, lc, rows, pp, pn, pc, ps⟩, rfl, hS', fun r hr => (hok r hr).1, fun r hr => (hok r hr).2.1, fun r hr => (hok r hr).2.2.1, fun r hr => (hok r hr).2.2.2, hP', hpok, b2, wf_i64' w0, wf_i64' w1, hn, hle, hpn, hple⟩
end Go.Proofs.YtifofdciablljaaDoor

