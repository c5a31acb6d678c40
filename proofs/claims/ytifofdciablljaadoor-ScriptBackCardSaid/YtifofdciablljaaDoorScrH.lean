/-
  Layer 3 (script): Encode.
-/
import Derived.Test.YtifofdciablljaaDoorScrG
set_option linter.unusedSimpArgs false
set_option linter.unusedVariables false
set_option maxRecDepth 100000
namespace Go.Proofs.YtifofdciablljaaDoor
open Go.RowKit

/-- A script's bytes. -/
def bytesS (s : Scr) : List Nat := (encS s).flatMap numB
theorem numbers_any (s : Sm) (w : World) : Calls Tryd.prog 45 #[.agg (smA s)] w fun e w' =>
    e = .returned (.func (.func 61) #[] #[.pointer (some ⟨w.heap.size, 0, none⟩)]) ∧ w' = w.alloc (.cells (smA s) 26) := by
  go_enter Tryd.func45, Tryd.ntmps45
  go_wp2
  go_ret
  exact ⟨rfl, rfl⟩
theorem enters_numbers (args : Array Value) (w : World) : (callFunc 61 args).run Tryd.prog w = .ok (.enter 61 args) w :=
  enters_of Tryd.func61 (by kernel_rfl) rfl args w

/-! ### How long the row of numbers is -/
theorem encC_len (c : Cal) : (encC c).length ≤ 4 := by unfold encC wordsC; simp; omega
theorem flat_encC : ∀ l : List Cal, (l.flatMap encC).length ≤ 4 * l.length
  | [] => by simp
  | c :: r => by have := encC_len c; have := flat_encC r; simp only [List.flatMap_cons, List.length_append, List.length_cons]; omega
theorem flat_encL : ∀ ls : List (List Cal), (ls.flatMap encL).length ≤ ls.length + 4 * ls.flatten.length
  | [] => by simp
  | l :: r => by
    have := flat_encC l
    have := flat_encL r
    simp only [List.flatMap_cons, List.length_append, List.length_cons, List.flatten_cons, encL]
    omega
theorem encS_len {s : Scr} (h : rightS s = true) : (encS s).length ≤ 4400 := by
  unfold rightS headS sizesS at h
  simp only [Bool.and_eq_true, decide_eq_true_eq] at h
  obtain ⟨⟨⟨⟨⟨⟨g1, g2⟩, b1⟩, b2⟩, hgl⟩, hpl⟩, hcl, hall⟩ := h
  have := flat_encL s.lists
  unfold encS
  simp only [List.length_cons, List.length_append]
  omega
theorem flat_numB : ∀ l : List Nat, (∀ n ∈ l, n < 2 ^ 64) → (l.flatMap numB).length ≤ 10 * l.length
  | [], _ => by simp
  | n :: r, h => by
    have := numB_ten (h n (by simp))
    have := flat_numB r fun x hx => h x (by simp [hx])
    simp only [List.flatMap_cons, List.length_append, List.length_cons]; omega

/-- While a script's bytes are put behind each other. -/
structure EncI (B bo : Nat) (w : World) (vs : Vs) (S : Nat → Prop) (W : World) : Prop where
  out : ∃ (v : Value) (pre : List Nat), vs = pre.map valV ∧ Own1 ⟨bo, 0, none⟩ v S W ∧ OwnR B 5 1 v (pre.flatMap numB).length (u8s (pre.flatMap numB)) S W
  old : Old w.heap.size w S W
  lo : B ≤ W.heap.size
theorem EncI.stable (B bo : Nat) (w : World) (vs : Vs) : Stable (EncI B bo w vs) := fun S S' W W' h f => by
  obtain ⟨⟨v, pre, h1, h2, h3⟩, h4, h5⟩ := h
  exact ⟨⟨v, pre, h1, Own1.stable _ _ _ _ _ _ h2 f, OwnR.stable _ _ _ _ _ _ _ _ _ _ h3 f⟩, Old.stable _ _ _ _ _ _ h4 f, Nat.le_trans h5 f.size⟩
theorem NumY.last {told : List Nat} {vs : Vs} {v : Array Value} {S : Nat → Prop} {W : World} (h : NumY told (vs ++ [v]) S W) : ∃ n, v = valV n := by
  obtain ⟨pre, rest, h1, h2⟩ := h
  have hv : v ∈ pre.map valV := by rw [← h2]; simp
  obtain ⟨n, -, rfl⟩ := List.mem_map.1 hv
  exact ⟨n, rfl⟩
theorem valV_inj {a b : List Nat} (h : a.map valV = b.map valV) : a = b :=
  List.map_inj_right (fun x y h => by unfold valV at h; simp at h; omega) |>.1 h
theorem encS_lt {w : World} {s : Sm} (h : SmIn w s) : ∀ n ∈ encS s.scr, n < 2 ^ 64 := by
  have hC : ∀ c, CalOk c → ∀ n ∈ encC c, n < 2 ^ 64 := by
    intro c hc n hn
    unfold encC at hn
    rcases List.mem_cons.1 hn with rfl | hn
    · have := hc.hi; omega
    · have := List.mem_of_mem_take hn
      unfold wordsC at this
      simp only [List.mem_cons, List.not_mem_nil, or_false] at this
      rcases this with rfl | rfl | rfl
      · exact hc.key
      · exact hc.a
      · exact hc.b
  intro n hn
  unfold encS Sm.scr at hn
  simp only [List.mem_cons, List.mem_append, List.mem_flatMap, List.mem_map] at hn
  rcases hn with rfl | rfl | rfl | ⟨l, ⟨r, hr, rfl⟩, hn⟩ | rfl | hn
  · have := h.g; omega
  · have := h.sl; omega
  · exact h.seed
  · unfold encL at hn
    rcases List.mem_cons.1 hn with rfl | hn
    · have := h.rows.short r hr; omega
    · obtain ⟨c, hc, hn⟩ := List.mem_flatMap.1 hn
      exact hC c (h.rows.ok r hr c hc) n hn
  · have := h.many; have h2 := h.picks.1; rw [u64s_length] at h2; omega
  · exact h.w64 n hn
set_option maxHeartbeats 1000000 in
theorem encode_no (s : Sm) (w : World) (hT : Tks w) (h : SmIn w s) (hr : rightS s.scr = false) :
    Calls Tryd.prog 23 #[.agg (smA s)] w fun e w' => e = .returned (.tuple #[.slice none 0 0, .int .i64 130]) ∧ Below w.heap.size w w' := by
  have hB1 : Below w.heap.size w (w.alloc (.cells (smA s) 26)) := (Below.refl _ _).alloc (Nat.le_refl _) _
  have hb1 : (w.alloc (.cells (smA s) 26)).heap[w.heap.size]? = some (.cells (smA s) 26) := World.alloc_heap_new _ _
  have C := check_any s _ (hT.next hB1) (h.below hB1)
  have e : chkS s.scr = 130 := by unfold chkS; rw [hr]; rfl
  rw [e] at C
  have C'h := Lib.hid C
  have hB1'h := Lib.hid hB1
  have hb1'h := Lib.hid hb1
  clear C hB1 hb1
  refine (callsIn_wide (n := 0)).1 ?_
  refine callsIn_of_wp_marks Tryd.func23 rfl trivial ?_
  simp only [Tryd.ntmps23, List.size_toArray, List.length_cons, List.length_nil, Nat.reduceAdd, Nat.reduceSub, Array.replicate_succ, Array.replicate_zero, List.push_toArray, List.append_toArray, List.nil_append, List.cons_append]
  refine wpIn_wide.2 ?_
  go_wp2_with (guard_target = wpList _ _ _ (Oper.mk _ (.load _ (.tmp 1)) _ _ _ _ :: _) _ _; refine wpList_load_row rfl 26 (.tmp 1) rfl (w.heap.size) rfl 26 (smA s) (0, 0) _ hb1'h.out Tryd.underlying26 rfl info_sm ?_)
  refine C'h.out.mono ?_
  rintro e w2 ⟨rfl, hB2⟩
  have hB2'h := Lib.hid hB2
  clear hB2
  go_wp2
  exact post_plain (.inl rfl) (results_tmp2 rfl _ _ _) ⟨rfl, hB1'h.out.trans (hB2'h.out.mono hB1'h.out.size)⟩
def encAx (bo : Nat) (I : (Nat → Prop) → World → Prop) (F : Nat → Act) (v : Array Value) (a : Act) (S : Nat → Prop) (W : World) : Prop := ∃ n : Nat, v = valV n ∧ a = F n ∧ I S W
theorem encAx_stable (bo : Nat) (I : (Nat → Prop) → World → Prop) (hI : Stable I) (F : Nat → Act) (v : Array Value) (a : Act) : Stable (encAx bo I F v a) := by
  rintro S S' W W' ⟨n, h1, h2, h3⟩ f
  exact ⟨n, h1, h2, hI _ _ _ _ h3 f⟩
set_option maxHeartbeats 1000000 in
theorem encode_yes (s : Sm) (w : World) (hT : Tks w) (h : SmIn w s) (hr : rightS s.scr = true) :
    Calls Tryd.prog 23 #[.agg (smA s)] w fun e w' => ∃ v, e = .returned (.tuple #[v, .int .i64 0]) ∧ Below w.heap.size w w' ∧ w'.ownsRow w.heap.size 5 1 v (bytesS s.scr).length (u8s (bytesS s.scr)) := by
  have hB1 : Below w.heap.size w (w.alloc (.cells (smA s) 26)) := (Below.refl _ _).alloc (Nat.le_refl _) _
  have hb1 : (w.alloc (.cells (smA s) 26)).heap[w.heap.size]? = some (.cells (smA s) 26) := World.alloc_heap_new _ _
  have C := check_any s _ (hT.next hB1) (h.below hB1)
  have e : chkS s.scr = 0 := by unfold chkS; rw [hr]; rfl
  rw [e] at C
  clear e
  have C'h := Lib.hid C
  have hB1'h := Lib.hid hB1
  have hb1'h := Lib.hid hb1
  clear C hB1 hb1
  refine (callsIn_wide (n := 0)).1 ?_
  refine callsIn_of_wp_marks Tryd.func23 rfl trivial ?_
  simp only [Tryd.ntmps23, List.size_toArray, List.length_cons, List.length_nil, Nat.reduceAdd, Nat.reduceSub, Array.replicate_succ, Array.replicate_zero, List.push_toArray, List.append_toArray, List.nil_append, List.cons_append]
  refine wpIn_wide.2 ?_
  go_wp2_with (guard_target = wpList _ _ _ (Oper.mk _ (.load _ (.tmp 1)) _ _ _ _ :: _) _ _; refine wpList_load_row rfl 26 (.tmp 1) rfl (w.heap.size) rfl 26 (smA s) (0, 0) _ hb1'h.out Tryd.underlying26 rfl info_sm ?_)
  refine C'h.out.mono ?_
  rintro e w2 ⟨rfl, hB2⟩
  have hbx := heap_below hB2 hb1'h.out (lt_of_heap hb1'h.out)
  have hBw2 := hB1'h.out.trans (hB2.mono hB1'h.out.size)
  have hbx3 := heap_below ((Below.refl w2.heap.size w2).alloc (Nat.le_refl _) (.cells #[.slice none 0 0] 38)) hbx (lt_of_heap hbx)
  have hBw3 := hBw2.alloc hBw2.size (.cells #[.slice none 0 0] 38)
  have hlt2 := hB1'h.out.size
  have hz12 := hB2.size
  have hsz : w.heap.size < w2.heap.size := lt_of_heap hbx
  obtain ⟨bo, hbo⟩ : ∃ bo, bo = w2.heap.size := ⟨_, rfl⟩
  have own2 : Own1 ⟨bo, 0, none⟩ (.slice none 0 0) (fun _ => False) (w2.alloc (.cells #[.slice none 0 0] 38)) := by rw [hbo]; exact Own1.new _ w2 _ _ (fun h => h)
  clear hB2 hbx hBw2 hlt2 hz12 C'h hB1'h hb1'h
  have hbx3'h := Lib.hid hbx3
  have hBw3'h := Lib.hid hBw3
  have own2'h := Lib.hid own2
  clear hbx3 hBw3 own2
  go_wp2_with (guard_target = wpList _ _ _ (Oper.mk _ (.load _ (.tmp 1)) _ _ _ _ :: _) _ _; refine wpList_load_row rfl 26 (.tmp 1) rfl (w.heap.size) rfl 26 (smA s) (0, 0) _ hbx3'h.out Tryd.underlying26 rfl info_sm ?_)
  refine (numbers_any s _).mono ?_
  rintro e w4 ⟨rfl, h4⟩
  obtain ⟨W3, hW3⟩ : ∃ W3, W3 = w2.alloc (.cells #[.slice none 0 0] 38) := ⟨_, rfl⟩
  rw [← hW3] at h4 ⊢
  have hz3 : W3.heap.size = bo + 1 := by rw [hW3, hbo]; simp
  have hBw3 := hBw3'h.out
  have own3 := own2'h.out
  rw [← hW3] at hBw3 own3
  have hB34 : Below W3.heap.size W3 w4 := by rw [h4]; exact (Below.refl _ _).alloc (Nat.le_refl _) _
  have hb4 : w4.heap[W3.heap.size]? = some (.cells (smA s) 26) := by rw [h4]; exact World.alloc_heap_new _ _
  have hBw4 := hBw3.trans (hB34.mono hBw3.size)
  have own4 := own3.below hB34
  have hN4 : NumR W3.heap.size s w4 := ⟨hb4, h.below hBw4, hT.next hBw4⟩
  have it := numbers_it W3.heap.size s w4 hN4 hr
  have hz4 : w4.heap.size = bo + 2 := by rw [h4, World.size_alloc, hz3]
  have hRO : ∀ b, numRO W3.heap.size s b → b < w4.heap.size ∧ ¬ (False : Prop) := fun b hb => ⟨by
    rcases h.low hT hb with h0 | h0 <;> omega, fun h => h⟩
  have hROb : ¬ numRO W3.heap.size s bo := fun hb => by
    rcases h.low hT hb with h0 | h0 <;> omega
  have htold := encS_len hr
  have h64 := encS_lt h
  have hlw : w.heap.size ≤ bo := by rw [hbo]; omega
  rw [hz3] at it hRO hROb
  rw [← hbo, hz3]
  clear h4 hW3 hbx3'h hBw3'h own2'h hBw3 own3 hB34 hb4 hN4 hz3
  have hI0 : EncI w4.heap.size bo w [] (fun _ => False) w4 := ⟨⟨_, [], rfl, own4, ⟨rfl, .inl ⟨rfl, rfl⟩⟩, fun k hk => by cases hk⟩, ⟨hBw4, Nat.le_refl _, fun b hb h => h⟩, Nat.le_refl _⟩
  obtain ⟨told, htd⟩ : ∃ told, told = encS s.scr := ⟨_, rfl⟩
  rw [← htd] at it htold h64
  have it'h := Lib.hid it
  have hRO'h := Lib.hid hRO
  have hROb'h := Lib.hid hROb
  have hBw4'h := Lib.hid hBw4
  have own4'h := Lib.hid own4
  have h64'h := Lib.hid h64
  have hI0'h := Lib.hid hI0
  have htd'h := Lib.hid htd
  have hbo'h := Lib.hid hbo
  clear it hRO hROb hBw4 own4 h64 hI0 htd hbo
  go_wp2_with fail
  refine (wpIn_wide (n := 0)).1 ?_
  refine wpIn_rangeT rfl (fun h => by cases h) rfl trivial enters_numbers it'h.out (NumY.keeps _ _) (fun b hb => hb.elim) (fun vs v S W hy => by obtain ⟨n, rfl⟩ := hy.last; rfl) hRO'h.out
    (EncI w4.heap.size bo w) (EncI.stable _ _ _) hI0'h.out
    (fun vs v a => encAx bo (EncI w4.heap.size bo w vs) (fun n => { tmps := #[.agg (smA s), .pointer (some ⟨w.heap.size, 0, none⟩), .slice none 0 0, .int .i64 0, .int .i64 0, .pointer (some ⟨bo, 0, none⟩), .int .u64 (n : Int), .agg (smA s), .int .i64 0, .int .i64 0, .bool false, undef,
      .agg (smA s), .func (.func 61) #[] #[.pointer (some ⟨bo + 1, 0, none⟩)], .int .u64 (n : Int), undef, undef, undef, undef], defers := [] }) v a) (fun vs v a => encAx_stable _ _ (EncI.stable _ _ _ _) _ _ _) ?_ ?_ ?_
  · intro ly vs v S S1 W hk hl hs1 hro hSb hY hI
    obtain ⟨n, rfl⟩ := hY.last
    have hY'h := Lib.hid hY
    have hI'h := Lib.hid hI
    have hro'h := Lib.hid hro
    have hSb'h := Lib.hid hSb
    clear hY hI hro hSb
    unfold valV
    gi_wp2
    exact ⟨⟨n, rfl, rfl, hI'h.out⟩, Kept.refl _ _⟩
  · rintro ly vs v S S1 a₁ W r hk hl hs1 hlr hro hSb hY ⟨n, rfl, rfl, hI⟩
    obtain ⟨v0, pre, hvs, hown, hrow⟩ := hI.out
    obtain ⟨pre2, rest, ht2, hp2⟩ := hY
    rw [hvs] at hp2
    have hp3 : pre2 = pre ++ [n] := valV_inj (by rw [← hp2]; simp)
    have hn64 : n < 2 ^ 64 := h64'h.out n (by rw [ht2, hp3]; simp)
    have hpl : (pre.flatMap numB).length ≤ 60000 := by
      have h1 := flat_numB pre fun x hx => h64'h.out x (by rw [ht2, hp3]; simp [hx])
      have h2 : pre.length ≤ told.length := by rw [ht2, hp3]; simp
      omega
    have y0 := hown.cell
    have f0 := hown.free
    have C := put_any w4.heap.size v0 (pre.flatMap numB) n W hrow.row hI.lo hn64 hpl
    have hob : v0.ownBlock ≠ some bo := fun e => by have := (hrow.row.lt bo e).1; omega
    have hmine := hrow.mine
    have hbase := fun k (hk : v0.ownBlock = some k) => (hrow.row.lt k hk).1
    have C'h := Lib.hid C
    have hI'h := Lib.hid hI
    have hro'h := Lib.hid hro
    have hSb'h := Lib.hid hSb
    have hvs'h := Lib.hid hvs
    have hp3'h := Lib.hid hp3
    have ht2'h := Lib.hid ht2
    have hown'h := Lib.hid hown
    have hrow'h := Lib.hid hrow
    have hob'h := Lib.hid hob
    have hmine'h := Lib.hid hmine
    have hbase'h := Lib.hid hbase
    clear C hI hro hSb hvs hp3 ht2 hown hrow hob hmine hbase
    clear hp2 hlr hs1 hpl hn64
    unfold valV
    gi_wp2_with fail
    refine (callsIn_wide.2 C'h.out).mono ?_
    rintro e W1 ⟨v1, rfl, hrow1, hG⟩
    obtain ⟨sp1, cp1, hv1, -, -, -⟩ := row_form hrow1
    obtain ⟨L, hL⟩ : ∃ L, L = (pre.flatMap numB ++ numB n).length := ⟨_, rfl⟩
    rw [← hL] at hv1 hrow1
    subst hv1
    have hown1 := hown'h.out.grown hG.by' (fun e => hob'h.out e.symm)
    have y1 := hown1.cell
    have f1 := hown1.free
    have hzz := hG.by'.size
    have hown2 := hown1.set (.slice sp1 L cp1)
    have hbo1 : bo < w4.heap.size := by omega
    have hrow2 := ownsRow_setCell_below hrow1 (show (⟨bo, 0, none⟩ : Addr).block < w4.heap.size from hbo1) (.slice sp1 L cp1)
    have hSm : ∀ k, (Value.slice sp1 L cp1).ownBlock = some k → ¬ S k := fun k hk hs => by
      rcases hG.blk with e | ⟨b, e, hb⟩
      · exact hmine'h.out k (e.symm.trans hk) hs
      · rw [e] at hk; injection hk with hk; have := hSb'h.out k hs; omega
    have hROS : ∀ k, v0.ownBlock = some k → ¬ (numRO (bo + 1) s k ∨ S k) := fun k hk h => by
      rcases h with h | h
      · have := (hRO'h.out k h).1; have := hbase'h.out k hk; omega
      · exact hmine'h.out k hk h
    have hK1 : Kept (fun b => numRO (bo + 1) s b ∨ S b) W W1 := Kept.grown hG.by' hROS
    have hK2 := hK1.trans (Kept.setCell _ W1 ⟨bo, 0, none⟩ (.slice sp1 L cp1) (fun h => h.elim hROb'h.out hown'h.out.mine))
    have hold : Old w.heap.size w S (W1.setCell ⟨bo, 0, none⟩ (.slice sp1 L cp1)) := ⟨(hI'h.out.old.below.grown hG.by' (by have := hI'h.out.old.below.size; omega) (fun k hk => by have := hbase'h.out k hk; omega)).setCell (by show w.heap.size ≤ bo; exact hlw) _, Nat.le_refl _, hI'h.out.old.mine⟩
    have hE : EncI w4.heap.size bo w (vs ++ [valV n]) S (W1.setCell ⟨bo, 0, none⟩ (.slice sp1 L cp1)) := ⟨⟨_, pre ++ [n], by rw [hvs'h.out]; simp, hown2, ⟨by rw [show (pre ++ [n]).flatMap numB = pre.flatMap numB ++ numB n by simp, ← hL]; exact hrow2, hSm⟩⟩, hold, by rw [World.size_setCell]; have := hI'h.out.lo; omega⟩
    clear y0 f0 hown1 hown2 hrow2 hrow1 hG hSm hROS hK1 hold
    clear hL
    have hK2'h := Lib.hid hK2
    have hE'h := Lib.hid hE
    clear hK2 hE
    gi_wp2
    exact ⟨hK2'h.out, hE'h.out⟩
  · rintro D S S1 vs W hD hSD hro hs1 hS1D hn hY hI hK
    obtain ⟨v0, pre, hvs, hown, hrow⟩ := hI.out
    obtain ⟨pre2, rest, ht2, hp2⟩ := hY
    have hpe : pre = told := by
      have e1 : pre = pre2 := valV_inj (by rw [← hvs, hp2])
      have e2 : rest = [] := by
        have h1 : pre2.length = told.length := by rw [← hn, hp2, List.length_map]
        rw [ht2] at h1
        simpa using h1
      rw [e1, ht2, e2, List.append_nil]
    subst hpe
    have y0 := hown.cell
    have hrow2 := hrow.row
    have hB9 := below_putObj hI.old.below (D := D) (by omega) (.deferred none)
    have hDne : v0.ownBlock ≠ some D := fun e => hrow.mine D e hSD
    have hrow3 : (W.putObj D (.deferred none)).ownsRow w.heap.size 5 1 v0 (pre.flatMap numB).length (u8s (pre.flatMap numB)) := by
      obtain ⟨q1, q2⟩ := hrow2
      refine ⟨q1, q2.imp id ?_⟩
      rintro ⟨g, cap, cur, hv, hg, hh, r⟩
      refine ⟨g, cap, cur, hv, by omega, ?_, r⟩
      refine (World.putObj_heap_other (fun e => hDne ?_)).trans hh
      rw [hv, e]; rfl
    rw [htd'h.out] at hrow3
    clear hrow2 hrow hown hI hDne ht2 hp2 hvs
    have hrow3'h := Lib.hid hrow3
    have hB9'h := Lib.hid hB9
    have hK'h := Lib.hid hK
    clear hrow3 hB9 hK
    go_wp2
    refine post_mark (.inl rfl) hK'h.out (results_tmp2 rfl _ _ _) ⟨v0, ?_, hB9'h.out, hrow3'h.out⟩
    rfl
end Go.Proofs.YtifofdciablljaaDoor
