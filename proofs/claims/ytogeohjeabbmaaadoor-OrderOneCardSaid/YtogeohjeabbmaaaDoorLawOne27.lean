/-
  Layer 27 (order): calls one by one are borne out by their row.
-/
import Derived.Test.YtogeohjeabbmaaaDoorOneP
import Derived.Deep.CutRange
import Derived.Deep.LoopGhost
set_option linter.unusedSimpArgs false
set_option linter.unusedVariables false
set_option maxRecDepth 100000
namespace Go.Proofs.YtogeohjeabbmaaaDoor
open Go.RowKit

theorem nthCal_eq {l : List Cal} {k : Nat} (h : k < l.length) : l[k] = nthCal l k := by unfold nthCal; rw [List.getD_eq_getElem?_getD, List.getElem?_eq_getElem h]; rfl
theorem nthCal_at {l : List Cal} {k : Nat} (h : k < l.length) : l[k]? = some (nthCal l k) := by rw [List.getElem?_eq_getElem h, nthCal_eq h]
theorem cals_len {w : World} {sp : Option Addr} {n : Nat} {l : List Cal} (h : SlK w 4 sp n (cals l)) : n = l.length := slk_len calL_len (by decide) h
theorem cals_cells {w : World} {b off n : Nat} {l : List Cal} (h : SlK w 4 (some ⟨b, off, none⟩) n (cals l)) {k : Nat} (hk : k < l.length) :
    w.cell? ⟨b, off + k * 4, none⟩ = some (.int .i64 (nthCal l k).op) ∧ w.cell? ⟨b, off + k * 4 + 1, none⟩ = some (.int .u64 ((nthCal l k).key : Int)) ∧
    w.cell? ⟨b, off + k * 4 + 2, none⟩ = some (.int .u64 ((nthCal l k).a : Int)) ∧ w.cell? ⟨b, off + k * 4 + 3, none⟩ = some (.int .u64 ((nthCal l k).b : Int)) :=
  ⟨slk_cell0 calL_len h (nthCal_at hk) (by decide) rfl, slk_cell (i := 1) calL_len h (nthCal_at hk) (by decide) rfl, slk_cell (i := 2) calL_len h (nthCal_at hk) (by decide) rfl, slk_cell (i := 3) calL_len h (nthCal_at hk) (by decide) rfl⟩
theorem nthCal_mem {l : List Cal} {k : Nat} (h : k < l.length) : nthCal l k ∈ l := by rw [← nthCal_eq h]; exact List.getElem_mem h
theorem row_put1 {w : World} {base : Nat} {e : TypeId} {size : Nat} {v : Value} {n : Nat} {xs : List Value} (h : w.ownsRow base e size v n xs) {D : Nat} (hD : D < base) (i : Nat) (u : Value) : (w.setCell ⟨D, i, none⟩ u).ownsRow base e size v n xs :=
  ownsRow_setCell_below h (a := ⟨D, i, none⟩) hD u
theorem cells4q {W : World} {b : Nat} {v0 v1 v2 v3 : Value} {t : TypeId} (h : W.heap[b]? = some (.cells #[v0, v1, v2, v3] t (0, 0))) :
    W.cell? ⟨b, 0, none⟩ = some v0 ∧ W.cell? ⟨b, 1, none⟩ = some v1 ∧ W.cell? ⟨b, 2, none⟩ = some v2 ∧ W.cell? ⟨b, 3, none⟩ = some v3 :=
  ⟨blk_cell (i := 0) h rfl, blk_cell (i := 1) h rfl, blk_cell (i := 2) h rfl, blk_cell (i := 3) h rfl⟩
theorem ownsRow_other {W W' : World} {base : Nat} {e : TypeId} {size : Nat} {v : Value} {n : Nat} {xs : List Value} {row : Option Nat} (h : W.ownsRow base e size v n xs) (hg : W.grownBy W' row) (hne : ∀ g, v.ownBlock = some g → row ≠ some g) :
    W'.ownsRow base e size v n xs := by
  obtain ⟨h1, h2⟩ := h
  refine ⟨h1, h2.imp id ?_⟩
  rintro ⟨g, cap, cur, hv, hb, hh, r⟩
  refine ⟨g, cap, cur, hv, hb, (hg.block g (lt_of_heap hh) (fun e => ?_)).trans hh, r⟩
  exact hne g (by rw [hv]; rfl) e.symm
theorem rows_apart {W : World} {B B' : Nat} {e e' : TypeId} {k k' n n' : Nat} {v v' : Value} {xs xs' : List Value} (h1 : W.ownsRow B e k v n xs) (h2 : W.ownsRow B' e' k' v' n' xs') (hne : e' ≠ e) : ∀ g, v.ownBlock = some g → v'.ownBlock ≠ some g := by
  intro g hg
  rcases h1.2 with ⟨rfl, -⟩ | ⟨b', cap, cur, rfl, -, hh, -⟩
  · cases hg
  · have := row_apart h2 hh hne
    have e1 : some b' = some g := hg
    rw [e1] at this
    exact fun e => this e.symm
theorem grown_blk {W W' : World} {B : Nat} {e t : TypeId} {k n b : Nat} {v : Value} {xs : List Value} {cs : Array Value} (hg : W.grownBy W' v.ownBlock) (hrow : W.ownsRow B e k v n xs) (hb : W.heap[b]? = some (.cells cs t (0, 0))) (hne : e ≠ t) : W'.heap[b]? = some (.cells cs t (0, 0)) :=
  (hg.block b (lt_of_heap hb) (row_apart hrow hb hne)).trans hb
theorem grown_map {W W' : World} {B B' : Nat} {e : TypeId} {k n : Nat} {v : Value} {xs : List Value} {sp : Option Addr} {m c : Nat} {ps : Ps} (hg : W.grownBy W' v.ownBlock) (hrow : W.ownsRow B e k v n xs) (hm : RowP W B' sp m c ps) (hne : e ≠ 72) : RowP W' B' sp m c ps := by
  refine hm.keep fun g es hl => ?_
  rcases hm.row with ⟨e1, _⟩ | ⟨g', cur, e1, _, hh, _⟩
  · rw [es] at e1; cases e1
  · rw [es] at e1
    injection e1 with e1
    injection e1 with e1 _ _
    subst e1
    exact hg.block g hl (row_apart hrow hh hne)
/-- What the loop holds in memory. -/
structure OneW (w : World) (mb : Nat) (ms : List Md) (lp : Option Addr) (lc : Nat) (rp : Option Addr) (rc : Nat) (mp : Option Addr) (mn mc : Nat) (wr : World) : Prop where
  low : w.heap.size ≤ mb
  old : Below w.heap.size w wr
  blk : wr.heap[mb]? = some (.cells #[.slice mp mn mc] 28 (0, 0))
  mrow : RowP wr (mb + 1) mp mn mc (runM ms)
  lrow : wr.ownsRow (mb + 1) 39 13 (.slice lp ms.length lc) ms.length (mms (ms.map mkM))
  rrow : wr.ownsRow (mb + 1) 3 1 (.slice rp ms.length rc) ms.length (ints (List.range ms.length))
  each : ∀ m ∈ ms, m.prs = [] ∧ m.told = [] ∧ MdOk m
section
variable {w : World} {mb : Nat} {ms : List Md} {lp : Option Addr} {lc : Nat} {rp : Option Addr} {rc : Nat} {mp : Option Addr} {mn mc : Nat} {wr wr' : World}
theorem OneW.next (h : OneW w mb ms lp lc rp rc mp mn mc wr) (hb : Below wr.heap.size wr wr') : OneW w mb ms lp lc rp rc mp mn mc wr' :=
  ⟨h.low, below_next h.old hb, heap_below hb h.blk (lt_of_heap h.blk), h.mrow.below hb, ownsRow_next h.lrow hb, ownsRow_next h.rrow hb, h.each⟩
theorem OneW.mades (h : OneW w mb ms lp lc rp rc mp mn mc wr) (hl : ms.length ≤ 80) : MsIn wr lp ms.length (ms.map mkM) :=
  ⟨SlK.of_row h.lrow (by unfold maxLen; omega), fun m hm => by
    obtain ⟨x, hx, rfl⟩ := List.mem_map.1 hm
    obtain ⟨h1, h2, h3⟩ := h.each x hx
    exact mkM_in x _ h1 h2 h3⟩
end
theorem one_md {V : World} {b : Nat} {m : Md} (h : V.heap[b]? = some (.cells (mmA (mkM m)) 39 (0, 0))) (hp : m.prs = []) (ht : m.told = []) (hok : MdOk m) : MsIn V (some ⟨b, 0, none⟩) 1 [mkM m] :=
  ⟨by have := SlK.of_blk (k := 13) (n := 1) h rfl (by decide); exact this, fun x hx => by
    rw [List.mem_singleton] at hx
    subst hx
    exact mkM_in _ _ hp ht hok⟩
theorem one_right {m : Md} (h : checkB [mkM m] = true) : rightM m = true := by
  cases hr : rightM m with
  | true => rfl
  | false =>
    have := check_one (l := [mkM m]) (j := 0) (by simp) hr
    rw [h] at this
    cases this
theorem goes_self {m : Md} {ps : Ps} (ha : m.ans = tellA (clOf m.call) ps) (hp : m.prs = []) (h6 : m.call.op ≠ 6) : goesB m ps = true ∧ stepP m ps = nextP (clOf m.call) ps := by
  have ht : takesB m ps = true := by
    unfold takesB
    rw [hp, show tellQ (clOf m.call) ps = [] from if_neg h6, ← ha]
    have : alikeB m.ans m.ans [] [] = true := by unfold alikeB; simp
    rw [this]; simp
  exact ⟨by unfold goesB; rw [ht]; rfl, by unfold stepP; rw [if_pos ht]⟩
def nthD0 (rs : List Nat) (k : Nat) : Nat := rs.getD k 0
/-- A row of numbers as it lies. -/
def RowC (rb : Nat) (rs : List Nat) (V : World) : Prop := ∃ cur : Array Value, V.heap[rb]? = some (.cells cur 3 (0, 0)) ∧ rs.length ≤ maxLen ∧ ∀ i, i < rs.length → cur[i]? = some (.int .i64 (nthD0 rs i : Int))
theorem RowC.below {rb : Nat} {rs : List Nat} {V V' : World} (h : RowC rb rs V) (hb : Below V.heap.size V V') : RowC rb rs V' := by
  obtain ⟨cur, h1, h2, h3⟩ := h
  exact ⟨cur, heap_below hb h1 (lt_of_heap h1), h2, h3⟩
theorem RowC.cell {rb : Nat} {rs : List Nat} {V : World} (h : RowC rb rs V) {i : Nat} (hi : i < rs.length) : V.cell? ⟨rb, i, none⟩ = some (.int .i64 (nthD0 rs i : Int)) ∧ V.frozen? ⟨rb, i, none⟩ = false := by
  obtain ⟨cur, h1, -, h3⟩ := h
  exact ⟨blk_cell h1 (h3 i hi), blk_free i h1⟩
theorem nthD0_set {rs : List Nat} {i j x : Nat} (hi : i < rs.length) (hj : j < rs.length) : nthD0 (rs.set i x) j = if j = i then x else nthD0 rs j := by
  unfold nthD0
  rw [List.getD_eq_getElem?_getD, List.getD_eq_getElem?_getD, List.getElem?_set]
  by_cases e : i = j
  · subst e; simp [hi]
  · rw [if_neg e, if_neg (fun h => e h.symm)]
theorem RowC.put {rb : Nat} {rs : List Nat} {V : World} (h : RowC rb rs V) {i : Nat} (hi : i < rs.length) (x : Nat) : RowC rb (rs.set i x) (V.setCell ⟨rb, i, none⟩ (.int .i64 (x : Int))) := by
  obtain ⟨cur, h1, h2, h3⟩ := h
  refine ⟨_, blk_set (i := i) (.int .i64 (x : Int)) h1, by rw [List.length_set]; exact h2, fun j hj => ?_⟩
  rw [List.length_set] at hj
  rw [nthD0_set hi hj]
  have hic : i < cur.size := by have := h3 i hi; exact (Array.getElem?_eq_some_iff.1 this).1
  by_cases e : j = i
  · subst e
    rw [if_pos rfl, Array.getElem?_setIfInBounds_self_of_lt hic]
  · rw [if_neg e, Array.getElem?_setIfInBounds_ne (fun h => e h.symm)]
    exact h3 j hj
theorem RowC.sl {rb : Nat} {rs : List Nat} {V : World} (h : RowC rb rs V) : Sl V (some ⟨rb, 0, none⟩) rs.length (ints rs) := by
  obtain ⟨cur, h1, h2, h3⟩ := h
  refine ⟨by unfold ints; simp, h2, .inr ⟨rb, 0, rfl, fun i u hu => ?_⟩⟩
  rw [Nat.zero_add]
  refine blk_cell h1 ?_
  unfold ints at hu
  rw [List.getElem?_map] at hu
  obtain ⟨y, hy, rfl⟩ := Option.map_eq_some_iff.1 hu
  obtain ⟨hi, rfl⟩ := List.getElem?_eq_some_iff.1 hy
  rw [h3 i hi]
  unfold nthD0
  rw [List.getD_eq_getElem?_getD, List.getElem?_eq_getElem hi]
  rfl
theorem RowC.of_row {W : World} {B n cap rb : Nat} {rs : List Nat} (h : W.ownsRow B 3 1 (.slice (some ⟨rb, 0, none⟩) n cap) n (ints rs)) (hn : rs.length ≤ maxLen) (hl : n = rs.length) : RowC rb rs W := by
  rcases h.2 with ⟨hv, -⟩ | ⟨g, cap', cur, hv, -, hh, -, -, -, ht⟩
  · cases hv
  · cases hv
    refine ⟨cur, hh, hn, fun i hi => ?_⟩
    have h1 : (cur.toList.take (n * 1))[i]? = some (.int .i64 (nthD0 rs i : Int)) := by
      rw [ht]
      unfold ints nthD0
      rw [List.getElem?_map, List.getD_eq_getElem?_getD, List.getElem?_eq_getElem hi]
      rfl
    rw [List.getElem?_take] at h1
    split at h1
    · simpa using h1
    · cases h1
theorem row_own {w w' : World} {base : Nat} {e : TypeId} {size : Nat} {v : Value} {n : Nat} {xs : List Value} (h : w.ownsRow base e size v n xs) (hh : ∀ j, v.ownBlock = some j → w'.heap[j]? = w.heap[j]?) : w'.ownsRow base e size v n xs := by
  obtain ⟨h1, h2⟩ := h
  refine ⟨h1, h2.imp id ?_⟩
  rintro ⟨g, cap, cur, hv, hg, hh1, r⟩
  exact ⟨g, cap, cur, hv, hg, (hh g (by rw [hv]; rfl)).trans hh1, r⟩
theorem row_putD {w : World} {base : Nat} {e : TypeId} {size : Nat} {v : Value} {n : Nat} {xs : List Value} (h : w.ownsRow base e size v n xs) {D : Nat} (hD : ∀ j, v.ownBlock = some j → j ≠ D) (i : Nat) (u : Value) : (w.setCell ⟨D, i, none⟩ u).ownsRow base e size v n xs :=
  row_own h fun j hj => Below.heap_setCell _ _ _ _ (hD j hj)
/-- What is held while two are turned. -/
structure OneU (w : World) (mb : Nat) (ms : List Md) (lp : Option Addr) (lc : Nat) (mp : Option Addr) (mn mc : Nat) (wr : World) : Prop where
  low : w.heap.size ≤ mb
  old : Below w.heap.size w wr
  mrow : RowP wr (mb + 1) mp mn mc (runM ms)
  lrow : wr.ownsRow (mb + 1) 39 13 (.slice lp ms.length lc) ms.length (mms (ms.map mkM))
  each : ∀ m ∈ ms, m.prs = [] ∧ m.told = [] ∧ MdOk m
section
variable {w : World} {mb : Nat} {ms : List Md} {lp : Option Addr} {lc : Nat} {rp : Option Addr} {rc : Nat} {mp : Option Addr} {mn mc : Nat} {wr wr' : World}
theorem OneW.u (h : OneW w mb ms lp lc rp rc mp mn mc wr) : OneU w mb ms lp lc mp mn mc wr := ⟨h.low, h.old, h.mrow, h.lrow, h.each⟩
theorem OneU.next (h : OneU w mb ms lp lc mp mn mc wr) (hb : Below wr.heap.size wr wr') : OneU w mb ms lp lc mp mn mc wr' :=
  ⟨h.low, below_next h.old hb, h.mrow.below hb, ownsRow_next h.lrow hb, h.each⟩
theorem OneU.mades (h : OneU w mb ms lp lc mp mn mc wr) (hl : ms.length ≤ 80) : MsIn wr lp ms.length (ms.map mkM) :=
  ⟨SlK.of_row h.lrow (by unfold maxLen; omega), fun m hm => by
    obtain ⟨x, hx, rfl⟩ := List.mem_map.1 hm
    obtain ⟨h1, h2, h3⟩ := h.each x hx
    exact mkM_in x _ h1 h2 h3⟩
theorem OneU.put (h : OneU w mb ms lp lc mp mn mc wr) {rb : Nat} {rs : List Nat} (hC : RowC rb rs wr) (hrb : mb < rb) (i : Nat) (v : Value) : OneU w mb ms lp lc mp mn mc (wr.setCell ⟨rb, i, none⟩ v) := by
  obtain ⟨cur, hc, -, -⟩ := hC
  refine ⟨h.low, h.old.setCell (p := ⟨rb, i, none⟩) (by have := h.low; simp only; omega) v, h.mrow.keep fun g e hg => Below.heap_setCell _ _ _ _ ?_, row_putD h.lrow (fun j hj e => ?_) i v, h.each⟩
  · rcases h.mrow.row with ⟨e1, _⟩ | ⟨g', cur', e1, _, hh, _⟩
    · rw [e] at e1; cases e1
    · rw [e] at e1
      injection e1 with e1
      injection e1 with e1 _ _
      subst e1
      rintro rfl
      rw [hc] at hh
      injection hh with hh
      injection hh with _ hh _
      exact absurd hh (by decide)
  · subst e
    exact row_apart h.lrow hc (by decide) hj.symm
end
def swp1 (k j : Nat) : List Nat := ((List.range k).set (j - 1) j).set j (j - 1)
theorem nthD0_range {k i : Nat} (h : i < k) : nthD0 (List.range k) i = i := by
  unfold nthD0
  rw [List.getD_eq_getElem?_getD, List.getElem?_range h]
  rfl
theorem swp1_len (k j : Nat) : (swp1 k j).length = k := by unfold swp1; simp
theorem swp1_back {k j : Nat} (hj : j < k) (h1 : 1 ≤ j) : ((swp1 k j).set (j - 1) (j - 1)).set j j = List.range k := by
  unfold swp1
  apply List.ext_getElem
  · simp
  · intro i h2 h3
    simp only [List.getElem_set, List.getElem_range]
    by_cases e1 : j = i
    · simp [e1]
    · by_cases e2 : j - 1 = i
      · simp [e1, e2]
      · simp [e1, e2]
theorem swp1_at {k j : Nat} (hj : j < k) (h1 : 1 ≤ j) : nthD0 (swp1 k j) j = j - 1 := by
  unfold nthD0
  rw [List.getD_eq_getElem?_getD, List.getElem?_eq_getElem (by rw [swp1_len]; exact hj)]
  unfold swp1
  rw [List.getElem_set, if_pos rfl]
  rfl
theorem swp1_at' {k j : Nat} (hj : j < k) (h1 : 1 ≤ j) : nthD0 (swp1 k j) (j - 1) = j := by
  unfold nthD0
  rw [List.getD_eq_getElem?_getD, List.getElem?_eq_getElem (by rw [swp1_len]; omega)]
  unfold swp1
  rw [List.getElem_set, if_neg (by omega), List.getElem_set, if_pos rfl]
  rfl
theorem swp1_split {k j : Nat} (hj : j < k) (h1 : 1 ≤ j) : ∃ A B, swp1 k j = A ++ (j - 1 + 1) :: (j - 1) :: B := by
  have hl := swp1_len k j
  refine ⟨(swp1 k j).take (j - 1), (swp1 k j).drop (j + 1), ?_⟩
  have e1 : (swp1 k j)[j - 1]'(by omega) = j - 1 + 1 := by
    unfold swp1
    rw [List.getElem_set, if_neg (by omega), List.getElem_set, if_pos rfl]
    omega
  have e2 : (swp1 k j)[j - 1 + 1]'(by omega) = j - 1 := by
    unfold swp1
    rw [List.getElem_set, if_pos (by omega)]
  conv => lhs; rw [← List.take_append_drop (j - 1) (swp1 k j)]
  rw [List.drop_eq_getElem_cons (show j - 1 < (swp1 k j).length by omega), e1, List.drop_eq_getElem_cons (show j - 1 + 1 < (swp1 k j).length by omega), e2, show j - 1 + 1 + 1 = j + 1 by omega]
theorem ints_oneA (l : List Nat) : ∀ v ∈ ints l, v.oneCell' = true := by
  intro v hv
  obtain ⟨n, -, rfl⟩ := List.mem_map.1 hv
  rfl
theorem wide_in (z : Int) : 1 ≤ wrap64 (1 + wrap64 ((IntKind.u64.wrap z).tmod 5)) ∧ wrap64 (1 + wrap64 ((IntKind.u64.wrap z).tmod 5)) ≤ 5 := by
  have h0 : 0 ≤ IntKind.u64.wrap z := by rw [IntKind.wrap_u64]; omega
  rw [Int.tmod_eq_emod_of_nonneg h0]
  generalize IntKind.u64.wrap z = A at h0
  have h1 : 0 ≤ A % 5 ∧ A % 5 < 5 := by omega
  generalize A % 5 = r at h1
  have w1 : wrap64 r = r := by unfold wrap64; omega
  rw [w1]
  have w2 : wrap64 (1 + r) = 1 + r := by unfold wrap64; omega
  rw [w2]
  omega
theorem mem_insP {k v : Nat} {q : Nat × Nat} : ∀ {ps : Ps}, q ∈ insP ps k v → q ∈ ps ∨ q = (k, v)
  | [], h => by
    unfold insP at h
    exact .inr (List.mem_singleton.1 h)
  | p :: l, h => by
    unfold insP at h
    split at h
    · rcases List.mem_cons.1 h with rfl | h
      · exact .inl (List.mem_cons_self ..)
      · exact (mem_insP h).imp (List.mem_cons_of_mem _) id
    · split at h
      · rcases List.mem_cons.1 h with rfl | h
        · exact .inr rfl
        · exact .inl (List.mem_cons_of_mem _ h)
      · rcases List.mem_cons.1 h with rfl | h
        · exact .inr rfl
        · exact .inl h
theorem mem_delP {k : Nat} {q : Nat × Nat} : ∀ {ps : Ps}, q ∈ delP ps k → q ∈ ps
  | [], h => by cases h
  | p :: l, h => by
    unfold delP at h
    split at h
    · rcases List.mem_cons.1 h with rfl | h
      · exact List.mem_cons_self ..
      · exact List.mem_cons_of_mem _ (mem_delP h)
    · split at h
      · exact List.mem_cons_of_mem _ h
      · exact h
theorem getS_mem {k v : Nat} : ∀ {ps : Ps}, getS ps k = some v → ∃ q ∈ ps, q.2 = v
  | [], h => by cases h
  | p :: l, h => by
    unfold getS at h
    split at h
    · obtain ⟨q, hq, e⟩ := getS_mem h
      exact ⟨q, List.mem_cons_of_mem _ hq, e⟩
    · split at h
      · injection h with h
        exact ⟨p, List.mem_cons_self .., h⟩
      · cases h
def PsOk (ps : Ps) : Prop := ∀ p ∈ ps, p.2 < 2 ^ 64
theorem get_ok {ps : Ps} (h : PsOk ps) (k : Nat) : (getS ps k).getD 0 < 2 ^ 64 := by
  cases hg : getS ps k with
  | none => show 0 < 2 ^ 64; decide
  | some v =>
    obtain ⟨q, hq, rfl⟩ := getS_mem hg
    exact h q hq
theorem next_ok {c : Cal} {ps : Ps} (hc : CalOk c) (h : PsOk ps) : PsOk (nextP (clOf c) ps) := by
  have hi : ∀ k v, v < 2 ^ 64 → PsOk (insP ps k v) := fun k v hv p hp => by
    rcases mem_insP hp with hp | rfl
    · exact h p hp
    · exact hv
  unfold nextP clOf
  simp only
  split
  · exact hi _ _ hc.a
  · split
    · exact fun p hp => h p (mem_delP hp)
    · split
      · split
        · exact hi _ _ hc.b
        · exact h
      · split
        · split
          · exact h
          · exact hi _ _ hc.a
        · exact h
theorem run_ok {ms : List Md} (h : ∀ m ∈ ms, CalOk m.call) : PsOk (runM ms) := by
  have : ∀ (ms : List Md) (ps : Ps), (∀ m ∈ ms, CalOk m.call) → PsOk ps → PsOk (ms.foldl (fun ps m => stepP m ps) ps) := by
    intro ms
    induction ms with
    | nil => intro ps _ h; exact h
    | cons a r ih =>
      intro ps h1 h2
      refine ih _ (fun m hm => h1 m (List.mem_cons_of_mem _ hm)) ?_
      show PsOk (stepP a ps)
      unfold stepP
      split
      · exact next_ok (h1 a (List.mem_cons_self ..)) h2
      · exact h2
  exact this ms [] h (fun p hp => by cases hp)
theorem tell_ok {c : Cal} {ps : Ps} (hc : CalOk c) (h : PsOk ps) (hl : ps.length ≤ 100) : I64 (tellA (clOf c) ps).err ∧ (tellA (clOf c) ps).val < 2 ^ 64 := by
  have hg := get_ok h c.key
  have h0 : I64 0 := by unfold I64; decide
  have ha := hc.a
  unfold tellA clOf anK
  simp only
  split
  · exact ⟨h0, hg⟩
  · split
    · split
      · exact ⟨h0, hg⟩
      · exact ⟨h0, ha⟩
    · split
      · exact ⟨h0, by show 0 < 2 ^ 64; decide⟩
      · split
        · exact ⟨h0, by show ps.length < 2 ^ 64; omega⟩
        · exact ⟨h0, hg⟩
/-- What a round holds besides. -/
structure OneR (cb p q : Nat) (cc pc qc : Array Value) (V : World) : Prop where
  c : V.heap[cb]? = some (.cells cc 31 (0, 0))
  p : V.heap[p]? = some (.cells pc 28 (0, 0))
  q : V.heap[q]? = some (.cells qc 34 (0, 0))
theorem OneR.next {cb p q : Nat} {cc pc qc : Array Value} {V V' : World} (h : OneR cb p q cc pc qc V) (hb : Below V.heap.size V V') : OneR cb p q cc pc qc V' :=
  ⟨heap_below hb h.c (lt_of_heap h.c), heap_below hb h.p (lt_of_heap h.p), heap_below hb h.q (lt_of_heap h.q)⟩
set_option maxHeartbeats 16000000 in
theorem walk_OrderOne (xp : Option Addr) (xn xc : Nat) (cs : List Cal) (yp : Option Addr) (yn yc : Nat) (zs : List Int) (w : World) (hT : Tks w) (hx : SlK w 4 xp xn (cals cs)) (hok : ∀ c ∈ cs, CalOk c) (hynil : yp = none → yc = 0) (hyle : yn ≤ yc) (hy : Sl w yp yn (zs.map (Value.int .i64))) (hwf : ∀ z ∈ zs, (Lit.int .i64 z).wf = true) :
    Calls Tryd.prog 3 #[.slice xp xn xc, .slice yp yn yc] w fun e w' => e = .returned (.bool true) ∧ Below w.heap.size w w' := by
  have WK := wakes27_any w hT
  have hXW := fun W (hb : Below w.heap.size w W) => hx.below hb
  have hYW := fun W (hb : Below w.heap.size w W) => hy.below hb
  have hxlen : xn = cs.length := by have := hx.1; rw [cals_length] at this; omega
  have hylen : yn = zs.length := by have := hy.1; simpa using this
  have hxmax := hx.2.1
  unfold maxLen at hxmax
  clear hx hy
  have hlow : w.heap.size ≤ w.heap.size := Nat.le_refl _
  obtain ⟨i0, hi0, hz0, hs0, hy0⟩ := info_parts infoI
  obtain ⟨i9, hi9, hz9, hs9, hy9⟩ := info_parts info_cloneM
  clear hlow
  have WK'h := Lib.hid WK
  have hT'h := Lib.hid hT
  have hXW'h := Lib.hid hXW
  have hYW'h := Lib.hid hYW
  have hxlen'h := Lib.hid hxlen
  have hylen'h := Lib.hid hylen
  have hxmax'h := Lib.hid hxmax
  have hok'h := Lib.hid hok
  have hynil'h := Lib.hid hynil
  have hyle'h := Lib.hid hyle
  have hwf'h := Lib.hid hwf
  clear WK hT hXW hYW hxlen hylen hxmax hok hynil hyle hwf
  go_enter Tryd.func3, Tryd.ntmps3
  go_wp2_with fail
  refine WK'h.out.mono ?_
  rintro e w1 ⟨rfl, hB1⟩
  have hlow := hB1.size
  have H1 : OneW w w1.heap.size [] none 0 none 0 none 0 0 (w1.alloc (.cells #[.slice none 0 0] 28)) := ⟨hlow, below_next hB1 ((Below.refl _ _).alloc (Nat.le_refl _) _), World.alloc_heap_new _ _, ⟨rfl, Nat.le_refl _, Nat.zero_le _, .inl ⟨rfl, rfl⟩⟩, World.ownsRow_nil _ _ _ _, World.ownsRow_nil _ _ _ _, fun m hm => by cases hm⟩
  clear WK'h hB1 hlow
  have H1'h := Lib.hid H1
  clear H1
  go_upto_region 7 with fail
  generalize w1.alloc _ = W1 at H1'h ⊢
  generalize w1.heap.size = mb at H1'h ⊢
  have hlow := H1'h.out.low
  have hlow'h := Lib.hid hlow
  clear hlow
  go_wp2
  go_loopg [5, 6, 8, 24] xn (fun q v5 v6 v8 v24 wr => ∃ (i : Nat) (ms : List Md) (step : Int) (lp : Option Addr) (lc : Nat) (rp : Option Addr) (rc : Nat) (mp : Option Addr) (mn mc : Nat), i + q = xn ∧ v24 = .int .i64 (i : Int) ∧ v5 = .slice lp ms.length lc ∧ v6 = .slice rp ms.length rc ∧ v8 = .int .i64 step ∧
    OneI ms step ∧ ms.length ≤ i ∧ i ≤ 12 ∧ 1 ≤ step ∧ step ≤ 1 + 6 * (i : Int) ∧ OneW w mb ms lp lc rp rc mp mn mc wr)
  case atStart => exact ⟨0, [], 1, none, 0, none, 0, none, 0, 0, by omega, rfl, rfl, rfl, rfl, OneI.nil, Nat.le_refl _, by omega, by omega, by omega, H1'h.out⟩
  case round =>
    obtain ⟨i, ms, step, lp, lc, rp, rc, mp, mn, mc, hi, rfl, rfl, rfl, rfl, hI, hmi, hi12, hs1, hs2, hW⟩ := hrel
    by_cases hlt : i < xn
    · have i3 : (i : Int) < (xn : Int) := by omega
      have i4 : (0 : Int) ≤ (i : Int) := by omega
      have hXr := hXW'h.out wr hW.old
      have hil : i < cs.length := by have := hxlen'h.out; omega
      obtain ⟨b, off, rfl⟩ := slk_some hXr (by omega)
      obtain ⟨e0, e1, e2, e3⟩ := cals_cells hXr hil
      have hck := hok'h.out (nthCal cs i) (nthCal_mem hil)
      generalize nthCal cs i = c at e0 e1 e2 e3 hck
      obtain ⟨op, key, a, b'⟩ := c
      simp only at e0 e1 e2 e3
      have hm0 : wr.cell? ⟨mb, 0, none⟩ = some (.slice mp mn mc) := blk_cell (i := 0) hW.blk rfl
      by_cases h12 : i = 12
      · have c1 : ((i : Int) == 12) = true := by simp; omega
        have hW2 := hW.next ((Below.refl wr.heap.size wr).alloc (Nat.le_refl _) (.cells #[.int .i64 op, .int .u64 (key : Int), .int .u64 (a : Int), .int .u64 (b' : Int)] 31))
        have hf12 : ms.length ≤ 12 := by omega
        clear hXr hck hm0 hs1 hs2 hi h12 hi12 hmi hlt hW hil
        have hI'h := Lib.hid hI
        have hW2'h := Lib.hid hW2
        have hf12'h := Lib.hid hf12
        clear hI hW2 hf12
        go_upto_region 22 with fail
        clear e0 e1 e2 e3 c1 i3 i4
        generalize wr.alloc _ = WR at hW2'h ⊢
        have hM := hW2'h.out.mades (by have := hf12'h.out; omega)
        have hlc : ms.length ≤ lc := by obtain ⟨_, _, e, h1, -, -⟩ := row_form hW2'h.out.lrow; injection e with _ _ e; omega
        have hOs := Sl.of_row hW2'h.out.rrow (by have := hf12'h.out; unfold maxLen; omega)
        have BE := behindX_any lp ms.length lc (ms.map mkM) rp ms.length rc (intsZ (List.range ms.length)) WR (hT'h.out.next hW2'h.out.old) hM hlc (by rw [← ints_Z]; exact hOs) (by have := hf12'h.out; omega)
        rw [hI'h.out.behind (by have := hf12'h.out; omega)] at BE
        clear hM hOs
        have BE'h := Lib.hid BE
        have hlc'h := Lib.hid hlc
        clear BE hlc
        go_upto_region 23 with (first | (go_at_call 10; refine BE'h.out.mono ?_; rintro e w3 ⟨s4, n4, c4, rfl, hb3, hS4, -⟩; have hb3'h := Lib.hid hb3; have hS4'h := Lib.hid hS4; clear hb3 hS4))
        have hal := (Below.refl w3.heap.size w3).alloc (Nat.le_refl _) (.cells #[.slice s4 n4 c4] 28)
        have hW3 := hW2'h.out.next (below_next hb3'h.out hal)
        have hS5 := hS4'h.out.below hal
        have u0 := blk_cell (i := 0) (World.alloc_heap_new w3 (.cells #[.slice s4 n4 c4] 28)) rfl
        have m0 := blk_cell (i := 0) hW3.blk rfl
        have SA := msame_any s4 mp n4 mn c4 mc (runM ms) (runM ms) _ hS5 hW3.mrow.sl
        rw [decide_eq_true (rfl : runM ms = runM ms)] at SA
        clear hal hb3'h hS4'h BE'h hW2'h hS5
        generalize w3.alloc _ = W3 at hW3 u0 m0 SA ⊢
        generalize w3.heap.size = mb2 at u0 ⊢
        have hW3'h := Lib.hid hW3
        have SA'h := Lib.hid SA
        clear hW3 SA
        go_wp2_with fail
        refine SA'h.out.mono ?_
        rintro e w5 ⟨rfl, hb5⟩
        have hW5 := hW3'h.out.next hb5
        have FR := free_any lp ms.length lc (ms.map mkM) w5 (hT'h.out.next hW5.old) (hW5.mades (by have := hf12'h.out; omega)) hlc'h.out
        rw [hI'h.out.free] at FR
        clear hb5 u0 m0 SA'h hW3'h
        have hW5'h := Lib.hid hW5
        have FR'h := Lib.hid FR
        clear hW5 FR
        go_wp2_with fail
        refine FR'h.out.mono ?_
        rintro e w6 ⟨s6, c6, rfl, hb6, -⟩
        simp only [List.length_nil]
        have hW6 := hW5'h.out.next hb6
        clear hb6 FR'h hW5'h
        obtain ⟨k, hk⟩ : ∃ k, k = ms.length := ⟨_, rfl⟩
        rw [← hk] at hlc'h hf12'h ⊢
        have hkl : k ≤ 12 := hf12'h.out
        have hU6 := hW6.u
        have hrp : k = 0 ∨ ∃ rb, rp = some ⟨rb, 0, none⟩ := by
          rcases hW6.rrow.2 with ⟨-, h0⟩ | ⟨g, cap, cur, hv, -⟩
          · exact .inl (by rw [hk]; exact h0)
          · cases hv; exact .inr ⟨g, rfl⟩
        have hrb : ∀ rb, rp = some ⟨rb, 0, none⟩ → mb < rb := fun rb e => by
          rcases hW6.rrow.2 with ⟨hv, -⟩ | ⟨g, cap, cur, hv, hg, -⟩
          · rw [e] at hv; cases hv
          · rw [e] at hv; cases hv; omega
        have hC6 : ∀ rb, rp = some ⟨rb, 0, none⟩ → RowC rb (List.range k) w6 := fun rb e => by
          have := hW6.rrow
          rw [e] at this
          rw [hk]
          exact RowC.of_row this (by rw [List.length_range]; have := hkl; unfold maxLen; omega) (by rw [List.length_range])
        have hrc : k ≤ rc := by obtain ⟨_, _, e, h1, -, -⟩ := row_form hW6.rrow; injection e with _ _ e; omega
        clear hW6
        have hU6'h := Lib.hid hU6
        have hC6'h := Lib.hid hC6
        have hrp'h := Lib.hid hrp
        have hrb'h := Lib.hid hrb
        have hrc'h := Lib.hid hrc
        have hk'h := Lib.hid hk
        have hkl'h := Lib.hid hkl
        clear hU6 hC6 hrp hrb hrc hk hkl
        go_wp2
        go_loopg [18] k (fun q v18 wr => ∃ j : Nat, j + q = k + 1 ∧ v18 = .int .i64 (j : Int) ∧ 1 ≤ j ∧ OneU w mb ms lp lc mp mn mc wr ∧ ∀ rb, rp = some ⟨rb, 0, none⟩ → RowC rb (List.range k) wr)
        case atStart => exact ⟨1, by omega, rfl, Nat.le_refl _, hU6'h.out, hC6'h.out⟩
        case round =>
          obtain ⟨j, hj, rfl, hj1, hW, hCr⟩ := hrel
          by_cases hlt : j < k
          · have i3 : (j : Int) < (k : Int) := by omega
            obtain ⟨rb, rfl⟩ := hrp'h.out.resolve_left (by omega)
            have hC := hCr rb rfl
            have hmb := hrb'h.out rb rfl
            obtain ⟨t, ht⟩ : ∃ t, t = j - 1 := ⟨_, rfl⟩
            have htj : t + 1 = j := by omega
            obtain ⟨a1, a1f⟩ := hC.cell (i := j) (by rw [List.length_range]; exact hlt)
            obtain ⟨a0, a0f⟩ := hC.cell (i := t) (by rw [List.length_range]; omega)
            rw [nthD0_range hlt] at a1
            rw [nthD0_range (by omega)] at a0
            have i4 : (0 : Int) ≤ (j : Int) := by omega
            have i5 : (j : Int) - 1 = (t : Int) := by omega
            have i6 : (t : Int) < (k : Int) := by omega
            have i7 : (0 : Int) ≤ (t : Int) := by omega
            have i9 : IntKind.i64.wrap (t : Int) = (t : Int) := Go.IntWalk.i64_in _ (by have := hkl'h.out; omega)
            have i8 : (j : Int) + 1 ≤ 100 := by have := hkl'h.out; omega
            have hU := hW
            clear hCr hW
            have hj'h := Lib.hid hj
            have hlt'h := Lib.hid hlt
            have hj1'h := Lib.hid hj1
            have hU'h := Lib.hid hU
            have hC'h := Lib.hid hC
            have hmb'h := Lib.hid hmb
            have ht'h := Lib.hid ht
            have htj'h := Lib.hid htj
            clear hj hlt hj1 hU hC hmb ht htj
            obtain ⟨wo, rfl⟩ : ∃ wo : World, wo = wr := ⟨_, rfl⟩
            go_upto_region 28 with fail
            refine wp_region_heldT ⟨15, fun W => W.cell? ⟨rb, t, none⟩ = some (.int .i64 (t : Int)), 17, fun W => W.cell? ⟨rb, j, none⟩ = some (.int .i64 (j : Int)), fun _ => True⟩ (by kernel_rfl) ?_
            have hU0 := hU'h.out.next ((Below.refl wo.heap.size wo).drew)
            have hC0 := hC'h.out.below ((Below.refl wo.heap.size wo).drew)
            replace a0 : World.cell? (wo.drew) ⟨rb, t, none⟩ = some (.int .i64 (t : Int)) := a0
            replace a1 : World.cell? (wo.drew) ⟨rb, j, none⟩ = some (.int .i64 (j : Int)) := a1
            replace a0f : World.frozen? (wo.drew) ⟨rb, t, none⟩ = false := a0f
            replace a1f : World.frozen? (wo.drew) ⟨rb, j, none⟩ = false := a1f
            clear hU'h hC'h
            generalize World.drew wo = V0 at hU0 hC0 a0 a1 a0f a1f ⊢
            have hU1 := hU0.put hC0 hmb'h.out t (.int .i64 (j : Int))
            have hC1 := hC0.put (i := t) (by have := htj'h.out; have := hlt'h.out; simp [swp1_len]; omega) j
            have hU2 := hU1.put hC1 hmb'h.out j (.int .i64 (t : Int))
            have hC2 := hC1.put (i := j) (by have := htj'h.out; have := hlt'h.out; simp [swp1_len]; omega) t
            have htj2 : t ≠ j := by have := htj'h.out; omega
            clear hU0 hC0 hU1 hC1
            have hU2'h := Lib.hid hU2
            have hC2'h := Lib.hid hC2
            have htj2'h := Lib.hid htj2
            clear hU2 hC2 htj2
            refine wpAnyT_take (i := 0) (v := .slice (some ⟨rb, 0, none⟩) k rc) false false rfl (by kernel_rfl) (by kernel_rfl) (by kernel_rfl) (by kernel_rfl) (fun _ _ _ h => h) (Or.inl ⟨by kernel_rfl, fun w hSw => by clear hSw; go_simp⟩) ⟨fun _ => a0, fun _ => a1, trivial⟩ ?_; try simp only [Act.put, List.getElem_toArray, List.getElem_cons_succ, List.getElem_cons_zero, List.setIfInBounds_toArray, List.set_cons_zero, List.set_cons_succ]
            refine wpAnyT_take (i := 1) (v := .int .i64 (j : Int)) false false rfl (by kernel_rfl) (by kernel_rfl) (by kernel_rfl) (by kernel_rfl) (fun _ _ _ h => h) (Or.inl ⟨by kernel_rfl, fun w hSw => by clear hSw; go_simp⟩) ⟨fun _ => a0, fun _ => a1, trivial⟩ ?_; try simp only [Act.put, List.getElem_toArray, List.getElem_cons_succ, List.getElem_cons_zero, List.setIfInBounds_toArray, List.set_cons_zero, List.set_cons_succ]
            refine wpAnyT_take (i := 2) (v := .int .i64 (t : Int)) false false rfl (by kernel_rfl) (by kernel_rfl) (by kernel_rfl) (by kernel_rfl) (fun _ _ _ h => h) (Or.inl ⟨by kernel_rfl, fun w hSw => by clear hSw; go_simp⟩) ⟨fun _ => a0, fun _ => a1, trivial⟩ ?_; try simp only [Act.put, List.getElem_toArray, List.getElem_cons_succ, List.getElem_cons_zero, List.setIfInBounds_toArray, List.set_cons_zero, List.set_cons_succ]
            refine wpAnyT_take (i := 3) (v := .slice (some ⟨rb, 0, none⟩) k rc) false false rfl (by kernel_rfl) (by kernel_rfl) (by kernel_rfl) (by kernel_rfl) (fun _ _ _ h => h) (Or.inl ⟨by kernel_rfl, fun w hSw => by clear hSw; go_simp⟩) ⟨fun _ => a0, fun _ => a1, trivial⟩ ?_; try simp only [Act.put, List.getElem_toArray, List.getElem_cons_succ, List.getElem_cons_zero, List.setIfInBounds_toArray, List.set_cons_zero, List.set_cons_succ]
            refine wpAnyT_take (i := 4) (v := .int .i64 (j : Int)) false false rfl (by kernel_rfl) (by kernel_rfl) (by kernel_rfl) (by kernel_rfl) (fun _ _ _ h => h) (Or.inl ⟨by kernel_rfl, fun w hSw => by clear hSw; go_simp⟩) ⟨fun _ => a0, fun _ => a1, trivial⟩ ?_; try simp only [Act.put, List.getElem_toArray, List.getElem_cons_succ, List.getElem_cons_zero, List.setIfInBounds_toArray, List.set_cons_zero, List.set_cons_succ]
            refine wpAnyT_take (i := 5) (v := .slice (some ⟨rb, 0, none⟩) k rc) false false rfl (by kernel_rfl) (by kernel_rfl) (by kernel_rfl) (by kernel_rfl) (fun _ _ _ h => h) (Or.inl ⟨by kernel_rfl, fun w hSw => by clear hSw; go_simp⟩) ⟨fun _ => a0, fun _ => a1, trivial⟩ ?_; try simp only [Act.put, List.getElem_toArray, List.getElem_cons_succ, List.getElem_cons_zero, List.setIfInBounds_toArray, List.set_cons_zero, List.set_cons_succ]
            refine wpAnyT_take (i := 6) (v := .int .i64 (j : Int)) false false rfl (by kernel_rfl) (by kernel_rfl) (by kernel_rfl) (by kernel_rfl) (fun _ _ _ h => h) (Or.inl ⟨by kernel_rfl, fun w hSw => by clear hSw; go_simp⟩) ⟨fun _ => a0, fun _ => a1, trivial⟩ ?_; try simp only [Act.put, List.getElem_toArray, List.getElem_cons_succ, List.getElem_cons_zero, List.setIfInBounds_toArray, List.set_cons_zero, List.set_cons_succ]
            refine wpAnyT_take (i := 7) (v := .pointer (some ⟨rb, j, none⟩)) false false rfl (by kernel_rfl) (by kernel_rfl) (by kernel_rfl) (by kernel_rfl) (fun _ _ _ h => h) (Or.inl ⟨by kernel_rfl, fun w hSw => by clear hSw; go_simp⟩) ⟨fun _ => a0, fun _ => a1, trivial⟩ ?_; try simp only [Act.put, List.getElem_toArray, List.getElem_cons_succ, List.getElem_cons_zero, List.setIfInBounds_toArray, List.set_cons_zero, List.set_cons_succ]
            refine wpAnyT_take (i := 8) (v := .int .i64 (j : Int)) false true rfl (by kernel_rfl) (by kernel_rfl) (by kernel_rfl) (by kernel_rfl) (fun _ _ _ h => h) (Or.inl ⟨by kernel_rfl, fun w hSw => by have hcc := hSw.2.1 rfl; dsimp only at hcc; clear hSw; go_simp⟩) ⟨fun _ => a0, fun _ => a1, trivial⟩ ?_; try simp only [Act.put, List.getElem_toArray, List.getElem_cons_succ, List.getElem_cons_zero, List.setIfInBounds_toArray, List.set_cons_zero, List.set_cons_succ]
            refine wpAnyT_take (i := 9) (v := .slice (some ⟨rb, 0, none⟩) k rc) false false rfl (by kernel_rfl) (by kernel_rfl) (by kernel_rfl) (by kernel_rfl) (fun _ _ _ h => h) (Or.inl ⟨by kernel_rfl, fun w hSw => by clear hSw; go_simp⟩) ⟨fun _ => a0, fun _ => a1, trivial⟩ ?_; try simp only [Act.put, List.getElem_toArray, List.getElem_cons_succ, List.getElem_cons_zero, List.setIfInBounds_toArray, List.set_cons_zero, List.set_cons_succ]
            refine wpAnyT_take (i := 10) (v := .int .i64 (j : Int)) false false rfl (by kernel_rfl) (by kernel_rfl) (by kernel_rfl) (by kernel_rfl) (fun _ _ _ h => h) (Or.inl ⟨by kernel_rfl, fun w hSw => by clear hSw; go_simp⟩) ⟨fun _ => a0, fun _ => a1, trivial⟩ ?_; try simp only [Act.put, List.getElem_toArray, List.getElem_cons_succ, List.getElem_cons_zero, List.setIfInBounds_toArray, List.set_cons_zero, List.set_cons_succ]
            refine wpAnyT_take (i := 11) (v := .int .i64 (t : Int)) false false rfl (by kernel_rfl) (by kernel_rfl) (by kernel_rfl) (by kernel_rfl) (fun _ _ _ h => h) (Or.inl ⟨by kernel_rfl, fun w hSw => by clear hSw; go_simp⟩) ⟨fun _ => a0, fun _ => a1, trivial⟩ ?_; try simp only [Act.put, List.getElem_toArray, List.getElem_cons_succ, List.getElem_cons_zero, List.setIfInBounds_toArray, List.set_cons_zero, List.set_cons_succ]
            refine wpAnyT_take (i := 12) (v := .pointer (some ⟨rb, t, none⟩)) false false rfl (by kernel_rfl) (by kernel_rfl) (by kernel_rfl) (by kernel_rfl) (fun _ _ _ h => h) (Or.inl ⟨by kernel_rfl, fun w hSw => by clear hSw; go_simp⟩) ⟨fun _ => a0, fun _ => a1, trivial⟩ ?_; try simp only [Act.put, List.getElem_toArray, List.getElem_cons_succ, List.getElem_cons_zero, List.setIfInBounds_toArray, List.set_cons_zero, List.set_cons_succ]
            refine wpAnyT_take (i := 13) (v := .int .i64 (t : Int)) true false rfl (by kernel_rfl) (by kernel_rfl) (by kernel_rfl) (by kernel_rfl) (fun _ _ _ h => h) (Or.inl ⟨by kernel_rfl, fun w hSw => by have hcc := hSw.1 rfl; dsimp only at hcc; clear hSw; go_simp⟩) ⟨fun _ => a0, fun _ => a1, trivial⟩ ?_; try simp only [Act.put, List.getElem_toArray, List.getElem_cons_succ, List.getElem_cons_zero, List.setIfInBounds_toArray, List.set_cons_zero, List.set_cons_succ]
            refine wpAnyT_take (i := 14) (v := .pointer (some ⟨rb, t, none⟩)) false false rfl (by kernel_rfl) (by kernel_rfl) (by kernel_rfl) (by kernel_rfl) (fun _ _ _ h => h) (Or.inl ⟨by kernel_rfl, fun w hSw => by clear hSw; go_simp⟩) ⟨fun _ => a0, fun _ => a1, trivial⟩ ?_; try simp only [Act.put, List.getElem_toArray, List.getElem_cons_succ, List.getElem_cons_zero, List.setIfInBounds_toArray, List.set_cons_zero, List.set_cons_succ]
            refine wpAnyT_one (i := 15) (by kernel_rfl) rfl (fun K hK => ?_); go_simp
            replace a1 : (V0.setCell ⟨rb, t, none⟩ (.int .i64 (j : Int))).cell? ⟨rb, j, none⟩ = some (.int .i64 (j : Int)) := (World.cell?_setCell_other (w := V0) (a := ⟨rb, t, none⟩) (b := ⟨rb, j, none⟩) (v := .int .i64 (j : Int)) (fun e => by injection e with _ e2 _; exact htj2'h.out (by omega))).trans a1
            replace a1f : (V0.setCell ⟨rb, t, none⟩ (.int .i64 (j : Int))).frozen? ⟨rb, j, none⟩ = false := (World.frozen?_setCell _ _ _ _).trans a1f
            clear a0 a0f
            refine hK.out _ _ ⟨fun h => (by cases (show true = false from h)), fun _ => a1, trivial⟩ ?_; clear hK K; try simp only [Act.put, List.getElem_toArray, List.getElem_cons_succ, List.getElem_cons_zero, List.setIfInBounds_toArray, List.set_cons_zero, List.set_cons_succ]
            refine wpAnyT_take (i := 16) (v := .pointer (some ⟨rb, j, none⟩)) false false rfl (by kernel_rfl) (by kernel_rfl) (by kernel_rfl) (by kernel_rfl) (fun _ _ _ h => h) (Or.inl ⟨by kernel_rfl, fun w hSw => by clear hSw; go_simp⟩) ⟨fun h => (by cases (show true = false from h)), fun _ => a1, trivial⟩ ?_; try simp only [Act.put, List.getElem_toArray, List.getElem_cons_succ, List.getElem_cons_zero, List.setIfInBounds_toArray, List.set_cons_zero, List.set_cons_succ]
            refine wpAnyT_one (i := 17) (by kernel_rfl) rfl (fun K hK => ?_); go_simp
            clear a1 a1f
            refine hK.out _ _ ⟨fun h => (by cases (show true = false from h)), fun h => (by cases (show true = false from h)), trivial⟩ ?_; clear hK K; try simp only [Act.put, List.getElem_toArray, List.getElem_cons_succ, List.getElem_cons_zero, List.setIfInBounds_toArray, List.set_cons_zero, List.set_cons_succ]
            refine wpAnyT_done (by kernel_rfl) ?_ _
            clear htj2'h
            generalize World.setCell _ _ _ = V2 at hU2'h hC2'h ⊢
            have hsw : ((List.range k).set t j).set j t = swp1 k j := by unfold swp1; rw [ht'h.out]
            rw [hsw] at hC2'h
            have hSl := hC2'h.out.sl
            rw [swp1_len] at hSl
            have BR := bears_any lp k lc (ms.map mkM) (some ⟨rb, 0, none⟩) k rc (intsZ (swp1 k j)) V2 (hT'h.out.next hU2'h.out.old) (by rw [hk'h.out]; exact hU2'h.out.mades (by have := hkl'h.out; have := hk'h.out; omega)) hlc'h.out (by rw [← ints_Z]; exact hSl) (by have := hkl'h.out; omega)
            have hno : decide ((behindL (ms.map mkM) (intsZ (swp1 k j))).1 = 0) = false := decide_eq_false (by
              obtain ⟨A, B, e⟩ := swp1_split hlt'h.out hj1'h.out
              rw [e]
              exact hI'h.out.turned (i := j - 1) (by have := hlt'h.out; have := hk'h.out; have := hj1'h.out; omega))
            rw [hno] at BR
            clear hsw hSl hno
            have BR'h := Lib.hid BR
            clear BR
            go_wp2_with fail
            refine BR'h.out.mono ?_
            rintro e w3 ⟨rfl, hb3⟩
            have hU := hU2'h.out.next hb3
            have hC := hC2'h.out.below hb3
            obtain ⟨a1, a1f⟩ := hC.cell (i := j) (by rw [swp1_len]; exact hlt'h.out)
            obtain ⟨a0, a0f⟩ := hC.cell (i := t) (by rw [swp1_len]; have := htj'h.out; have := hlt'h.out; omega)
            rw [swp1_at hlt'h.out hj1'h.out, ← ht'h.out] at a1
            rw [ht'h.out, swp1_at' hlt'h.out hj1'h.out, ← ht'h.out] at a0
            clear hb3 BR'h hU2'h hC2'h
            have hU'h := Lib.hid hU
            have hC'h := Lib.hid hC
            clear hU hC
            go_upto_region 31 with fail
            refine wp_region_heldT ⟨15, fun W => W.cell? ⟨rb, t, none⟩ = some (.int .i64 (j : Int)), 17, fun W => W.cell? ⟨rb, j, none⟩ = some (.int .i64 (t : Int)), fun _ => True⟩ (by kernel_rfl) ?_
            have hU0 := hU'h.out.next ((Below.refl w3.heap.size w3).drew)
            have hC0 := hC'h.out.below ((Below.refl w3.heap.size w3).drew)
            replace a0 : World.cell? (w3.drew) ⟨rb, t, none⟩ = some (.int .i64 (j : Int)) := a0
            replace a1 : World.cell? (w3.drew) ⟨rb, j, none⟩ = some (.int .i64 (t : Int)) := a1
            replace a0f : World.frozen? (w3.drew) ⟨rb, t, none⟩ = false := a0f
            replace a1f : World.frozen? (w3.drew) ⟨rb, j, none⟩ = false := a1f
            clear hU'h hC'h
            generalize World.drew w3 = V0 at hU0 hC0 a0 a1 a0f a1f ⊢
            have hU1 := hU0.put hC0 hmb'h.out t (.int .i64 (t : Int))
            have hC1 := hC0.put (i := t) (by have := htj'h.out; have := hlt'h.out; simp [swp1_len]; omega) t
            have hU2 := hU1.put hC1 hmb'h.out j (.int .i64 (j : Int))
            have hC2 := hC1.put (i := j) (by have := htj'h.out; have := hlt'h.out; simp [swp1_len]; omega) j
            have htj2 : t ≠ j := by have := htj'h.out; omega
            clear hU0 hC0 hU1 hC1
            have hU2'h := Lib.hid hU2
            have hC2'h := Lib.hid hC2
            have htj2'h := Lib.hid htj2
            clear hU2 hC2 htj2
            refine wpAnyT_take (i := 0) (v := .slice (some ⟨rb, 0, none⟩) k rc) false false rfl (by kernel_rfl) (by kernel_rfl) (by kernel_rfl) (by kernel_rfl) (fun _ _ _ h => h) (Or.inl ⟨by kernel_rfl, fun w hSw => by clear hSw; go_simp⟩) ⟨fun _ => a0, fun _ => a1, trivial⟩ ?_; try simp only [Act.put, List.getElem_toArray, List.getElem_cons_succ, List.getElem_cons_zero, List.setIfInBounds_toArray, List.set_cons_zero, List.set_cons_succ]
            refine wpAnyT_take (i := 1) (v := .int .i64 (j : Int)) false false rfl (by kernel_rfl) (by kernel_rfl) (by kernel_rfl) (by kernel_rfl) (fun _ _ _ h => h) (Or.inl ⟨by kernel_rfl, fun w hSw => by clear hSw; go_simp⟩) ⟨fun _ => a0, fun _ => a1, trivial⟩ ?_; try simp only [Act.put, List.getElem_toArray, List.getElem_cons_succ, List.getElem_cons_zero, List.setIfInBounds_toArray, List.set_cons_zero, List.set_cons_succ]
            refine wpAnyT_take (i := 2) (v := .int .i64 (t : Int)) false false rfl (by kernel_rfl) (by kernel_rfl) (by kernel_rfl) (by kernel_rfl) (fun _ _ _ h => h) (Or.inl ⟨by kernel_rfl, fun w hSw => by clear hSw; go_simp⟩) ⟨fun _ => a0, fun _ => a1, trivial⟩ ?_; try simp only [Act.put, List.getElem_toArray, List.getElem_cons_succ, List.getElem_cons_zero, List.setIfInBounds_toArray, List.set_cons_zero, List.set_cons_succ]
            refine wpAnyT_take (i := 3) (v := .slice (some ⟨rb, 0, none⟩) k rc) false false rfl (by kernel_rfl) (by kernel_rfl) (by kernel_rfl) (by kernel_rfl) (fun _ _ _ h => h) (Or.inl ⟨by kernel_rfl, fun w hSw => by clear hSw; go_simp⟩) ⟨fun _ => a0, fun _ => a1, trivial⟩ ?_; try simp only [Act.put, List.getElem_toArray, List.getElem_cons_succ, List.getElem_cons_zero, List.setIfInBounds_toArray, List.set_cons_zero, List.set_cons_succ]
            refine wpAnyT_take (i := 4) (v := .int .i64 (j : Int)) false false rfl (by kernel_rfl) (by kernel_rfl) (by kernel_rfl) (by kernel_rfl) (fun _ _ _ h => h) (Or.inl ⟨by kernel_rfl, fun w hSw => by clear hSw; go_simp⟩) ⟨fun _ => a0, fun _ => a1, trivial⟩ ?_; try simp only [Act.put, List.getElem_toArray, List.getElem_cons_succ, List.getElem_cons_zero, List.setIfInBounds_toArray, List.set_cons_zero, List.set_cons_succ]
            refine wpAnyT_take (i := 5) (v := .slice (some ⟨rb, 0, none⟩) k rc) false false rfl (by kernel_rfl) (by kernel_rfl) (by kernel_rfl) (by kernel_rfl) (fun _ _ _ h => h) (Or.inl ⟨by kernel_rfl, fun w hSw => by clear hSw; go_simp⟩) ⟨fun _ => a0, fun _ => a1, trivial⟩ ?_; try simp only [Act.put, List.getElem_toArray, List.getElem_cons_succ, List.getElem_cons_zero, List.setIfInBounds_toArray, List.set_cons_zero, List.set_cons_succ]
            refine wpAnyT_take (i := 6) (v := .int .i64 (j : Int)) false false rfl (by kernel_rfl) (by kernel_rfl) (by kernel_rfl) (by kernel_rfl) (fun _ _ _ h => h) (Or.inl ⟨by kernel_rfl, fun w hSw => by clear hSw; go_simp⟩) ⟨fun _ => a0, fun _ => a1, trivial⟩ ?_; try simp only [Act.put, List.getElem_toArray, List.getElem_cons_succ, List.getElem_cons_zero, List.setIfInBounds_toArray, List.set_cons_zero, List.set_cons_succ]
            refine wpAnyT_take (i := 7) (v := .pointer (some ⟨rb, j, none⟩)) false false rfl (by kernel_rfl) (by kernel_rfl) (by kernel_rfl) (by kernel_rfl) (fun _ _ _ h => h) (Or.inl ⟨by kernel_rfl, fun w hSw => by clear hSw; go_simp⟩) ⟨fun _ => a0, fun _ => a1, trivial⟩ ?_; try simp only [Act.put, List.getElem_toArray, List.getElem_cons_succ, List.getElem_cons_zero, List.setIfInBounds_toArray, List.set_cons_zero, List.set_cons_succ]
            refine wpAnyT_take (i := 8) (v := .int .i64 (t : Int)) false true rfl (by kernel_rfl) (by kernel_rfl) (by kernel_rfl) (by kernel_rfl) (fun _ _ _ h => h) (Or.inl ⟨by kernel_rfl, fun w hSw => by have hcc := hSw.2.1 rfl; dsimp only at hcc; clear hSw; go_simp⟩) ⟨fun _ => a0, fun _ => a1, trivial⟩ ?_; try simp only [Act.put, List.getElem_toArray, List.getElem_cons_succ, List.getElem_cons_zero, List.setIfInBounds_toArray, List.set_cons_zero, List.set_cons_succ]
            refine wpAnyT_take (i := 9) (v := .slice (some ⟨rb, 0, none⟩) k rc) false false rfl (by kernel_rfl) (by kernel_rfl) (by kernel_rfl) (by kernel_rfl) (fun _ _ _ h => h) (Or.inl ⟨by kernel_rfl, fun w hSw => by clear hSw; go_simp⟩) ⟨fun _ => a0, fun _ => a1, trivial⟩ ?_; try simp only [Act.put, List.getElem_toArray, List.getElem_cons_succ, List.getElem_cons_zero, List.setIfInBounds_toArray, List.set_cons_zero, List.set_cons_succ]
            refine wpAnyT_take (i := 10) (v := .int .i64 (j : Int)) false false rfl (by kernel_rfl) (by kernel_rfl) (by kernel_rfl) (by kernel_rfl) (fun _ _ _ h => h) (Or.inl ⟨by kernel_rfl, fun w hSw => by clear hSw; go_simp⟩) ⟨fun _ => a0, fun _ => a1, trivial⟩ ?_; try simp only [Act.put, List.getElem_toArray, List.getElem_cons_succ, List.getElem_cons_zero, List.setIfInBounds_toArray, List.set_cons_zero, List.set_cons_succ]
            refine wpAnyT_take (i := 11) (v := .int .i64 (t : Int)) false false rfl (by kernel_rfl) (by kernel_rfl) (by kernel_rfl) (by kernel_rfl) (fun _ _ _ h => h) (Or.inl ⟨by kernel_rfl, fun w hSw => by clear hSw; go_simp⟩) ⟨fun _ => a0, fun _ => a1, trivial⟩ ?_; try simp only [Act.put, List.getElem_toArray, List.getElem_cons_succ, List.getElem_cons_zero, List.setIfInBounds_toArray, List.set_cons_zero, List.set_cons_succ]
            refine wpAnyT_take (i := 12) (v := .pointer (some ⟨rb, t, none⟩)) false false rfl (by kernel_rfl) (by kernel_rfl) (by kernel_rfl) (by kernel_rfl) (fun _ _ _ h => h) (Or.inl ⟨by kernel_rfl, fun w hSw => by clear hSw; go_simp⟩) ⟨fun _ => a0, fun _ => a1, trivial⟩ ?_; try simp only [Act.put, List.getElem_toArray, List.getElem_cons_succ, List.getElem_cons_zero, List.setIfInBounds_toArray, List.set_cons_zero, List.set_cons_succ]
            refine wpAnyT_take (i := 13) (v := .int .i64 (j : Int)) true false rfl (by kernel_rfl) (by kernel_rfl) (by kernel_rfl) (by kernel_rfl) (fun _ _ _ h => h) (Or.inl ⟨by kernel_rfl, fun w hSw => by have hcc := hSw.1 rfl; dsimp only at hcc; clear hSw; go_simp⟩) ⟨fun _ => a0, fun _ => a1, trivial⟩ ?_; try simp only [Act.put, List.getElem_toArray, List.getElem_cons_succ, List.getElem_cons_zero, List.setIfInBounds_toArray, List.set_cons_zero, List.set_cons_succ]
            refine wpAnyT_take (i := 14) (v := .pointer (some ⟨rb, t, none⟩)) false false rfl (by kernel_rfl) (by kernel_rfl) (by kernel_rfl) (by kernel_rfl) (fun _ _ _ h => h) (Or.inl ⟨by kernel_rfl, fun w hSw => by clear hSw; go_simp⟩) ⟨fun _ => a0, fun _ => a1, trivial⟩ ?_; try simp only [Act.put, List.getElem_toArray, List.getElem_cons_succ, List.getElem_cons_zero, List.setIfInBounds_toArray, List.set_cons_zero, List.set_cons_succ]
            refine wpAnyT_one (i := 15) (by kernel_rfl) rfl (fun K hK => ?_); go_simp
            replace a1 : (V0.setCell ⟨rb, t, none⟩ (.int .i64 (t : Int))).cell? ⟨rb, j, none⟩ = some (.int .i64 (t : Int)) := (World.cell?_setCell_other (w := V0) (a := ⟨rb, t, none⟩) (b := ⟨rb, j, none⟩) (v := .int .i64 (t : Int)) (fun e => by injection e with _ e2 _; exact htj2'h.out (by omega))).trans a1
            replace a1f : (V0.setCell ⟨rb, t, none⟩ (.int .i64 (t : Int))).frozen? ⟨rb, j, none⟩ = false := (World.frozen?_setCell _ _ _ _).trans a1f
            clear a0 a0f
            refine hK.out _ _ ⟨fun h => (by cases (show true = false from h)), fun _ => a1, trivial⟩ ?_; clear hK K; try simp only [Act.put, List.getElem_toArray, List.getElem_cons_succ, List.getElem_cons_zero, List.setIfInBounds_toArray, List.set_cons_zero, List.set_cons_succ]
            refine wpAnyT_take (i := 16) (v := .pointer (some ⟨rb, j, none⟩)) false false rfl (by kernel_rfl) (by kernel_rfl) (by kernel_rfl) (by kernel_rfl) (fun _ _ _ h => h) (Or.inl ⟨by kernel_rfl, fun w hSw => by clear hSw; go_simp⟩) ⟨fun h => (by cases (show true = false from h)), fun _ => a1, trivial⟩ ?_; try simp only [Act.put, List.getElem_toArray, List.getElem_cons_succ, List.getElem_cons_zero, List.setIfInBounds_toArray, List.set_cons_zero, List.set_cons_succ]
            refine wpAnyT_one (i := 17) (by kernel_rfl) rfl (fun K hK => ?_); go_simp
            clear a1 a1f
            refine hK.out _ _ ⟨fun h => (by cases (show true = false from h)), fun h => (by cases (show true = false from h)), trivial⟩ ?_; clear hK K; try simp only [Act.put, List.getElem_toArray, List.getElem_cons_succ, List.getElem_cons_zero, List.setIfInBounds_toArray, List.set_cons_zero, List.set_cons_succ]
            refine wpAnyT_done (by kernel_rfl) ?_ _
            clear htj2'h
            generalize World.setCell _ _ _ = V2 at hU2'h hC2'h ⊢
            have hsw : ((swp1 k j).set t t).set j j = List.range k := by rw [ht'h.out]; exact swp1_back hlt'h.out hj1'h.out
            rw [hsw] at hC2'h
            clear hsw
            go_wp2
            go_roundg (gk - 1)
            case measure => have := hj'h.out; have := hlt'h.out; omega
            case rel => exact ⟨j + 1, by have := hj'h.out; have := hlt'h.out; omega, by go_num, by omega, hU2'h.out, fun rb' e => by injection e with e; injection e with e _ _; subst e; exact hC2'h.out⟩
          · have i3 : ¬ (j : Int) < (k : Int) := by omega
            have SE := search_any lp k lc (ms.map mkM) wr (hT'h.out.next hW.old) (by rw [hk'h.out]; exact hW.mades (by have := hkl'h.out; have := hk'h.out; omega)) hlc'h.out
            have hold := hW.old
            have hf80 : ms.length ≤ 80 := by have := hkl'h.out; have := hk'h.out; omega
            clear hW hj hlt hj1 hCr
            have SE'h := Lib.hid SE
            have hold'h := Lib.hid hold
            have hf80'h := Lib.hid hf80
            clear SE hold hf80
            go_wp2_with fail
            refine SE'h.out.mono ?_
            rintro e w7 ⟨hb7, ⟨hc, _⟩ | ⟨_, h7, rfl⟩ | ⟨_, h7, ⟨hn, _⟩ | ⟨r, sr, cr, hr, rfl, -, -, -⟩⟩⟩
            · rw [hI'h.out.check hf80'h.out] at hc
              cases hc
            · rw [hI'h.out.many, ← hk'h.out] at h7
              have hold2 := below_next hold'h.out hb7
              have q7 : (k : Int) > 7 := by omega
              clear hb7 h7
              have hold2'h := Lib.hid hold2
              clear hold2
              go_wp2
              go_ret
              exact ⟨rfl, hold2'h.out⟩
            · obtain ⟨r, hr, -⟩ := hI'h.out.seek hf80'h.out
              rw [hr] at hn
              cases hn
            · obtain ⟨r2, hr2, hl2⟩ := hI'h.out.seek hf80'h.out
              rw [hr] at hr2
              obtain rfl : r = r2 := by injection hr2
              rw [hI'h.out.many, ← hk'h.out] at h7
              rw [← hk'h.out] at hl2
              rw [hl2]
              have hold2 := below_next hold'h.out hb7
              have q7 : ¬ (k : Int) > 7 := by omega
              have q8 : ((k : Int) == (k : Int)) = true := by simp
              clear hb7 h7 hl2 hr hr2
              have hold2'h := Lib.hid hold2
              clear hold2
              go_wp2
              go_ret
              exact ⟨rfl, hold2'h.out⟩
      · have c1 : ((i : Int) == 12) = false := by simp; omega
        have q1 : (i : Int) + 1 ≤ 100 := by omega
        have hW2 := hW.next ((Below.refl wr.heap.size wr).alloc (Nat.le_refl _) (.cells #[.int .i64 op, .int .u64 (key : Int), .int .u64 (a : Int), .int .u64 (b' : Int)] 31))
        have hcb := World.alloc_heap_new wr (.cells #[.int .i64 op, .int .u64 (key : Int), .int .u64 (a : Int), .int .u64 (b' : Int)] 31)
        have hi11 : i ≤ 11 := by omega
        clear hXr hm0 h12 hi12 hW
        have hI'h := Lib.hid hI
        have hW2'h := Lib.hid hW2
        have hcb'h := Lib.hid hcb
        have hmi'h := Lib.hid hmi
        have hi'h := Lib.hid hi
        have hs1'h := Lib.hid hs1
        have hs2'h := Lib.hid hs2
        have hck'h := Lib.hid hck
        have hi11'h := Lib.hid hi11
        have hlt'h := Lib.hid hlt
        clear hI hW2 hcb hmi hi hs1 hs2 hck hi11 hlt
        go_upto_region 11 with fail
        clear e0 e1 e2 e3
        generalize wr.alloc _ = W2 at hW2'h hcb'h ⊢
        generalize wr.heap.size = cb at hcb'h ⊢
        have hm0 : W2.cell? ⟨mb, 0, none⟩ = some (.slice mp mn mc) := blk_cell (i := 0) hW2'h.out.blk rfl
        obtain ⟨e0, e1, e2, e3⟩ := cells4q hcb'h.out
        have hmn : mn ≤ 4096 := by have h1 := hW2'h.out.mrow.len; have h2 := run_len ms; have := hmi'h.out; have := hi11'h.out; omega
        cases ho : isOp (clOf ⟨op, key, a, b'⟩) with
        | false =>
          have DO := mDo_op mp mn mc (runM ms) (clOf ⟨op, key, a, b'⟩) W2 hW2'h.out.mrow.sl (run_up ms) hmn ho
          unfold anA at DO
          clear ho hmn
          have DO'h := Lib.hid DO
          clear DO
          go_upto_region 12 with (first | (go_at_call 8; refine DO'h.out.mono ?_; rintro e w3 ⟨rfl, hb3⟩; have hb3'h := Lib.hid hb3; clear hb3))
          have hbA := below_next hb3'h.out (((Below.refl w3.heap.size w3).alloc (Nat.le_refl _) (.cells #[.slice none 0 0] 28)).alloc (by simp) (.cells #[.int .i64 0, .int .u64 0, .bool false, .slice none 0 0] 34))
          have hW3 := hW2'h.out.next hbA
          clear hb3'h hbA e0 e1 e2 e3 hm0
          generalize World.alloc _ _ = W3 at hW3 ⊢
          have hW3'h := Lib.hid hW3
          clear hW3
          go_wp2
          go_roundg (gk - 1)
          case measure => have := hi'h.out; have := hlt'h.out; omega
          case rel => exact ⟨i + 1, ms, step, lp, lc, rp, rc, mp, mn, mc, by have := hi'h.out; have := hlt'h.out; omega, by go_num, rfl, rfl, rfl, hI'h.out, by have := hmi'h.out; omega, by have := hi11'h.out; omega, hs1'h.out, by have := hs2'h.out; omega, hW3'h.out⟩
        | true =>
          have DO := mDo_yes mp mn mc (runM ms) (clOf ⟨op, key, a, b'⟩) W2 hW2'h.out.mrow.sl (run_up ms) hmn ho
          obtain ⟨an, han⟩ : ∃ an, an = tellA (clOf ⟨op, key, a, b'⟩) (runM ms) := ⟨_, rfl⟩
          obtain ⟨ps1, hps1⟩ : ∃ ps1, ps1 = nextP (clOf ⟨op, key, a, b'⟩) (runM ms) := ⟨_, rfl⟩
          rw [← han, ← hps1] at DO
          obtain ⟨er, va, dn⟩ := an
          clear hmn
          have DO'h := Lib.hid DO
          have ho'h := Lib.hid ho
          have han'h := Lib.hid han
          have hps1'h := Lib.hid hps1
          clear DO ho han hps1
          go_upto_region 12 with (first | (go_at_call 8; refine DO'h.out.mono ?_; rintro e w3 ⟨s1, n1, c1, sq, nq, cq, rfl, hb3, hR3, -, -, -, -, hx3⟩; dsimp only [anA]; have hb3'h := Lib.hid hb3; have hR3'h := Lib.hid hR3; have hx3'h := Lib.hid hx3; clear hb3 hR3 hx3))
          have hbB := ((Below.refl w3.heap.size w3).alloc (Nat.le_refl _) (.cells #[.slice s1 n1 c1] 28)).alloc (by simp) (.cells #[.int .i64 er, .int .u64 (va : Int), .bool dn, .slice sq nq cq] 34)
          have hbA := below_next hb3'h.out hbB
          have hW3 := hW2'h.out.next hbA
          have hS3 : RowP ((w3.alloc (.cells #[.slice s1 n1 c1] 28)).alloc (.cells #[.int .i64 er, .int .u64 (va : Int), .bool dn, .slice sq nq cq] 34)) (mb + 1) s1 n1 c1 ps1 := (hR3'h.out.below hbB).low (by have := lt_of_heap hW2'h.out.blk; omega)
          have hk : OneR cb w3.heap.size (w3.heap.size + 1) #[.int .i64 op, .int .u64 (key : Int), .int .u64 (a : Int), .int .u64 (b' : Int)] #[.slice s1 n1 c1] #[.int .i64 er, .int .u64 (va : Int), .bool dn, .slice sq nq cq] ((w3.alloc (.cells #[.slice s1 n1 c1] 28)).alloc (.cells #[.int .i64 er, .int .u64 (va : Int), .bool dn, .slice sq nq cq] 34)) := ⟨heap_below hbA hcb'h.out (lt_of_heap hcb'h.out), heap_below ((Below.refl _ _).alloc (Nat.le_refl _) _) (World.alloc_heap_new _ _) (by simp), by have := World.alloc_heap_new (w3.alloc (.cells #[.slice s1 n1 c1] 28)) (.cells #[.int .i64 er, .int .u64 (va : Int), .bool dn, .slice sq nq cq] 34); rw [World.size_alloc] at this; exact this⟩
          clear hb3'h hbA hbB e0 e1 e2 e3 hm0 hW2'h hcb'h hR3'h DO'h
          generalize World.alloc _ _ = W3 at hW3 hS3 hk ⊢
          generalize w3.heap.size = p at hk ⊢
          obtain ⟨e0, e1, e2, e3⟩ := cells4q hk.c
          by_cases h6 : op = 6
          · have c1 : (op == 6) = true := by simp [h6]
            clear h6 hS3 hk
            have hW3'h := Lib.hid hW3
            clear hW3
            go_wp2
            go_roundg (gk - 1)
            case measure => have := hi'h.out; have := hlt'h.out; omega
            case rel => exact ⟨i + 1, ms, step, lp, lc, rp, rc, mp, mn, mc, by have := hi'h.out; have := hlt'h.out; omega, by go_num, rfl, rfl, rfl, hI'h.out, by have := hmi'h.out; omega, by have := hi11'h.out; omega, hs1'h.out, by have := hs2'h.out; omega, hW3'h.out⟩
          · have c1 : (op == 6) = false := by simp [h6]
            obtain ⟨rfl, rfl, rfl⟩ := hx3'h.out (decide_eq_false h6)
            have hW3'h := Lib.hid hW3
            have hS3'h := Lib.hid hS3
            have hk'h := Lib.hid hk
            have h6'h := Lib.hid h6
            clear hW3 hS3 hk h6
            go_upto_if 48 with fail
            clear e0 e1 e2 e3 c1 hx3'h
            go_cut [14] from 48 to 56 (fun v14 wr => ∃ wd : Int, v14 = .int .i64 wd ∧ 1 ≤ wd ∧ wd ≤ 5 ∧ wr = W3)
            case first =>
              by_cases hyi : i < yn
              · have c1 : (i : Int) < (yn : Int) := by omega
                have c2 : (0 : Int) ≤ (i : Int) := by omega
                have hYr := hYW'h.out W3 hW3'h.out.old
                have hyl : i < zs.length := by have := hylen'h.out; omega
                obtain ⟨yb, yo, rfl, -⟩ := hYr.some' (by omega)
                have d1 := sl_cellI hYr hyl
                generalize nthI zs i = z at d1
                clear hYr hyl
                go_wp2
                go_meet
                exact ⟨_, rfl, (wide_in z).1, (wide_in z).2, rfl⟩
              · have c1 : ¬ (i : Int) < (yn : Int) := by omega
                go_wp2
                go_meet
                exact ⟨1, rfl, by omega, by omega, rfl⟩
            case rest =>
              obtain ⟨wd, rfl, hw1, hw5, rfl⟩ := hcut
              obtain ⟨e0, e1, e2, e3⟩ := cells4q hk'h.out.c
              obtain ⟨v0, v1, v2, v3⟩ := cells4q hk'h.out.q
              have hs1 := hs1'h.out
              have hs2 := hs2'h.out
              have hi11 := hi11'h.out
              have g1 : wrap64 (step + wd / 2) = step + wd / 2 := by unfold wrap64; omega
              have g2 : wrap64 (step + wd) = step + wd := by unfold wrap64; omega
              have g3 : wrap64 (step + wd + 1) = step + wd + 1 := by unfold wrap64; omega
              have g4 : 0 ≤ wd / 2 ∧ wd / 2 ≤ wd := by omega
              clear hs1 hs2 hi11
              have g1'h := Lib.hid g1
              have g2'h := Lib.hid g2
              have g3'h := Lib.hid g3
              have g4'h := Lib.hid g4
              clear g1 g2 g3 g4
              go_upto_region 17 with fail
              rw [g1'h.out, g2'h.out]
              clear e0 e1 e2 e3 v0 v1 v2 v3
              obtain ⟨at2, hat⟩ : ∃ at2, at2 = step + wd / 2 := ⟨_, rfl⟩
              obtain ⟨ov2, hov⟩ : ∃ ov2, ov2 = step + wd := ⟨_, rfl⟩
              rw [← hat, ← hov]
              obtain ⟨gr, hgr⟩ : ∃ gr : Int, gr = (i : Int) % 8 := ⟨_, rfl⟩
              rw [← hgr]
              obtain ⟨md, hmd⟩ : ∃ md : Md, md = ⟨gr, ⟨op, key, a, b'⟩, ⟨er, va, dn⟩, [], step, at2, ov2, []⟩ := ⟨_, rfl⟩
              have hmdok : MdOk md := by
                have h1 := hs1'h.out
                have h2 := hs2'h.out
                have h3 := hi11'h.out
                have h4 := g4'h.out
                rw [hmd]
                refine ⟨?_, hck'h.out, ?_, ?_, ?_, ?_, ?_, (fun x hx => by cases hx), (fun x hx => by cases hx)⟩
                · show I64 gr; unfold I64; omega
                · have := (tell_ok (c := ⟨op, key, a, b'⟩) hck'h.out (run_ok fun m hm => (hW3'h.out.each m hm).2.2.call) (by have := run_len ms; have := hmi'h.out; omega)).1
                  rw [← han'h.out] at this
                  exact this
                · have := (tell_ok (c := ⟨op, key, a, b'⟩) hck'h.out (run_ok fun m hm => (hW3'h.out.each m hm).2.2.call) (by have := run_len ms; have := hmi'h.out; omega)).2
                  rw [← han'h.out] at this
                  exact this
                · show I64 step; unfold I64; omega
                · show I64 at2; unfold I64; omega
                · show I64 ov2; unfold I64; omega
              have hA1 := (Below.refl wc.heap.size wc).alloc (Nat.le_refl _) (.cells (mmA (mkM md)) 39)
              have hd5 := World.alloc_heap_new wc (.cells (mmA (mkM md)) 39)
              have hW5 := hW3'h.out.next hA1
              have hS5 := hS3'h.out.below hA1
              have hk5 := hk'h.out.next hA1
              clear hA1
              have hrowv : mmA (mkM md) = #[.int .i64 gr, .int .i64 op, .int .u64 (key : Int), .int .u64 (a : Int), .int .u64 (b' : Int), .int .i64 er, .int .u64 (va : Int), .bool dn, .slice none 0 0, .int .i64 step, .int .i64 at2, .int .i64 ov2, .slice none 0 0] := by rw [hmd]; rfl
              rw [← hrowv]
              generalize wc.alloc _ = W5 at hW5 hS5 hk5 hd5 ⊢
              generalize wc.heap.size = db at hd5 ⊢
              have hA6 := (Below.refl W5.heap.size W5).alloc (Nat.le_refl _) (.cells (mmA (mkM md)) 39)
              have hW6 := hW5.next hA6
              have hM6 := one_md (World.alloc_heap_new W5 (.cells (mmA (mkM md)) 39)) (by rw [hmd]) (by rw [hmd]) hmdok
              have CK := checkM_any (some ⟨W5.heap.size, 0, none⟩) 1 1 [mkM md] (W5.alloc (.cells (mmA (mkM md)) 39)) (hT'h.out.next hW6.old) hM6 (Nat.le_refl _)
              obtain ⟨ck, hckb⟩ : ∃ ck, ck = checkB [mkM md] := ⟨_, rfl⟩
              rw [← hckb] at CK
              have hd6 := heap_below hA6 hd5 (lt_of_heap hd5)
              have hS6 := hS5.below hA6
              have hk6 := hk5.next hA6
              rw [hrowv] at hd5 CK hd6 hW6 hS6 hk6
              obtain ⟨d0, d1, d2, d3, d4, d5, d6, d7, d8, d9, da, db', dc⟩ := cells13 hd5
              clear hd5 hA6 hM6 hW5 hS5 hk5 hW3'h hS3'h hk'h
              have CK'h := Lib.hid CK
              have hckb'h := Lib.hid hckb
              have hd6'h := Lib.hid hd6
              have hW6'h := Lib.hid hW6
              have hS6'h := Lib.hid hS6
              have hk6'h := Lib.hid hk6
              have hmdok'h := Lib.hid hmdok
              have hmd'h := Lib.hid hmd
              have hat'h := Lib.hid hat
              have hov'h := Lib.hid hov
              have hgr'h := Lib.hid hgr
              have hrowv'h := Lib.hid hrowv
              clear CK hckb hd6 hW6 hS6 hk6 hmdok hmd hat hov hgr hrowv
              rw [hrowv'h.out]
              go_wp2_with fail
              refine CK'h.out.mono ?_
              rintro e w7 ⟨rfl, hb7⟩
              have hW7 := hW6'h.out.next hb7
              have hd7 := heap_below hb7 hd6'h.out (lt_of_heap hd6'h.out)
              have hS7 := hS6'h.out.below hb7
              have hk7 := hk6'h.out.next hb7
              clear hb7 CK'h hW6'h hd6'h hS6'h hk6'h d0 d1 d2 d3 d4 d5 d6 d7 d8 d9 da db' dc
              cases ck with
              | false =>
                simp only [Bool.false_eq_true, if_false]
                clear hd7 hS7 hk7
                have hW7'h := Lib.hid hW7
                clear hW7
                go_wp2
                go_roundg (gk - 1)
                case measure => have := hi'h.out; have := hlt'h.out; omega
                case rel => exact ⟨i + 1, ms, step, lp, lc, rp, rc, mp, mn, mc, by have := hi'h.out; have := hlt'h.out; omega, by go_num, rfl, rfl, rfl, hI'h.out, by have := hmi'h.out; omega, by have := hi11'h.out; omega, hs1'h.out, by have := hs2'h.out; omega, hW7'h.out⟩
              | true =>
                simp only [if_true]
                have hright := one_right hckb'h.out.symm
                have x0 : w7.cell? ⟨p, 0, none⟩ = some (.slice s1 n1 c1) := blk_cell (i := 0) hk7.p rfl
                have y0 : w7.cell? ⟨mb, 0, none⟩ = some (.slice mp mn mc) := blk_cell (i := 0) hW7.blk rfl
                have y0f := blk_free 0 hW7.blk
                clear hk7
                have hW7'h := Lib.hid hW7
                have hd7'h := Lib.hid hd7
                have hS7'h := Lib.hid hS7
                have hright'h := Lib.hid hright
                clear hW7 hd7 hS7 hright
                go_upto_region 19 with fail
                clear x0 y0 y0f
                have i8 := hov'h.out
                rw [i8, g2'h.out, g3'h.out]
                clear i8
                have hlt7 := hW7'h.out.low
                have ho8 := hW7'h.out.old.setCell (p := ⟨mb, 0, none⟩) hlt7 (.slice s1 n1 c1)
                have hb8 := blk_set (i := 0) (.slice s1 n1 c1) hW7'h.out.blk
                have hm8 : RowP (w7.setCell ⟨mb, 0, none⟩ (.slice s1 n1 c1)) (mb + 1) s1 n1 c1 ps1 := hS7'h.out.keep fun g e hg => Below.heap_setCell _ _ _ _ (by rcases hS7'h.out.row with ⟨e1, _⟩ | ⟨g', cur, e1, hl, _⟩; (rw [e] at e1; cases e1); (rw [e] at e1; injection e1 with e1; injection e1 with e1 _ _; simp only; omega))
                have hl8 := row_put1 hW7'h.out.lrow (D := mb) (by omega) 0 (.slice s1 n1 c1)
                have hr8 := row_put1 hW7'h.out.rrow (D := mb) (by omega) 0 (.slice s1 n1 c1)
                have hd8 : (w7.setCell ⟨mb, 0, none⟩ (.slice s1 n1 c1)).heap[db]? = _ := (Below.heap_setCell _ _ _ _ (by rintro rfl; have h1 := hd7'h.out; have h2 := hW7'h.out.blk; rw [h1] at h2; cases h2)).trans hd7'h.out
                have hea := hW7'h.out.each
                clear hlt7 hd7'h hS7'h hW7'h
                generalize World.setCell _ _ _ = W8 at ho8 hb8 hm8 hl8 hr8 hd8 ⊢
                change W8.heap[mb]? = some (.cells #[.slice s1 n1 c1] 28 (0, 0)) at hb8
                obtain ⟨hg1, hg2⟩ := goes_self (m := md) (ps := runM ms) (by rw [hmd'h.out]; exact han'h.out) (by rw [hmd'h.out]) (by rw [hmd'h.out]; exact h6'h.out)
                have hI2 : OneI (ms ++ [md]) (step + wd + 1) := hI'h.out.snoc hright'h.out (by rw [hmd'h.out]) (by omega) (by have := hs1'h.out; omega) (by rw [hmd'h.out]; exact hov'h.out) (by rw [hmd'h.out]; exact h6'h.out) hg1
                have hrun : runM (ms ++ [md]) = ps1 := by rw [runM_snoc, hg2, hps1'h.out, hmd'h.out]
                have hea2 : ∀ m ∈ ms ++ [md], m.prs = [] ∧ m.told = [] ∧ MdOk m := fun m hm => by
                  rcases List.mem_append.1 hm with hm | hm
                  · exact hea m hm
                  · rw [List.mem_singleton] at hm
                    subst hm
                    exact ⟨by rw [hmd'h.out], by rw [hmd'h.out], hmdok'h.out⟩
                have hAA := (Below.refl W8.heap.size W8).alloc (Nat.le_refl _) (.cells #[.int .i64 (ms.length : Int)] 3)
                have hky : SlK (W8.alloc (.cells #[.int .i64 (ms.length : Int)] 3)) 1 (some ⟨W8.heap.size, 0, none⟩) 1 (ints [ms.length]) := SlK.of_blk (World.alloc_heap_new _ _) rfl (by decide)
                have hrA := ownsRow_next hr8 hAA
                have hlA := ownsRow_next hl8 hAA
                have hmA := hm8.below hAA
                have hbA := heap_below hAA hb8 (lt_of_heap hb8)
                have hdA := heap_below hAA hd8 (lt_of_heap hd8)
                have hoA := below_next ho8 hAA
                have hzA : mb + 1 ≤ (W8.alloc (.cells #[.int .i64 (ms.length : Int)] 3)).heap.size := by have := lt_of_heap hbA; omega
                clear hg1 hg2 hAA ho8 hb8 hm8 hl8 hr8 hd8 hea
                have hI2'h := Lib.hid hI2
                have hrun'h := Lib.hid hrun
                have hea2'h := Lib.hid hea2
                have hky'h := Lib.hid hky
                have hrA'h := Lib.hid hrA
                have hlA'h := Lib.hid hlA
                have hmA'h := Lib.hid hmA
                have hbA'h := Lib.hid hbA
                have hdA'h := Lib.hid hdA
                have hoA'h := Lib.hid hoA
                have hzA'h := Lib.hid hzA
                clear hI2 hrun hea2 hky hrA hlA hmA hbA hdA hoA hzA
                go_upto_region 20 with (at_builtin; refine wpList_append_slk _ rfl (.tmp 79) (.tmp 82) 23 rfl (mb + 1) 3 i0 (.int .i64 0) 1 8 Tryd.underlying23 hi0 hz0 hs0 hy0 rfl (by decide) _ ms.length _ rfl hrA'h.out (some ⟨W8.heap.size, 0, none⟩) 1 1 _ rfl hky'h.out (ints_oneA _) (by have := hmi'h.out; have := hi11'h.out; unfold maxLen; omega) (by have := hmi'h.out; have := hi11'h.out; omega) hzA'h.out ?_; intro v1 w9 hown1 hgrow1 hwh1)
                have hoB := hoA'h.out.grown hgrow1 (hoA'h.out.size) (fun q hq => by have h1 := (hrA'h.out.lt q hq).1; have h2 := hlow'h.out; omega)
                have hbB := grown_blk hgrow1 hrA'h.out hbA'h.out (by decide)
                have hmB := grown_map hgrow1 hrA'h.out hmA'h.out (by decide)
                have hlB := ownsRow_other hlA'h.out hgrow1 (rows_apart hlA'h.out hrA'h.out (by decide))
                have hdB := grown_blk hgrow1 hrA'h.out hdA'h.out (by decide)
                obtain ⟨rp2, rc2, rfl⟩ := row_slice' hown1
                rw [show ints (List.range ms.length) ++ ints [ms.length] = ints (List.range (ms.length + 1)) by rw [List.range_succ]; unfold ints; rw [List.map_append]] at hown1
                clear hgrow1 hwh1 hky'h hrA'h hlA'h hmA'h hbA'h hdA'h hoA'h hzA'h
                obtain ⟨d0, d1, d2, d3, d4, d5, d6, d7, d8, d9, da, db', dc⟩ := cells13 hdB
                have hAA := (Below.refl w9.heap.size w9).alloc (Nat.le_refl _) (.cells #[.int .i64 gr, .int .i64 op, .int .u64 (key : Int), .int .u64 (a : Int), .int .u64 (b' : Int), .int .i64 er, .int .u64 (va : Int), .bool dn, .slice none 0 0, .int .i64 step, .int .i64 at2, .int .i64 ov2, .slice none 0 0] 39)
                have hky : SlK (w9.alloc (.cells #[.int .i64 gr, .int .i64 op, .int .u64 (key : Int), .int .u64 (a : Int), .int .u64 (b' : Int), .int .i64 er, .int .u64 (va : Int), .bool dn, .slice none 0 0, .int .i64 step, .int .i64 at2, .int .i64 ov2, .slice none 0 0] 39)) 13 (some ⟨w9.heap.size, 0, none⟩) 1 (mms [mkM md]) := by
                  have h1 := SlK.of_blk (k := 13) (n := 1) (World.alloc_heap_new w9 (.cells (mmA (mkM md)) 39)) rfl (by decide)
                  rw [hrowv'h.out] at h1
                  have h2 : mms [mkM md] = (#[.int .i64 gr, .int .i64 op, .int .u64 (key : Int), .int .u64 (a : Int), .int .u64 (b' : Int), .int .i64 er, .int .u64 (va : Int), .bool dn, .slice none 0 0, .int .i64 step, .int .i64 at2, .int .i64 ov2, .slice none 0 0] : Array Value).toList := by rw [hmd'h.out]; rfl
                  rw [h2]
                  exact h1
                have hrA := ownsRow_next hown1 hAA
                have hlA := ownsRow_next hlB hAA
                have hmA := hmB.below hAA
                have hbA := heap_below hAA hbB (lt_of_heap hbB)
                have hoA := below_next hoB hAA
                have hzA : mb + 1 ≤ (w9.alloc (.cells #[.int .i64 gr, .int .i64 op, .int .u64 (key : Int), .int .u64 (a : Int), .int .u64 (b' : Int), .int .i64 er, .int .u64 (va : Int), .bool dn, .slice none 0 0, .int .i64 step, .int .i64 at2, .int .i64 ov2, .slice none 0 0] 39)).heap.size := by have := lt_of_heap hbA; omega
                clear hAA hoB hbB hmB hlB hdB hown1
                have hky'h := Lib.hid hky
                have hrA'h := Lib.hid hrA
                have hlA'h := Lib.hid hlA
                have hmA'h := Lib.hid hmA
                have hbA'h := Lib.hid hbA
                have hoA'h := Lib.hid hoA
                have hzA'h := Lib.hid hzA
                clear hky hrA hlA hmA hbA hoA hzA
                go_upto_region 21 with (at_builtin; refine wpList_append_slk _ rfl (.tmp 84) (.tmp 86) 25 rfl (mb + 1) 39 i9 _ 13 136 Tryd.underlying25 hi9 hz9 hs9 hy9 rfl (by decide) _ ms.length _ rfl hlA'h.out (some ⟨w9.heap.size, 0, none⟩) 1 1 _ rfl hky'h.out (mms_one _) (by have := hmi'h.out; have := hi11'h.out; unfold maxLen; omega) (by have := hmi'h.out; have := hi11'h.out; omega) hzA'h.out ?_; intro v2 wB hown2 hgrow2 hwh2)
                clear d0 d1 d2 d3 d4 d5 d6 d7 d8 d9 da db' dc
                have hoB := hoA'h.out.grown hgrow2 (hoA'h.out.size) (fun q hq => by have h1 := (hlA'h.out.lt q hq).1; have h2 := hlow'h.out; omega)
                have hbB := grown_blk hgrow2 hlA'h.out hbA'h.out (by decide)
                have hmB := grown_map hgrow2 hlA'h.out hmA'h.out (by decide)
                have hrB := ownsRow_other hrA'h.out hgrow2 (rows_apart hrA'h.out hlA'h.out (by decide))
                obtain ⟨lp2, lc2, rfl⟩ := row_slice' hown2
                have hml : (ms ++ [md]).length = ms.length + 1 := by simp
                have hmm : mms (ms.map mkM) ++ mms [mkM md] = mms ((ms ++ [md]).map mkM) := by unfold mms; rw [List.map_append, List.flatMap_append]; rfl
                rw [hmm, ← hml] at hown2
                rw [← hml] at hrB
                rw [← hrun'h.out] at hmB
                have hfin : OneW w mb (ms ++ [md]) lp2 lc2 rp2 rc2 s1 n1 c1 wB := ⟨hlow'h.out, hoB, hbB, hmB, hown2, hrB, hea2'h.out⟩
                rw [← hml]
                clear hgrow2 hwh2 hky'h hrA'h hlA'h hmA'h hbA'h hoA'h hzA'h hoB hbB hmB hrB hown2 hmm hrun'h
                have hfin'h := Lib.hid hfin
                have hml'h := Lib.hid hml
                clear hfin hml
                go_wp2
                go_roundg (gk - 1)
                case measure => have := hi'h.out; have := hlt'h.out; omega
                case rel => exact ⟨i + 1, ms ++ [md], step + wd + 1, lp2, lc2, rp2, rc2, s1, n1, c1, by have := hi'h.out; have := hlt'h.out; omega, by go_num, rfl, rfl, rfl, hI2'h.out, by rw [hml'h.out]; have := hmi'h.out; omega, by have := hi11'h.out; omega, by have := hs1'h.out; omega, by have := hs2'h.out; omega, hfin'h.out⟩
    · have i3 : ¬ (i : Int) < (xn : Int) := by omega
      have hf12 : ms.length ≤ 12 := by omega
      clear hs1 hs2 hi hlt hi12
      have hW2 := hW
      clear hW hmi
      have hI'h := Lib.hid hI
      have hW2'h := Lib.hid hW2
      have hf12'h := Lib.hid hf12
      clear hI hW2 hf12
      go_upto_region 22 with fail
      clear i3
      obtain ⟨WR, rfl⟩ : ∃ WR : World, WR = wr := ⟨_, rfl⟩
      have hM := hW2'h.out.mades (by have := hf12'h.out; omega)
      have hlc : ms.length ≤ lc := by obtain ⟨_, _, e, h1, -, -⟩ := row_form hW2'h.out.lrow; injection e with _ _ e; omega
      have hOs := Sl.of_row hW2'h.out.rrow (by have := hf12'h.out; unfold maxLen; omega)
      have BE := behindX_any lp ms.length lc (ms.map mkM) rp ms.length rc (intsZ (List.range ms.length)) WR (hT'h.out.next hW2'h.out.old) hM hlc (by rw [← ints_Z]; exact hOs) (by have := hf12'h.out; omega)
      rw [hI'h.out.behind (by have := hf12'h.out; omega)] at BE
      clear hM hOs
      have BE'h := Lib.hid BE
      have hlc'h := Lib.hid hlc
      clear BE hlc
      go_upto_region 23 with (first | (go_at_call 10; refine BE'h.out.mono ?_; rintro e w3 ⟨s4, n4, c4, rfl, hb3, hS4, -⟩; have hb3'h := Lib.hid hb3; have hS4'h := Lib.hid hS4; clear hb3 hS4))
      have hal := (Below.refl w3.heap.size w3).alloc (Nat.le_refl _) (.cells #[.slice s4 n4 c4] 28)
      have hW3 := hW2'h.out.next (below_next hb3'h.out hal)
      have hS5 := hS4'h.out.below hal
      have u0 := blk_cell (i := 0) (World.alloc_heap_new w3 (.cells #[.slice s4 n4 c4] 28)) rfl
      have m0 := blk_cell (i := 0) hW3.blk rfl
      have SA := msame_any s4 mp n4 mn c4 mc (runM ms) (runM ms) _ hS5 hW3.mrow.sl
      rw [decide_eq_true (rfl : runM ms = runM ms)] at SA
      clear hal hb3'h hS4'h BE'h hW2'h hS5
      generalize w3.alloc _ = W3 at hW3 u0 m0 SA ⊢
      generalize w3.heap.size = mb2 at u0 ⊢
      have hW3'h := Lib.hid hW3
      have SA'h := Lib.hid SA
      clear hW3 SA
      go_wp2_with fail
      refine SA'h.out.mono ?_
      rintro e w5 ⟨rfl, hb5⟩
      have hW5 := hW3'h.out.next hb5
      have FR := free_any lp ms.length lc (ms.map mkM) w5 (hT'h.out.next hW5.old) (hW5.mades (by have := hf12'h.out; omega)) hlc'h.out
      rw [hI'h.out.free] at FR
      clear hb5 u0 m0 SA'h hW3'h
      have hW5'h := Lib.hid hW5
      have FR'h := Lib.hid FR
      clear hW5 FR
      go_wp2_with fail
      refine FR'h.out.mono ?_
      rintro e w6 ⟨s6, c6, rfl, hb6, -⟩
      simp only [List.length_nil]
      have hW6 := hW5'h.out.next hb6
      clear hb6 FR'h hW5'h
      obtain ⟨k, hk⟩ : ∃ k, k = ms.length := ⟨_, rfl⟩
      rw [← hk] at hlc'h hf12'h ⊢
      have hkl : k ≤ 12 := hf12'h.out
      have hU6 := hW6.u
      have hrp : k = 0 ∨ ∃ rb, rp = some ⟨rb, 0, none⟩ := by
        rcases hW6.rrow.2 with ⟨-, h0⟩ | ⟨g, cap, cur, hv, -⟩
        · exact .inl (by rw [hk]; exact h0)
        · cases hv; exact .inr ⟨g, rfl⟩
      have hrb : ∀ rb, rp = some ⟨rb, 0, none⟩ → mb < rb := fun rb e => by
        rcases hW6.rrow.2 with ⟨hv, -⟩ | ⟨g, cap, cur, hv, hg, -⟩
        · rw [e] at hv; cases hv
        · rw [e] at hv; cases hv; omega
      have hC6 : ∀ rb, rp = some ⟨rb, 0, none⟩ → RowC rb (List.range k) w6 := fun rb e => by
        have := hW6.rrow
        rw [e] at this
        rw [hk]
        exact RowC.of_row this (by rw [List.length_range]; have := hkl; unfold maxLen; omega) (by rw [List.length_range])
      have hrc : k ≤ rc := by obtain ⟨_, _, e, h1, -, -⟩ := row_form hW6.rrow; injection e with _ _ e; omega
      clear hW6
      have hU6'h := Lib.hid hU6
      have hC6'h := Lib.hid hC6
      have hrp'h := Lib.hid hrp
      have hrb'h := Lib.hid hrb
      have hrc'h := Lib.hid hrc
      have hk'h := Lib.hid hk
      have hkl'h := Lib.hid hkl
      clear hU6 hC6 hrp hrb hrc hk hkl
      go_wp2
      go_loopg [18] k (fun q v18 wr => ∃ j : Nat, j + q = k + 1 ∧ v18 = .int .i64 (j : Int) ∧ 1 ≤ j ∧ OneU w mb ms lp lc mp mn mc wr ∧ ∀ rb, rp = some ⟨rb, 0, none⟩ → RowC rb (List.range k) wr)
      case atStart => exact ⟨1, by omega, rfl, Nat.le_refl _, hU6'h.out, hC6'h.out⟩
      case round =>
        obtain ⟨j, hj, rfl, hj1, hW, hCr⟩ := hrel
        by_cases hlt : j < k
        · have i3 : (j : Int) < (k : Int) := by omega
          obtain ⟨rb, rfl⟩ := hrp'h.out.resolve_left (by omega)
          have hC := hCr rb rfl
          have hmb := hrb'h.out rb rfl
          obtain ⟨t, ht⟩ : ∃ t, t = j - 1 := ⟨_, rfl⟩
          have htj : t + 1 = j := by omega
          obtain ⟨a1, a1f⟩ := hC.cell (i := j) (by rw [List.length_range]; exact hlt)
          obtain ⟨a0, a0f⟩ := hC.cell (i := t) (by rw [List.length_range]; omega)
          rw [nthD0_range hlt] at a1
          rw [nthD0_range (by omega)] at a0
          have i4 : (0 : Int) ≤ (j : Int) := by omega
          have i5 : (j : Int) - 1 = (t : Int) := by omega
          have i6 : (t : Int) < (k : Int) := by omega
          have i7 : (0 : Int) ≤ (t : Int) := by omega
          have i9 : IntKind.i64.wrap (t : Int) = (t : Int) := Go.IntWalk.i64_in _ (by have := hkl'h.out; omega)
          have i8 : (j : Int) + 1 ≤ 100 := by have := hkl'h.out; omega
          have hU := hW
          clear hCr hW
          have hj'h := Lib.hid hj
          have hlt'h := Lib.hid hlt
          have hj1'h := Lib.hid hj1
          have hU'h := Lib.hid hU
          have hC'h := Lib.hid hC
          have hmb'h := Lib.hid hmb
          have ht'h := Lib.hid ht
          have htj'h := Lib.hid htj
          clear hj hlt hj1 hU hC hmb ht htj
          obtain ⟨wo, rfl⟩ : ∃ wo : World, wo = wr := ⟨_, rfl⟩
          go_upto_region 28 with fail
          refine wp_region_heldT ⟨15, fun W => W.cell? ⟨rb, t, none⟩ = some (.int .i64 (t : Int)), 17, fun W => W.cell? ⟨rb, j, none⟩ = some (.int .i64 (j : Int)), fun _ => True⟩ (by kernel_rfl) ?_
          have hU0 := hU'h.out.next ((Below.refl wo.heap.size wo).drew)
          have hC0 := hC'h.out.below ((Below.refl wo.heap.size wo).drew)
          replace a0 : World.cell? (wo.drew) ⟨rb, t, none⟩ = some (.int .i64 (t : Int)) := a0
          replace a1 : World.cell? (wo.drew) ⟨rb, j, none⟩ = some (.int .i64 (j : Int)) := a1
          replace a0f : World.frozen? (wo.drew) ⟨rb, t, none⟩ = false := a0f
          replace a1f : World.frozen? (wo.drew) ⟨rb, j, none⟩ = false := a1f
          clear hU'h hC'h
          generalize World.drew wo = V0 at hU0 hC0 a0 a1 a0f a1f ⊢
          have hU1 := hU0.put hC0 hmb'h.out t (.int .i64 (j : Int))
          have hC1 := hC0.put (i := t) (by have := htj'h.out; have := hlt'h.out; simp [swp1_len]; omega) j
          have hU2 := hU1.put hC1 hmb'h.out j (.int .i64 (t : Int))
          have hC2 := hC1.put (i := j) (by have := htj'h.out; have := hlt'h.out; simp [swp1_len]; omega) t
          have htj2 : t ≠ j := by have := htj'h.out; omega
          clear hU0 hC0 hU1 hC1
          have hU2'h := Lib.hid hU2
          have hC2'h := Lib.hid hC2
          have htj2'h := Lib.hid htj2
          clear hU2 hC2 htj2
          refine wpAnyT_take (i := 0) (v := .slice (some ⟨rb, 0, none⟩) k rc) false false rfl (by kernel_rfl) (by kernel_rfl) (by kernel_rfl) (by kernel_rfl) (fun _ _ _ h => h) (Or.inl ⟨by kernel_rfl, fun w hSw => by clear hSw; go_simp⟩) ⟨fun _ => a0, fun _ => a1, trivial⟩ ?_; try simp only [Act.put, List.getElem_toArray, List.getElem_cons_succ, List.getElem_cons_zero, List.setIfInBounds_toArray, List.set_cons_zero, List.set_cons_succ]
          refine wpAnyT_take (i := 1) (v := .int .i64 (j : Int)) false false rfl (by kernel_rfl) (by kernel_rfl) (by kernel_rfl) (by kernel_rfl) (fun _ _ _ h => h) (Or.inl ⟨by kernel_rfl, fun w hSw => by clear hSw; go_simp⟩) ⟨fun _ => a0, fun _ => a1, trivial⟩ ?_; try simp only [Act.put, List.getElem_toArray, List.getElem_cons_succ, List.getElem_cons_zero, List.setIfInBounds_toArray, List.set_cons_zero, List.set_cons_succ]
          refine wpAnyT_take (i := 2) (v := .int .i64 (t : Int)) false false rfl (by kernel_rfl) (by kernel_rfl) (by kernel_rfl) (by kernel_rfl) (fun _ _ _ h => h) (Or.inl ⟨by kernel_rfl, fun w hSw => by clear hSw; go_simp⟩) ⟨fun _ => a0, fun _ => a1, trivial⟩ ?_; try simp only [Act.put, List.getElem_toArray, List.getElem_cons_succ, List.getElem_cons_zero, List.setIfInBounds_toArray, List.set_cons_zero, List.set_cons_succ]
          refine wpAnyT_take (i := 3) (v := .slice (some ⟨rb, 0, none⟩) k rc) false false rfl (by kernel_rfl) (by kernel_rfl) (by kernel_rfl) (by kernel_rfl) (fun _ _ _ h => h) (Or.inl ⟨by kernel_rfl, fun w hSw => by clear hSw; go_simp⟩) ⟨fun _ => a0, fun _ => a1, trivial⟩ ?_; try simp only [Act.put, List.getElem_toArray, List.getElem_cons_succ, List.getElem_cons_zero, List.setIfInBounds_toArray, List.set_cons_zero, List.set_cons_succ]
          refine wpAnyT_take (i := 4) (v := .int .i64 (j : Int)) false false rfl (by kernel_rfl) (by kernel_rfl) (by kernel_rfl) (by kernel_rfl) (fun _ _ _ h => h) (Or.inl ⟨by kernel_rfl, fun w hSw => by clear hSw; go_simp⟩) ⟨fun _ => a0, fun _ => a1, trivial⟩ ?_; try simp only [Act.put, List.getElem_toArray, List.getElem_cons_succ, List.getElem_cons_zero, List.setIfInBounds_toArray, List.set_cons_zero, List.set_cons_succ]
          refine wpAnyT_take (i := 5) (v := .slice (some ⟨rb, 0, none⟩) k rc) false false rfl (by kernel_rfl) (by kernel_rfl) (by kernel_rfl) (by kernel_rfl) (fun _ _ _ h => h) (Or.inl ⟨by kernel_rfl, fun w hSw => by clear hSw; go_simp⟩) ⟨fun _ => a0, fun _ => a1, trivial⟩ ?_; try simp only [Act.put, List.getElem_toArray, List.getElem_cons_succ, List.getElem_cons_zero, List.setIfInBounds_toArray, List.set_cons_zero, List.set_cons_succ]
          refine wpAnyT_take (i := 6) (v := .int .i64 (j : Int)) false false rfl (by kernel_rfl) (by kernel_rfl) (by kernel_rfl) (by kernel_rfl) (fun _ _ _ h => h) (Or.inl ⟨by kernel_rfl, fun w hSw => by clear hSw; go_simp⟩) ⟨fun _ => a0, fun _ => a1, trivial⟩ ?_; try simp only [Act.put, List.getElem_toArray, List.getElem_cons_succ, List.getElem_cons_zero, List.setIfInBounds_toArray, List.set_cons_zero, List.set_cons_succ]
          refine wpAnyT_take (i := 7) (v := .pointer (some ⟨rb, j, none⟩)) false false rfl (by kernel_rfl) (by kernel_rfl) (by kernel_rfl) (by kernel_rfl) (fun _ _ _ h => h) (Or.inl ⟨by kernel_rfl, fun w hSw => by clear hSw; go_simp⟩) ⟨fun _ => a0, fun _ => a1, trivial⟩ ?_; try simp only [Act.put, List.getElem_toArray, List.getElem_cons_succ, List.getElem_cons_zero, List.setIfInBounds_toArray, List.set_cons_zero, List.set_cons_succ]
          refine wpAnyT_take (i := 8) (v := .int .i64 (j : Int)) false true rfl (by kernel_rfl) (by kernel_rfl) (by kernel_rfl) (by kernel_rfl) (fun _ _ _ h => h) (Or.inl ⟨by kernel_rfl, fun w hSw => by have hcc := hSw.2.1 rfl; dsimp only at hcc; clear hSw; go_simp⟩) ⟨fun _ => a0, fun _ => a1, trivial⟩ ?_; try simp only [Act.put, List.getElem_toArray, List.getElem_cons_succ, List.getElem_cons_zero, List.setIfInBounds_toArray, List.set_cons_zero, List.set_cons_succ]
          refine wpAnyT_take (i := 9) (v := .slice (some ⟨rb, 0, none⟩) k rc) false false rfl (by kernel_rfl) (by kernel_rfl) (by kernel_rfl) (by kernel_rfl) (fun _ _ _ h => h) (Or.inl ⟨by kernel_rfl, fun w hSw => by clear hSw; go_simp⟩) ⟨fun _ => a0, fun _ => a1, trivial⟩ ?_; try simp only [Act.put, List.getElem_toArray, List.getElem_cons_succ, List.getElem_cons_zero, List.setIfInBounds_toArray, List.set_cons_zero, List.set_cons_succ]
          refine wpAnyT_take (i := 10) (v := .int .i64 (j : Int)) false false rfl (by kernel_rfl) (by kernel_rfl) (by kernel_rfl) (by kernel_rfl) (fun _ _ _ h => h) (Or.inl ⟨by kernel_rfl, fun w hSw => by clear hSw; go_simp⟩) ⟨fun _ => a0, fun _ => a1, trivial⟩ ?_; try simp only [Act.put, List.getElem_toArray, List.getElem_cons_succ, List.getElem_cons_zero, List.setIfInBounds_toArray, List.set_cons_zero, List.set_cons_succ]
          refine wpAnyT_take (i := 11) (v := .int .i64 (t : Int)) false false rfl (by kernel_rfl) (by kernel_rfl) (by kernel_rfl) (by kernel_rfl) (fun _ _ _ h => h) (Or.inl ⟨by kernel_rfl, fun w hSw => by clear hSw; go_simp⟩) ⟨fun _ => a0, fun _ => a1, trivial⟩ ?_; try simp only [Act.put, List.getElem_toArray, List.getElem_cons_succ, List.getElem_cons_zero, List.setIfInBounds_toArray, List.set_cons_zero, List.set_cons_succ]
          refine wpAnyT_take (i := 12) (v := .pointer (some ⟨rb, t, none⟩)) false false rfl (by kernel_rfl) (by kernel_rfl) (by kernel_rfl) (by kernel_rfl) (fun _ _ _ h => h) (Or.inl ⟨by kernel_rfl, fun w hSw => by clear hSw; go_simp⟩) ⟨fun _ => a0, fun _ => a1, trivial⟩ ?_; try simp only [Act.put, List.getElem_toArray, List.getElem_cons_succ, List.getElem_cons_zero, List.setIfInBounds_toArray, List.set_cons_zero, List.set_cons_succ]
          refine wpAnyT_take (i := 13) (v := .int .i64 (t : Int)) true false rfl (by kernel_rfl) (by kernel_rfl) (by kernel_rfl) (by kernel_rfl) (fun _ _ _ h => h) (Or.inl ⟨by kernel_rfl, fun w hSw => by have hcc := hSw.1 rfl; dsimp only at hcc; clear hSw; go_simp⟩) ⟨fun _ => a0, fun _ => a1, trivial⟩ ?_; try simp only [Act.put, List.getElem_toArray, List.getElem_cons_succ, List.getElem_cons_zero, List.setIfInBounds_toArray, List.set_cons_zero, List.set_cons_succ]
          refine wpAnyT_take (i := 14) (v := .pointer (some ⟨rb, t, none⟩)) false false rfl (by kernel_rfl) (by kernel_rfl) (by kernel_rfl) (by kernel_rfl) (fun _ _ _ h => h) (Or.inl ⟨by kernel_rfl, fun w hSw => by clear hSw; go_simp⟩) ⟨fun _ => a0, fun _ => a1, trivial⟩ ?_; try simp only [Act.put, List.getElem_toArray, List.getElem_cons_succ, List.getElem_cons_zero, List.setIfInBounds_toArray, List.set_cons_zero, List.set_cons_succ]
          refine wpAnyT_one (i := 15) (by kernel_rfl) rfl (fun K hK => ?_); go_simp
          replace a1 : (V0.setCell ⟨rb, t, none⟩ (.int .i64 (j : Int))).cell? ⟨rb, j, none⟩ = some (.int .i64 (j : Int)) := (World.cell?_setCell_other (w := V0) (a := ⟨rb, t, none⟩) (b := ⟨rb, j, none⟩) (v := .int .i64 (j : Int)) (fun e => by injection e with _ e2 _; exact htj2'h.out (by omega))).trans a1
          replace a1f : (V0.setCell ⟨rb, t, none⟩ (.int .i64 (j : Int))).frozen? ⟨rb, j, none⟩ = false := (World.frozen?_setCell _ _ _ _).trans a1f
          clear a0 a0f
          refine hK.out _ _ ⟨fun h => (by cases (show true = false from h)), fun _ => a1, trivial⟩ ?_; clear hK K; try simp only [Act.put, List.getElem_toArray, List.getElem_cons_succ, List.getElem_cons_zero, List.setIfInBounds_toArray, List.set_cons_zero, List.set_cons_succ]
          refine wpAnyT_take (i := 16) (v := .pointer (some ⟨rb, j, none⟩)) false false rfl (by kernel_rfl) (by kernel_rfl) (by kernel_rfl) (by kernel_rfl) (fun _ _ _ h => h) (Or.inl ⟨by kernel_rfl, fun w hSw => by clear hSw; go_simp⟩) ⟨fun h => (by cases (show true = false from h)), fun _ => a1, trivial⟩ ?_; try simp only [Act.put, List.getElem_toArray, List.getElem_cons_succ, List.getElem_cons_zero, List.setIfInBounds_toArray, List.set_cons_zero, List.set_cons_succ]
          refine wpAnyT_one (i := 17) (by kernel_rfl) rfl (fun K hK => ?_); go_simp
          clear a1 a1f
          refine hK.out _ _ ⟨fun h => (by cases (show true = false from h)), fun h => (by cases (show true = false from h)), trivial⟩ ?_; clear hK K; try simp only [Act.put, List.getElem_toArray, List.getElem_cons_succ, List.getElem_cons_zero, List.setIfInBounds_toArray, List.set_cons_zero, List.set_cons_succ]
          refine wpAnyT_done (by kernel_rfl) ?_ _
          clear htj2'h
          generalize World.setCell _ _ _ = V2 at hU2'h hC2'h ⊢
          have hsw : ((List.range k).set t j).set j t = swp1 k j := by unfold swp1; rw [ht'h.out]
          rw [hsw] at hC2'h
          have hSl := hC2'h.out.sl
          rw [swp1_len] at hSl
          have BR := bears_any lp k lc (ms.map mkM) (some ⟨rb, 0, none⟩) k rc (intsZ (swp1 k j)) V2 (hT'h.out.next hU2'h.out.old) (by rw [hk'h.out]; exact hU2'h.out.mades (by have := hkl'h.out; have := hk'h.out; omega)) hlc'h.out (by rw [← ints_Z]; exact hSl) (by have := hkl'h.out; omega)
          have hno : decide ((behindL (ms.map mkM) (intsZ (swp1 k j))).1 = 0) = false := decide_eq_false (by
            obtain ⟨A, B, e⟩ := swp1_split hlt'h.out hj1'h.out
            rw [e]
            exact hI'h.out.turned (i := j - 1) (by have := hlt'h.out; have := hk'h.out; have := hj1'h.out; omega))
          rw [hno] at BR
          clear hsw hSl hno
          have BR'h := Lib.hid BR
          clear BR
          go_wp2_with fail
          refine BR'h.out.mono ?_
          rintro e w3 ⟨rfl, hb3⟩
          have hU := hU2'h.out.next hb3
          have hC := hC2'h.out.below hb3
          obtain ⟨a1, a1f⟩ := hC.cell (i := j) (by rw [swp1_len]; exact hlt'h.out)
          obtain ⟨a0, a0f⟩ := hC.cell (i := t) (by rw [swp1_len]; have := htj'h.out; have := hlt'h.out; omega)
          rw [swp1_at hlt'h.out hj1'h.out, ← ht'h.out] at a1
          rw [ht'h.out, swp1_at' hlt'h.out hj1'h.out, ← ht'h.out] at a0
          clear hb3 BR'h hU2'h hC2'h
          have hU'h := Lib.hid hU
          have hC'h := Lib.hid hC
          clear hU hC
          go_upto_region 31 with fail
          refine wp_region_heldT ⟨15, fun W => W.cell? ⟨rb, t, none⟩ = some (.int .i64 (j : Int)), 17, fun W => W.cell? ⟨rb, j, none⟩ = some (.int .i64 (t : Int)), fun _ => True⟩ (by kernel_rfl) ?_
          have hU0 := hU'h.out.next ((Below.refl w3.heap.size w3).drew)
          have hC0 := hC'h.out.below ((Below.refl w3.heap.size w3).drew)
          replace a0 : World.cell? (w3.drew) ⟨rb, t, none⟩ = some (.int .i64 (j : Int)) := a0
          replace a1 : World.cell? (w3.drew) ⟨rb, j, none⟩ = some (.int .i64 (t : Int)) := a1
          replace a0f : World.frozen? (w3.drew) ⟨rb, t, none⟩ = false := a0f
          replace a1f : World.frozen? (w3.drew) ⟨rb, j, none⟩ = false := a1f
          clear hU'h hC'h
          generalize World.drew w3 = V0 at hU0 hC0 a0 a1 a0f a1f ⊢
          have hU1 := hU0.put hC0 hmb'h.out t (.int .i64 (t : Int))
          have hC1 := hC0.put (i := t) (by have := htj'h.out; have := hlt'h.out; simp [swp1_len]; omega) t
          have hU2 := hU1.put hC1 hmb'h.out j (.int .i64 (j : Int))
          have hC2 := hC1.put (i := j) (by have := htj'h.out; have := hlt'h.out; simp [swp1_len]; omega) j
          have htj2 : t ≠ j := by have := htj'h.out; omega
          clear hU0 hC0 hU1 hC1
          have hU2'h := Lib.hid hU2
          have hC2'h := Lib.hid hC2
          have htj2'h := Lib.hid htj2
          clear hU2 hC2 htj2
          refine wpAnyT_take (i := 0) (v := .slice (some ⟨rb, 0, none⟩) k rc) false false rfl (by kernel_rfl) (by kernel_rfl) (by kernel_rfl) (by kernel_rfl) (fun _ _ _ h => h) (Or.inl ⟨by kernel_rfl, fun w hSw => by clear hSw; go_simp⟩) ⟨fun _ => a0, fun _ => a1, trivial⟩ ?_; try simp only [Act.put, List.getElem_toArray, List.getElem_cons_succ, List.getElem_cons_zero, List.setIfInBounds_toArray, List.set_cons_zero, List.set_cons_succ]
          refine wpAnyT_take (i := 1) (v := .int .i64 (j : Int)) false false rfl (by kernel_rfl) (by kernel_rfl) (by kernel_rfl) (by kernel_rfl) (fun _ _ _ h => h) (Or.inl ⟨by kernel_rfl, fun w hSw => by clear hSw; go_simp⟩) ⟨fun _ => a0, fun _ => a1, trivial⟩ ?_; try simp only [Act.put, List.getElem_toArray, List.getElem_cons_succ, List.getElem_cons_zero, List.setIfInBounds_toArray, List.set_cons_zero, List.set_cons_succ]
          refine wpAnyT_take (i := 2) (v := .int .i64 (t : Int)) false false rfl (by kernel_rfl) (by kernel_rfl) (by kernel_rfl) (by kernel_rfl) (fun _ _ _ h => h) (Or.inl ⟨by kernel_rfl, fun w hSw => by clear hSw; go_simp⟩) ⟨fun _ => a0, fun _ => a1, trivial⟩ ?_; try simp only [Act.put, List.getElem_toArray, List.getElem_cons_succ, List.getElem_cons_zero, List.setIfInBounds_toArray, List.set_cons_zero, List.set_cons_succ]
          refine wpAnyT_take (i := 3) (v := .slice (some ⟨rb, 0, none⟩) k rc) false false rfl (by kernel_rfl) (by kernel_rfl) (by kernel_rfl) (by kernel_rfl) (fun _ _ _ h => h) (Or.inl ⟨by kernel_rfl, fun w hSw => by clear hSw; go_simp⟩) ⟨fun _ => a0, fun _ => a1, trivial⟩ ?_; try simp only [Act.put, List.getElem_toArray, List.getElem_cons_succ, List.getElem_cons_zero, List.setIfInBounds_toArray, List.set_cons_zero, List.set_cons_succ]
          refine wpAnyT_take (i := 4) (v := .int .i64 (j : Int)) false false rfl (by kernel_rfl) (by kernel_rfl) (by kernel_rfl) (by kernel_rfl) (fun _ _ _ h => h) (Or.inl ⟨by kernel_rfl, fun w hSw => by clear hSw; go_simp⟩) ⟨fun _ => a0, fun _ => a1, trivial⟩ ?_; try simp only [Act.put, List.getElem_toArray, List.getElem_cons_succ, List.getElem_cons_zero, List.setIfInBounds_toArray, List.set_cons_zero, List.set_cons_succ]
          refine wpAnyT_take (i := 5) (v := .slice (some ⟨rb, 0, none⟩) k rc) false false rfl (by kernel_rfl) (by kernel_rfl) (by kernel_rfl) (by kernel_rfl) (fun _ _ _ h => h) (Or.inl ⟨by kernel_rfl, fun w hSw => by clear hSw; go_simp⟩) ⟨fun _ => a0, fun _ => a1, trivial⟩ ?_; try simp only [Act.put, List.getElem_toArray, List.getElem_cons_succ, List.getElem_cons_zero, List.setIfInBounds_toArray, List.set_cons_zero, List.set_cons_succ]
          refine wpAnyT_take (i := 6) (v := .int .i64 (j : Int)) false false rfl (by kernel_rfl) (by kernel_rfl) (by kernel_rfl) (by kernel_rfl) (fun _ _ _ h => h) (Or.inl ⟨by kernel_rfl, fun w hSw => by clear hSw; go_simp⟩) ⟨fun _ => a0, fun _ => a1, trivial⟩ ?_; try simp only [Act.put, List.getElem_toArray, List.getElem_cons_succ, List.getElem_cons_zero, List.setIfInBounds_toArray, List.set_cons_zero, List.set_cons_succ]
          refine wpAnyT_take (i := 7) (v := .pointer (some ⟨rb, j, none⟩)) false false rfl (by kernel_rfl) (by kernel_rfl) (by kernel_rfl) (by kernel_rfl) (fun _ _ _ h => h) (Or.inl ⟨by kernel_rfl, fun w hSw => by clear hSw; go_simp⟩) ⟨fun _ => a0, fun _ => a1, trivial⟩ ?_; try simp only [Act.put, List.getElem_toArray, List.getElem_cons_succ, List.getElem_cons_zero, List.setIfInBounds_toArray, List.set_cons_zero, List.set_cons_succ]
          refine wpAnyT_take (i := 8) (v := .int .i64 (t : Int)) false true rfl (by kernel_rfl) (by kernel_rfl) (by kernel_rfl) (by kernel_rfl) (fun _ _ _ h => h) (Or.inl ⟨by kernel_rfl, fun w hSw => by have hcc := hSw.2.1 rfl; dsimp only at hcc; clear hSw; go_simp⟩) ⟨fun _ => a0, fun _ => a1, trivial⟩ ?_; try simp only [Act.put, List.getElem_toArray, List.getElem_cons_succ, List.getElem_cons_zero, List.setIfInBounds_toArray, List.set_cons_zero, List.set_cons_succ]
          refine wpAnyT_take (i := 9) (v := .slice (some ⟨rb, 0, none⟩) k rc) false false rfl (by kernel_rfl) (by kernel_rfl) (by kernel_rfl) (by kernel_rfl) (fun _ _ _ h => h) (Or.inl ⟨by kernel_rfl, fun w hSw => by clear hSw; go_simp⟩) ⟨fun _ => a0, fun _ => a1, trivial⟩ ?_; try simp only [Act.put, List.getElem_toArray, List.getElem_cons_succ, List.getElem_cons_zero, List.setIfInBounds_toArray, List.set_cons_zero, List.set_cons_succ]
          refine wpAnyT_take (i := 10) (v := .int .i64 (j : Int)) false false rfl (by kernel_rfl) (by kernel_rfl) (by kernel_rfl) (by kernel_rfl) (fun _ _ _ h => h) (Or.inl ⟨by kernel_rfl, fun w hSw => by clear hSw; go_simp⟩) ⟨fun _ => a0, fun _ => a1, trivial⟩ ?_; try simp only [Act.put, List.getElem_toArray, List.getElem_cons_succ, List.getElem_cons_zero, List.setIfInBounds_toArray, List.set_cons_zero, List.set_cons_succ]
          refine wpAnyT_take (i := 11) (v := .int .i64 (t : Int)) false false rfl (by kernel_rfl) (by kernel_rfl) (by kernel_rfl) (by kernel_rfl) (fun _ _ _ h => h) (Or.inl ⟨by kernel_rfl, fun w hSw => by clear hSw; go_simp⟩) ⟨fun _ => a0, fun _ => a1, trivial⟩ ?_; try simp only [Act.put, List.getElem_toArray, List.getElem_cons_succ, List.getElem_cons_zero, List.setIfInBounds_toArray, List.set_cons_zero, List.set_cons_succ]
          refine wpAnyT_take (i := 12) (v := .pointer (some ⟨rb, t, none⟩)) false false rfl (by kernel_rfl) (by kernel_rfl) (by kernel_rfl) (by kernel_rfl) (fun _ _ _ h => h) (Or.inl ⟨by kernel_rfl, fun w hSw => by clear hSw; go_simp⟩) ⟨fun _ => a0, fun _ => a1, trivial⟩ ?_; try simp only [Act.put, List.getElem_toArray, List.getElem_cons_succ, List.getElem_cons_zero, List.setIfInBounds_toArray, List.set_cons_zero, List.set_cons_succ]
          refine wpAnyT_take (i := 13) (v := .int .i64 (j : Int)) true false rfl (by kernel_rfl) (by kernel_rfl) (by kernel_rfl) (by kernel_rfl) (fun _ _ _ h => h) (Or.inl ⟨by kernel_rfl, fun w hSw => by have hcc := hSw.1 rfl; dsimp only at hcc; clear hSw; go_simp⟩) ⟨fun _ => a0, fun _ => a1, trivial⟩ ?_; try simp only [Act.put, List.getElem_toArray, List.getElem_cons_succ, List.getElem_cons_zero, List.setIfInBounds_toArray, List.set_cons_zero, List.set_cons_succ]
          refine wpAnyT_take (i := 14) (v := .pointer (some ⟨rb, t, none⟩)) false false rfl (by kernel_rfl) (by kernel_rfl) (by kernel_rfl) (by kernel_rfl) (fun _ _ _ h => h) (Or.inl ⟨by kernel_rfl, fun w hSw => by clear hSw; go_simp⟩) ⟨fun _ => a0, fun _ => a1, trivial⟩ ?_; try simp only [Act.put, List.getElem_toArray, List.getElem_cons_succ, List.getElem_cons_zero, List.setIfInBounds_toArray, List.set_cons_zero, List.set_cons_succ]
          refine wpAnyT_one (i := 15) (by kernel_rfl) rfl (fun K hK => ?_); go_simp
          replace a1 : (V0.setCell ⟨rb, t, none⟩ (.int .i64 (t : Int))).cell? ⟨rb, j, none⟩ = some (.int .i64 (t : Int)) := (World.cell?_setCell_other (w := V0) (a := ⟨rb, t, none⟩) (b := ⟨rb, j, none⟩) (v := .int .i64 (t : Int)) (fun e => by injection e with _ e2 _; exact htj2'h.out (by omega))).trans a1
          replace a1f : (V0.setCell ⟨rb, t, none⟩ (.int .i64 (t : Int))).frozen? ⟨rb, j, none⟩ = false := (World.frozen?_setCell _ _ _ _).trans a1f
          clear a0 a0f
          refine hK.out _ _ ⟨fun h => (by cases (show true = false from h)), fun _ => a1, trivial⟩ ?_; clear hK K; try simp only [Act.put, List.getElem_toArray, List.getElem_cons_succ, List.getElem_cons_zero, List.setIfInBounds_toArray, List.set_cons_zero, List.set_cons_succ]
          refine wpAnyT_take (i := 16) (v := .pointer (some ⟨rb, j, none⟩)) false false rfl (by kernel_rfl) (by kernel_rfl) (by kernel_rfl) (by kernel_rfl) (fun _ _ _ h => h) (Or.inl ⟨by kernel_rfl, fun w hSw => by clear hSw; go_simp⟩) ⟨fun h => (by cases (show true = false from h)), fun _ => a1, trivial⟩ ?_; try simp only [Act.put, List.getElem_toArray, List.getElem_cons_succ, List.getElem_cons_zero, List.setIfInBounds_toArray, List.set_cons_zero, List.set_cons_succ]
          refine wpAnyT_one (i := 17) (by kernel_rfl) rfl (fun K hK => ?_); go_simp
          clear a1 a1f
          refine hK.out _ _ ⟨fun h => (by cases (show true = false from h)), fun h => (by cases (show true = false from h)), trivial⟩ ?_; clear hK K; try simp only [Act.put, List.getElem_toArray, List.getElem_cons_succ, List.getElem_cons_zero, List.setIfInBounds_toArray, List.set_cons_zero, List.set_cons_succ]
          refine wpAnyT_done (by kernel_rfl) ?_ _
          clear htj2'h
          generalize World.setCell _ _ _ = V2 at hU2'h hC2'h ⊢
          have hsw : ((swp1 k j).set t t).set j j = List.range k := by rw [ht'h.out]; exact swp1_back hlt'h.out hj1'h.out
          rw [hsw] at hC2'h
          clear hsw
          go_wp2
          go_roundg (gk - 1)
          case measure => have := hj'h.out; have := hlt'h.out; omega
          case rel => exact ⟨j + 1, by have := hj'h.out; have := hlt'h.out; omega, by go_num, by omega, hU2'h.out, fun rb' e => by injection e with e; injection e with e _ _; subst e; exact hC2'h.out⟩
        · have i3 : ¬ (j : Int) < (k : Int) := by omega
          have SE := search_any lp k lc (ms.map mkM) wr (hT'h.out.next hW.old) (by rw [hk'h.out]; exact hW.mades (by have := hkl'h.out; have := hk'h.out; omega)) hlc'h.out
          have hold := hW.old
          have hf80 : ms.length ≤ 80 := by have := hkl'h.out; have := hk'h.out; omega
          clear hW hj hlt hj1 hCr
          have SE'h := Lib.hid SE
          have hold'h := Lib.hid hold
          have hf80'h := Lib.hid hf80
          clear SE hold hf80
          go_wp2_with fail
          refine SE'h.out.mono ?_
          rintro e w7 ⟨hb7, ⟨hc, _⟩ | ⟨_, h7, rfl⟩ | ⟨_, h7, ⟨hn, _⟩ | ⟨r, sr, cr, hr, rfl, -, -, -⟩⟩⟩
          · rw [hI'h.out.check hf80'h.out] at hc
            cases hc
          · rw [hI'h.out.many, ← hk'h.out] at h7
            have hold2 := below_next hold'h.out hb7
            have q7 : (k : Int) > 7 := by omega
            clear hb7 h7
            have hold2'h := Lib.hid hold2
            clear hold2
            go_wp2
            go_ret
            exact ⟨rfl, hold2'h.out⟩
          · obtain ⟨r, hr, -⟩ := hI'h.out.seek hf80'h.out
            rw [hr] at hn
            cases hn
          · obtain ⟨r2, hr2, hl2⟩ := hI'h.out.seek hf80'h.out
            rw [hr] at hr2
            obtain rfl : r = r2 := by injection hr2
            rw [hI'h.out.many, ← hk'h.out] at h7
            rw [← hk'h.out] at hl2
            rw [hl2]
            have hold2 := below_next hold'h.out hb7
            have q7 : ¬ (k : Int) > 7 := by omega
            have q8 : ((k : Int) == (k : Int)) = true := by simp
            clear hb7 h7 hl2 hr hr2
            have hold2'h := Lib.hid hold2
            clear hold2
            go_wp2
            go_ret
            exact ⟨rfl, hold2'h.out⟩
end Go.Proofs.YtogeohjeabbmaaaDoor
