/-
  Layer 27 (order): the statements' calls in memory of their own.
-/
import Derived.Test.YtogeohjeabbmaaaDoorOrdV
set_option linter.unusedSimpArgs false
set_option linter.unusedVariables false
set_option maxRecDepth 100000
namespace Go.Proofs.YtogeohjeabbmaaaDoor
open Go.RowKit

/-! ### slices.Clone at []api.Made: 13 cells an element -/
theorem info_cloneM : (Tryd.prog.info? 39).map (fun i => (i.zero, i.size, i.bytes)) = some (some (.agg #[.int .i64 0, .int .i64 0, .int .u64 0, .int .u64 0, .int .u64 0, .int .i64 0, .int .u64 0, .bool false, .slice none 0 0, .int .i64 0, .int .i64 0, .int .i64 0, .slice none 0 0]), 13, 136) := by kernel_rfl
theorem cloneM_nil (w : World) : Calls Tryd.prog 35 #[.slice none 0 0] w fun e w' => e = .returned (.slice none 0 0) ∧ w' = w := by
  have hnil := Lib.run_eql_slice_nil (P := Tryd.prog)
  go_enter Tryd.func35, Tryd.ntmps35
  go_wp2
  go_ret
  exact ⟨rfl, rfl⟩
theorem cloneM_some (ad : Addr) (n cap : Nat) (vs : List Value) (w : World) (hn : n ≤ 4096) (hone : ∀ v ∈ vs, v.oneCell' = true) (h : SlK w 13 (some ad) n vs) :
    Calls Tryd.prog 35 #[.slice (some ad) n cap] w fun e w' => ∃ sp' cap', e = .returned (.slice sp' n cap') ∧ Below w.heap.size w w' ∧ w'.ownsRow w.heap.size 39 13 (.slice sp' n cap') n vs := by
  have hnil := Lib.run_eql_slice_nil (P := Tryd.prog)
  obtain ⟨i0, hi, hz0, hz1, hz2⟩ := info_parts info_cloneM
  have hown0 : (w.alloc (.cells #[] 39)).ownsRow w.heap.size 39 13 (.slice (some ⟨w.heap.size, 0, none⟩) 0 0) 0 [] :=
    ⟨by simp, .inr ⟨w.heap.size, 0, #[], rfl, Nat.le_refl _, World.alloc_heap_new _ _, Nat.le_refl _, Nat.zero_le _, by simp, by simp⟩⟩
  have hS2 : SlK (w.alloc (.cells #[] 39)) 13 (some ad) n vs := h.below ((Below.refl _ w).alloc (Nat.le_refl _) _)
  have hS2'h := Lib.hid hS2
  have hone'h := Lib.hid hone
  clear hS2 hone
  clear h
  go_enter Tryd.func35, Tryd.ntmps35
  go_wp2_with (at_builtin; refine wpList_append_slk _ rfl (.tmp 5) (.tmp 6) 25 rfl w.heap.size 39 i0 (.agg #[.int .i64 0, .int .i64 0, .int .u64 0, .int .u64 0, .int .u64 0, .int .i64 0, .int .u64 0, .bool false, .slice none 0 0, .int .i64 0, .int .i64 0, .int .i64 0, .slice none 0 0]) 13 136 Tryd.underlying25 hi hz0 hz1 hz2 rfl (by decide) _ 0 [] rfl hown0 (some ad) n cap vs rfl hS2'h.out hone'h.out (by unfold maxLen; omega) (by omega) (by simp) ?_; intro v' w1 hown' hgrow hwh)
  rw [Nat.zero_add, List.nil_append] at hown'
  obtain ⟨sp', cap', rfl⟩ := row_slice' hown'
  have hown''h := Lib.hid hown'
  have hwh'h := Lib.hid hwh
  clear hown' hwh
  go_wp2
  go_ret
  exact ⟨sp', cap', rfl, ((Below.refl _ w).alloc (Nat.le_refl _) _).grown hgrow (by simp) (fun j hj => by cases hj; exact Nat.le_refl _), hown''h.out⟩
theorem cloneM_any (sp : Option Addr) (n cap : Nat) (vs : List Value) (w : World) (hn : n ≤ 4096) (hone : ∀ v ∈ vs, v.oneCell' = true) (hc : sp = none → cap = 0) (h : SlK w 13 sp n vs) :
    Calls Tryd.prog 35 #[.slice sp n cap] w fun e w' => ∃ sp' cap', e = .returned (.slice sp' n cap') ∧ Below w.heap.size w w' ∧ w'.ownsRow w.heap.size 39 13 (.slice sp' n cap') n vs := by
  cases sp with
  | some ad => exact cloneM_some ad n cap vs w hn hone h
  | none =>
    obtain rfl : cap = 0 := hc rfl
    have h0 : n = 0 := by
      rcases h.2.2 with h0 | ⟨b, off, he, _⟩
      · exact h0
      · cases he
    subst h0
    have hl : vs = [] := List.eq_nil_of_length_eq_zero (by have := h.1; simpa using this)
    refine (cloneM_nil w).mono ?_
    rintro e w' ⟨rfl, rfl⟩
    exact ⟨none, 0, rfl, Below.refl _ _, by rw [hl]; exact World.ownsRow_nil _ _ _ _⟩
/-! ### slices.Clone at []api.Pair: 2 cells an element -/
theorem info_clonePr : (Tryd.prog.info? 72).map (fun i => (i.zero, i.size, i.bytes)) = some (some (.agg #[.int .u64 0, .int .u64 0]), 2, 16) := by kernel_rfl
theorem clonePr_nil (w : World) : Calls Tryd.prog 36 #[.slice none 0 0] w fun e w' => e = .returned (.slice none 0 0) ∧ w' = w := by
  have hnil := Lib.run_eql_slice_nil (P := Tryd.prog)
  go_enter Tryd.func36, Tryd.ntmps36
  go_wp2
  go_ret
  exact ⟨rfl, rfl⟩
theorem clonePr_some (ad : Addr) (n cap : Nat) (vs : List Value) (w : World) (hn : n ≤ 4096) (hone : ∀ v ∈ vs, v.oneCell' = true) (h : SlK w 2 (some ad) n vs) :
    Calls Tryd.prog 36 #[.slice (some ad) n cap] w fun e w' => ∃ sp' cap', e = .returned (.slice sp' n cap') ∧ Below w.heap.size w w' ∧ w'.ownsRow w.heap.size 72 2 (.slice sp' n cap') n vs := by
  have hnil := Lib.run_eql_slice_nil (P := Tryd.prog)
  obtain ⟨i0, hi, hz0, hz1, hz2⟩ := info_parts info_clonePr
  have hown0 : (w.alloc (.cells #[] 72)).ownsRow w.heap.size 72 2 (.slice (some ⟨w.heap.size, 0, none⟩) 0 0) 0 [] :=
    ⟨by simp, .inr ⟨w.heap.size, 0, #[], rfl, Nat.le_refl _, World.alloc_heap_new _ _, Nat.le_refl _, Nat.zero_le _, by simp, by simp⟩⟩
  have hS2 : SlK (w.alloc (.cells #[] 72)) 2 (some ad) n vs := h.below ((Below.refl _ w).alloc (Nat.le_refl _) _)
  have hS2'h := Lib.hid hS2
  have hone'h := Lib.hid hone
  clear hS2 hone
  clear h
  go_enter Tryd.func36, Tryd.ntmps36
  go_wp2_with (at_builtin; refine wpList_append_slk _ rfl (.tmp 5) (.tmp 6) 26 rfl w.heap.size 72 i0 (.agg #[.int .u64 0, .int .u64 0]) 2 16 Tryd.underlying26 hi hz0 hz1 hz2 rfl (by decide) _ 0 [] rfl hown0 (some ad) n cap vs rfl hS2'h.out hone'h.out (by unfold maxLen; omega) (by omega) (by simp) ?_; intro v' w1 hown' hgrow hwh)
  rw [Nat.zero_add, List.nil_append] at hown'
  obtain ⟨sp', cap', rfl⟩ := row_slice' hown'
  have hown''h := Lib.hid hown'
  have hwh'h := Lib.hid hwh
  clear hown' hwh
  go_wp2
  go_ret
  exact ⟨sp', cap', rfl, ((Below.refl _ w).alloc (Nat.le_refl _) _).grown hgrow (by simp) (fun j hj => by cases hj; exact Nat.le_refl _), hown''h.out⟩
theorem clonePr_any (sp : Option Addr) (n cap : Nat) (vs : List Value) (w : World) (hn : n ≤ 4096) (hone : ∀ v ∈ vs, v.oneCell' = true) (hc : sp = none → cap = 0) (h : SlK w 2 sp n vs) :
    Calls Tryd.prog 36 #[.slice sp n cap] w fun e w' => ∃ sp' cap', e = .returned (.slice sp' n cap') ∧ Below w.heap.size w w' ∧ w'.ownsRow w.heap.size 72 2 (.slice sp' n cap') n vs := by
  cases sp with
  | some ad => exact clonePr_some ad n cap vs w hn hone h
  | none =>
    obtain rfl : cap = 0 := hc rfl
    have h0 : n = 0 := by
      rcases h.2.2 with h0 | ⟨b, off, he, _⟩
      · exact h0
      · cases he
    subst h0
    have hl : vs = [] := List.eq_nil_of_length_eq_zero (by have := h.1; simpa using this)
    refine (clonePr_nil w).mono ?_
    rintro e w' ⟨rfl, rfl⟩
    exact ⟨none, 0, rfl, Below.refl _ _, by rw [hl]; exact World.ownsRow_nil _ _ _ _⟩
/-! ### slices.Clone at []int: 1 cells an element -/
theorem info_cloneZ : (Tryd.prog.info? 3).map (fun i => (i.zero, i.size, i.bytes)) = some (some (.int .i64 0), 1, 8) := by kernel_rfl
theorem cloneZ_nil (w : World) : Calls Tryd.prog 37 #[.slice none 0 0] w fun e w' => e = .returned (.slice none 0 0) ∧ w' = w := by
  have hnil := Lib.run_eql_slice_nil (P := Tryd.prog)
  go_enter Tryd.func37, Tryd.ntmps37
  go_wp2
  go_ret
  exact ⟨rfl, rfl⟩
theorem cloneZ_some (ad : Addr) (n cap : Nat) (vs : List Value) (w : World) (hn : n ≤ 4096) (hone : ∀ v ∈ vs, v.oneCell' = true) (h : SlK w 1 (some ad) n vs) :
    Calls Tryd.prog 37 #[.slice (some ad) n cap] w fun e w' => ∃ sp' cap', e = .returned (.slice sp' n cap') ∧ Below w.heap.size w w' ∧ w'.ownsRow w.heap.size 3 1 (.slice sp' n cap') n vs := by
  have hnil := Lib.run_eql_slice_nil (P := Tryd.prog)
  obtain ⟨i0, hi, hz0, hz1, hz2⟩ := info_parts info_cloneZ
  have hown0 : (w.alloc (.cells #[] 3)).ownsRow w.heap.size 3 1 (.slice (some ⟨w.heap.size, 0, none⟩) 0 0) 0 [] :=
    ⟨by simp, .inr ⟨w.heap.size, 0, #[], rfl, Nat.le_refl _, World.alloc_heap_new _ _, Nat.le_refl _, Nat.zero_le _, by simp, by simp⟩⟩
  have hS2 : SlK (w.alloc (.cells #[] 3)) 1 (some ad) n vs := h.below ((Below.refl _ w).alloc (Nat.le_refl _) _)
  have hS2'h := Lib.hid hS2
  have hone'h := Lib.hid hone
  clear hS2 hone
  clear h
  go_enter Tryd.func37, Tryd.ntmps37
  go_wp2_with (at_builtin; refine wpList_append_slk _ rfl (.tmp 5) (.tmp 6) 23 rfl w.heap.size 3 i0 (.int .i64 0) 1 8 Tryd.underlying23 hi hz0 hz1 hz2 rfl (by decide) _ 0 [] rfl hown0 (some ad) n cap vs rfl hS2'h.out hone'h.out (by unfold maxLen; omega) (by omega) (by simp) ?_; intro v' w1 hown' hgrow hwh)
  rw [Nat.zero_add, List.nil_append] at hown'
  obtain ⟨sp', cap', rfl⟩ := row_slice' hown'
  have hown''h := Lib.hid hown'
  have hwh'h := Lib.hid hwh
  clear hown' hwh
  go_wp2
  go_ret
  exact ⟨sp', cap', rfl, ((Below.refl _ w).alloc (Nat.le_refl _) _).grown hgrow (by simp) (fun j hj => by cases hj; exact Nat.le_refl _), hown''h.out⟩
theorem cloneZ_any (sp : Option Addr) (n cap : Nat) (vs : List Value) (w : World) (hn : n ≤ 4096) (hone : ∀ v ∈ vs, v.oneCell' = true) (hc : sp = none → cap = 0) (h : SlK w 1 sp n vs) :
    Calls Tryd.prog 37 #[.slice sp n cap] w fun e w' => ∃ sp' cap', e = .returned (.slice sp' n cap') ∧ Below w.heap.size w w' ∧ w'.ownsRow w.heap.size 3 1 (.slice sp' n cap') n vs := by
  cases sp with
  | some ad => exact cloneZ_some ad n cap vs w hn hone h
  | none =>
    obtain rfl : cap = 0 := hc rfl
    have h0 : n = 0 := by
      rcases h.2.2 with h0 | ⟨b, off, he, _⟩
      · exact h0
      · cases he
    subst h0
    have hl : vs = [] := List.eq_nil_of_length_eq_zero (by have := h.1; simpa using this)
    refine (cloneZ_nil w).mono ?_
    rintro e w' ⟨rfl, rfl⟩
    exact ⟨none, 0, rfl, Below.refl _ _, by rw [hl]; exact World.ownsRow_nil _ _ _ _⟩
def cutMd (m : Md) : Md := ⟨m.goer, m.call, m.ans, m.prs.take 4, m.began, m.at', m.over, m.told.take 4⟩
def putMm (m : Mm) (s : Option Addr) (n c : Nat) (s' : Option Addr) (n' c' : Nat) : Mm := ⟨cutMd m.md, s, n, c, s', n', c'⟩
theorem mms_set {l : List Mm} {j i : Nat} {v : Value} {m' : Mm} (hj : j < l.length) (hi : i < 13) (h : mmL m' = (mmL (nthM l j)).set i v) : (mms l).set (j * 13 + i) v = mms (l.set j m') := by
  induction l generalizing j with
  | nil => simp at hj
  | cons a r ih =>
    unfold mms
    rw [List.flatMap_cons]
    cases j with
    | zero =>
      rw [Nat.zero_mul, Nat.zero_add, List.set_append_left _ _ (by rw [mmL_len]; exact hi), List.set_cons_zero, List.flatMap_cons]
      congr 1
      exact h.symm
    | succ j =>
      rw [List.set_append_right _ _ (by rw [mmL_len]; omega), mmL_len, List.set_cons_succ, List.flatMap_cons]
      congr 1
      have := ih (j := j) (by simpa using hj) (by simpa [nthM] using h)
      unfold mms at this
      rw [show (j + 1) * 13 + i - 13 = j * 13 + i by omega]
      exact this
theorem nthM_set {l : List Mm} {j i : Nat} {m : Mm} (hj : j < l.length) : nthM (l.set j m) i = if i = j then m else nthM l i := by
  unfold nthM
  rw [List.getD_eq_getElem?_getD, List.getD_eq_getElem?_getD, List.getElem?_set]
  by_cases e : j = i
  · subst e; simp [hj]
  · have e' : ¬ i = j := fun h => e h.symm
    simp [e, e']
theorem cut_ok {m : Md} (h : MdOk m) : MdOk (cutMd m) := ⟨h.goer, h.call, h.err, h.val, h.began, h.at', h.over, fun x hx => h.told x (List.mem_of_mem_take hx), fun p hp => h.prs p (List.mem_of_mem_take hp)⟩
/-- What the loop holds: the first j calls are in memory of their own. -/
structure OwnW (w : World) (rb : Nat) (xs : List Mm) (j : Nat) (ls : List Mm) (wr : World) : Prop where
  below : Below w.heap.size w wr
  low : w.heap.size ≤ rb
  row : ∃ pad : List Value, wr.heap[rb]? = some (.cells (mms ls ++ pad).toArray 39 (0, 0))
  len : ls.length = xs.length
  done : ∀ i, i < j → (nthM ls i).md = cutMd (nthM xs i).md ∧ MmIn wr (nthM ls i) ∧ (∀ b, (nthM ls i).pp.map (·.block) = some b → b ≠ rb) ∧ (∀ b, (nthM ls i).tp.map (·.block) = some b → b ≠ rb)
  rest : ∀ i, j ≤ i → i < xs.length → nthM ls i = nthM xs i
theorem OwnW.cell {w : World} {rb : Nat} {xs : List Mm} {j : Nat} {ls : List Mm} {wr : World} (h : OwnW w rb xs j ls wr) {k i : Nat} {v : Value} (hk : k < ls.length) (hi : i < 13) (hv : (mmL (nthM ls k))[i]? = some v) : wr.cell? ⟨rb, k * 13 + i, none⟩ = some v ∧ wr.frozen? ⟨rb, k * 13 + i, none⟩ = false := by
  obtain ⟨pad, hr⟩ := h.row
  refine ⟨blk_cell hr ?_, blk_free _ hr⟩
  rw [List.getElem?_toArray, List.getElem?_append_left (by have := flat_len mmL_len ls; unfold mms; omega)]
  rw [← hv]
  exact flat_at mmL_len (nthM_at hk) hi
theorem MmIn.off {w : World} {rb i : Nat} {v : Value} {m : Mm} (h : MmIn w m) (h1 : ∀ b, m.pp.map (·.block) = some b → b ≠ rb) (h2 : ∀ b, m.tp.map (·.block) = some b → b ≠ rb) : MmIn (w.setCell ⟨rb, i, none⟩ v) m :=
  ⟨SlK.off h.prs h1 i v, (SlK.off (SlK.of_sl h.told) h2 i v).sl, h.pnil, h.ple, h.tnil, h.tle, h.ok⟩
/-- The row of the call itself. -/
theorem OwnW.next {w : World} {rb : Nat} {xs : List Mm} {j : Nat} {ls : List Mm} {wr V : World} (h : OwnW w rb xs j ls wr) (hj : j < xs.length) (hV : Below wr.heap.size wr V) {s s' : Option Addr} {n c n' c' : Nat}
    (h1 : SlK V 2 s n (prs ((nthM xs j).md.prs.take 4))) (h2 : Sl V s' n' (((nthM xs j).md.told.take 4).map (Value.int .i64))) (hok : MdOk (nthM xs j).md) (a1 : s = none → c = 0) (a2 : n ≤ c) (a3 : s' = none → c' = 0) (a4 : n' ≤ c')
    (f1 : ∀ b, s.map (·.block) = some b → wr.heap.size ≤ b) (f2 : ∀ b, s'.map (·.block) = some b → wr.heap.size ≤ b) :
    OwnW w rb xs (j + 1) (ls.set j (putMm (nthM xs j) s n c s' n' c')) ((V.setCell ⟨rb, j * 13 + 8, none⟩ (.slice s n c)).setCell ⟨rb, j * 13 + 12, none⟩ (.slice s' n' c')) := by
  obtain ⟨pad, hr⟩ := h.row
  have hlt := lt_of_heap hr
  have hjl : j < ls.length := by rw [h.len]; exact hj
  have hx := h.rest j (Nat.le_refl _) hj
  have g1 : ∀ b, s.map (·.block) = some b → b ≠ rb := fun b e => by have := f1 b e; omega
  have g2 : ∀ b, s'.map (·.block) = some b → b ≠ rb := fun b e => by have := f2 b e; omega
  have hnew : MmIn ((V.setCell ⟨rb, j * 13 + 8, none⟩ (.slice s n c)).setCell ⟨rb, j * 13 + 12, none⟩ (.slice s' n' c')) (putMm (nthM xs j) s n c s' n' c') :=
    MmIn.off (MmIn.off (m := putMm (nthM xs j) s n c s' n' c') ⟨h1, h2, a1, a2, a3, a4, cut_ok hok⟩ g1 g2) g1 g2
  refine ⟨((below_next h.below hV |> fun hb => (h.below.trans (hV.mono h.below.size))).setCell (p := ⟨rb, j * 13 + 8, none⟩) h.low _).setCell (p := ⟨rb, j * 13 + 12, none⟩) h.low _, h.low, ⟨pad, ?_⟩, by rw [List.length_set]; exact h.len, fun i hi => ?_, fun i hi hil => ?_⟩
  · have b1 := blk_set (i := j * 13 + 8) (.slice s n c) (heap_below hV hr hlt)
    have b2 := blk_set (i := j * 13 + 12) (.slice s' n' c') b1
    rw [List.setIfInBounds_toArray, List.setIfInBounds_toArray] at b2
    have hml := flat_len mmL_len ls
    have e1 : (mms ls ++ pad).set (j * 13 + 8) (.slice s n c) = mms (ls.set j ⟨⟨(nthM xs j).md.goer, (nthM xs j).md.call, (nthM xs j).md.ans, (nthM xs j).md.prs, (nthM xs j).md.began, (nthM xs j).md.at', (nthM xs j).md.over, (nthM xs j).md.told⟩, s, n, c, (nthM xs j).tp, (nthM xs j).tn, (nthM xs j).tc⟩) ++ pad := by
      rw [List.set_append_left _ _ (by unfold mms; omega), mms_set hjl (by omega)]
      rw [hx]; rfl
    rw [e1] at b2
    have hml2 := flat_len mmL_len (ls.set j ⟨⟨(nthM xs j).md.goer, (nthM xs j).md.call, (nthM xs j).md.ans, (nthM xs j).md.prs, (nthM xs j).md.began, (nthM xs j).md.at', (nthM xs j).md.over, (nthM xs j).md.told⟩, s, n, c, (nthM xs j).tp, (nthM xs j).tn, (nthM xs j).tc⟩)
    rw [List.length_set] at hml2
    rw [List.set_append_left _ _ (by unfold mms; omega), mms_set (m' := putMm (nthM xs j) s n c s' n' c') (by rw [List.length_set]; exact hjl) (by omega) (by rw [nthM_set hjl, if_pos rfl]; rfl), List.set_set] at b2
    exact b2
  · rw [nthM_set hjl]
    by_cases e : i = j
    · rw [if_pos e, e]
      exact ⟨rfl, hnew, g1, g2⟩
    · rw [if_neg e]
      obtain ⟨k1, k2, k3, k4⟩ := h.done i (by omega)
      exact ⟨k1, MmIn.off (MmIn.off (k2.below hV) k3 k4) k3 k4, k3, k4⟩
  · rw [nthM_set hjl, if_neg (by omega)]
    exact h.rest i (by omega) hil
end Go.Proofs.YtogeohjeabbmaaaDoor
