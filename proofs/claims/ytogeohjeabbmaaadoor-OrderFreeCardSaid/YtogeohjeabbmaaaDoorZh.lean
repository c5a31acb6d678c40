/-
  Several texts of mine in one: OrdW OrdX.
-/
import Derived.Test.YtogeohjeabbmaaaDoorOrdV
import Derived.Test.YtogeohjeabbmaaaDoorY1
/-
  Layer 27 (order): the statements' calls in memory of their own.
-/
set_option linter.unusedSimpArgs false
set_option linter.unusedVariables false
set_option maxRecDepth 100000
namespace Go.Proofs.YtogeohjeabbmaaaDoor
open Go.RowKit

/-! ### slices.Clone at []api.Made: 13 cells an element -/
theorem info_cloneM : (Tryd.prog.info? 39).map (fun i => (i.zero, i.size, i.bytes)) = some (some (.agg #[.int .i64 0, .int .i64 0, .int .u64 0, .int .u64 0, .int .u64 0, .int .i64 0, .int .u64 0, .bool false, .slice none 0 0, .int .i64 0, .int .i64 0, .int .i64 0, .slice none 0 0]), 13, 136) := by kernel_rfl
theorem cloneM_nil (w : World) : Calls Tryd.prog 35 #[.slice none 0 0] w fun e w' => e = .returned (.slice none 0 0) ∧ w' = w := by
  have hnil := Lib.run_eql_slice_nil (P := Tryd.prog)
  go_enter Tryd.func35, Tryd.ntmps35
  go_wp2
  go_ret
  exact ⟨rfl, rfl⟩
theorem cloneM_some (ad : Addr) (n cap : Nat) (vs : List Value) (w : World) (hn : n ≤ 4096) (hone : ∀ v ∈ vs, v.oneCell' = true) (h : SlK w 13 (some ad) n vs) :
    Calls Tryd.prog 35 #[.slice (some ad) n cap] w fun e w' => ∃ sp' cap', e = .returned (.slice sp' n cap') ∧ Below w.heap.size w w' ∧ w'.ownsRow w.heap.size 39 13 (.slice sp' n cap') n vs := by
  have hnil := Lib.run_eql_slice_nil (P := Tryd.prog)
  obtain ⟨i0, hi, hz0, hz1, hz2⟩ := info_parts info_cloneM
  have hown0 : (w.alloc (.cells #[] 39)).ownsRow w.heap.size 39 13 (.slice (some ⟨w.heap.size, 0, none⟩) 0 0) 0 [] :=
    ⟨by simp, .inr ⟨w.heap.size, 0, #[], rfl, Nat.le_refl _, World.alloc_heap_new _ _, Nat.le_refl _, Nat.zero_le _, by simp, by simp⟩⟩
  have hS2 : SlK (w.alloc (.cells #[] 39)) 13 (some ad) n vs := h.below ((Below.refl _ w).alloc (Nat.le_refl _) _)
  have hS2'h := Lib.hid hS2
  have hone'h := Lib.hid hone
  clear hS2 hone
  clear h
  go_enter Tryd.func35, Tryd.ntmps35
  go_wp2_with (at_builtin; refine wpList_append_slk _ rfl (.tmp 5) (.tmp 6) 25 rfl w.heap.size 39 i0 (.agg #[.int .i64 0, .int .i64 0, .int .u64 0, .int .u64 0, .int .u64 0, .int .i64 0, .int .u64 0, .bool false, .slice none 0 0, .int .i64 0, .int .i64 0, .int .i64 0, .slice none 0 0]) 13 136 Tryd.underlying25 hi hz0 hz1 hz2 rfl (by decide) _ 0 [] rfl hown0 (some ad) n cap vs rfl hS2'h.out hone'h.out (by unfold maxLen; omega) (by omega) (by simp) ?_; intro v' w1 hown' hgrow hwh)
  rw [Nat.zero_add, List.nil_append] at hown'
  obtain ⟨sp', cap', rfl⟩ := row_slice' hown'
  have hown''h := Lib.hid hown'
  have hwh'h := Lib.hid hwh
  clear hown' hwh
  go_wp2
  go_ret
  exact ⟨sp', cap', rfl, ((Below.refl _ w).alloc (Nat.le_refl _) _).grown hgrow (by simp) (fun j hj => by cases hj; exact Nat.le_refl _), hown''h.out⟩
theorem cloneM_any (sp : Option Addr) (n cap : Nat) (vs : List Value) (w : World) (hn : n ≤ 4096) (hone : ∀ v ∈ vs, v.oneCell' = true) (hc : sp = none → cap = 0) (h : SlK w 13 sp n vs) :
    Calls Tryd.prog 35 #[.slice sp n cap] w fun e w' => ∃ sp' cap', e = .returned (.slice sp' n cap') ∧ Below w.heap.size w w' ∧ w'.ownsRow w.heap.size 39 13 (.slice sp' n cap') n vs := by
  cases sp with
  | some ad => exact cloneM_some ad n cap vs w hn hone h
  | none =>
    obtain rfl : cap = 0 := hc rfl
    have h0 : n = 0 := by
      rcases h.2.2 with h0 | ⟨b, off, he, _⟩
      · exact h0
      · cases he
    subst h0
    have hl : vs = [] := List.eq_nil_of_length_eq_zero (by have := h.1; simpa using this)
    refine (cloneM_nil w).mono ?_
    rintro e w' ⟨rfl, rfl⟩
    exact ⟨none, 0, rfl, Below.refl _ _, by rw [hl]; exact World.ownsRow_nil _ _ _ _⟩
/-! ### slices.Clone at []api.Pair: 2 cells an element -/
theorem info_clonePr : (Tryd.prog.info? 72).map (fun i => (i.zero, i.size, i.bytes)) = some (some (.agg #[.int .u64 0, .int .u64 0]), 2, 16) := by kernel_rfl
theorem clonePr_nil (w : World) : Calls Tryd.prog 36 #[.slice none 0 0] w fun e w' => e = .returned (.slice none 0 0) ∧ w' = w := by
  have hnil := Lib.run_eql_slice_nil (P := Tryd.prog)
  go_enter Tryd.func36, Tryd.ntmps36
  go_wp2
  go_ret
  exact ⟨rfl, rfl⟩
theorem clonePr_some (ad : Addr) (n cap : Nat) (vs : List Value) (w : World) (hn : n ≤ 4096) (hone : ∀ v ∈ vs, v.oneCell' = true) (h : SlK w 2 (some ad) n vs) :
    Calls Tryd.prog 36 #[.slice (some ad) n cap] w fun e w' => ∃ sp' cap', e = .returned (.slice sp' n cap') ∧ Below w.heap.size w w' ∧ w'.ownsRow w.heap.size 72 2 (.slice sp' n cap') n vs := by
  have hnil := Lib.run_eql_slice_nil (P := Tryd.prog)
  obtain ⟨i0, hi, hz0, hz1, hz2⟩ := info_parts info_clonePr
  have hown0 : (w.alloc (.cells #[] 72)).ownsRow w.heap.size 72 2 (.slice (some ⟨w.heap.size, 0, none⟩) 0 0) 0 [] :=
    ⟨by simp, .inr ⟨w.heap.size, 0, #[], rfl, Nat.le_refl _, World.alloc_heap_new _ _, Nat.le_refl _, Nat.zero_le _, by simp, by simp⟩⟩
  have hS2 : SlK (w.alloc (.cells #[] 72)) 2 (some ad) n vs := h.below ((Below.refl _ w).alloc (Nat.le_refl _) _)
  have hS2'h := Lib.hid hS2
  have hone'h := Lib.hid hone
  clear hS2 hone
  clear h
  go_enter Tryd.func36, Tryd.ntmps36
  go_wp2_with (at_builtin; refine wpList_append_slk _ rfl (.tmp 5) (.tmp 6) 26 rfl w.heap.size 72 i0 (.agg #[.int .u64 0, .int .u64 0]) 2 16 Tryd.underlying26 hi hz0 hz1 hz2 rfl (by decide) _ 0 [] rfl hown0 (some ad) n cap vs rfl hS2'h.out hone'h.out (by unfold maxLen; omega) (by omega) (by simp) ?_; intro v' w1 hown' hgrow hwh)
  rw [Nat.zero_add, List.nil_append] at hown'
  obtain ⟨sp', cap', rfl⟩ := row_slice' hown'
  have hown''h := Lib.hid hown'
  have hwh'h := Lib.hid hwh
  clear hown' hwh
  go_wp2
  go_ret
  exact ⟨sp', cap', rfl, ((Below.refl _ w).alloc (Nat.le_refl _) _).grown hgrow (by simp) (fun j hj => by cases hj; exact Nat.le_refl _), hown''h.out⟩
theorem clonePr_any (sp : Option Addr) (n cap : Nat) (vs : List Value) (w : World) (hn : n ≤ 4096) (hone : ∀ v ∈ vs, v.oneCell' = true) (hc : sp = none → cap = 0) (h : SlK w 2 sp n vs) :
    Calls Tryd.prog 36 #[.slice sp n cap] w fun e w' => ∃ sp' cap', e = .returned (.slice sp' n cap') ∧ Below w.heap.size w w' ∧ w'.ownsRow w.heap.size 72 2 (.slice sp' n cap') n vs := by
  cases sp with
  | some ad => exact clonePr_some ad n cap vs w hn hone h
  | none =>
    obtain rfl : cap = 0 := hc rfl
    have h0 : n = 0 := by
      rcases h.2.2 with h0 | ⟨b, off, he, _⟩
      · exact h0
      · cases he
    subst h0
    have hl : vs = [] := List.eq_nil_of_length_eq_zero (by have := h.1; simpa using this)
    refine (clonePr_nil w).mono ?_
    rintro e w' ⟨rfl, rfl⟩
    exact ⟨none, 0, rfl, Below.refl _ _, by rw [hl]; exact World.ownsRow_nil _ _ _ _⟩
/-! ### slices.Clone at []int: 1 cells an element -/
theorem info_cloneZ : (Tryd.prog.info? 3).map (fun i => (i.zero, i.size, i.bytes)) = some (some (.int .i64 0), 1, 8) := by kernel_rfl
theorem cloneZ_nil (w : World) : Calls Tryd.prog 37 #[.slice none 0 0] w fun e w' => e = .returned (.slice none 0 0) ∧ w' = w := by
  have hnil := Lib.run_eql_slice_nil (P := Tryd.prog)
  go_enter Tryd.func37, Tryd.ntmps37
  go_wp2
  go_ret
  exact ⟨rfl, rfl⟩
theorem cloneZ_some (ad : Addr) (n cap : Nat) (vs : List Value) (w : World) (hn : n ≤ 4096) (hone : ∀ v ∈ vs, v.oneCell' = true) (h : SlK w 1 (some ad) n vs) :
    Calls Tryd.prog 37 #[.slice (some ad) n cap] w fun e w' => ∃ sp' cap', e = .returned (.slice sp' n cap') ∧ Below w.heap.size w w' ∧ w'.ownsRow w.heap.size 3 1 (.slice sp' n cap') n vs := by
  have hnil := Lib.run_eql_slice_nil (P := Tryd.prog)
  obtain ⟨i0, hi, hz0, hz1, hz2⟩ := info_parts info_cloneZ
  have hown0 : (w.alloc (.cells #[] 3)).ownsRow w.heap.size 3 1 (.slice (some ⟨w.heap.size, 0, none⟩) 0 0) 0 [] :=
    ⟨by simp, .inr ⟨w.heap.size, 0, #[], rfl, Nat.le_refl _, World.alloc_heap_new _ _, Nat.le_refl _, Nat.zero_le _, by simp, by simp⟩⟩
  have hS2 : SlK (w.alloc (.cells #[] 3)) 1 (some ad) n vs := h.below ((Below.refl _ w).alloc (Nat.le_refl _) _)
  have hS2'h := Lib.hid hS2
  have hone'h := Lib.hid hone
  clear hS2 hone
  clear h
  go_enter Tryd.func37, Tryd.ntmps37
  go_wp2_with (at_builtin; refine wpList_append_slk _ rfl (.tmp 5) (.tmp 6) 23 rfl w.heap.size 3 i0 (.int .i64 0) 1 8 Tryd.underlying23 hi hz0 hz1 hz2 rfl (by decide) _ 0 [] rfl hown0 (some ad) n cap vs rfl hS2'h.out hone'h.out (by unfold maxLen; omega) (by omega) (by simp) ?_; intro v' w1 hown' hgrow hwh)
  rw [Nat.zero_add, List.nil_append] at hown'
  obtain ⟨sp', cap', rfl⟩ := row_slice' hown'
  have hown''h := Lib.hid hown'
  have hwh'h := Lib.hid hwh
  clear hown' hwh
  go_wp2
  go_ret
  exact ⟨sp', cap', rfl, ((Below.refl _ w).alloc (Nat.le_refl _) _).grown hgrow (by simp) (fun j hj => by cases hj; exact Nat.le_refl _), hown''h.out⟩
theorem cloneZ_any (sp : Option Addr) (n cap : Nat) (vs : List Value) (w : World) (hn : n ≤ 4096) (hone : ∀ v ∈ vs, v.oneCell' = true) (hc : sp = none → cap = 0) (h : SlK w 1 sp n vs) :
    Calls Tryd.prog 37 #[.slice sp n cap] w fun e w' => ∃ sp' cap', e = .returned (.slice sp' n cap') ∧ Below w.heap.size w w' ∧ w'.ownsRow w.heap.size 3 1 (.slice sp' n cap') n vs := by
  cases sp with
  | some ad => exact cloneZ_some ad n cap vs w hn hone h
  | none =>
    obtain rfl : cap = 0 := hc rfl
    have h0 : n = 0 := by
      rcases h.2.2 with h0 | ⟨b, off, he, _⟩
      · exact h0
      · cases he
    subst h0
    have hl : vs = [] := List.eq_nil_of_length_eq_zero (by have := h.1; simpa using this)
    refine (cloneZ_nil w).mono ?_
    rintro e w' ⟨rfl, rfl⟩
    exact ⟨none, 0, rfl, Below.refl _ _, by rw [hl]; exact World.ownsRow_nil _ _ _ _⟩
def cutMd (m : Md) : Md := ⟨m.goer, m.call, m.ans, m.prs.take 4, m.began, m.at', m.over, m.told.take 4⟩
def putMm (m : Mm) (s : Option Addr) (n c : Nat) (s' : Option Addr) (n' c' : Nat) : Mm := ⟨cutMd m.md, s, n, c, s', n', c'⟩
theorem mms_set {l : List Mm} {j i : Nat} {v : Value} {m' : Mm} (hj : j < l.length) (hi : i < 13) (h : mmL m' = (mmL (nthM l j)).set i v) : (mms l).set (j * 13 + i) v = mms (l.set j m') := by
  induction l generalizing j with
  | nil => simp at hj
  | cons a r ih =>
    unfold mms
    rw [List.flatMap_cons]
    cases j with
    | zero =>
      rw [Nat.zero_mul, Nat.zero_add, List.set_append_left _ _ (by rw [mmL_len]; exact hi), List.set_cons_zero, List.flatMap_cons]
      congr 1
      exact h.symm
    | succ j =>
      rw [List.set_append_right _ _ (by rw [mmL_len]; omega), mmL_len, List.set_cons_succ, List.flatMap_cons]
      congr 1
      have := ih (j := j) (by simpa using hj) (by simpa [nthM] using h)
      unfold mms at this
      rw [show (j + 1) * 13 + i - 13 = j * 13 + i by omega]
      exact this
theorem nthM_set {l : List Mm} {j i : Nat} {m : Mm} (hj : j < l.length) : nthM (l.set j m) i = if i = j then m else nthM l i := by
  unfold nthM
  rw [List.getD_eq_getElem?_getD, List.getD_eq_getElem?_getD, List.getElem?_set]
  by_cases e : j = i
  · subst e; simp [hj]
  · have e' : ¬ i = j := fun h => e h.symm
    simp [e, e']
theorem cut_ok {m : Md} (h : MdOk m) : MdOk (cutMd m) := ⟨h.goer, h.call, h.err, h.val, h.began, h.at', h.over, fun x hx => h.told x (List.mem_of_mem_take hx), fun p hp => h.prs p (List.mem_of_mem_take hp)⟩
/-- What the loop holds: the first j calls are in memory of their own. -/
structure OwnW (w : World) (rb : Nat) (xs : List Mm) (j : Nat) (ls : List Mm) (wr : World) : Prop where
  below : Below w.heap.size w wr
  low : w.heap.size ≤ rb
  row : ∃ pad : List Value, wr.heap[rb]? = some (.cells (mms ls ++ pad).toArray 39 (0, 0))
  len : ls.length = xs.length
  done : ∀ i, i < j → (nthM ls i).md = cutMd (nthM xs i).md ∧ MmIn wr (nthM ls i) ∧ (∀ b, (nthM ls i).pp.map (·.block) = some b → b ≠ rb) ∧ (∀ b, (nthM ls i).tp.map (·.block) = some b → b ≠ rb)
  rest : ∀ i, j ≤ i → i < xs.length → nthM ls i = nthM xs i
theorem OwnW.cell {w : World} {rb : Nat} {xs : List Mm} {j : Nat} {ls : List Mm} {wr : World} (h : OwnW w rb xs j ls wr) {k i : Nat} {v : Value} (hk : k < ls.length) (hi : i < 13) (hv : (mmL (nthM ls k))[i]? = some v) : wr.cell? ⟨rb, k * 13 + i, none⟩ = some v ∧ wr.frozen? ⟨rb, k * 13 + i, none⟩ = false := by
  obtain ⟨pad, hr⟩ := h.row
  refine ⟨blk_cell hr ?_, blk_free _ hr⟩
  rw [List.getElem?_toArray, List.getElem?_append_left (by have := flat_len mmL_len ls; unfold mms; omega)]
  rw [← hv]
  exact flat_at mmL_len (nthM_at hk) hi
theorem MmIn.off {w : World} {rb i : Nat} {v : Value} {m : Mm} (h : MmIn w m) (h1 : ∀ b, m.pp.map (·.block) = some b → b ≠ rb) (h2 : ∀ b, m.tp.map (·.block) = some b → b ≠ rb) : MmIn (w.setCell ⟨rb, i, none⟩ v) m :=
  ⟨SlK.off h.prs h1 i v, (SlK.off (SlK.of_sl h.told) h2 i v).sl, h.pnil, h.ple, h.tnil, h.tle, h.ok⟩
/-- The row of the call itself. -/
theorem OwnW.next {w : World} {rb : Nat} {xs : List Mm} {j : Nat} {ls : List Mm} {wr V : World} (h : OwnW w rb xs j ls wr) (hj : j < xs.length) (hV : Below wr.heap.size wr V) {s s' : Option Addr} {n c n' c' : Nat}
    (h1 : SlK V 2 s n (prs ((nthM xs j).md.prs.take 4))) (h2 : Sl V s' n' (((nthM xs j).md.told.take 4).map (Value.int .i64))) (hok : MdOk (nthM xs j).md) (a1 : s = none → c = 0) (a2 : n ≤ c) (a3 : s' = none → c' = 0) (a4 : n' ≤ c')
    (f1 : ∀ b, s.map (·.block) = some b → wr.heap.size ≤ b) (f2 : ∀ b, s'.map (·.block) = some b → wr.heap.size ≤ b) :
    OwnW w rb xs (j + 1) (ls.set j (putMm (nthM xs j) s n c s' n' c')) ((V.setCell ⟨rb, j * 13 + 8, none⟩ (.slice s n c)).setCell ⟨rb, j * 13 + 12, none⟩ (.slice s' n' c')) := by
  obtain ⟨pad, hr⟩ := h.row
  have hlt := lt_of_heap hr
  have hjl : j < ls.length := by rw [h.len]; exact hj
  have hx := h.rest j (Nat.le_refl _) hj
  have g1 : ∀ b, s.map (·.block) = some b → b ≠ rb := fun b e => by have := f1 b e; omega
  have g2 : ∀ b, s'.map (·.block) = some b → b ≠ rb := fun b e => by have := f2 b e; omega
  have hnew : MmIn ((V.setCell ⟨rb, j * 13 + 8, none⟩ (.slice s n c)).setCell ⟨rb, j * 13 + 12, none⟩ (.slice s' n' c')) (putMm (nthM xs j) s n c s' n' c') :=
    MmIn.off (MmIn.off (m := putMm (nthM xs j) s n c s' n' c') ⟨h1, h2, a1, a2, a3, a4, cut_ok hok⟩ g1 g2) g1 g2
  refine ⟨((below_next h.below hV |> fun hb => (h.below.trans (hV.mono h.below.size))).setCell (p := ⟨rb, j * 13 + 8, none⟩) h.low _).setCell (p := ⟨rb, j * 13 + 12, none⟩) h.low _, h.low, ⟨pad, ?_⟩, by rw [List.length_set]; exact h.len, fun i hi => ?_, fun i hi hil => ?_⟩
  · have b1 := blk_set (i := j * 13 + 8) (.slice s n c) (heap_below hV hr hlt)
    have b2 := blk_set (i := j * 13 + 12) (.slice s' n' c') b1
    rw [List.setIfInBounds_toArray, List.setIfInBounds_toArray] at b2
    have hml := flat_len mmL_len ls
    have e1 : (mms ls ++ pad).set (j * 13 + 8) (.slice s n c) = mms (ls.set j ⟨⟨(nthM xs j).md.goer, (nthM xs j).md.call, (nthM xs j).md.ans, (nthM xs j).md.prs, (nthM xs j).md.began, (nthM xs j).md.at', (nthM xs j).md.over, (nthM xs j).md.told⟩, s, n, c, (nthM xs j).tp, (nthM xs j).tn, (nthM xs j).tc⟩) ++ pad := by
      rw [List.set_append_left _ _ (by unfold mms; omega), mms_set hjl (by omega)]
      rw [hx]; rfl
    rw [e1] at b2
    have hml2 := flat_len mmL_len (ls.set j ⟨⟨(nthM xs j).md.goer, (nthM xs j).md.call, (nthM xs j).md.ans, (nthM xs j).md.prs, (nthM xs j).md.began, (nthM xs j).md.at', (nthM xs j).md.over, (nthM xs j).md.told⟩, s, n, c, (nthM xs j).tp, (nthM xs j).tn, (nthM xs j).tc⟩)
    rw [List.length_set] at hml2
    rw [List.set_append_left _ _ (by unfold mms; omega), mms_set (m' := putMm (nthM xs j) s n c s' n' c') (by rw [List.length_set]; exact hjl) (by omega) (by rw [nthM_set hjl, if_pos rfl]; rfl), List.set_set] at b2
    exact b2
  · rw [nthM_set hjl]
    by_cases e : i = j
    · rw [if_pos e, e]
      exact ⟨rfl, hnew, g1, g2⟩
    · rw [if_neg e]
      obtain ⟨k1, k2, k3, k4⟩ := h.done i (by omega)
      exact ⟨k1, MmIn.off (MmIn.off (k2.below hV) k3 k4) k3 k4, k3, k4⟩
  · rw [nthM_set hjl, if_neg (by omega)]
    exact h.rest i (by omega) hil
end Go.Proofs.YtogeohjeabbmaaaDoor

/-
  Layer 27 (order): own, walked.
-/
set_option linter.unusedSimpArgs false
set_option linter.unusedVariables false
set_option maxRecDepth 100000
namespace Go.Proofs.YtogeohjeabbmaaaDoor
open Go.RowKit

theorem wp_region_heldT {P : Program} {id : Nat} {Q : Exit → Act → World → Prop} {a : Act} {w : World} {ol : List Oper} (H : Held2) (hm : P.follows .mixedOrders = true)
    (h : wpAnyT P .any ol.toArray Q H ol.toArray.size (Array.replicate ol.toArray.size false) a w.drew) :
    (Code.region id ol.toArray true).wp P Q a w := wp_region_any hm (wpAny_of_heldT _ _ _ _ h)
/-- What own leaves. -/
def OwnP (w : World) (xs : List Mm) (e : Ending) (w' : World) : Prop :=
  ∃ s' c' ls, e = .returned (.slice s' ls.length c') ∧ Below w.heap.size w w' ∧ MsIn w' s' ls.length ls ∧ ls.length = min 82 xs.length ∧ (∀ i, i < ls.length → (nthM ls i).md = cutMd (nthM xs i).md) ∧ ls.length ≤ c' ∧ (∀ g, s'.map (·.block) = some g → g < w'.heap.size)
theorem nthM_take {l : List Mm} {m i : Nat} (h : i < m) : nthM (l.take m) i = nthM l i := by
  unfold nthM
  rw [List.getD_eq_getElem?_getD, List.getD_eq_getElem?_getD, List.getElem?_take, if_pos h]
theorem mms_one (l : List Mm) : ∀ v ∈ mms l, v.oneCell' = true := flat_one (fun m v hv => by
  unfold mmL at hv
  simp at hv
  rcases hv with rfl | rfl | rfl | rfl | rfl | rfl | rfl | rfl | rfl | rfl | rfl | rfl | rfl <;> rfl) l
set_option maxHeartbeats 8000000 in
theorem own27_any (sp : Option Addr) (n cap : Nat) (xs : List Mm) (w : World) (h : MsIn w sp n xs) (hnil : sp = none → cap = 0) (hle : n ≤ cap) :
    Calls Tryd.prog 15 #[.slice sp n cap] w (OwnP w xs) := by
  have hlen := h.len
  have hmax := h.sl.2.1
  unfold maxLen at hmax
  obtain ⟨m, hm⟩ : ∃ m : Nat, min (n : Int) 82 = (m : Int) := ⟨(min (n : Int) 82).toNat, by omega⟩
  have hmn : m = min 82 n := by omega
  have CM := cloneM_any sp m cap (mms (xs.take m)) w (by omega) (mms_one _) hnil (h.take (by omega)).sl
  have i1 : (m : Int) ≤ (cap : Int) := by omega
  have i2 : ¬ (m : Int) < 0 := by omega
  have hlt : (xs.take m).length = m := by rw [List.length_take]; omega
  clear hmax
  have h'h := Lib.hid h
  have hlen'h := Lib.hid hlen
  have hmn'h := Lib.hid hmn
  have CM'h := Lib.hid CM
  have hlt'h := Lib.hid hlt
  have hnil'h := Lib.hid hnil
  have hle'h := Lib.hid hle
  clear h hlen hmn CM hlt hnil hle
  go_enter Tryd.func15, Tryd.ntmps15
  go_wp2_with fail
  refine CM'h.out.mono ?_
  rintro e w1 ⟨s1, c1, rfl, hb1, hrow⟩
  clear CM'h
  obtain ⟨s1', c1', e', hle1, hnil1, hlow1⟩ := row_form hrow
  cases e'
  by_cases hm0 : m = 0
  · subst hm0
    have hfin : OwnP w xs (.returned (.slice s1 0 c1)) w1 := ⟨s1, c1, [], rfl, hb1, ⟨⟨rfl, Nat.zero_le _, .inl rfl⟩, fun m hm => by cases hm⟩, by have := hmn'h.out; have := hlen'h.out; simp; omega, fun i hi => by simp at hi, Nat.zero_le _, fun g hg => by
      obtain ⟨a, rfl, rfl⟩ := Option.map_eq_some_iff.1 hg
      exact (hlow1 a rfl).2.1⟩
    clear hb1 hrow hle1 hnil1 hlow1
    have hfin'h := Lib.hid hfin
    clear hfin
    go_wp2
    refine wp_loop_rounds 1 ?_
    rw [rounds_succ]
    go_wp2
    go_ret
    exact hfin'h.out
  · obtain ⟨rb, rfl, hlow, cur, hcells, hcsz, htk⟩ : ∃ rb, s1 = some ⟨rb, 0, none⟩ ∧ w.heap.size ≤ rb ∧ ∃ cur : Array Value, w1.heap[rb]? = some (.cells cur 39 (0, 0)) ∧ m * 13 ≤ cur.size ∧ cur.toList.take (m * 13) = mms (xs.take m) := by
      rcases hrow.2 with ⟨hv, h0⟩ | ⟨g, cap', cur, hv, hg, hh, hle2, hcap, hsz, ht⟩
      · cases hv; exact absurd rfl hm0
      · cases hv; exact ⟨g, rfl, hg, cur, hh, by have := Nat.mul_le_mul_right 13 hle2; omega, ht⟩
    have hO : OwnW w rb (xs.take m) 0 (xs.take m) w1 := by
      refine ⟨hb1, hlow, ⟨cur.toList.drop (m * 13), ?_⟩, rfl, fun i hi => by omega, fun i _ _ => rfl⟩
      rw [← htk, List.take_append_drop]
      simpa using hcells
    clear hb1 hrow hlow1 hlow hcells hcsz htk hnil1
    have hm82 : (m : Int) ≤ 82 := by have := hmn'h.out; omega
    have hO'h := Lib.hid hO
    have hle1'h := Lib.hid hle1
    have hm0'h := Lib.hid hm0
    clear hO hle1 hm0
    go_wp2
    go_loopg [14] m (fun q v14 wr => ∃ (j : Nat) (ls : List Mm), j + q = m ∧ v14 = .int .i64 (j : Int) ∧ OwnW w rb (xs.take m) j ls wr)
    case atStart => exact ⟨0, _, by omega, rfl, hO'h.out⟩
    case round =>
      obtain ⟨j, ls, hj, rfl, hI⟩ := hrel
      by_cases hlt2 : j < m
      · have hjx : j < (xs.take m).length := by have := hlt'h.out; omega
        have hjl : j < ls.length := by rw [hI.len]; exact hjx
        have hx := hI.rest j (Nat.le_refl _) hjx
        rw [nthM_take hlt2] at hx
        obtain ⟨x, hx0⟩ : ∃ x, x = nthM xs j := ⟨_, rfl⟩
        rw [← hx0] at hx
        have hin : MmIn wr x := by rw [hx0]; exact ((h'h.out.each _ (nthM_mem (by have := hlen'h.out; have := hmn'h.out; omega))).below hI.below)
        have hxm : nthM (xs.take m) j = x := by rw [nthM_take hlt2, hx0]
        obtain ⟨p8, p8f⟩ := hI.cell (i := 8) (v := .slice x.pp x.pn x.pc) hjl (by omega) (by rw [hx]; rfl)
        obtain ⟨p12, p12f⟩ := hI.cell (i := 12) (v := .slice x.tp x.tn x.tc) hjl (by omega) (by rw [hx]; rfl)
        have hpn := hin.pn
        have htn := hin.tn
        obtain ⟨mp, hmp⟩ : ∃ mp : Nat, min (x.pn : Int) 4 = (mp : Int) := ⟨(min (x.pn : Int) 4).toNat, by omega⟩
        obtain ⟨mt, hmt⟩ : ∃ mt : Nat, min (x.tn : Int) 4 = (mt : Int) := ⟨(min (x.tn : Int) 4).toNat, by omega⟩
        have hp1 := hin.prs.take mp (by omega)
        rw [prs_take] at hp1
        have ht1 := (SlK.of_sl hin.told).take mt (by omega)
        rw [Nat.mul_one, ← List.map_take] at ht1
        have hp4 : x.md.prs.take mp = x.md.prs.take 4 := List.take_eq_take_iff.2 (by omega)
        have ht4 : x.md.told.take mt = x.md.told.take 4 := List.take_eq_take_iff.2 (by omega)
        rw [hp4] at hp1
        rw [ht4] at ht1
        have a1 := hin.ple
        have a2 := hin.tle
        have j1 : (mp : Int) ≤ (x.pc : Int) := by omega
        have j2 : ¬ (mp : Int) < 0 := by omega
        have j3 : (mt : Int) ≤ (x.tc : Int) := by omega
        have j4 : ¬ (mt : Int) < 0 := by omega
        have hmp4 : mp ≤ 4 := by omega
        have hmt4 : mt ≤ 4 := by omega
        have hok := hin.ok
        have hpl := hin.pnil
        have htl := hin.tnil
        have k1 : (j : Int) < (m : Int) := by omega
        have k2 : (0 : Int) ≤ (j : Int) := by omega
        have hrlt : rb < wr.heap.size := by obtain ⟨pad, hr⟩ := hI.row; exact lt_of_heap hr
        clear hx hx0 hin hp4 ht4 hpn htn a1 a2
        obtain ⟨md, pp, pn, pc, tp, tn, tc⟩ := x
        simp only at p8 p12 hmp hmt hp1 ht1 j1 j3 hok hpl htl
        have hI'h := Lib.hid hI
        have hj'h := Lib.hid hj
        have hlt2'h := Lib.hid hlt2
        have hjx'h := Lib.hid hjx
        have hjl'h := Lib.hid hjl
        have hxm'h := Lib.hid hxm
        have hp1'h := Lib.hid hp1
        have ht1'h := Lib.hid ht1
        have hok'h := Lib.hid hok
        have hpl'h := Lib.hid hpl
        have htl'h := Lib.hid htl
        have hrlt'h := Lib.hid hrlt
        have hmp4'h := Lib.hid hmp4
        have hmt4'h := Lib.hid hmt4
        clear hI hj hlt2 hjx hjl hxm hp1 ht1 hok hpl htl hrlt hmp4 hmt4
        go_upto_region 6 with fail
        have R := (Below.refl wr.heap.size wr).drew
        have u1 : wr.drew.cell? ⟨rb, j * 13 + 8, none⟩ = some (.slice pp pn pc) := p8
        have u2 : wr.drew.cell? ⟨rb, j * 13 + 12, none⟩ = some (.slice tp tn tc) := p12
        have f8 : wr.drew.frozen? ⟨rb, j * 13 + 8, none⟩ = false := p8f
        have f12 : wr.drew.frozen? ⟨rb, j * 13 + 12, none⟩ = false := p12f
        refine wp_region_heldT ⟨31, fun W => W.cell? ⟨rb, j * 13 + 8, none⟩ = some (.slice pp pn pc), 34, fun W => W.cell? ⟨rb, j * 13 + 12, none⟩ = some (.slice tp tn tc), fun _ => True⟩ (by kernel_rfl) ?_
        clear p8 p12 p8f p12f
        generalize wr.drew = V0 at R u1 u2 f8 f12 ⊢
        refine wpAnyT_take (i := 0) (v := .pointer (some ⟨rb, j * 13, none⟩)) false false rfl (by kernel_rfl) (by kernel_rfl) (by kernel_rfl) (by kernel_rfl) (fun _ _ _ h => h) (Or.inl ⟨by kernel_rfl, fun w hSw => by clear hSw; go_simp⟩) ⟨fun _ => u1, fun _ => u2, trivial⟩ ?_; try simp only [Act.put, List.getElem_toArray, List.getElem_cons_succ, List.getElem_cons_zero, List.setIfInBounds_toArray, List.set_cons_zero, List.set_cons_succ]
        refine wpAnyT_take (i := 1) (v := .pointer (some ⟨rb, j * 13, none⟩)) false false rfl (by kernel_rfl) (by kernel_rfl) (by kernel_rfl) (by kernel_rfl) (fun _ _ _ h => h) (Or.inl ⟨by kernel_rfl, fun w hSw => by clear hSw; go_simp⟩) ⟨fun _ => u1, fun _ => u2, trivial⟩ ?_; try simp only [Act.put, List.getElem_toArray, List.getElem_cons_succ, List.getElem_cons_zero, List.setIfInBounds_toArray, List.set_cons_zero, List.set_cons_succ]
        refine wpAnyT_take (i := 2) (v := .pointer (some ⟨rb, j * 13, none⟩)) false false rfl (by kernel_rfl) (by kernel_rfl) (by kernel_rfl) (by kernel_rfl) (fun _ _ _ h => h) (Or.inl ⟨by kernel_rfl, fun w hSw => by clear hSw; go_simp⟩) ⟨fun _ => u1, fun _ => u2, trivial⟩ ?_; try simp only [Act.put, List.getElem_toArray, List.getElem_cons_succ, List.getElem_cons_zero, List.setIfInBounds_toArray, List.set_cons_zero, List.set_cons_succ]
        refine wpAnyT_take (i := 3) (v := .pointer (some ⟨rb, j * 13, none⟩)) false false rfl (by kernel_rfl) (by kernel_rfl) (by kernel_rfl) (by kernel_rfl) (fun _ _ _ h => h) (Or.inl ⟨by kernel_rfl, fun w hSw => by clear hSw; go_simp⟩) ⟨fun _ => u1, fun _ => u2, trivial⟩ ?_; try simp only [Act.put, List.getElem_toArray, List.getElem_cons_succ, List.getElem_cons_zero, List.setIfInBounds_toArray, List.set_cons_zero, List.set_cons_succ]
        refine wpAnyT_take (i := 4) (v := .pointer (some ⟨rb, j * 13 + 5, none⟩)) false false rfl (by kernel_rfl) (by kernel_rfl) (by kernel_rfl) (by kernel_rfl) (fun _ _ _ h => h) (Or.inl ⟨by kernel_rfl, fun w hSw => by clear hSw; go_simp⟩) ⟨fun _ => u1, fun _ => u2, trivial⟩ ?_; try simp only [Act.put, List.getElem_toArray, List.getElem_cons_succ, List.getElem_cons_zero, List.setIfInBounds_toArray, List.set_cons_zero, List.set_cons_succ]
        refine wpAnyT_take (i := 5) (v := .pointer (some ⟨rb, j * 13 + 8, none⟩)) false false rfl (by kernel_rfl) (by kernel_rfl) (by kernel_rfl) (by kernel_rfl) (fun _ _ _ h => h) (Or.inl ⟨by kernel_rfl, fun w hSw => by clear hSw; go_simp⟩) ⟨fun _ => u1, fun _ => u2, trivial⟩ ?_; try simp only [Act.put, List.getElem_toArray, List.getElem_cons_succ, List.getElem_cons_zero, List.setIfInBounds_toArray, List.set_cons_zero, List.set_cons_succ]
        refine wpAnyT_take (i := 6) (v := .slice pp pn pc) true false rfl (by kernel_rfl) (by kernel_rfl) (by kernel_rfl) (by kernel_rfl) (fun _ _ _ h => h) (Or.inl ⟨by kernel_rfl, fun w hSw => by have hcc := hSw.1 rfl; dsimp only at hcc; clear hSw; go_simp⟩) ⟨fun _ => u1, fun _ => u2, trivial⟩ ?_; try simp only [Act.put, List.getElem_toArray, List.getElem_cons_succ, List.getElem_cons_zero, List.setIfInBounds_toArray, List.set_cons_zero, List.set_cons_succ]
        refine wpAnyT_take (i := 7) (v := .pointer (some ⟨rb, j * 13, none⟩)) false false rfl (by kernel_rfl) (by kernel_rfl) (by kernel_rfl) (by kernel_rfl) (fun _ _ _ h => h) (Or.inl ⟨by kernel_rfl, fun w hSw => by clear hSw; go_simp⟩) ⟨fun _ => u1, fun _ => u2, trivial⟩ ?_; try simp only [Act.put, List.getElem_toArray, List.getElem_cons_succ, List.getElem_cons_zero, List.setIfInBounds_toArray, List.set_cons_zero, List.set_cons_succ]
        refine wpAnyT_take (i := 8) (v := .pointer (some ⟨rb, j * 13, none⟩)) false false rfl (by kernel_rfl) (by kernel_rfl) (by kernel_rfl) (by kernel_rfl) (fun _ _ _ h => h) (Or.inl ⟨by kernel_rfl, fun w hSw => by clear hSw; go_simp⟩) ⟨fun _ => u1, fun _ => u2, trivial⟩ ?_; try simp only [Act.put, List.getElem_toArray, List.getElem_cons_succ, List.getElem_cons_zero, List.setIfInBounds_toArray, List.set_cons_zero, List.set_cons_succ]
        refine wpAnyT_take (i := 9) (v := .pointer (some ⟨rb, j * 13 + 5, none⟩)) false false rfl (by kernel_rfl) (by kernel_rfl) (by kernel_rfl) (by kernel_rfl) (fun _ _ _ h => h) (Or.inl ⟨by kernel_rfl, fun w hSw => by clear hSw; go_simp⟩) ⟨fun _ => u1, fun _ => u2, trivial⟩ ?_; try simp only [Act.put, List.getElem_toArray, List.getElem_cons_succ, List.getElem_cons_zero, List.setIfInBounds_toArray, List.set_cons_zero, List.set_cons_succ]
        refine wpAnyT_take (i := 10) (v := .pointer (some ⟨rb, j * 13 + 8, none⟩)) false false rfl (by kernel_rfl) (by kernel_rfl) (by kernel_rfl) (by kernel_rfl) (fun _ _ _ h => h) (Or.inl ⟨by kernel_rfl, fun w hSw => by clear hSw; go_simp⟩) ⟨fun _ => u1, fun _ => u2, trivial⟩ ?_; try simp only [Act.put, List.getElem_toArray, List.getElem_cons_succ, List.getElem_cons_zero, List.setIfInBounds_toArray, List.set_cons_zero, List.set_cons_succ]
        refine wpAnyT_take (i := 11) (v := .slice pp pn pc) true false rfl (by kernel_rfl) (by kernel_rfl) (by kernel_rfl) (by kernel_rfl) (fun _ _ _ h => h) (Or.inl ⟨by kernel_rfl, fun w hSw => by have hcc := hSw.1 rfl; dsimp only at hcc; clear hSw; go_simp⟩) ⟨fun _ => u1, fun _ => u2, trivial⟩ ?_; try simp only [Act.put, List.getElem_toArray, List.getElem_cons_succ, List.getElem_cons_zero, List.setIfInBounds_toArray, List.set_cons_zero, List.set_cons_succ]
        refine wpAnyT_take (i := 12) (v := .int .i64 (pn : Int)) false false rfl (by kernel_rfl) (by kernel_rfl) (by kernel_rfl) (by kernel_rfl) (fun _ _ _ h => h) (Or.inl ⟨by kernel_rfl, fun w hSw => by clear hSw; go_simp⟩) ⟨fun _ => u1, fun _ => u2, trivial⟩ ?_; try simp only [Act.put, List.getElem_toArray, List.getElem_cons_succ, List.getElem_cons_zero, List.setIfInBounds_toArray, List.set_cons_zero, List.set_cons_succ]
        refine wpAnyT_take (i := 13) (v := .int .i64 (mp : Int)) false false rfl (by kernel_rfl) (by kernel_rfl) (by kernel_rfl) (by kernel_rfl) (fun _ _ _ h => h) (Or.inl ⟨by kernel_rfl, fun w hSw => by clear hSw; go_simp⟩) ⟨fun _ => u1, fun _ => u2, trivial⟩ ?_; try simp only [Act.put, List.getElem_toArray, List.getElem_cons_succ, List.getElem_cons_zero, List.setIfInBounds_toArray, List.set_cons_zero, List.set_cons_succ]
        refine wpAnyT_take (i := 14) (v := .slice pp mp pc) false false rfl (by kernel_rfl) (by kernel_rfl) (by kernel_rfl) (by kernel_rfl) (fun _ _ _ h => h) (Or.inl ⟨by kernel_rfl, fun w hSw => by clear hSw; go_simp⟩) ⟨fun _ => u1, fun _ => u2, trivial⟩ ?_; try simp only [Act.put, List.getElem_toArray, List.getElem_cons_succ, List.getElem_cons_zero, List.setIfInBounds_toArray, List.set_cons_zero, List.set_cons_succ]
        refine wpAnyT_take (i := 16) (v := .pointer (some ⟨rb, j * 13, none⟩)) false false rfl (by kernel_rfl) (by kernel_rfl) (by kernel_rfl) (by kernel_rfl) (fun _ _ _ h => h) (Or.inl ⟨by kernel_rfl, fun w hSw => by clear hSw; go_simp⟩) ⟨fun _ => u1, fun _ => u2, trivial⟩ ?_; try simp only [Act.put, List.getElem_toArray, List.getElem_cons_succ, List.getElem_cons_zero, List.setIfInBounds_toArray, List.set_cons_zero, List.set_cons_succ]
        refine wpAnyT_take (i := 17) (v := .pointer (some ⟨rb, j * 13, none⟩)) false false rfl (by kernel_rfl) (by kernel_rfl) (by kernel_rfl) (by kernel_rfl) (fun _ _ _ h => h) (Or.inl ⟨by kernel_rfl, fun w hSw => by clear hSw; go_simp⟩) ⟨fun _ => u1, fun _ => u2, trivial⟩ ?_; try simp only [Act.put, List.getElem_toArray, List.getElem_cons_succ, List.getElem_cons_zero, List.setIfInBounds_toArray, List.set_cons_zero, List.set_cons_succ]
        refine wpAnyT_take (i := 18) (v := .pointer (some ⟨rb, j * 13 + 12, none⟩)) false false rfl (by kernel_rfl) (by kernel_rfl) (by kernel_rfl) (by kernel_rfl) (fun _ _ _ h => h) (Or.inl ⟨by kernel_rfl, fun w hSw => by clear hSw; go_simp⟩) ⟨fun _ => u1, fun _ => u2, trivial⟩ ?_; try simp only [Act.put, List.getElem_toArray, List.getElem_cons_succ, List.getElem_cons_zero, List.setIfInBounds_toArray, List.set_cons_zero, List.set_cons_succ]
        refine wpAnyT_take (i := 19) (v := .slice tp tn tc) false true rfl (by kernel_rfl) (by kernel_rfl) (by kernel_rfl) (by kernel_rfl) (fun _ _ _ h => h) (Or.inl ⟨by kernel_rfl, fun w hSw => by have hcc := hSw.2.1 rfl; dsimp only at hcc; clear hSw; go_simp⟩) ⟨fun _ => u1, fun _ => u2, trivial⟩ ?_; try simp only [Act.put, List.getElem_toArray, List.getElem_cons_succ, List.getElem_cons_zero, List.setIfInBounds_toArray, List.set_cons_zero, List.set_cons_succ]
        refine wpAnyT_take (i := 20) (v := .pointer (some ⟨rb, j * 13, none⟩)) false false rfl (by kernel_rfl) (by kernel_rfl) (by kernel_rfl) (by kernel_rfl) (fun _ _ _ h => h) (Or.inl ⟨by kernel_rfl, fun w hSw => by clear hSw; go_simp⟩) ⟨fun _ => u1, fun _ => u2, trivial⟩ ?_; try simp only [Act.put, List.getElem_toArray, List.getElem_cons_succ, List.getElem_cons_zero, List.setIfInBounds_toArray, List.set_cons_zero, List.set_cons_succ]
        refine wpAnyT_take (i := 21) (v := .pointer (some ⟨rb, j * 13, none⟩)) false false rfl (by kernel_rfl) (by kernel_rfl) (by kernel_rfl) (by kernel_rfl) (fun _ _ _ h => h) (Or.inl ⟨by kernel_rfl, fun w hSw => by clear hSw; go_simp⟩) ⟨fun _ => u1, fun _ => u2, trivial⟩ ?_; try simp only [Act.put, List.getElem_toArray, List.getElem_cons_succ, List.getElem_cons_zero, List.setIfInBounds_toArray, List.set_cons_zero, List.set_cons_succ]
        refine wpAnyT_take (i := 22) (v := .pointer (some ⟨rb, j * 13 + 12, none⟩)) false false rfl (by kernel_rfl) (by kernel_rfl) (by kernel_rfl) (by kernel_rfl) (fun _ _ _ h => h) (Or.inl ⟨by kernel_rfl, fun w hSw => by clear hSw; go_simp⟩) ⟨fun _ => u1, fun _ => u2, trivial⟩ ?_; try simp only [Act.put, List.getElem_toArray, List.getElem_cons_succ, List.getElem_cons_zero, List.setIfInBounds_toArray, List.set_cons_zero, List.set_cons_succ]
        refine wpAnyT_take (i := 23) (v := .slice tp tn tc) false true rfl (by kernel_rfl) (by kernel_rfl) (by kernel_rfl) (by kernel_rfl) (fun _ _ _ h => h) (Or.inl ⟨by kernel_rfl, fun w hSw => by have hcc := hSw.2.1 rfl; dsimp only at hcc; clear hSw; go_simp⟩) ⟨fun _ => u1, fun _ => u2, trivial⟩ ?_; try simp only [Act.put, List.getElem_toArray, List.getElem_cons_succ, List.getElem_cons_zero, List.setIfInBounds_toArray, List.set_cons_zero, List.set_cons_succ]
        refine wpAnyT_take (i := 24) (v := .int .i64 (tn : Int)) false false rfl (by kernel_rfl) (by kernel_rfl) (by kernel_rfl) (by kernel_rfl) (fun _ _ _ h => h) (Or.inl ⟨by kernel_rfl, fun w hSw => by clear hSw; go_simp⟩) ⟨fun _ => u1, fun _ => u2, trivial⟩ ?_; try simp only [Act.put, List.getElem_toArray, List.getElem_cons_succ, List.getElem_cons_zero, List.setIfInBounds_toArray, List.set_cons_zero, List.set_cons_succ]
        refine wpAnyT_take (i := 25) (v := .int .i64 (mt : Int)) false false rfl (by kernel_rfl) (by kernel_rfl) (by kernel_rfl) (by kernel_rfl) (fun _ _ _ h => h) (Or.inl ⟨by kernel_rfl, fun w hSw => by clear hSw; go_simp⟩) ⟨fun _ => u1, fun _ => u2, trivial⟩ ?_; try simp only [Act.put, List.getElem_toArray, List.getElem_cons_succ, List.getElem_cons_zero, List.setIfInBounds_toArray, List.set_cons_zero, List.set_cons_succ]
        refine wpAnyT_take (i := 26) (v := .slice tp mt tc) false false rfl (by kernel_rfl) (by kernel_rfl) (by kernel_rfl) (by kernel_rfl) (fun _ _ _ h => h) (Or.inl ⟨by kernel_rfl, fun w hSw => by clear hSw; go_simp⟩) ⟨fun _ => u1, fun _ => u2, trivial⟩ ?_; try simp only [Act.put, List.getElem_toArray, List.getElem_cons_succ, List.getElem_cons_zero, List.setIfInBounds_toArray, List.set_cons_zero, List.set_cons_succ]
        refine wpAnyT_one (i := 15) (by kernel_rfl) rfl (fun K hK => ?_); go_simp
        refine (cloneP_any pp mp pc (prs (md.prs.take 4)) V0 (by have := hmp4'h.out; omega) (prs_one _) hpl'h.out (hp1'h.out.below R)).mono ?_
        rintro e V1 ⟨s2, c2, rfl, hb1, hrow1⟩
        dsimp only
        have R1 := below_next R hb1
        have hz1 := R.size
        have hlv := lt_of_cell u1
        replace u1 := (hb1.cell hlv).trans u1
        replace u2 := (hb1.cell (p := ⟨rb, j * 13 + 12, none⟩) hlv).trans u2
        replace f8 := (hb1.frozen (p := ⟨rb, j * 13 + 8, none⟩) hlv).trans f8
        replace f12 := (hb1.frozen (p := ⟨rb, j * 13 + 12, none⟩) hlv).trans f12
        have hrow1 := ownsRow_mono hrow1 hz1
        clear hb1 R hlv hz1
        refine hK.out _ _ ⟨fun _ => u1, fun _ => u2, trivial⟩ ?_; clear hK K; try simp only [Act.put, List.getElem_toArray, List.getElem_cons_succ, List.getElem_cons_zero, List.setIfInBounds_toArray, List.set_cons_zero, List.set_cons_succ]
        refine wpAnyT_one (i := 27) (by kernel_rfl) rfl (fun K hK => ?_); go_simp
        refine (cloneZ_any tp mt tc ((md.told.take 4).map (Value.int .i64)) V1 (by have := hmt4'h.out; omega) (oneCell_ints _ _) htl'h.out (ht1'h.out.below R1)).mono ?_
        rintro e V2 ⟨s3, c3, rfl, hb2, hrow2⟩
        dsimp only
        have R2 := below_next R1 hb2
        have hz1 := R1.size
        have hlv := lt_of_cell u1
        replace u1 := (hb2.cell hlv).trans u1
        replace u2 := (hb2.cell (p := ⟨rb, j * 13 + 12, none⟩) hlv).trans u2
        replace f8 := (hb2.frozen (p := ⟨rb, j * 13 + 8, none⟩) hlv).trans f8
        replace f12 := (hb2.frozen (p := ⟨rb, j * 13 + 12, none⟩) hlv).trans f12
        have hrow1 := ownsRow_next hrow1 hb2
        have hrow2 := ownsRow_mono hrow2 hz1
        clear hb2 R1 hlv hz1
        refine hK.out _ _ ⟨fun _ => u1, fun _ => u2, trivial⟩ ?_; clear hK K; try simp only [Act.put, List.getElem_toArray, List.getElem_cons_succ, List.getElem_cons_zero, List.setIfInBounds_toArray, List.set_cons_zero, List.set_cons_succ]
        refine wpAnyT_take (i := 28) (v := .pointer (some ⟨rb, j * 13, none⟩)) false false rfl (by kernel_rfl) (by kernel_rfl) (by kernel_rfl) (by kernel_rfl) (fun _ _ _ h => h) (Or.inl ⟨by kernel_rfl, fun w hSw => by clear hSw; go_simp⟩) ⟨fun _ => u1, fun _ => u2, trivial⟩ ?_; try simp only [Act.put, List.getElem_toArray, List.getElem_cons_succ, List.getElem_cons_zero, List.setIfInBounds_toArray, List.set_cons_zero, List.set_cons_succ]
        refine wpAnyT_take (i := 29) (v := .pointer (some ⟨rb, j * 13 + 5, none⟩)) false false rfl (by kernel_rfl) (by kernel_rfl) (by kernel_rfl) (by kernel_rfl) (fun _ _ _ h => h) (Or.inl ⟨by kernel_rfl, fun w hSw => by clear hSw; go_simp⟩) ⟨fun _ => u1, fun _ => u2, trivial⟩ ?_; try simp only [Act.put, List.getElem_toArray, List.getElem_cons_succ, List.getElem_cons_zero, List.setIfInBounds_toArray, List.set_cons_zero, List.set_cons_succ]
        refine wpAnyT_take (i := 30) (v := .pointer (some ⟨rb, j * 13 + 8, none⟩)) false false rfl (by kernel_rfl) (by kernel_rfl) (by kernel_rfl) (by kernel_rfl) (fun _ _ _ h => h) (Or.inl ⟨by kernel_rfl, fun w hSw => by clear hSw; go_simp⟩) ⟨fun _ => u1, fun _ => u2, trivial⟩ ?_; try simp only [Act.put, List.getElem_toArray, List.getElem_cons_succ, List.getElem_cons_zero, List.setIfInBounds_toArray, List.set_cons_zero, List.set_cons_succ]
        refine wpAnyT_one (i := 31) (by kernel_rfl) rfl (fun K hK => ?_); go_simp
        replace u2 := (World.cell?_setCell_other (w := V2) (a := ⟨rb, j * 13 + 8, none⟩) (b := ⟨rb, j * 13 + 12, none⟩) (v := .slice s2 mp c2) (fun e => by injection e with _ e2 _; omega)).trans u2
        replace f12 : (V2.setCell ⟨rb, j * 13 + 8, none⟩ (.slice s2 mp c2)).frozen? ⟨rb, j * 13 + 12, none⟩ = false := (World.frozen?_setCell _ _ _ _).trans f12
        clear u1 f8
        refine hK.out _ _ ⟨fun h => (by cases (show true = false from h)), fun _ => u2, trivial⟩ ?_; clear hK K; try simp only [Act.put, List.getElem_toArray, List.getElem_cons_succ, List.getElem_cons_zero, List.setIfInBounds_toArray, List.set_cons_zero, List.set_cons_succ]
        refine wpAnyT_take (i := 32) (v := .pointer (some ⟨rb, j * 13, none⟩)) false false rfl (by kernel_rfl) (by kernel_rfl) (by kernel_rfl) (by kernel_rfl) (fun _ _ _ h => h) (Or.inl ⟨by kernel_rfl, fun w hSw => by clear hSw; go_simp⟩) ⟨fun h => (by cases (show true = false from h)), fun _ => u2, trivial⟩ ?_; try simp only [Act.put, List.getElem_toArray, List.getElem_cons_succ, List.getElem_cons_zero, List.setIfInBounds_toArray, List.set_cons_zero, List.set_cons_succ]
        refine wpAnyT_take (i := 33) (v := .pointer (some ⟨rb, j * 13 + 12, none⟩)) false false rfl (by kernel_rfl) (by kernel_rfl) (by kernel_rfl) (by kernel_rfl) (fun _ _ _ h => h) (Or.inl ⟨by kernel_rfl, fun w hSw => by clear hSw; go_simp⟩) ⟨fun h => (by cases (show true = false from h)), fun _ => u2, trivial⟩ ?_; try simp only [Act.put, List.getElem_toArray, List.getElem_cons_succ, List.getElem_cons_zero, List.setIfInBounds_toArray, List.set_cons_zero, List.set_cons_succ]
        refine wpAnyT_one (i := 34) (by kernel_rfl) rfl (fun K hK => ?_); go_simp
        obtain ⟨s2', c2', e', q1, q2, q3⟩ := row_form hrow1
        cases e'
        obtain ⟨s3', c3', e', q4, q5, q6⟩ := row_form hrow2
        cases e'
        have hI2 := hI'h.out.next hjx'h.out R2 (by rw [hxm'h.out]; exact SlK.of_row hrow1 (by have := hmp4'h.out; unfold maxLen; omega)) (by rw [hxm'h.out]; exact (SlK.of_row hrow2 (by have := hmt4'h.out; unfold maxLen; omega)).sl) (by rw [hxm'h.out]; exact hok'h.out) q2 q1 q5 q4 (fun b hb => by obtain ⟨a, rfl, rfl⟩ := Option.map_eq_some_iff.1 hb; exact (q3 a rfl).1) (fun b hb => by obtain ⟨a, rfl, rfl⟩ := Option.map_eq_some_iff.1 hb; exact (q6 a rfl).1)
        clear hrow1 hrow2 q1 q2 q3 q4 q5 q6 R2 u2 f12
        refine hK.out _ _ ⟨fun h => (by cases (show true = false from h)), fun h => (by cases (show true = false from h)), trivial⟩ ?_; clear hK K; try simp only [Act.put, List.getElem_toArray, List.getElem_cons_succ, List.getElem_cons_zero, List.setIfInBounds_toArray, List.set_cons_zero, List.set_cons_succ]
        refine wpAnyT_done (by kernel_rfl) ?_ _
        generalize World.setCell _ _ _ = W9 at hI2 ⊢
        have hI2'h := Lib.hid hI2
        clear hI2
        go_wp2
        go_roundg (gk - 1)
        case measure => have := hj'h.out; have := hlt2'h.out; omega
        case rel => exact ⟨j + 1, _, by have := hj'h.out; have := hlt2'h.out; omega, by go_num, hI2'h.out⟩
      · have hjm : j = m := by omega
        subst hjm
        have i3 : ¬ (j : Int) < (j : Int) := by omega
        have hll : ls.length = j := by rw [hI.len]; exact hlt'h.out
        have hfin : OwnP w xs (.returned (.slice (some ⟨rb, 0, none⟩) j c1)) wr := by
          obtain ⟨pad, hr⟩ := hI.row
          refine ⟨some ⟨rb, 0, none⟩, c1, ls, by rw [hll], hI.below, ⟨⟨flat_len mmL_len ls, by rw [hll]; unfold maxLen; omega, .inr ⟨rb, 0, rfl, fun i u hu => ?_⟩⟩, fun mm hmm => ?_⟩, by rw [hll]; have := hmn'h.out; have := hlen'h.out; omega, fun i hi => ?_, by rw [hll]; exact hle1'h.out, fun g hg => by cases hg; exact lt_of_heap hr⟩
          · rw [Nat.zero_add]
            refine blk_cell hr ?_
            rw [List.getElem?_toArray, List.getElem?_append_left (List.getElem?_eq_some_iff.1 hu).1]
            exact hu
          · obtain ⟨i, hi, rfl⟩ := List.getElem_of_mem hmm
            rw [nthM_eq hi]
            exact (hI.done i (by omega)).2.1
          · have := (hI.done i (by omega)).1
            rw [this, nthM_take (by omega)]
        clear hI hll
        have hfin'h := Lib.hid hfin
        clear hfin
        go_wp2
        go_ret
        exact hfin'h.out
end Go.Proofs.YtogeohjeabbmaaaDoor

