/-
  Several texts of mine in one: ModelE ModelF ModelG ModelH ModelI ModelJ.
-/
import Derived.Test.YtogeohjeabbmaaaDoorY5
import Derived.Test.YtogeohjeabbmaaaDoorY1
import Derived.Deep.RegionLaw
import Derived.Deep.RegionHeld3
import Derived.IntWalk
import Derived.Lib.Overlaps
import Derived.Laws.Externs
/-
  Package model: where a key stands.
-/
set_option linter.unusedSimpArgs false
set_option linter.unusedVariables false
set_option maxRecDepth 100000
namespace Go.Proofs.YtogeohjeabbmaaaDoor
open Go.RowKit

theorem at1_any (a b : Nat) (w : World) : Calls Tryd.prog 84 #[.agg #[.int .u64 (a : Int), .int .u64 (b : Int)]] w fun e w' => e = .returned (.int .u64 (a : Int)) ∧ Below w.heap.size w w' := by
  have hB : Below w.heap.size w (w.alloc (.cells #[.int .u64 (a : Int), .int .u64 (b : Int)] 72)) := (Below.refl _ _).alloc (Nat.le_refl _) _
  have hB'h := Lib.hid hB
  clear hB
  go_enter Tryd.func84, Tryd.ntmps84
  go_wp2
  go_ret
  exact ⟨rfl, hB'h.out⟩
def hasAt (ps : Ps) (k : Nat) : Bool := hasP ps k
set_option maxHeartbeats 1000000 in
theorem mplace_any (sp : Option Addr) (n cap : Nat) (ps : Ps) (key : Nat) (w : World) (h : SlK w 2 sp n (prs ps)) (hup : upB ps = true) (hn : n ≤ 4096) :
    Calls Tryd.prog 83 #[.slice sp n cap, .int .u64 (key : Int), .func (.func 84) #[] #[]] w fun e w' => e = .returned (.tuple #[.int .i64 (posP ps key), .bool (hasP ps key)]) ∧ Below w.heap.size w w' := by
  have hlen := prs_len h
  have hlen'h := Lib.hid hlen
  have h'h := Lib.hid h
  have hup'h := Lib.hid hup
  clear hlen h hup
  go_enter Tryd.func83, Tryd.ntmps83
  go_wp2
  go_loopg [8, 9] n (fun q a b wr => ∃ i j : Nat, i + q = j ∧ j ≤ n ∧ a = .int .i64 i ∧ b = .int .i64 j ∧ (∀ t, t < i → (nthP ps t).1 < key) ∧ (∀ t, j ≤ t → t < n → key ≤ (nthP ps t).1) ∧ Below w.heap.size w wr)
  case atStart => exact ⟨0, n, by omega, Nat.le_refl _, rfl, rfl, fun t ht => by omega, fun t h1 h2 => by omega, Below.refl _ _⟩
  case round =>
    obtain ⟨i, j, hq, hj, rfl, rfl, hlo, hhi, hbr⟩ := hrel
    by_cases hlt : i < j
    · obtain ⟨k, hk⟩ : ∃ k, k = (i + j) / 2 := ⟨_, rfl⟩
      have hk2 : ((i : Int) + (j : Int)) / 2 = (k : Int) := by omega
      have hkj : k < j := by omega
      have hik : i ≤ k := by omega
      have hSr := h'h.out.below hbr
      obtain ⟨b, off, rfl⟩ := prs_some h'h.out (by omega)
      obtain ⟨c1, c2⟩ := prs_cells hSr (k := k) (by have := hlen'h.out; omega)
      have i0 : (i : Int) < (j : Int) := by omega
      have i1 : (k : Int) < (n : Int) := by omega
      have i2 : (0 : Int) ≤ (k : Int) := by omega
      by_cases hc : (nthP ps k).1 < key
      · have t1 : (((nthP ps k).1 : Int)) < (key : Int) := by omega
        have t2 : decide ((nthP ps k).1 < key) = true := by simpa using hc
        generalize hy : (nthP ps k).1 = y at *
        generalize (nthP ps k).2 = z at *
        have hq'h := Lib.hid hq
        have hj'h := Lib.hid hj
        have hlo'h := Lib.hid hlo
        have hhi'h := Lib.hid hhi
        have hbr'h := Lib.hid hbr
        have hSr'h := Lib.hid hSr
        have hc'h := Lib.hid hc
        have hy'h := Lib.hid hy
        have hk'h := Lib.hid hk
        clear hq hj hlo hhi hbr hSr hc hy hk
        go_wp2_with (go_at_call 84; refine (at1_any _ _ _).mono ?_; rintro e w4 ⟨rfl, hb4⟩)
        go_roundg (j - (k + 1))
        case measure => have := hq'h.out; omega
        case rel =>
          refine ⟨k + 1, j, by omega, hj'h.out, by go_num, rfl, fun t ht => ?_, hhi'h.out, below_next hbr'h.out hb4⟩
          by_cases e : t = k
          · subst e; rw [hy'h.out]; exact hc'h.out
          · have := up_lt hup'h.out (i := t) (j := k) (by omega) (by have := hlen'h.out; have := hj'h.out; omega)
            have := hy'h.out; have := hc'h.out; omega
      · have t1 : ¬ (((nthP ps k).1 : Int)) < (key : Int) := by omega
        have t2 : decide ((nthP ps k).1 < key) = false := by simpa using hc
        generalize hy : (nthP ps k).1 = y at *
        generalize (nthP ps k).2 = z at *
        have hq'h := Lib.hid hq
        have hj'h := Lib.hid hj
        have hlo'h := Lib.hid hlo
        have hhi'h := Lib.hid hhi
        have hbr'h := Lib.hid hbr
        have hSr'h := Lib.hid hSr
        have hc'h := Lib.hid hc
        have hy'h := Lib.hid hy
        have hk'h := Lib.hid hk
        clear hq hj hlo hhi hbr hSr hc hy hk
        go_wp2_with (go_at_call 84; refine (at1_any _ _ _).mono ?_; rintro e w4 ⟨rfl, hb4⟩)
        go_roundg (k - i)
        case measure => have := hq'h.out; omega
        case rel =>
          refine ⟨i, k, by omega, by have := hj'h.out; omega, rfl, rfl, hlo'h.out, fun t h1 h2 => ?_, below_next hbr'h.out hb4⟩
          by_cases e : t = k
          · subst e; have := hy'h.out; have := hc'h.out; omega
          · have := up_lt hup'h.out (i := k) (j := t) (by omega) (by have := hlen'h.out; omega)
            have := hy'h.out; have := hc'h.out; omega
    · obtain rfl : i = j := by omega
      have hp : posP ps key = i := posP_eq (by have := hlen'h.out; omega) hlo fun hi => hhi i (Nat.le_refl _) (by have := hlen'h.out; omega)
      have hh := hasP_pos ps key
      rw [hp] at hh
      by_cases hin : i < n
      · have hSr := h'h.out.below hbr
        obtain ⟨b, off, rfl⟩ := prs_some h'h.out (by omega)
        obtain ⟨c1, c2⟩ := prs_cells hSr (k := i) (by have := hlen'h.out; omega)
        have i1 : (i : Int) < (n : Int) := by omega
        have i2 : (0 : Int) ≤ (i : Int) := by omega
        have e1 : decide (i < n) = true := by simpa using hin
        have e2 : decide (i < ps.length) = true := by have := hlen'h.out; simp; omega
        rw [e2, Bool.true_and] at hh
        have hh2 : hasP ps key = (((nthP ps i).1 : Int) == (key : Int)) := by rw [hh]; by_cases e : (nthP ps i).1 = key <;> simp [e] <;> omega
        clear hh e2
        generalize (nthP ps i).1 = y at *
        generalize (nthP ps i).2 = z at *
        have hq'h := Lib.hid hq
        have hj'h := Lib.hid hj
        have hlo'h := Lib.hid hlo
        have hhi'h := Lib.hid hhi
        have hbr'h := Lib.hid hbr
        have hSr'h := Lib.hid hSr
        have hp'h := Lib.hid hp
        have hh2'h := Lib.hid hh2
        clear hq hj hlo hhi hbr hSr hp hh2
        go_wp2_with (go_at_call 84; refine (at1_any _ _ _).mono ?_; rintro e w4 ⟨rfl, hb4⟩)
        go_ret2
        exact ⟨by rw [hp'h.out, hh2'h.out]; rfl, below_next hbr'h.out hb4⟩
      · have e1 : decide (i < n) = false := by simpa using hin
        have e2 : decide (i < ps.length) = false := by have := hlen'h.out; simp; omega
        rw [e2, Bool.false_and] at hh
        clear e2
        have hq'h := Lib.hid hq
        have hj'h := Lib.hid hj
        have hlo'h := Lib.hid hlo
        have hhi'h := Lib.hid hhi
        have hbr'h := Lib.hid hbr
        have hp'h := Lib.hid hp
        have hh'h := Lib.hid hh
        clear hq hj hlo hhi hbr hp hh
        go_wp2
        go_ret2
        exact ⟨by rw [hp'h.out, hh'h.out]; rfl, hbr'h.out⟩
end Go.Proofs.YtogeohjeabbmaaaDoor

/-
  Package model: a table that is worked on; what a key has.
-/
set_option linter.unusedSimpArgs false
set_option linter.unusedVariables false
set_option maxRecDepth 100000
namespace Go.Proofs.YtogeohjeabbmaaaDoor
open Go.RowKit

/-- A row of pairs of one's own. -/
structure RowP (W : World) (B : Nat) (sp : Option Addr) (n cap : Nat) (ps : Ps) : Prop where
  len : n = ps.length
  le : n ≤ cap
  lim : cap ≤ maxLen
  row : (sp = none ∧ cap = 0) ∨ ∃ g cur, sp = some ⟨g, 0, none⟩ ∧ B ≤ g ∧ W.heap[g]? = some (.cells cur 72 (0, 0)) ∧ cap * 2 ≤ cur.size ∧ cur.toList.take (n * 2) = prs ps
theorem RowP.sl {W : World} {B : Nat} {sp : Option Addr} {n cap : Nat} {ps : Ps} (h : RowP W B sp n cap ps) : SlK W 2 sp n (prs ps) := by
  refine ⟨by rw [prs_length, h.len], Nat.le_trans h.le h.lim, ?_⟩
  rcases h.row with ⟨_, h0⟩ | ⟨g, cur, e, _, hg, _, ht⟩
  · have := h.le; exact .inl (by omega)
  · refine .inr ⟨g, 0, e, fun j u hu => ?_⟩
    rw [Nat.zero_add]
    refine blk_cell hg ?_
    rw [← ht, List.getElem?_take] at hu
    split at hu
    · simpa using hu
    · cases hu
theorem RowP.nil0 {W : World} {B : Nat} {sp : Option Addr} {n cap : Nat} {ps : Ps} (h : RowP W B sp n cap ps) : sp = none → cap = 0 := by
  intro e
  rcases h.row with ⟨_, h0⟩ | ⟨g, cur, e', _⟩
  · exact h0
  · rw [e'] at e; cases e
theorem RowP.keep {W W' : World} {B : Nat} {sp : Option Addr} {n cap : Nat} {ps : Ps} (h : RowP W B sp n cap ps) (hk : ∀ g, sp = some ⟨g, 0, none⟩ → g < W.heap.size → W'.heap[g]? = W.heap[g]?) : RowP W' B sp n cap ps := by
  refine ⟨h.len, h.le, h.lim, h.row.imp id ?_⟩
  rintro ⟨g, cur, e, hb, hg, hc, ht⟩
  exact ⟨g, cur, e, hb, (hk g e (lt_of_heap hg)).trans hg, hc, ht⟩
theorem RowP.below {W W' : World} {B : Nat} {sp : Option Addr} {n cap : Nat} {ps : Ps} (h : RowP W B sp n cap ps) (hb : Below W.heap.size W W') : RowP W' B sp n cap ps :=
  h.keep fun g _ hg => hb.block g hg
theorem RowP.low {W : World} {B B' : Nat} {sp : Option Addr} {n cap : Nat} {ps : Ps} (h : RowP W B sp n cap ps) (hb : B' ≤ B) : RowP W B' sp n cap ps := by
  refine ⟨h.len, h.le, h.lim, h.row.imp id ?_⟩
  rintro ⟨g, cur, e, hb', r⟩
  exact ⟨g, cur, e, Nat.le_trans hb hb', r⟩
/-- The table at tb holds the row. -/
structure Tab (W : World) (B tb : Nat) (sp : Option Addr) (n cap : Nat) (ps : Ps) : Prop where
  tbl : W.heap[tb]? = some (.cells #[.slice sp n cap] 66 (0, 0))
  low : B ≤ tb
  row : RowP W B sp n cap ps
theorem Tab.below {W W' : World} {B tb : Nat} {sp : Option Addr} {n cap : Nat} {ps : Ps} (h : Tab W B tb sp n cap ps) (hb : Below W.heap.size W W') : Tab W' B tb sp n cap ps :=
  ⟨heap_below hb h.tbl (lt_of_heap h.tbl), h.low, h.row.below hb⟩
theorem Tab.cell {W : World} {B tb : Nat} {sp : Option Addr} {n cap : Nat} {ps : Ps} (h : Tab W B tb sp n cap ps) : W.cell? ⟨tb, 0, none⟩ = some (.slice sp n cap) := blk_cell h.tbl rfl
/-- The row lies elsewhere than the table. -/
theorem Tab.apart {W : World} {B tb : Nat} {sp : Option Addr} {n cap : Nat} {ps : Ps} (h : Tab W B tb sp n cap ps) : ∀ a, sp = some a → a.block ≠ tb := by
  intro a e hb
  rcases h.row.row with ⟨e', _⟩ | ⟨g, cur, e', _, hg, _⟩
  · rw [e'] at e; cases e
  · rw [e'] at e
    cases e
    simp only at hb
    subst hb
    rw [h.tbl] at hg
    injection hg with hg
    injection hg with _ ht
    revert ht
    decide
/-- All that is neither the table nor its row lies as it lay. -/
def KeptT (tb : Nat) (sp : Option Addr) (W W' : World) : Prop := Kept (fun b => b ≠ tb ∧ sp.map (·.block) ≠ some b) W W'
theorem KeptT.of_below {tb : Nat} {sp : Option Addr} {W W' : World} (h : Below W.heap.size W W') : KeptT tb sp W W' := Kept.of_below h
theorem KeptT.trans {tb : Nat} {sp : Option Addr} {A C D : World} (h : KeptT tb sp A C) (k : KeptT tb sp C D) : KeptT tb sp A D := Kept.trans h k
/-- .. the second with a row of its own, a new one. -/
theorem KeptT.trans' {tb : Nat} {sp sp' : Option Addr} {A C D : World} (h : KeptT tb sp A C) (k : KeptT tb sp' C D) (hs : sp' = sp ∨ ∀ a, sp' = some a → A.heap.size ≤ a.block) : KeptT tb sp A D := by
  rcases hs with rfl | hs
  · exact h.trans k
  · refine ⟨k.os.trans h.os, k.tape.trans h.tape, k.output.trans h.output, Nat.le_trans h.size k.size, fun b hb hs' => (k.block b (Nat.lt_of_lt_of_le hb h.size) ⟨hs'.1, fun e => ?_⟩).trans (h.block b hb hs')⟩
    cases sp' with
    | none => cases e
    | some a => have := hs a rfl; simp at e; omega
theorem KeptT.below {tb : Nat} {sp : Option Addr} {W0 W W' : World} (h : KeptT tb sp W W') (hb : Below W0.heap.size W0 W) (h1 : W0.heap.size ≤ tb) (h2 : ∀ a, sp = some a → W0.heap.size ≤ a.block) : Below W0.heap.size W0 W' := by
  refine ⟨h.os.trans hb.os, h.tape.trans hb.tape, h.output.trans hb.output, Nat.le_trans hb.size h.size, fun b hk => (h.block b (Nat.lt_of_lt_of_le hk hb.size) ⟨by omega, fun e => ?_⟩).trans (hb.block b hk)⟩
  cases sp with
  | none => cases e
  | some a => have := h2 a rfl; simp at e; omega
theorem Tab.lowrow {W : World} {B tb : Nat} {sp : Option Addr} {n cap : Nat} {ps : Ps} (h : Tab W B tb sp n cap ps) : ∀ a, sp = some a → B ≤ a.block := by
  intro a e
  rcases h.row.row with ⟨e', _⟩ | ⟨g, cur, e', hb, _⟩
  · rw [e'] at e; cases e
  · rw [e'] at e; cases e; exact hb
/-- The table, to be read. -/
structure TabR (W : World) (tb : Nat) (sp : Option Addr) (n cap : Nat) (ps : Ps) : Prop where
  tbl : W.heap[tb]? = some (.cells #[.slice sp n cap] 66 (0, 0))
  sl : SlK W 2 sp n (prs ps)
theorem Tab.r {W : World} {B tb : Nat} {sp : Option Addr} {n cap : Nat} {ps : Ps} (h : Tab W B tb sp n cap ps) : TabR W tb sp n cap ps := ⟨h.tbl, h.row.sl⟩
theorem TabR.below {W W' : World} {tb : Nat} {sp : Option Addr} {n cap : Nat} {ps : Ps} (h : TabR W tb sp n cap ps) (hb : Below W.heap.size W W') : TabR W' tb sp n cap ps := ⟨heap_below hb h.tbl (lt_of_heap h.tbl), h.sl.below hb⟩
theorem TabR.cell {W : World} {tb : Nat} {sp : Option Addr} {n cap : Nat} {ps : Ps} (h : TabR W tb sp n cap ps) : W.cell? ⟨tb, 0, none⟩ = some (.slice sp n cap) := blk_cell h.tbl rfl
theorem mat_any (tb : Nat) (sp : Option Addr) (n cap : Nat) (ps : Ps) (key : Nat) (w : World) (h : TabR w tb sp n cap ps) (hup : upB ps = true) (hn : n ≤ 4096) :
    Calls Tryd.prog 70 #[.pointer (some ⟨tb, 0, none⟩), .int .u64 (key : Int)] w fun e w' => e = .returned (.tuple #[.int .i64 (posP ps key), .bool (hasP ps key)]) ∧ Below w.heap.size w w' := by
  have c := h.cell
  have P := mplace_any sp n cap ps key w h.sl hup hn
  have h'h := Lib.hid h
  have hup'h := Lib.hid hup
  have P'h := Lib.hid P
  clear h hup P
  go_enter Tryd.func70, Tryd.ntmps70
  go_wp2_with (go_at_call 83; refine P'h.out.mono ?_; rintro e w2 ⟨rfl, hb2⟩)
  go_ret2
  exact ⟨rfl, hb2⟩
/-- An answer to a key. -/
def anK (ps : Ps) (key : Nat) : An := ⟨0, (getS ps key).getD 0, hasP ps key⟩
theorem info_an : (Tryd.prog.info? 34).map (·.size) = some 4 := by kernel_rfl
theorem anA_one (a : An) (sp : Option Addr) (n cap : Nat) : (anA a sp n cap).all (·.oneCell') = true := by unfold anA; kernel_rfl
set_option maxHeartbeats 1000000 in
theorem mget_any (tb : Nat) (sp : Option Addr) (n cap : Nat) (ps : Ps) (key : Nat) (w : World) (h : TabR w tb sp n cap ps) (hup : upB ps = true) (hn : n ≤ 4096) :
    Calls Tryd.prog 68 #[.pointer (some ⟨tb, 0, none⟩), .int .u64 (key : Int)] w fun e w' => e = .returned (.agg (anA (anK ps key) none 0 0)) ∧ Below w.heap.size w w' := by
  have hB : Below w.heap.size w (w.alloc (.cells (anA ⟨0, 0, false⟩ none 0 0) 34)) := (Below.refl _ _).alloc (Nat.le_refl _) _
  have h1 := h.below hB
  have A := mat_any tb sp n cap ps key _ h1 hup hn
  have H1 := (Hs.nil w).new (anA ⟨0, 0, false⟩ none 0 0) 34
  have hh := hasP_pos ps key
  have hg := getS_pos ps key
  by_cases hp : posP ps key < ps.length ∧ (nthP ps (posP ps key)).1 = key
  · have e1 : hasP ps key = true := by rw [hh]; simp [hp.1, hp.2]
    have e2 : (getS ps key).getD 0 = (nthP ps (posP ps key)).2 := by rw [hg, if_pos hp]; rfl
    have hr : anK ps key = ⟨0, (nthP ps (posP ps key)).2, true⟩ := by unfold anK; rw [e1, e2]
    rw [e1] at A
    have hn' := prs_len h.sl
    obtain ⟨b, off, rfl⟩ := prs_some h.sl (by omega)
    have hpl := hp.1
    obtain ⟨v, hv⟩ : ∃ v, v = (nthP ps (posP ps key)).2 := ⟨_, rfl⟩
    rw [hr, ← hv]
    clear hg hh e1 e2 hr hp
    generalize posP ps key = k at *
    have i1 : (k : Int) < (n : Int) := by omega
    have i2 : (0 : Int) ≤ (k : Int) := by omega
    have h'h := Lib.hid h
    have hup'h := Lib.hid hup
    have hB'h := Lib.hid hB
    have h1'h := Lib.hid h1
    have A'h := Lib.hid A
    have H1'h := Lib.hid H1
    have hv'h := Lib.hid hv
    clear h hup hB h1 A H1 hv
    go_enter Tryd.func68, Tryd.ntmps68
    go_upto_region 4 with (go_at_call 70; refine A'h.out.mono ?_; rintro e w2 ⟨rfl, hb2⟩)
    have hT := h1'h.out.below hb2
    have H2 := H1'h.out.next hb2
    have c := hT.cell
    obtain ⟨c1, c2⟩ := prs_cells hT.sl hpl
    rw [← hv'h.out] at c2
    clear c1
    have hT'h := Lib.hid hT
    have H2'h := Lib.hid H2
    clear hT H2
    go_wp2_with (refine wpList_store_row rfl _ _ _ rfl w.heap.size (anA ⟨0, v, true⟩ none 0 0) rfl rfl 34 _ H2'h.out.rows.1 info_an rfl (anA_one _ _ _ _) ?_)
    have H3 := H2'h.out.set 0 rfl (anA ⟨0, v, true⟩ none 0 0)
    generalize World.setRow _ _ _ = W3 at H3 ⊢
    have x0 := blk_cell (i := 0) H3.rows.1 rfl
    have x1 := blk_cell (i := 1) H3.rows.1 rfl
    have x2 := blk_cell (i := 2) H3.rows.1 rfl
    have x3 := blk_cell (i := 3) H3.rows.1 rfl
    refine bodyPost_ret (v := .agg (anA ⟨0, v, true⟩ none 0 0)) ?_ rfl ⟨rfl, H3.old⟩
    simp [results, Tryd.results68, go_sem, x0, x1, x2, x3, anA]
  · have e1 : hasP ps key = false := by
      unfold hasP; rw [hg, if_neg hp]; rfl
    have e2 : (getS ps key).getD 0 = 0 := by rw [hg, if_neg hp]; rfl
    have hr : anK ps key = ⟨0, 0, false⟩ := by unfold anK; rw [e1, e2]
    rw [e1] at A
    rw [hr]
    clear hg hh e1 e2 hr hp
    have h'h := Lib.hid h
    have hup'h := Lib.hid hup
    have hB'h := Lib.hid hB
    have h1'h := Lib.hid h1
    have A'h := Lib.hid A
    have H1'h := Lib.hid H1
    clear h hup hB h1 A H1
    go_enter Tryd.func68, Tryd.ntmps68
    go_upto_region 3 with (go_at_call 70; refine A'h.out.mono ?_; rintro e w2 ⟨rfl, hb2⟩)
    have H2 := H1'h.out.next hb2
    have H2'h := Lib.hid H2
    clear H2
    go_wp2_with (refine wpList_store_row rfl _ _ _ rfl w.heap.size (anA ⟨0, 0, false⟩ none 0 0) rfl rfl 34 _ H2'h.out.rows.1 info_an rfl (anA_one _ _ _ _) ?_)
    have H3 := H2'h.out.set 0 rfl (anA ⟨0, 0, false⟩ none 0 0)
    generalize World.setRow _ _ _ = W3 at H3 ⊢
    have x0 := blk_cell (i := 0) H3.rows.1 rfl
    have x1 := blk_cell (i := 1) H3.rows.1 rfl
    have x2 := blk_cell (i := 2) H3.rows.1 rfl
    have x3 := blk_cell (i := 3) H3.rows.1 rfl
    refine bodyPost_ret (v := .agg (anA ⟨0, 0, false⟩ none 0 0)) ?_ rfl ⟨rfl, H3.old⟩
    simp [results, Tryd.results68, go_sem, x0, x1, x2, x3, anA]
theorem mcheck_yes (sp : Option Addr) (n cap : Nat) (ps : Ps) (w : World) (h : SlK w 2 sp n (prs ps)) (hup : upB ps = true) :
    Calls Tryd.prog 25 #[.agg #[.slice sp n cap]] w fun e w' => e = .returned (.int .i64 0) ∧ Below w.heap.size w w' := by
  have := mcheck_any sp n cap ps w h
  rw [hup] at this
  exact this
theorem mcheck_no (sp : Option Addr) (n cap : Nat) (ps : Ps) (w : World) (h : SlK w 2 sp n (prs ps)) (hup : upB ps = false) :
    Calls Tryd.prog 25 #[.agg #[.slice sp n cap]] w fun e w' => e = .returned (.int .i64 340) ∧ Below w.heap.size w w' := by
  have := mcheck_any sp n cap ps w h
  rw [hup] at this
  exact this
set_option maxHeartbeats 1000000 in
theorem mGet_no (sp : Option Addr) (n cap : Nat) (ps : Ps) (key : Nat) (w : World) (h : SlK w 2 sp n (prs ps)) (hup : upB ps = false) :
    Calls Tryd.prog 77 #[.agg #[.slice sp n cap], .int .u64 (key : Int)] w fun e w' => e = .returned (.tuple #[.int .u64 0, .bool false]) ∧ Below w.heap.size w w' := by
  have hB : Below w.heap.size w (w.alloc (.cells #[.slice sp n cap] 28)) := (Below.refl _ _).alloc (Nat.le_refl _) _
  have C := mcheck_no sp n cap ps _ (h.below hB) hup
  have h'h := Lib.hid h
  have hB'h := Lib.hid hB
  have C'h := Lib.hid C
  clear h hB C
  go_enter Tryd.func77, Tryd.ntmps77
  go_wp2_with (go_at_call 25; refine C'h.out.mono ?_; rintro e w2 ⟨rfl, hb2⟩)
  go_ret2
  exact ⟨rfl, below_next hB'h.out hb2⟩
set_option maxHeartbeats 1000000 in
theorem mGet_yes (sp : Option Addr) (n cap : Nat) (ps : Ps) (key : Nat) (w : World) (h : SlK w 2 sp n (prs ps)) (hup : upB ps = true) (hn : n ≤ 4096) :
    Calls Tryd.prog 77 #[.agg #[.slice sp n cap], .int .u64 (key : Int)] w fun e w' => e = .returned (.tuple #[.int .u64 (((getS ps key).getD 0 : Nat) : Int), .bool (hasP ps key)]) ∧ Below w.heap.size w w' := by
  have hB : Below w.heap.size w (w.alloc (.cells #[.slice sp n cap] 28)) := (Below.refl _ _).alloc (Nat.le_refl _) _
  have C := mcheck_yes sp n cap ps _ (h.below hB) hup
  have H0 := (Hs.nil w).new #[.slice sp n cap] 28
  obtain ⟨v, hv⟩ : ∃ v, v = (getS ps key).getD 0 := ⟨_, rfl⟩
  obtain ⟨d, hd⟩ : ∃ d, d = hasP ps key := ⟨_, rfl⟩
  have hk : anK ps key = ⟨0, v, d⟩ := by unfold anK; rw [hv, hd]
  rw [← hv, ← hd]
  have h'h := Lib.hid h
  have hB'h := Lib.hid hB
  have C'h := Lib.hid C
  have hup'h := Lib.hid hup
  have H0'h := Lib.hid H0
  have hv'h := Lib.hid hv
  have hd'h := Lib.hid hd
  have hk'h := Lib.hid hk
  clear h hB C hup H0 hv hd hk
  go_enter Tryd.func77, Tryd.ntmps77
  go_upto_region 3 with (go_at_call 25; refine C'h.out.mono ?_; rintro e w2 ⟨rfl, hb2⟩)
  have H2 := H0'h.out.next hb2
  have x0 : w2.cell? ⟨w.heap.size, 0, none⟩ = some (.slice sp n cap) := blk_cell H2.rows.1 rfl
  have H3 := H2.new #[.slice sp n cap] 66
  have hT : TabR (w2.alloc (.cells #[.slice sp n cap] 66)) w2.heap.size sp n cap ps := ⟨H3.rows.1, h'h.out.below H3.old⟩
  have G := mget_any _ sp n cap ps key _ hT hup'h.out hn
  rw [hk'h.out] at G
  have H2'h := Lib.hid H2
  have H3'h := Lib.hid H3
  have hT'h := Lib.hid hT
  have G'h := Lib.hid G
  clear H2 H3 hT G
  go_upto_region 4 with (first | (go_at_call 68; refine G'h.out.mono ?_; rintro e w4 ⟨rfl, hb4⟩) | (refine wpList_store_row rfl _ _ _ rfl w4.heap.size (anA ⟨0, v, d⟩ none 0 0) rfl rfl 34 _ (World.alloc_heap_new _ _) info_an rfl (anA_one _ _ _ _) ?_))
  clear x0
  have H4 := ((H3'h.out.next hb4).new (anA ⟨0, 0, false⟩ none 0 0) 34).set 0 rfl (anA ⟨0, v, d⟩ none 0 0)
  change Code.wp _ _ _ _ ((w4.alloc (.cells (anA ⟨0, 0, false⟩ none 0 0) 34)).setRow w4.heap.size (anA ⟨0, v, d⟩ none 0 0))
  generalize World.setRow _ _ _ = W4 at H4 ⊢
  have y1 := blk_cell (i := 1) H4.rows.1 rfl
  have y2 := blk_cell (i := 2) H4.rows.1 rfl
  have y1' : ∀ q, (W4.drewN q).cell? ⟨w4.heap.size, 1, none⟩ = some (.int .u64 (v : Int)) := fun q => y1
  have y2' : ∀ q, (W4.drewN q).cell? ⟨w4.heap.size, 2, none⟩ = some (.bool d) := fun q => y2
  clear y1 y2
  have H4'h := Lib.hid H4
  clear H4
  go_quiet (fail)
  go_wp2
  go_ret2
  exact ⟨rfl, (H4'h.out.drewN nq).old⟩
end Go.Proofs.YtogeohjeabbmaaaDoor

/-
  Rows of pairs: append, and slices.Insert.
-/
set_option linter.unusedSimpArgs false
set_option linter.unusedVariables false
set_option maxRecDepth 100000
namespace Go.Proofs.YtogeohjeabbmaaaDoor
open Go.RowKit

theorem info_pair : (Tryd.prog.info? 72).map (fun i => (i.zero, i.size, i.bytes)) = some (some (.agg #[.int .u64 0, .int .u64 0]), 2, 16) := by kernel_rfl
theorem info_pair2 : (Tryd.prog.info? 72).map (·.size) = some 2 := by kernel_rfl
theorem add_lit' (b off j : Nat) : (⟨b, off, none⟩ : Addr).add j = ⟨b, off + j, none⟩ := by unfold Addr.add; split <;> simp_all
/-- All but the row's block lies as it lay. -/
def KeptR (sp : Option Addr) (W W' : World) : Prop := Kept (fun b => sp.map (·.block) ≠ some b) W W'
theorem rowP_append (B : Nat) (sp : Option Addr) (n cap : Nat) (ps ns : Ps) (A : Option Addr) (m c : Nat) (w : World) (h : RowP w B sp n cap ps) (hA : SlK w 2 A m (prs ns)) (hm : 0 < m) (hB : B ≤ w.heap.size) (hn : n + m ≤ 8192) :
    ∃ sp' cap' w', (∀ ty, (Builtin.append_ #[26, 26] ty #[.slice sp n cap, .slice A m c]).run Tryd.prog w = .ok (.slice sp' (n + m) cap') w') ∧ RowP w' B sp' (n + m) cap' (ps ++ ns) ∧ KeptR sp w w' ∧
      (sp' = sp ∨ sp' = some ⟨w.heap.size, 0, none⟩) := by
  obtain ⟨i0, hi, hz0, hz1, hz2⟩ := info_parts info_pair
  obtain ⟨ab, aoff, rfl, hcs⟩ := hA.some' hm
  have hml := prs_len hA
  have hnews : ∀ j u, (prs ns)[j]? = some u → w.cell? ((⟨ab, aoff, none⟩ : Addr).add j) = some u := fun j u hu => by rw [add_lit']; exact hcs j u hu
  have hnl : (prs ns).length = m * i0.size := by rw [prs_length, hz1, hml]
  have hlen := h.len
  rcases h.row with ⟨rfl, rfl⟩ | ⟨g, cur, rfl, hg, hh, hsz, ht⟩
  · have h0 : n = 0 := by have := h.le; omega
    subst h0
    have hps : ps = [] := List.eq_nil_of_length_eq_zero hlen.symm
    subst hps
    refine ⟨_, _, _, fun ty => by rw [Nat.zero_add]; exact run_append_nil w _ ty _ i0 _ Tryd.underlying26 hi hz0 _ m c _ hnl hnews hm (by omega) (by rw [hz2]; omega), ?_, ?_, .inr rfl⟩
    · refine ⟨by simp; omega, by rw [Nat.zero_add]; exact grownCap_ge _ _ _ _, grownCap_le_maxLen _ _ _ _ (by unfold maxLen; omega), .inr ⟨_, _, rfl, hB, World.alloc_heap_new _ _, ?_, ?_⟩⟩
      · rw [Array.size_append, size_zeroCells]
        have := grownCap_ge w m 0 72
        simp [prs_length, Value.cells]; omega
      · rw [List.nil_append, Array.toList_append, Nat.zero_add]
        rw [List.take_append_of_le_length (by simp [prs_length]; omega)]
        exact List.take_of_length_le (by simp [prs_length]; omega)
    · exact Kept.of_below ((Below.drew (Below.refl _ _)).alloc (Nat.le_refl _) _)
  · have hol : (prs ps).length = n * i0.size := by rw [prs_length, hz1, hlen]
    by_cases hroom : n + m ≤ cap
    · have hfit : n * i0.size + (prs ns).length ≤ cur.size := by rw [hnl, hz1]; omega
      refine ⟨_, _, _, fun ty => run_append_room w _ ty _ i0 Tryd.underlying26 hi g n cap cur hh _ m c _ hnl hnews (prs_one _) hroom hfit, ?_, ?_, .inl rfl⟩
      · refine ⟨by simp; omega, hroom, h.lim, .inr ⟨g, _, rfl, hg, setRow_heap _ _ _ _ _ _ hh, ?_, ?_⟩⟩
        · simp only [List.size_toArray, List.length_append, List.length_take, List.length_drop, Array.length_toList]
          rw [hnl, hz1]; omega
        · rw [hz1, ht, prs_append]
          have e : ((n + m) * 2) = (prs ps ++ prs ns).length := by rw [List.length_append, prs_length, prs_length]; omega
          rw [e]
          exact List.take_left' rfl
      · exact ⟨rfl, rfl, rfl, by simp, fun b _ hb => setRow_other _ _ _ _ (fun e => hb (by rw [e]; rfl))⟩
    · have holds : ∀ j v, (prs ps)[j]? = some v → w.cell? ((⟨g, 0, none⟩ : Addr).add j) = some v := fun j v hv => by
        rw [add_lit']; exact h.sl.cell hv
      refine ⟨_, _, _, fun ty => run_append_grow w _ ty _ i0 _ Tryd.underlying26 hi hz0 _ n cap _ hol holds _ m c _ hnl hnews (by omega) (by omega) (growslice_fits (by omega) (by rw [hz2]; omega)), ?_, ?_, .inr rfl⟩
      · refine ⟨by simp; omega, grownCap_ge _ _ _ _, grownCap_le_maxLen _ _ _ _ (by unfold maxLen; omega), .inr ⟨_, _, rfl, hB, World.alloc_heap_new _ _, ?_, ?_⟩⟩
        · rw [Array.size_append, size_zeroCells]
          have := grownCap_ge w (n + m) cap 72
          simp [prs_length, Value.cells]; omega
        · have e3 : ((prs ps).toArray ++ (prs ns).toArray).toList = prs ps ++ prs ns := by simp
          rw [Array.toList_append, e3, ← prs_append, List.take_append_of_le_length (by rw [prs_length, List.length_append]; omega)]
          exact List.take_of_length_le (by rw [prs_length, List.length_append]; omega)
      · exact Kept.of_below ((Below.drew (Below.refl _ _)).alloc (Nat.le_refl _) _)
theorem hrow_ins {ps : Ps} {i : Nat} {k v : Nat} : (ps.take i ++ (k, v) :: ps.drop i).length = ps.length + 1 := by
  simp; omega
set_option maxHeartbeats 1000000 in
theorem insert_end (B : Nat) (sp : Option Addr) (n cap : Nat) (ps : Ps) (k v vb : Nat) (w : World) (h : RowP w B sp n cap ps) (hv : SlK w 2 (some ⟨vb, 0, none⟩) 1 (prs [(k, v)])) (hB : B ≤ w.heap.size) (hn : n ≤ 4096) :
    Calls Tryd.prog 82 #[.slice sp n cap, .int .i64 n, .slice (some ⟨vb, 0, none⟩) 1 1] w fun e w' => ∃ sp' cap', e = .returned (.slice sp' (n + 1) cap') ∧ RowP w' B sp' (n + 1) cap' (ps ++ [(k, v)]) ∧ KeptR sp w w' ∧
      (sp' = sp ∨ sp' = some ⟨w.heap.size, 0, none⟩) := by
  obtain ⟨sp', cap', w', hr, hR, hK, hs⟩ := rowP_append B sp n cap ps [(k, v)] _ 1 1 w h hv (by omega) hB (by omega)
  have hle := h.le
  have hlim := h.lim
  unfold maxLen at hlim
  have q1 : (n : Int) ≤ (cap : Int) := by omega
  have hr'h := Lib.hid hr
  have hR'h := Lib.hid hR
  have hK'h := Lib.hid hK
  have hs'h := Lib.hid hs
  have h'h := Lib.hid h
  have hv'h := Lib.hid hv
  clear hr hR hK hs h hv
  go_enter Tryd.func82, Tryd.ntmps82
  cases sp with
  | none =>
    go_wp2_with (at_builtin; refine Lib.wpList_append_run _ rfl _ _ _ _ rfl _ _ rfl rfl _ _ (hr'h.out _) ?_)
    all_goals
      go_ret
      exact ⟨sp', cap', rfl, hR'h.out, hK'h.out, hs'h.out⟩
  | some a =>
    obtain ⟨ab, ao, asp⟩ := a
    go_wp2_with (at_builtin; refine Lib.wpList_append_run _ rfl _ _ _ _ rfl _ _ rfl rfl _ _ (hr'h.out _) ?_)
    all_goals
      go_ret
      exact ⟨sp', cap', rfl, hR'h.out, hK'h.out, hs'h.out⟩
set_option maxHeartbeats 2000000 in
theorem insert_mid (B : Nat) (sp : Option Addr) (n cap i : Nat) (ps : Ps) (k v vb : Nat) (w : World) (h : RowP w B sp n cap ps) (hv : SlK w 2 (some ⟨vb, 0, none⟩) 1 (prs [(k, v)])) (hB : B ≤ w.heap.size) (hn : n ≤ 4096) (hi : i < n) (hc : cap < n + 1) :
    Calls Tryd.prog 82 #[.slice sp n cap, .int .i64 i, .slice (some ⟨vb, 0, none⟩) 1 1] w fun e w' => ∃ sp' cap', e = .returned (.slice sp' (n + 1) cap') ∧ RowP w' B sp' (n + 1) cap' (ps.take i ++ (k, v) :: ps.drop i) ∧ KeptR sp w w' ∧
      (sp' = sp ∨ sp' = some ⟨w.heap.size, 0, none⟩) := by
  obtain ⟨i0, hi0, hz0, hz1, hz2⟩ := info_parts info_pair
  have hle := h.le
  have hlen := h.len
  have hcap : cap = n := by omega
  subst hcap
  obtain ⟨g, cur, rfl, hg, hh, hsz, ht⟩ : ∃ g cur, sp = some ⟨g, 0, none⟩ ∧ B ≤ g ∧ w.heap[g]? = some (.cells cur 72 (0, 0)) ∧ cap * 2 ≤ cur.size ∧ cur.toList.take (cap * 2) = prs ps := by
    rcases h.row with ⟨_, h0⟩ | h
    · omega
    · exact h
  obtain ⟨j, hj⟩ : ∃ j, j = cap + 1 - i := ⟨_, rfl⟩
  have hji : i + j = cap + 1 := by omega
  -- the zeros behind the first i
  have hol : (prs (ps.take i)).length = i * i0.size := by rw [prs_length, hz1, List.length_take]; omega
  have holds : ∀ q u, (prs (ps.take i))[q]? = some u → w.cell? ((⟨g, 0, none⟩ : Addr).add q) = some u := fun q u hu => by
    rw [add_lit']
    refine h.sl.cell ?_
    rw [← prs_take, List.getElem?_take] at hu
    split at hu
    · exact hu
    · cases hu
  have r1 := fun ty => run_append_zeros_grow w 26 3 ty _ i0 _ .i64 .i64 Tryd.underlying26 Tryd.underlying3 hi0 hz0 ⟨g, 0, none⟩ i cap _ hol holds j (by omega) (by omega) (by omega) (by omega) (by rw [hz2]; omega) (growslice_fits (by omega) (by rw [hz2]; omega))
  rw [hji] at r1
  obtain ⟨gc, hgc⟩ : ∃ gc, gc = grownCap w (cap + 1) cap 72 := ⟨_, rfl⟩
  have hgc1 : cap + 1 ≤ gc := by rw [hgc]; exact grownCap_ge _ _ _ _
  have hgc2 : gc ≤ maxLen := by rw [hgc]; exact grownCap_le_maxLen _ _ _ _ (by unfold maxLen; omega)
  rw [← hgc] at r1
  obtain ⟨C1, hC1⟩ : ∃ C1, C1 = (prs (ps.take i)).toArray ++ Builtin.zeroCells (Value.agg #[.int .u64 0, .int .u64 0]).cells j ++ Builtin.zeroCells (Value.agg #[.int .u64 0, .int .u64 0]).cells (gc - (cap + 1)) := ⟨_, rfl⟩
  rw [← hC1] at r1
  have hC1s : C1.size = gc * 2 := by
    rw [hC1, Array.size_append, Array.size_append, size_zeroCells, size_zeroCells]
    simp [prs_length, Value.cells]; omega
  have hC1t : C1.toList.take (i * 2) = prs (ps.take i) := by
    rw [hC1, Array.toList_append, Array.toList_append, List.append_assoc, List.take_append_of_le_length (by simp [prs_length]; omega)]
    exact List.take_of_length_le (by simp [prs_length]; omega)
  obtain ⟨W1, hW1⟩ : ∃ W1, W1 = w.drew.alloc (.cells C1 72) := ⟨_, rfl⟩
  rw [← hW1] at r1
  have hb1 : Below w.heap.size w W1 := by rw [hW1]; exact (Below.drew (Below.refl _ _)).alloc (Nat.le_refl _) _
  have hg1 : W1.heap[w.heap.size]? = some (.cells C1 72 (0, 0)) := by rw [hW1]; exact World.alloc_heap_new _ _
  have r2 := fun ty dc sc => run_copy_rowk W1 26 26 ty 72 2 w.heap.size (i * 2) (cap + 1 - i) dc ⟨vb, 0, none⟩ 1 sc C1 _ (prs [(k, v)]) Tryd.underlying26 info_pair2 hg1 (by rw [prs_length]; show 1 * 2 = min 1 (cap + 1 - i) * 2; rw [Nat.min_eq_left (by omega)]) (fun q u hu => by rw [add_lit']; exact (hv.below hb1).cell hu) (by rw [prs_length, hC1s]; simp; omega) (prs_one _)
  obtain ⟨C2, hC2⟩ : ∃ C2, C2 = (C1.toList.take (i * 2) ++ prs [(k, v)] ++ C1.toList.drop (i * 2 + (prs [(k, v)]).length)).toArray := ⟨_, rfl⟩
  rw [← hC2] at r2
  rw [hC1t] at hC2
  have hC2s : C2.size = gc * 2 := by
    rw [hC2]
    simp only [List.size_toArray, List.length_append, List.length_drop, Array.length_toList, prs_length, List.length_take, hC1s, List.length_cons, List.length_nil]
    omega
  have hC2t : C2.toList.take ((i + 1) * 2) = prs (ps.take i ++ [(k, v)]) := by
    rw [hC2, prs_append]
    have e : (i + 1) * 2 = (prs (ps.take i) ++ prs [(k, v)]).length := by rw [List.length_append, prs_length, prs_length, List.length_take]; simp; omega
    rw [e]
    exact List.take_left' rfl
  obtain ⟨W2, hW2⟩ : ∃ W2, W2 = W1.setRow w.heap.size C2 := ⟨_, rfl⟩
  rw [← hW2] at r2
  have hg2 : W2.heap[w.heap.size]? = some (.cells C2 72 (0, 0)) := by rw [hW2]; exact setRow_heap _ _ _ _ _ _ hg1
  have hb2 : Below w.heap.size w W2 := by rw [hW2]; exact below_setRow' hb1 (Nat.le_refl _) _
  have hdl : (prs (ps.drop i)).length = (cap - i) * 2 := by rw [prs_length, List.length_drop, ← hlen]
  have hsrc : ∀ q u, (prs (ps.drop i))[q]? = some u → W2.drew.cell? ((⟨g, i * 2, none⟩ : Addr).add q) = some u := fun q u hu => by
    rw [add_lit']
    have e : (prs ps)[i * 2 + q]? = some u := by
      have : prs ps = prs (ps.take i) ++ prs (ps.drop i) := by rw [← prs_append, List.take_append_drop]
      rw [this, List.getElem?_append_right (by rw [prs_length, List.length_take]; omega), prs_length, List.length_take, show i * 2 + q - min i ps.length * 2 = q by omega]
      exact hu
    have := (h.sl.below hb2).cell e
    rw [Nat.zero_add] at this
    exact this
  have r3 := fun ty dc sc => run_copy_rowk W2.drew 26 26 ty 72 2 w.heap.size ((i + 1) * 2) (cap + 1 - (i + 1)) dc ⟨g, i * 2, none⟩ (cap - i) sc C2 _ (prs (ps.drop i)) Tryd.underlying26 info_pair2 hg2 (by rw [hdl]; show (cap - i) * 2 = min (cap - i) (cap + 1 - (i + 1)) * 2; rw [Nat.min_eq_left (by omega)]) hsrc (by rw [hdl, hC2s]; omega) (prs_one _)
  obtain ⟨C3, hC3⟩ : ∃ C3, C3 = (C2.toList.take ((i + 1) * 2) ++ prs (ps.drop i) ++ C2.toList.drop ((i + 1) * 2 + (prs (ps.drop i)).length)).toArray := ⟨_, rfl⟩
  rw [← hC3] at r3
  rw [hC2t, ← prs_append] at hC3
  obtain ⟨W3, hW3⟩ : ∃ W3, W3 = W2.drew.setRow w.heap.size C3 := ⟨_, rfl⟩
  rw [← hW3] at r3
  have hg3 : W3.heap[w.heap.size]? = some (.cells C3 72 (0, 0)) := by rw [hW3]; exact setRow_heap _ _ _ _ _ _ (show W2.drew.heap[w.heap.size]? = _ from hg2)
  have hb3 : Below w.heap.size w W3 := by rw [hW3]; exact below_setRow' (Below.drew hb2) (Nat.le_refl _) _
  have hR : RowP W3 B (some ⟨w.heap.size, 0, none⟩) (cap + 1) gc (ps.take i ++ (k, v) :: ps.drop i) := by
    refine ⟨by rw [hrow_ins]; omega, hgc1, hgc2, .inr ⟨_, C3, rfl, hB, hg3, ?_, ?_⟩⟩
    · rw [hC3]
      simp only [List.size_toArray, List.length_append, List.length_drop, Array.length_toList, prs_length, List.length_take, hC2s, List.length_cons, List.length_nil, List.length_drop]
      omega
    · rw [hC3]
      have e : ps.take i ++ [(k, v)] ++ ps.drop i = ps.take i ++ (k, v) :: ps.drop i := by simp
      have e2 : (cap + 1) * 2 = (prs (ps.take i ++ [(k, v)] ++ ps.drop i)).length := by rw [e, prs_length, hrow_ins]; omega
      rw [e2, ← e]
      exact List.take_left' rfl
  have hK : KeptR (some ⟨g, 0, none⟩) w W3 := Kept.of_below hb3
  have q0 : (i : Int) < (cap : Int) := by omega
  have q1 : (cap : Int) + 1 - (i : Int) = (j : Int) := by omega
  have q2 : ¬ ((i : Int) == (cap : Int)) = true := by simp; omega
  have q3 : ((i : Int) == (cap : Int)) = false := by simp; omega
  have q4 : (cap : Int) + 1 ≤ (gc : Int) := by omega
  have q5 : ¬ gc = i := by omega
  have q6 : ¬ cap = i := by omega
  have q7 : ¬ gc = i + 1 := by omega
  have hcl : (cap : Int) ≤ 4096 := by omega
  clear hC1 hC2 hC3 hW1 hW2 hW3 hsrc holds hol hdl hC1s hC1t hC2s hC2t hgc hsz ht
  have h'h := Lib.hid h
  have hv'h := Lib.hid hv
  have hh'h := Lib.hid hh
  have r1'h := Lib.hid r1
  have r2'h := Lib.hid r2
  have r3'h := Lib.hid r3
  have hR'h := Lib.hid hR
  have hK'h := Lib.hid hK
  have hg'h := Lib.hid hg
  have hb1'h := Lib.hid hb1
  have hb2'h := Lib.hid hb2
  have hb3'h := Lib.hid hb3
  have hg1'h := Lib.hid hg1
  have hg2'h := Lib.hid hg2
  have hg3'h := Lib.hid hg3
  have hj'h := Lib.hid hj
  have hji'h := Lib.hid hji
  have hgc2'h := Lib.hid hgc2
  have hlen'h := Lib.hid hlen
  clear h hv hh r1 r2 r3 hR hK hg hb1 hb2 hb3 hg1 hg2 hg3 hj hji hgc2 hlen
  go_enter Tryd.func82, Tryd.ntmps82
  go_upto_region 10 with (at_builtin; refine Lib.wpList_append_run _ rfl _ _ _ _ rfl _ _ rfl rfl _ _ (r1'h.out _) ?_)
  go_upto_region 11 with (refine wpList_copy_run' _ rfl _ _ 26 26 rfl _ _ rfl rfl (r2'h.out _ _ _) ?_)
  have s1 : IntKind.i64.wrap ((i : Int) + 1) = (i : Int) + 1 := IntWalk.i64_in _ (by omega)
  have s2 : (0 : Int) ≤ (i : Int) + 1 := by omega
  have s3 : ((i : Int) + 1).toNat = i + 1 := by omega
  have s4 : (i : Int) + 1 ≤ (cap : Int) + 1 := by omega
  have s5 : (0 : Int) ≤ (i : Int) := by omega
  have s6 : (i : Int) ≤ (cap : Int) := by omega
  go_region_held3 (fun _ => True) (trivial) (refine step_copy_run' rfl _ _ 26 26 rfl _ _ (by simp [Act.eval, Act.put]; rfl) (by simp [Act.eval, Act.put]; rfl) (r3'h.out _ _ _) ?_)
  go_wp2
  go_ret
  exact ⟨_, gc, rfl, hR'h.out, hK'h.out, .inr rfl⟩
end Go.Proofs.YtogeohjeabbmaaaDoor

/-
  Package model: copies of rows; tables made of maps.
-/
set_option linter.unusedSimpArgs false
set_option linter.unusedVariables false
set_option maxRecDepth 100000
namespace Go.Proofs.YtogeohjeabbmaaaDoor
open Go.RowKit

set_option maxHeartbeats 1000000 in
theorem mown_any (sp : Option Addr) (n cap : Nat) (ps : Ps) (w : World) (h : SlK w 2 sp n (prs ps)) (hn : n ≤ 4096) :
    Calls Tryd.prog 44 #[.slice sp n cap] w fun e w' => e = .returned (.slice (some ⟨w.heap.size, 0, none⟩) n n) ∧ Below w.heap.size w w' ∧ RowP w' w.heap.size (some ⟨w.heap.size, 0, none⟩) n n ps := by
  obtain ⟨i0, hi, hz0, hz1, hz2⟩ := info_parts info_pair
  have hlen := prs_len h
  have mk := run_make_rowk (P := Tryd.prog) 26 72 i0 _ Tryd.underlying26 hi hz0 .i64 .i64 n (by unfold maxLen; omega) (by rw [hz2]; omega) w
  obtain ⟨C, hC⟩ : ∃ C, C = madeCells (Value.agg #[.int .u64 0, .int .u64 0]).cells (n * i0.size) := ⟨_, rfl⟩
  have hCs : C.size = n * 2 := by rw [hC, size_madeCells, hz1]
  rw [← hC] at mk
  obtain ⟨W1, hW1⟩ : ∃ W1, W1 = w.alloc (.cells C 72) := ⟨_, rfl⟩
  rw [← hW1] at mk
  have hb1 : Below w.heap.size w W1 := by rw [hW1]; exact (Below.refl _ _).alloc (Nat.le_refl _) _
  have hg1 : W1.heap[w.heap.size]? = some (.cells C 72 (0, 0)) := by rw [hW1]; exact World.alloc_heap_new _ _
  by_cases h0 : n = 0
  · subst h0
    have hps : ps = [] := List.eq_nil_of_length_eq_zero hlen.symm
    have cp := fun ty dc sc => run_copy_none_k W1 26 26 ty 72 (some ⟨w.heap.size, 0, none⟩) sp 0 dc 0 sc 2 Tryd.underlying26 info_pair2 rfl
    have hR : RowP W1 w.heap.size (some ⟨w.heap.size, 0, none⟩) 0 0 ps := ⟨hlen, Nat.le_refl _, by decide, .inr ⟨_, C, rfl, Nat.le_refl _, hg1, by omega, by rw [hps]; simp [prs]⟩⟩
    simp only [show ((0 : Nat) : Int) = 0 from rfl] at mk
    clear hC hW1
    have h'h := Lib.hid h
    have hlen'h := Lib.hid hlen
    have hb1'h := Lib.hid hb1
    have hg1'h := Lib.hid hg1
    have cp'h := Lib.hid cp
    have hR'h := Lib.hid hR
    have hi'h := Lib.hid hi
    have hz0'h := Lib.hid hz0
    have hz1'h := Lib.hid hz1
    have hz2'h := Lib.hid hz2
    have hCs'h := Lib.hid hCs
    clear h hlen hb1 hg1 cp hR hi hz0 hz1 hz2 hCs
    go_enter Tryd.func44, Tryd.ntmps44
    go_upto_region 2 with fail
    clear mk
    go_wp2_with (refine wpList_copy_run' _ rfl _ _ 26 26 rfl _ _ rfl rfl (cp'h.out _ _ _) ?_)
    go_ret
    exact ⟨rfl, hb1'h.out, hR'h.out⟩
  · obtain ⟨b, off, rfl⟩ := prs_some h (by omega)
    have hpl : (prs ps).length = n * 2 := by rw [prs_length, ← hlen]
    have cp := fun ty dc sc => run_copy_rowk W1 26 26 ty 72 2 w.heap.size 0 n dc ⟨b, off, none⟩ n sc C _ (prs ps) Tryd.underlying26 info_pair2 hg1 (by rw [hpl]; show n * 2 = min n n * 2; rw [Nat.min_self]) (fun q u hu => by rw [add_lit']; exact (h.below hb1).cell hu) (by rw [hpl, hCs]; omega) (prs_one _)
    obtain ⟨C2, hC2⟩ : ∃ C2, C2 = (C.toList.take 0 ++ prs ps ++ C.toList.drop (0 + (prs ps).length)).toArray := ⟨_, rfl⟩
    rw [← hC2] at cp
    obtain ⟨W2, hW2⟩ : ∃ W2, W2 = W1.setRow w.heap.size C2 := ⟨_, rfl⟩
    rw [← hW2] at cp
    have hg2 : W2.heap[w.heap.size]? = some (.cells C2 72 (0, 0)) := by rw [hW2]; exact setRow_heap _ _ _ _ _ _ hg1
    have hb2 : Below w.heap.size w W2 := by rw [hW2]; exact below_setRow' hb1 (Nat.le_refl _) _
    have hR : RowP W2 w.heap.size (some ⟨w.heap.size, 0, none⟩) n n ps := by
      refine ⟨hlen, Nat.le_refl _, by unfold maxLen; omega, .inr ⟨_, C2, rfl, Nat.le_refl _, hg2, ?_, ?_⟩⟩
      · rw [hC2]; simp [hpl]
      · rw [hC2, ← hpl]; simp
    clear hC hW1 hC2 hW2
    have h'h := Lib.hid h
    have hlen'h := Lib.hid hlen
    have hb1'h := Lib.hid hb1
    have hg1'h := Lib.hid hg1
    have cp'h := Lib.hid cp
    have hR'h := Lib.hid hR
    have hi'h := Lib.hid hi
    have hz0'h := Lib.hid hz0
    have hz1'h := Lib.hid hz1
    have hz2'h := Lib.hid hz2
    have hCs'h := Lib.hid hCs
    have hb2'h := Lib.hid hb2
    have hg2'h := Lib.hid hg2
    have hpl'h := Lib.hid hpl
    clear h hlen hb1 hg1 cp hR hi hz0 hz1 hz2 hCs hb2 hg2 hpl
    go_enter Tryd.func44, Tryd.ntmps44
    go_upto_region 2 with fail
    clear mk
    go_wp2_with (refine wpList_copy_run' _ rfl _ _ 26 26 rfl _ _ rfl rfl (cp'h.out _ _ _) ?_)
    go_ret
    exact ⟨rfl, hb2'h.out, hR'h.out⟩
/-- A table of a map's own copy. -/
theorem mof_any (sp : Option Addr) (n cap : Nat) (ps : Ps) (w : World) (h : SlK w 2 sp n (prs ps)) (hn : n ≤ 4096) :
    Calls Tryd.prog 26 #[.agg #[.slice sp n cap]] w fun e w' => ∃ tb g, e = .returned (.pointer (some ⟨tb, 0, none⟩)) ∧ Below w.heap.size w w' ∧ Tab w' w.heap.size tb (some ⟨g, 0, none⟩) n n ps := by
  have H0 := (Hs.nil w).new #[.slice sp n cap] 28
  have O := mown_any sp n cap ps _ (h.below H0.old) hn
  have h'h := Lib.hid h
  have H0'h := Lib.hid H0
  have O'h := Lib.hid O
  clear h H0 O
  go_enter Tryd.func26, Tryd.ntmps26
  go_wp2_with (go_at_call 44; refine O'h.out.mono ?_; rintro e w2 ⟨rfl, hb2, hR⟩)
  go_ret
  have e1 : (w.alloc (.cells #[.slice sp n cap] 28)).heap.size = w.heap.size + 1 := by simp
  rw [e1] at hR
  have H2 := H0'h.out.next hb2
  have hn' := H2.new #[.slice (some ⟨w.heap.size + 1, 0, none⟩) n n] 66
  refine ⟨w2.heap.size, w.heap.size + 1, rfl, hn'.old, hn'.rows.1, H2.old.size, ?_⟩
  exact (hR.low (by omega)).below ((Below.refl _ _).alloc (Nat.le_refl _) _)
end Go.Proofs.YtogeohjeabbmaaaDoor

/-
  slices.Insert at pairs: in place.
-/
set_option linter.unusedSimpArgs false
set_option linter.unusedVariables false
set_option maxRecDepth 100000
namespace Go.Proofs.YtogeohjeabbmaaaDoor
open Go.RowKit

set_option maxHeartbeats 2000000 in
theorem insert_room (B : Nat) (sp : Option Addr) (n cap i : Nat) (ps : Ps) (k v vb : Nat) (w : World) (h : RowP w B sp n cap ps) (hv : w.heap[vb]? = some (.cells #[.int .u64 (k : Int), .int .u64 (v : Int)] 72 (0, 0))) (hne : ∀ a, sp = some a → a.block ≠ vb) (hn : n ≤ 4096) (hi : i < n) (hc : n + 1 ≤ cap) :
    Calls Tryd.prog 82 #[.slice sp n cap, .int .i64 i, .slice (some ⟨vb, 0, none⟩) 1 1] w fun e w' => e = .returned (.slice sp (n + 1) cap) ∧ RowP w' B sp (n + 1) cap (ps.take i ++ (k, v) :: ps.drop i) ∧ KeptR sp w w' := by
  have hlen := h.len
  have hlim := h.lim
  unfold maxLen at hlim
  obtain ⟨g, cur, rfl, hg, hh, hsz, ht⟩ : ∃ g cur, sp = some ⟨g, 0, none⟩ ∧ B ≤ g ∧ w.heap[g]? = some (.cells cur 72 (0, 0)) ∧ cap * 2 ≤ cur.size ∧ cur.toList.take (n * 2) = prs ps := by
    rcases h.row with ⟨_, h0⟩ | h
    · omega
    · exact h
  have hgv : vb ≠ g := fun e => hne _ rfl e.symm
  have hvs : SlK w 2 (some ⟨vb, 0, none⟩) 1 (prs [(k, v)]) := SlK.of_blk hv rfl (by decide)
  have hdl : (prs (ps.drop i)).length = (n - i) * 2 := by rw [prs_length, List.length_drop, ← hlen]
  have hcut : cur.toList.take (i * 2) = prs (ps.take i) := by
    rw [← prs_take, ← ht, List.take_take, Nat.min_eq_left (by omega)]
  have hsrc : ∀ q u, (prs (ps.drop i))[q]? = some u → w.drew.cell? ((⟨g, i * 2, none⟩ : Addr).add q) = some u := fun q u hu => by
    rw [add_lit']
    have e : (prs ps)[i * 2 + q]? = some u := by
      have : prs ps = prs (ps.take i) ++ prs (ps.drop i) := by rw [← prs_append, List.take_append_drop]
      rw [this, List.getElem?_append_right (by rw [prs_length, List.length_take]; omega), prs_length, List.length_take, show i * 2 + q - min i ps.length * 2 = q by omega]
      exact hu
    have := h.sl.cell e
    rw [Nat.zero_add] at this
    exact this
  have r1 := fun ty dc sc => run_copy_rowk w.drew 26 26 ty 72 2 g ((i + 1) * 2) (n + 1 - (i + 1)) dc ⟨g, i * 2, none⟩ (n + 1 - i) sc cur _ (prs (ps.drop i)) Tryd.underlying26 info_pair2 (show w.drew.heap[g]? = _ from hh) (by rw [hdl]; show (n - i) * 2 = min (n + 1 - i) (n + 1 - (i + 1)) * 2; rw [Nat.min_eq_right (by omega)]; omega) hsrc (by rw [hdl]; omega) (prs_one _)
  obtain ⟨C1, hC1⟩ : ∃ C1, C1 = (cur.toList.take ((i + 1) * 2) ++ prs (ps.drop i) ++ cur.toList.drop ((i + 1) * 2 + (prs (ps.drop i)).length)).toArray := ⟨_, rfl⟩
  rw [← hC1] at r1
  have hC1s : C1.size = cur.size := by
    rw [hC1]
    simp only [List.size_toArray, List.length_append, List.length_drop, Array.length_toList, List.length_take, hdl]
    omega
  have hC1t : C1.toList.take (i * 2) = prs (ps.take i) := by
    rw [hC1]
    show List.take (i * 2) (cur.toList.take ((i + 1) * 2) ++ prs (ps.drop i) ++ cur.toList.drop ((i + 1) * 2 + (prs (ps.drop i)).length)) = _
    rw [List.append_assoc, List.take_append_of_le_length (by rw [List.length_take, Array.length_toList]; omega), List.take_take, Nat.min_eq_left (by omega), hcut]
  have hC1d : C1.toList.drop (i * 2 + 2) = prs (ps.drop i) ++ cur.toList.drop ((i + 1) * 2 + (prs (ps.drop i)).length) := by
    rw [hC1]
    show List.drop (i * 2 + 2) (cur.toList.take ((i + 1) * 2) ++ prs (ps.drop i) ++ cur.toList.drop ((i + 1) * 2 + (prs (ps.drop i)).length)) = _
    rw [List.append_assoc]
    exact List.drop_left' (by rw [List.length_take, Array.length_toList]; omega)
  obtain ⟨W1, hW1⟩ : ∃ W1, W1 = w.drew.setRow g C1 := ⟨_, rfl⟩
  rw [← hW1] at r1
  have hg1 : W1.heap[g]? = some (.cells C1 72 (0, 0)) := by rw [hW1]; exact setRow_heap _ _ _ _ _ _ (show w.drew.heap[g]? = _ from hh)
  have hv1 : W1.heap[vb]? = some (.cells #[.int .u64 (k : Int), .int .u64 (v : Int)] 72 (0, 0)) := by rw [hW1]; exact (setRow_other _ _ _ _ hgv).trans (show w.drew.heap[vb]? = _ from hv)
  have hvs1 : SlK W1 2 (some ⟨vb, 0, none⟩) 1 (prs [(k, v)]) := SlK.of_blk hv1 rfl (by decide)
  have r2 := fun ty dc sc => run_copy_rowk W1 26 26 ty 72 2 g (i * 2) (n + 1 - i) dc ⟨vb, 0, none⟩ 1 sc C1 _ (prs [(k, v)]) Tryd.underlying26 info_pair2 hg1 (by rw [prs_length]; show 1 * 2 = min 1 (n + 1 - i) * 2; rw [Nat.min_eq_left (by omega)]) (fun q u hu => by rw [add_lit']; exact hvs1.cell hu) (by rw [prs_length, hC1s]; simp; omega) (prs_one _)
  obtain ⟨C2, hC2⟩ : ∃ C2, C2 = (C1.toList.take (i * 2) ++ prs [(k, v)] ++ C1.toList.drop (i * 2 + (prs [(k, v)]).length)).toArray := ⟨_, rfl⟩
  rw [← hC2] at r2
  rw [hC1t, show (prs [(k, v)]).length = 2 from rfl, hC1d] at hC2
  obtain ⟨W2, hW2⟩ : ∃ W2, W2 = W1.setRow g C2 := ⟨_, rfl⟩
  rw [← hW2] at r2
  have hg2 : W2.heap[g]? = some (.cells C2 72 (0, 0)) := by rw [hW2]; exact setRow_heap _ _ _ _ _ _ hg1
  have hR : RowP W2 B (some ⟨g, 0, none⟩) (n + 1) cap (ps.take i ++ (k, v) :: ps.drop i) := by
    refine ⟨by rw [hrow_ins]; omega, hc, h.lim, .inr ⟨_, C2, rfl, hg, hg2, ?_, ?_⟩⟩
    · rw [hC2]
      simp only [List.size_toArray, List.length_append, List.length_drop, Array.length_toList, prs_length, List.length_take, List.length_cons, List.length_nil]
      omega
    · rw [hC2]
      have e : ps.take i ++ [(k, v)] ++ ps.drop i = ps.take i ++ (k, v) :: ps.drop i := by simp
      show List.take ((n + 1) * 2) (prs (ps.take i) ++ prs [(k, v)] ++ (prs (ps.drop i) ++ cur.toList.drop ((i + 1) * 2 + (prs (ps.drop i)).length))) = _
      rw [← List.append_assoc, ← prs_append, ← prs_append, e]
      exact List.take_left' (by rw [prs_length, hrow_ins]; omega)
  have hK : KeptR (some ⟨g, 0, none⟩) w W2 := by
    rw [hW2, hW1]
    exact ⟨rfl, rfl, rfl, by simp, fun b _ hb => (setRow_other _ _ _ _ (fun e => hb (by rw [e]; rfl))).trans (setRow_other _ _ _ _ (fun e => hb (by rw [e]; rfl)))⟩
  have hov : ∀ lb cb, (callFunc 94 #[.slice (some ⟨vb, 0, none⟩) 1 1, .slice (some ⟨g, (i + 1) * 2, none⟩) lb cb]).run Tryd.prog w = .ok (.value (.bool false)) w := fun lb cb => by
    rw [run_callFunc_extern Tryd.func94 (by kernel_rfl) (by kernel_rfl) (by kernel_rfl) (e := Extern.SlicesOverlaps.overlaps #[26, 26] #[4]) (by kernel_rfl),
      Lib.run_overlaps_apart w 26 4 72 Tryd.underlying26 2 Tryd.sizeOf72 ⟨vb, 0, none⟩ ⟨g, (i + 1) * 2, none⟩ 1 1 lb cb hgv 72 72 2 cur.size (by simp [World.shape?, hv]) (by simp [World.shape?, hh]) (by omega) (blk_free 0 hv) (blk_free 2 hv)]
    rfl
  have q0 : (i : Int) < (n : Int) := by omega
  have q3 : ((i : Int) == (n : Int)) = false := by simp; omega
  have q4 : (n : Int) + 1 ≤ (cap : Int) := by omega
  have q5 : ¬ cap = i + 1 := by omega
  have q6 : ¬ cap = i := by omega
  have q7 : ¬ (cap : Int) < (n : Int) + 1 := by omega
  have hcl : (n : Int) ≤ 4096 := by omega
  have s1 : IntKind.i64.wrap ((i : Int) + 1) = (i : Int) + 1 := IntWalk.i64_in _ (by omega)
  have s2 : (0 : Int) ≤ (i : Int) + 1 := by omega
  have s3 : ((i : Int) + 1).toNat = i + 1 := by omega
  have s4 : (i : Int) + 1 ≤ (n : Int) + 1 := by omega
  have s5 : (0 : Int) ≤ (i : Int) := by omega
  have s6 : (i : Int) ≤ (n : Int) + 1 := by omega
  clear hC1 hC2 hW1 hW2 hsrc hdl hcut hC1s hC1t hC1d hsz ht
  have h'h := Lib.hid h
  have hv'h := Lib.hid hv
  have hh'h := Lib.hid hh
  have r1'h := Lib.hid r1
  have r2'h := Lib.hid r2
  have hR'h := Lib.hid hR
  have hK'h := Lib.hid hK
  have hg'h := Lib.hid hg
  have hg1'h := Lib.hid hg1
  have hg2'h := Lib.hid hg2
  have hv1'h := Lib.hid hv1
  have hvs'h := Lib.hid hvs
  have hvs1'h := Lib.hid hvs1
  have hlen'h := Lib.hid hlen
  have hne'h := Lib.hid hne
  have hgv'h := Lib.hid hgv
  clear h hv hh r1 r2 hR hK hg hg1 hg2 hv1 hvs hvs1 hlen hne hgv
  go_enter Tryd.func82, Tryd.ntmps82
  go_upto_region 15 with (simp only [hov])
  clear hov
  go_region_held3 (fun _ => True) (trivial) (refine step_copy_run' rfl _ _ 26 26 rfl _ _ (by simp [Act.eval, Act.put]; rfl) (by simp [Act.eval, Act.put]; rfl) (r1'h.out _ _ _) ?_)
  go_wp2_with (refine wpList_copy_run' _ rfl _ _ 26 26 rfl _ _ rfl rfl (r2'h.out _ _ _) ?_)
  go_ret
  exact ⟨rfl, hR'h.out, hK'h.out⟩
end Go.Proofs.YtogeohjeabbmaaaDoor

/-
  Package model: put.
-/
set_option linter.unusedSimpArgs false
set_option linter.unusedVariables false
set_option maxRecDepth 100000
namespace Go.Proofs.YtogeohjeabbmaaaDoor
open Go.RowKit

/-- A row's block is the one, or a new one. -/
def NewOr (sp sp' : Option Addr) (H : Nat) : Prop := sp' = sp ∨ ∀ a, sp' = some a → H ≤ a.block
theorem insert_any (B : Nat) (sp : Option Addr) (n cap i : Nat) (ps : Ps) (k v vb : Nat) (w : World) (h : RowP w B sp n cap ps) (hv : w.heap[vb]? = some (.cells #[.int .u64 (k : Int), .int .u64 (v : Int)] 72 (0, 0))) (hne : ∀ a, sp = some a → a.block ≠ vb) (hB : B ≤ w.heap.size) (hn : n ≤ 4096) (hi : i ≤ n) :
    Calls Tryd.prog 82 #[.slice sp n cap, .int .i64 i, .slice (some ⟨vb, 0, none⟩) 1 1] w fun e w' => ∃ sp' cap', e = .returned (.slice sp' (n + 1) cap') ∧ RowP w' B sp' (n + 1) cap' (ps.take i ++ (k, v) :: ps.drop i) ∧ KeptR sp w w' ∧ NewOr sp sp' w.heap.size := by
  have hvs : SlK w 2 (some ⟨vb, 0, none⟩) 1 (prs [(k, v)]) := SlK.of_blk hv rfl (by decide)
  by_cases h1 : i = n
  · subst h1
    refine (insert_end B sp i cap ps k v vb w h hvs hB hn).mono ?_
    rintro e w' ⟨sp', cap', he, hR, hK, hs⟩
    refine ⟨sp', cap', he, ?_, hK, hs.imp id fun e a ha => by rw [e] at ha; cases ha; exact Nat.le_refl _⟩
    rw [List.take_of_length_le (by rw [← h.len]; omega), List.drop_of_length_le (by rw [← h.len]; omega)]
    exact hR
  · by_cases h2 : cap < n + 1
    · refine (insert_mid B sp n cap i ps k v vb w h hvs hB hn (by omega) h2).mono ?_
      rintro e w' ⟨sp', cap', he, hR, hK, hs⟩
      exact ⟨sp', cap', he, hR, hK, hs.imp id fun e a ha => by rw [e] at ha; cases ha; exact Nat.le_refl _⟩
    · refine (insert_room B sp n cap i ps k v vb w h hv hne hn (by omega) (by omega)).mono ?_
      rintro e w' ⟨he, hR, hK⟩
      exact ⟨sp, cap, he, hR, hK, .inl rfl⟩
theorem prs_set (ps : Ps) (k v : Nat) (hk : k < ps.length) : (prs ps).set (k * 2 + 1) (.int .u64 (v : Int)) = prs (ps.set k ((nthP ps k).1, v)) := by
  induction ps generalizing k with
  | nil => simp at hk
  | cons p l ih =>
    cases k with
    | zero => rfl
    | succ k =>
      have := ih k (by simpa using hk)
      rw [List.set_cons_succ, nthP_cons_succ]
      unfold prs at this ⊢
      rw [List.flatMap_cons, List.flatMap_cons, ← this, show (k + 1) * 2 + 1 = (k * 2 + 1) + 2 by omega]
      rfl
theorem RowP.put {W : World} {B g n cap : Nat} {ps : Ps} (h : RowP W B (some ⟨g, 0, none⟩) n cap ps) {k : Nat} (hk : k < n) (v : Nat) : RowP (W.setCell ⟨g, k * 2 + 1, none⟩ (.int .u64 (v : Int))) B (some ⟨g, 0, none⟩) n cap (ps.set k ((nthP ps k).1, v)) := by
  refine ⟨by rw [List.length_set]; exact h.len, h.le, h.lim, ?_⟩
  rcases h.row with ⟨e, _⟩ | ⟨g', cur, e, hb, hg, hc, ht⟩
  · cases e
  · cases e
    refine .inr ⟨g, _, rfl, hb, blk_set _ hg, by simpa using hc, ?_⟩
    rw [Array.toList_setIfInBounds, List.take_set, ht]
    exact prs_set ps k v (by rw [← h.len]; exact hk)
set_option maxHeartbeats 1000000 in
theorem mput_any (B tb : Nat) (sp : Option Addr) (n cap : Nat) (ps : Ps) (key val : Nat) (w : World) (h : Tab w B tb sp n cap ps) (hup : upB ps = true) (hn : n ≤ 4096) :
    Calls Tryd.prog 69 #[.pointer (some ⟨tb, 0, none⟩), .int .u64 (key : Int), .int .u64 (val : Int)] w fun e w' => ∃ sp' n' cap', e = .returned (.tuple #[]) ∧ Tab w' B tb sp' n' cap' (insP ps key val) ∧ KeptT tb sp w w' ∧ NewOr sp sp' w.heap.size := by
  have A := mat_any tb sp n cap ps key w h.r hup hn
  have hp := hasP_pos ps key
  have hip := insP_pos ps key val
  have hle := posP_le ps key
  have hlen := h.row.len
  have hap := h.apart
  cases hh : hasP ps key with
  | true =>
    rw [hh] at A hp hip
    rw [if_pos rfl] at hip
    have hk : posP ps key < ps.length ∧ (nthP ps (posP ps key)).1 = key := by simpa using hp.symm
    obtain ⟨g, rfl⟩ : ∃ g, sp = some ⟨g, 0, none⟩ := by
      rcases h.row.row with ⟨_, h0⟩ | ⟨g, cur, e, _⟩
      · have := h.row.le; omega
      · exact ⟨g, e⟩
    have hset : ps.set (posP ps key) ((nthP ps (posP ps key)).1, val) = insP ps key val := by rw [hk.2, hip]
    have hkn := hk.1
    rw [← hlen] at hkn
    clear hp hip hk hle
    generalize posP ps key = k at *
    have i1 : (k : Int) < (n : Int) := by omega
    have i2 : (0 : Int) ≤ (k : Int) := by omega
    have h'h := Lib.hid h
    have hup'h := Lib.hid hup
    have A'h := Lib.hid A
    have hset'h := Lib.hid hset
    have hlen'h := Lib.hid hlen
    have hap'h := Lib.hid hap
    have hh'h := Lib.hid hh
    clear h hup A hset hlen hap hh
    go_enter Tryd.func69, Tryd.ntmps69
    go_upto_region 2 with (go_at_call 70; refine A'h.out.mono ?_; rintro e w2 ⟨rfl, hb2⟩)
    have hT := h'h.out.below hb2
    have c := hT.cell
    obtain ⟨c1, c2⟩ := prs_cells hT.row.sl (k := k) (by have := hlen'h.out; omega)
    rw [Nat.zero_add] at c2
    have hf : w2.frozen? ⟨g, k * 2 + 1, none⟩ = false := by
      rcases hT.row.row with ⟨e, _⟩ | ⟨g', cur, e, _, hg, _⟩
      · cases e
      · cases e; exact blk_free _ hg
    clear c1
    have hT'h := Lib.hid hT
    have hb2'h := Lib.hid hb2
    clear hT hb2
    go_wp2
    refine bodyPost_ret (results_none rfl _ _ _) rfl ?_
    refine ⟨_, n, cap, rfl, ⟨?_, h'h.out.low, ?_⟩, ?_, .inl rfl⟩
    · exact (Below.heap_setCell w2 ⟨g, k * 2 + 1, none⟩ _ tb (hap'h.out ⟨g, 0, none⟩ rfl).symm).trans hT'h.out.tbl
    · have := hT'h.out.row.put hkn val
      rwa [hset'h.out] at this
    · exact (KeptT.of_below hb2'h.out).trans (Kept.setCell _ _ _ _ (fun hs => hs.2 rfl))
  | false =>
    rw [hh] at A hip
    rw [if_neg (by decide)] at hip
    clear hp
    rw [← hlen] at hle
    obtain ⟨k, hk⟩ : ∃ k, k = posP ps key := ⟨_, rfl⟩
    rw [← hk] at A hip hle
    have i1 : (k : Int) ≤ (n : Int) := by omega
    have i2 : (0 : Int) ≤ (k : Int) := by omega
    have h'h := Lib.hid h
    have hup'h := Lib.hid hup
    have A'h := Lib.hid A
    have hip'h := Lib.hid hip
    have hlen'h := Lib.hid hlen
    have hap'h := Lib.hid hap
    have hh'h := Lib.hid hh
    have hk'h := Lib.hid hk
    clear h hup A hip hlen hap hh hk
    go_enter Tryd.func69, Tryd.ntmps69
    go_upto_region 3 with (go_at_call 70; refine A'h.out.mono ?_; rintro e w2 ⟨rfl, hb2⟩)
    have hT := h'h.out.below hb2
    have c := hT.cell
    have hb3 : Below w2.heap.size w2 (w2.alloc (.cells #[.int .u64 (key : Int), .int .u64 (val : Int)] 72)) := (Below.refl _ _).alloc (Nat.le_refl _) _
    have hT3 := hT.below hb3
    have hv3 := World.alloc_heap_new w2 (.cells #[.int .u64 (key : Int), .int .u64 (val : Int)] 72)
    have hrl : ∀ a, sp = some a → a.block < w2.heap.size := by
      intro a e
      rcases hT.row.row with ⟨e', _⟩ | ⟨g', cur, e', _, hg, _⟩
      · rw [e'] at e; cases e
      · rw [e'] at e; cases e; exact lt_of_heap hg
    have IN := insert_any B sp n cap k ps key val w2.heap.size _ hT3.row hv3 (fun a e => by have := hrl a e; omega) (by have := hT.low; have := lt_of_heap hT.tbl; simp; omega) hn hle
    have htl := lt_of_heap hT.tbl
    have hT'h := Lib.hid hT
    have hb2'h := Lib.hid hb2
    have hb3'h := Lib.hid hb3
    have hT3'h := Lib.hid hT3
    have hv3'h := Lib.hid hv3
    have hrl'h := Lib.hid hrl
    have IN'h := Lib.hid IN
    have htl'h := Lib.hid htl
    clear hT hb2 hb3 hT3 hv3 hrl IN htl
    go_wp2_with (go_at_call 82; refine IN'h.out.mono ?_; rintro e w4 ⟨sp', cap', rfl, hR, hK, hs⟩; have c4 : w4.cell? ⟨tb, 0, none⟩ = some (.slice sp n cap) := hK.cell (fun e => hap'h.out ⟨tb, 0, none⟩ (by cases sp with | none => cases e | some a => cases a; simp at e; subst e; exact absurd rfl (hap'h.out _ rfl)) rfl) hT3'h.out.cell; have f4 : w4.frozen? ⟨tb, 0, none⟩ = false := (hK.frozen (fun e => hap'h.out ⟨tb, 0, none⟩ (by cases sp with | none => cases e | some a => cases a; simp at e; subst e; exact absurd rfl (hap'h.out _ rfl)) rfl) hT3'h.out.cell).trans (blk_free 0 hT3'h.out.tbl); have hR'h := Lib.hid hR; have hK'h := Lib.hid hK; have hs'h := Lib.hid hs; clear hR hK hs)
    go_end0
    have hne : sp.map (·.block) ≠ some tb := fun e => by
      cases sp with
      | none => cases e
      | some a => exact hap'h.out a rfl (by simpa using e)
    have hszs := hb3'h.out.size
    have hsz2 := hb2'h.out.size
    have hg4 := (hK'h.out.block tb (lt_of_heap hT3'h.out.tbl) hne).trans hT3'h.out.tbl
    refine ⟨sp', n + 1, cap', rfl, ⟨blk_set (i := 0) _ hg4, h'h.out.low, ?_⟩, ?_, ?_⟩
    · rw [hip'h.out]
      refine hR'h.out.keep fun g' e _ => Below.heap_setCell _ _ _ _ ?_
      intro e2
      simp only at e2
      rcases hs'h.out with e1 | e1
      · exact hne (by rw [← e1, e, e2]; rfl)
      · have := e1 _ e
        have := htl'h.out
        simp only at *
        omega
    · refine (KeptT.of_below (below_next hb2'h.out hb3'h.out)).trans (Kept.trans (hK'h.out.mono fun b hb => hb.2) (Kept.setCell _ _ _ _ fun hs => hs.1 rfl))
    · exact hs'h.out.imp id fun e1 a ha => by have := e1 a ha; omega
end Go.Proofs.YtogeohjeabbmaaaDoor

