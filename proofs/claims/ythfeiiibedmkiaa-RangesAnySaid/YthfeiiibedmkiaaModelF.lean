/-
  Package model: a table that is worked on; what a key has.
-/
import Derived.Test.YthfeiiibedmkiaaModelE
import Derived.Test.YthfeiiibedmkiaaModelC
set_option linter.unusedSimpArgs false
set_option linter.unusedVariables false
set_option maxRecDepth 100000
namespace Go.Proofs.Ythfeiiibedmkiaa
open Go.RowKit

/-- A row of pairs of one's own. -/
structure RowP (W : World) (B : Nat) (sp : Option Addr) (n cap : Nat) (ps : Ps) : Prop where
  len : n = ps.length
  le : n ≤ cap
  lim : cap ≤ maxLen
  row : (sp = none ∧ cap = 0) ∨ ∃ g cur, sp = some ⟨g, 0, none⟩ ∧ B ≤ g ∧ W.heap[g]? = some (.cells cur 38 (0, 0)) ∧ cap * 2 ≤ cur.size ∧ cur.toList.take (n * 2) = prs ps
theorem RowP.sl {W : World} {B : Nat} {sp : Option Addr} {n cap : Nat} {ps : Ps} (h : RowP W B sp n cap ps) : SlK W 2 sp n (prs ps) := by
  refine ⟨by rw [prs_length, h.len], Nat.le_trans h.le h.lim, ?_⟩
  rcases h.row with ⟨_, h0⟩ | ⟨g, cur, e, _, hg, _, ht⟩
  · have := h.le; exact .inl (by omega)
  · refine .inr ⟨g, 0, e, fun j u hu => ?_⟩
    rw [Nat.zero_add]
    refine blk_cell hg ?_
    rw [← ht, List.getElem?_take] at hu
    split at hu
    · simpa using hu
    · cases hu
theorem RowP.nil0 {W : World} {B : Nat} {sp : Option Addr} {n cap : Nat} {ps : Ps} (h : RowP W B sp n cap ps) : sp = none → cap = 0 := by
  intro e
  rcases h.row with ⟨_, h0⟩ | ⟨g, cur, e', _⟩
  · exact h0
  · rw [e'] at e; cases e
theorem RowP.keep {W W' : World} {B : Nat} {sp : Option Addr} {n cap : Nat} {ps : Ps} (h : RowP W B sp n cap ps) (hk : ∀ g, sp = some ⟨g, 0, none⟩ → g < W.heap.size → W'.heap[g]? = W.heap[g]?) : RowP W' B sp n cap ps := by
  refine ⟨h.len, h.le, h.lim, h.row.imp id ?_⟩
  rintro ⟨g, cur, e, hb, hg, hc, ht⟩
  exact ⟨g, cur, e, hb, (hk g e (lt_of_heap hg)).trans hg, hc, ht⟩
theorem RowP.below {W W' : World} {B : Nat} {sp : Option Addr} {n cap : Nat} {ps : Ps} (h : RowP W B sp n cap ps) (hb : Below W.heap.size W W') : RowP W' B sp n cap ps :=
  h.keep fun g _ hg => hb.block g hg
theorem RowP.low {W : World} {B B' : Nat} {sp : Option Addr} {n cap : Nat} {ps : Ps} (h : RowP W B sp n cap ps) (hb : B' ≤ B) : RowP W B' sp n cap ps := by
  refine ⟨h.len, h.le, h.lim, h.row.imp id ?_⟩
  rintro ⟨g, cur, e, hb', r⟩
  exact ⟨g, cur, e, Nat.le_trans hb hb', r⟩
/-- The table at tb holds the row. -/
structure Tab (W : World) (B tb : Nat) (sp : Option Addr) (n cap : Nat) (ps : Ps) : Prop where
  tbl : W.heap[tb]? = some (.cells #[.slice sp n cap] 100 (0, 0))
  low : B ≤ tb
  row : RowP W B sp n cap ps
theorem Tab.below {W W' : World} {B tb : Nat} {sp : Option Addr} {n cap : Nat} {ps : Ps} (h : Tab W B tb sp n cap ps) (hb : Below W.heap.size W W') : Tab W' B tb sp n cap ps :=
  ⟨heap_below hb h.tbl (lt_of_heap h.tbl), h.low, h.row.below hb⟩
theorem Tab.cell {W : World} {B tb : Nat} {sp : Option Addr} {n cap : Nat} {ps : Ps} (h : Tab W B tb sp n cap ps) : W.cell? ⟨tb, 0, none⟩ = some (.slice sp n cap) := blk_cell h.tbl rfl
/-- The row lies elsewhere than the table. -/
theorem Tab.apart {W : World} {B tb : Nat} {sp : Option Addr} {n cap : Nat} {ps : Ps} (h : Tab W B tb sp n cap ps) : ∀ a, sp = some a → a.block ≠ tb := by
  intro a e hb
  rcases h.row.row with ⟨e', _⟩ | ⟨g, cur, e', _, hg, _⟩
  · rw [e'] at e; cases e
  · rw [e'] at e
    cases e
    simp only at hb
    subst hb
    rw [h.tbl] at hg
    injection hg with hg
    injection hg with _ ht
    revert ht
    decide
/-- All that is neither the table nor its row lies as it lay. -/
def KeptT (tb : Nat) (sp : Option Addr) (W W' : World) : Prop := Kept (fun b => b ≠ tb ∧ sp.map (·.block) ≠ some b) W W'
theorem KeptT.of_below {tb : Nat} {sp : Option Addr} {W W' : World} (h : Below W.heap.size W W') : KeptT tb sp W W' := Kept.of_below h
theorem KeptT.trans {tb : Nat} {sp : Option Addr} {A C D : World} (h : KeptT tb sp A C) (k : KeptT tb sp C D) : KeptT tb sp A D := Kept.trans h k
/-- .. the second with a row of its own, a new one. -/
theorem KeptT.trans' {tb : Nat} {sp sp' : Option Addr} {A C D : World} (h : KeptT tb sp A C) (k : KeptT tb sp' C D) (hs : sp' = sp ∨ ∀ a, sp' = some a → A.heap.size ≤ a.block) : KeptT tb sp A D := by
  rcases hs with rfl | hs
  · exact h.trans k
  · refine ⟨k.os.trans h.os, k.tape.trans h.tape, k.output.trans h.output, Nat.le_trans h.size k.size, fun b hb hs' => (k.block b (Nat.lt_of_lt_of_le hb h.size) ⟨hs'.1, fun e => ?_⟩).trans (h.block b hb hs')⟩
    cases sp' with
    | none => cases e
    | some a => have := hs a rfl; simp at e; omega
theorem KeptT.below {tb : Nat} {sp : Option Addr} {W0 W W' : World} (h : KeptT tb sp W W') (hb : Below W0.heap.size W0 W) (h1 : W0.heap.size ≤ tb) (h2 : ∀ a, sp = some a → W0.heap.size ≤ a.block) : Below W0.heap.size W0 W' := by
  refine ⟨h.os.trans hb.os, h.tape.trans hb.tape, h.output.trans hb.output, Nat.le_trans hb.size h.size, fun b hk => (h.block b (Nat.lt_of_lt_of_le hk hb.size) ⟨by omega, fun e => ?_⟩).trans (hb.block b hk)⟩
  cases sp with
  | none => cases e
  | some a => have := h2 a rfl; simp at e; omega
theorem Tab.lowrow {W : World} {B tb : Nat} {sp : Option Addr} {n cap : Nat} {ps : Ps} (h : Tab W B tb sp n cap ps) : ∀ a, sp = some a → B ≤ a.block := by
  intro a e
  rcases h.row.row with ⟨e', _⟩ | ⟨g, cur, e', hb, _⟩
  · rw [e'] at e; cases e
  · rw [e'] at e; cases e; exact hb
/-- The table, to be read. -/
structure TabR (W : World) (tb : Nat) (sp : Option Addr) (n cap : Nat) (ps : Ps) : Prop where
  tbl : W.heap[tb]? = some (.cells #[.slice sp n cap] 100 (0, 0))
  sl : SlK W 2 sp n (prs ps)
theorem Tab.r {W : World} {B tb : Nat} {sp : Option Addr} {n cap : Nat} {ps : Ps} (h : Tab W B tb sp n cap ps) : TabR W tb sp n cap ps := ⟨h.tbl, h.row.sl⟩
theorem TabR.below {W W' : World} {tb : Nat} {sp : Option Addr} {n cap : Nat} {ps : Ps} (h : TabR W tb sp n cap ps) (hb : Below W.heap.size W W') : TabR W' tb sp n cap ps := ⟨heap_below hb h.tbl (lt_of_heap h.tbl), h.sl.below hb⟩
theorem TabR.cell {W : World} {tb : Nat} {sp : Option Addr} {n cap : Nat} {ps : Ps} (h : TabR W tb sp n cap ps) : W.cell? ⟨tb, 0, none⟩ = some (.slice sp n cap) := blk_cell h.tbl rfl
theorem mat_any (tb : Nat) (sp : Option Addr) (n cap : Nat) (ps : Ps) (key : Nat) (w : World) (h : TabR w tb sp n cap ps) (hup : upB ps = true) (hn : n ≤ 4096) :
    Calls Try.prog 70 #[.pointer (some ⟨tb, 0, none⟩), .int .u64 (key : Int)] w fun e w' => e = .returned (.tuple #[.int .i64 (posP ps key), .bool (hasP ps key)]) ∧ Below w.heap.size w w' := by
  have c := h.cell
  have P := mplace_any sp n cap ps key w h.sl hup hn
  have h'h := Lib.hid h
  have hup'h := Lib.hid hup
  have P'h := Lib.hid P
  clear h hup P
  go_enter Try.func70, Try.ntmps70
  go_wp2_with (go_at_call 73; refine P'h.out.mono ?_; rintro e w2 ⟨rfl, hb2⟩)
  go_ret2
  exact ⟨rfl, hb2⟩
/-- An answer to a key. -/
def anK (ps : Ps) (key : Nat) : An := ⟨0, (getS ps key).getD 0, hasP ps key⟩
theorem info_an : (Try.prog.info? 97).map (·.size) = some 4 := by kernel_rfl
theorem anA_one (a : An) (sp : Option Addr) (n cap : Nat) : (anA a sp n cap).all (·.oneCell') = true := by unfold anA; kernel_rfl
set_option maxHeartbeats 1000000 in
theorem mget_any (tb : Nat) (sp : Option Addr) (n cap : Nat) (ps : Ps) (key : Nat) (w : World) (h : TabR w tb sp n cap ps) (hup : upB ps = true) (hn : n ≤ 4096) :
    Calls Try.prog 58 #[.pointer (some ⟨tb, 0, none⟩), .int .u64 (key : Int)] w fun e w' => e = .returned (.agg (anA (anK ps key) none 0 0)) ∧ Below w.heap.size w w' := by
  have hB : Below w.heap.size w (w.alloc (.cells (anA ⟨0, 0, false⟩ none 0 0) 97)) := (Below.refl _ _).alloc (Nat.le_refl _) _
  have h1 := h.below hB
  have A := mat_any tb sp n cap ps key _ h1 hup hn
  have H1 := (Hs.nil w).new (anA ⟨0, 0, false⟩ none 0 0) 97
  have hh := hasP_pos ps key
  have hg := getS_pos ps key
  by_cases hp : posP ps key < ps.length ∧ (nthP ps (posP ps key)).1 = key
  · have e1 : hasP ps key = true := by rw [hh]; simp [hp.1, hp.2]
    have e2 : (getS ps key).getD 0 = (nthP ps (posP ps key)).2 := by rw [hg, if_pos hp]; rfl
    have hr : anK ps key = ⟨0, (nthP ps (posP ps key)).2, true⟩ := by unfold anK; rw [e1, e2]
    rw [e1] at A
    have hn' := prs_len h.sl
    obtain ⟨b, off, rfl⟩ := prs_some h.sl (by omega)
    have hpl := hp.1
    obtain ⟨v, hv⟩ : ∃ v, v = (nthP ps (posP ps key)).2 := ⟨_, rfl⟩
    rw [hr, ← hv]
    clear hg hh e1 e2 hr hp
    generalize posP ps key = k at *
    have i1 : (k : Int) < (n : Int) := by omega
    have i2 : (0 : Int) ≤ (k : Int) := by omega
    have h'h := Lib.hid h
    have hup'h := Lib.hid hup
    have hB'h := Lib.hid hB
    have h1'h := Lib.hid h1
    have A'h := Lib.hid A
    have H1'h := Lib.hid H1
    have hv'h := Lib.hid hv
    clear h hup hB h1 A H1 hv
    go_enter Try.func58, Try.ntmps58
    go_upto_region 4 with (go_at_call 70; refine A'h.out.mono ?_; rintro e w2 ⟨rfl, hb2⟩)
    have hT := h1'h.out.below hb2
    have H2 := H1'h.out.next hb2
    have c := hT.cell
    obtain ⟨c1, c2⟩ := prs_cells hT.sl hpl
    rw [← hv'h.out] at c2
    clear c1
    have hT'h := Lib.hid hT
    have H2'h := Lib.hid H2
    clear hT H2
    go_wp2_with (refine wpList_store_row rfl _ _ _ rfl w.heap.size (anA ⟨0, v, true⟩ none 0 0) rfl rfl 97 _ H2'h.out.rows.1 info_an rfl (anA_one _ _ _ _) ?_)
    have H3 := H2'h.out.set 0 rfl (anA ⟨0, v, true⟩ none 0 0)
    generalize World.setRow _ _ _ = W3 at H3 ⊢
    have x0 := blk_cell (i := 0) H3.rows.1 rfl
    have x1 := blk_cell (i := 1) H3.rows.1 rfl
    have x2 := blk_cell (i := 2) H3.rows.1 rfl
    have x3 := blk_cell (i := 3) H3.rows.1 rfl
    refine bodyPost_ret (v := .agg (anA ⟨0, v, true⟩ none 0 0)) ?_ rfl ⟨rfl, H3.old⟩
    simp [results, Try.results58, go_sem, x0, x1, x2, x3, anA]
  · have e1 : hasP ps key = false := by
      unfold hasP; rw [hg, if_neg hp]; rfl
    have e2 : (getS ps key).getD 0 = 0 := by rw [hg, if_neg hp]; rfl
    have hr : anK ps key = ⟨0, 0, false⟩ := by unfold anK; rw [e1, e2]
    rw [e1] at A
    rw [hr]
    clear hg hh e1 e2 hr hp
    have h'h := Lib.hid h
    have hup'h := Lib.hid hup
    have hB'h := Lib.hid hB
    have h1'h := Lib.hid h1
    have A'h := Lib.hid A
    have H1'h := Lib.hid H1
    clear h hup hB h1 A H1
    go_enter Try.func58, Try.ntmps58
    go_upto_region 3 with (go_at_call 70; refine A'h.out.mono ?_; rintro e w2 ⟨rfl, hb2⟩)
    have H2 := H1'h.out.next hb2
    have H2'h := Lib.hid H2
    clear H2
    go_wp2_with (refine wpList_store_row rfl _ _ _ rfl w.heap.size (anA ⟨0, 0, false⟩ none 0 0) rfl rfl 97 _ H2'h.out.rows.1 info_an rfl (anA_one _ _ _ _) ?_)
    have H3 := H2'h.out.set 0 rfl (anA ⟨0, 0, false⟩ none 0 0)
    generalize World.setRow _ _ _ = W3 at H3 ⊢
    have x0 := blk_cell (i := 0) H3.rows.1 rfl
    have x1 := blk_cell (i := 1) H3.rows.1 rfl
    have x2 := blk_cell (i := 2) H3.rows.1 rfl
    have x3 := blk_cell (i := 3) H3.rows.1 rfl
    refine bodyPost_ret (v := .agg (anA ⟨0, 0, false⟩ none 0 0)) ?_ rfl ⟨rfl, H3.old⟩
    simp [results, Try.results58, go_sem, x0, x1, x2, x3, anA]
theorem mcheck_yes (sp : Option Addr) (n cap : Nat) (ps : Ps) (w : World) (h : SlK w 2 sp n (prs ps)) (hup : upB ps = true) :
    Calls Try.prog 37 #[.agg #[.slice sp n cap]] w fun e w' => e = .returned (.int .i64 0) ∧ Below w.heap.size w w' := by
  have := mcheck_any sp n cap ps w h
  rw [hup] at this
  exact this
theorem mcheck_no (sp : Option Addr) (n cap : Nat) (ps : Ps) (w : World) (h : SlK w 2 sp n (prs ps)) (hup : upB ps = false) :
    Calls Try.prog 37 #[.agg #[.slice sp n cap]] w fun e w' => e = .returned (.int .i64 340) ∧ Below w.heap.size w w' := by
  have := mcheck_any sp n cap ps w h
  rw [hup] at this
  exact this
set_option maxHeartbeats 1000000 in
theorem mGet_no (sp : Option Addr) (n cap : Nat) (ps : Ps) (key : Nat) (w : World) (h : SlK w 2 sp n (prs ps)) (hup : upB ps = false) :
    Calls Try.prog 28 #[.agg #[.slice sp n cap], .int .u64 (key : Int)] w fun e w' => e = .returned (.tuple #[.int .u64 0, .bool false]) ∧ Below w.heap.size w w' := by
  have hB : Below w.heap.size w (w.alloc (.cells #[.slice sp n cap] 31)) := (Below.refl _ _).alloc (Nat.le_refl _) _
  have C := mcheck_no sp n cap ps _ (h.below hB) hup
  have h'h := Lib.hid h
  have hB'h := Lib.hid hB
  have C'h := Lib.hid C
  clear h hB C
  go_enter Try.func28, Try.ntmps28
  go_wp2_with (go_at_call 37; refine C'h.out.mono ?_; rintro e w2 ⟨rfl, hb2⟩)
  go_ret2
  exact ⟨rfl, below_next hB'h.out hb2⟩
set_option maxHeartbeats 1000000 in
theorem mGet_yes (sp : Option Addr) (n cap : Nat) (ps : Ps) (key : Nat) (w : World) (h : SlK w 2 sp n (prs ps)) (hup : upB ps = true) (hn : n ≤ 4096) :
    Calls Try.prog 28 #[.agg #[.slice sp n cap], .int .u64 (key : Int)] w fun e w' => e = .returned (.tuple #[.int .u64 (((getS ps key).getD 0 : Nat) : Int), .bool (hasP ps key)]) ∧ Below w.heap.size w w' := by
  have hB : Below w.heap.size w (w.alloc (.cells #[.slice sp n cap] 31)) := (Below.refl _ _).alloc (Nat.le_refl _) _
  have C := mcheck_yes sp n cap ps _ (h.below hB) hup
  have H0 := (Hs.nil w).new #[.slice sp n cap] 31
  obtain ⟨v, hv⟩ : ∃ v, v = (getS ps key).getD 0 := ⟨_, rfl⟩
  obtain ⟨d, hd⟩ : ∃ d, d = hasP ps key := ⟨_, rfl⟩
  have hk : anK ps key = ⟨0, v, d⟩ := by unfold anK; rw [hv, hd]
  rw [← hv, ← hd]
  have h'h := Lib.hid h
  have hB'h := Lib.hid hB
  have C'h := Lib.hid C
  have hup'h := Lib.hid hup
  have H0'h := Lib.hid H0
  have hv'h := Lib.hid hv
  have hd'h := Lib.hid hd
  have hk'h := Lib.hid hk
  clear h hB C hup H0 hv hd hk
  go_enter Try.func28, Try.ntmps28
  go_upto_region 3 with (go_at_call 37; refine C'h.out.mono ?_; rintro e w2 ⟨rfl, hb2⟩)
  have H2 := H0'h.out.next hb2
  have x0 : w2.cell? ⟨w.heap.size, 0, none⟩ = some (.slice sp n cap) := blk_cell H2.rows.1 rfl
  have H3 := H2.new #[.slice sp n cap] 100
  have hT : TabR (w2.alloc (.cells #[.slice sp n cap] 100)) w2.heap.size sp n cap ps := ⟨H3.rows.1, h'h.out.below H3.old⟩
  have G := mget_any _ sp n cap ps key _ hT hup'h.out hn
  rw [hk'h.out] at G
  have H2'h := Lib.hid H2
  have H3'h := Lib.hid H3
  have hT'h := Lib.hid hT
  have G'h := Lib.hid G
  clear H2 H3 hT G
  go_upto_region 4 with (first | (go_at_call 58; refine G'h.out.mono ?_; rintro e w4 ⟨rfl, hb4⟩) | (refine wpList_store_row rfl _ _ _ rfl w4.heap.size (anA ⟨0, v, d⟩ none 0 0) rfl rfl 97 _ (World.alloc_heap_new _ _) info_an rfl (anA_one _ _ _ _) ?_))
  clear x0
  have H4 := ((H3'h.out.next hb4).new (anA ⟨0, 0, false⟩ none 0 0) 97).set 0 rfl (anA ⟨0, v, d⟩ none 0 0)
  change Code.wp _ _ _ _ ((w4.alloc (.cells (anA ⟨0, 0, false⟩ none 0 0) 97)).setRow w4.heap.size (anA ⟨0, v, d⟩ none 0 0))
  generalize World.setRow _ _ _ = W4 at H4 ⊢
  have y1 := blk_cell (i := 1) H4.rows.1 rfl
  have y2 := blk_cell (i := 2) H4.rows.1 rfl
  have y1' : ∀ q, (W4.drewN q).cell? ⟨w4.heap.size, 1, none⟩ = some (.int .u64 (v : Int)) := fun q => y1
  have y2' : ∀ q, (W4.drewN q).cell? ⟨w4.heap.size, 2, none⟩ = some (.bool d) := fun q => y2
  clear y1 y2
  have H4'h := Lib.hid H4
  clear H4
  go_quiet (fail)
  go_wp2
  go_ret2
  exact ⟨rfl, (H4'h.out.drewN nq).old⟩
end Go.Proofs.Ythfeiiibedmkiaa
