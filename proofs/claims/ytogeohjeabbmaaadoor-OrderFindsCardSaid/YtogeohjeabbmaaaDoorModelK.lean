/-
  Package model: the ways of a call.
-/
import Derived.Test.YtogeohjeabbmaaaDoorY4
set_option linter.unusedSimpArgs false
set_option linter.unusedVariables false
set_option maxRecDepth 100000
namespace Go.Proofs.YtogeohjeabbmaaaDoor
open Go.RowKit

/-- A call. -/
structure Cl where
  op : Int
  key : Nat
  a : Nat
  b : Nat
def clA (c : Cl) : Array Value := #[.int .i64 c.op, .int .u64 (c.key : Int), .int .u64 (c.a : Int), .int .u64 (c.b : Int)]
theorem info_cl : (Tryd.prog.info? 31).map (·.size) = some 4 := by kernel_rfl
theorem HasL.keptT {tb : Nat} {sp : Option Addr} {W W' : World} {l : List Blk3} (h : HasL W l) (hk : KeptT tb sp W W') (hl : ∀ x ∈ l, x.1 ≠ tb ∧ sp.map (·.block) ≠ some x.1) : HasL W' l :=
  HasL.of fun x hx => (hk.block x.1 (lt_of_heap (h.mem x hx)) (hl x hx)).trans (h.mem x hx)
theorem KeptT.setRow {tb b : Nat} {sp : Option Addr} {w W : World} (h : KeptT tb sp w W) (hb : w.heap.size ≤ b) (cs : Array Value) : KeptT tb sp w (W.setRow b cs) :=
  ⟨h.os, h.tape, h.output, by have := h.size; simpa using this, fun k hk hs => (setRow_other _ _ _ _ (by omega)).trans (h.block k hk hs)⟩
theorem Tab.spot {W : World} {B tb : Nat} {sp : Option Addr} {n cap : Nat} {ps : Ps} (h : Tab W B tb sp n cap ps) : ∀ b, sp.map (·.block) = some b → b < W.heap.size := by
  intro b e
  rcases h.row.row with ⟨e', _⟩ | ⟨g, cur, e', _, hg, _⟩
  · rw [e'] at e; cases e
  · rw [e'] at e; cases e; exact lt_of_heap hg
theorem Tab.keep {W W' : World} {B tb : Nat} {sp : Option Addr} {n cap : Nat} {ps : Ps} (h : Tab W B tb sp n cap ps) (hk : ∀ b, (b = tb ∨ sp.map (·.block) = some b) → W'.heap[b]? = W.heap[b]?) : Tab W' B tb sp n cap ps :=
  ⟨(hk tb (.inl rfl)).trans h.tbl, h.low, h.row.keep fun g e _ => hk g (.inr (by rw [e]; rfl))⟩
theorem Tab.setRow {W : World} {B tb : Nat} {sp : Option Addr} {n cap : Nat} {ps : Ps} (h : Tab W B tb sp n cap ps) {b : Nat} (h1 : b ≠ tb) (h2 : sp.map (·.block) ≠ some b) (cs : Array Value) : Tab (W.setRow b cs) B tb sp n cap ps :=
  h.keep fun k hk => setRow_other _ _ _ _ (by rintro rfl; rcases hk with e | e; exact h1 e; exact h2 e)
theorem KeptT.setCell {tb : Nat} {a : Addr} {sp : Option Addr} {w W : World} (h : KeptT tb sp w W) (hb : w.heap.size ≤ a.block) (v : Value) : KeptT tb sp w (W.setCell a v) :=
  ⟨h.os, h.tape, h.output, by have := h.size; simpa [World.setCell] using this, fun k hk hs => (Below.heap_setCell _ _ _ _ (by omega)).trans (h.block k hk hs)⟩
theorem Tab.setCell {W : World} {B tb : Nat} {sp : Option Addr} {n cap : Nat} {ps : Ps} (h : Tab W B tb sp n cap ps) {a : Addr} (h1 : a.block ≠ tb) (h2 : sp.map (·.block) ≠ some a.block) (v : Value) : Tab (W.setCell a v) B tb sp n cap ps :=
  h.keep fun k hk => Below.heap_setCell _ _ _ _ (by rintro rfl; rcases hk with e | e; exact h1 e; exact h2 e)
theorem HasL.putHead {W : World} {b j : Nat} {cs : Array Value} {t : TypeId} {l : List Blk3} (h : HasL W ((b, cs, t) :: l)) (hl : ∀ x ∈ l, x.1 ≠ b) (v : Value) : HasL (W.setCell ⟨b, j, none⟩ v) ((b, cs.setIfInBounds j v, t) :: l) :=
  ⟨blk_set v h.1, HasL.of fun x hx => (Below.heap_setCell _ _ _ _ (hl x hx)).trans (h.2.mem x hx)⟩
theorem NewOr.ne {sp sp' : Option Addr} {H b : Nat} (h : NewOr sp sp' H) (h1 : sp.map (·.block) ≠ some b) (h2 : b < H) : sp'.map (·.block) ≠ some b := by
  rcases h with rfl | h
  · exact h1
  · intro e
    cases sp' with
    | none => cases e
    | some a => have := h a rfl; simp at e; omega
theorem NewOr.low {sp sp' : Option Addr} {H H' : Nat} (h : NewOr sp sp' H) (hl : H' ≤ H) : NewOr sp sp' H' := h.imp id fun h a e => Nat.le_trans hl (h a e)
/-- What a way leaves. -/
def WayEnd (B tb : Nat) (sp : Option Addr) (ps : Ps) (a : An) (w : World) (e : Ending) (w' : World) : Prop :=
  ∃ sp' n' cap', e = .returned (.agg (anA a none 0 0)) ∧ Tab w' B tb sp' n' cap' ps ∧ KeptT tb sp w w' ∧ NewOr sp sp' w.heap.size
set_option maxHeartbeats 1000000 in
theorem way_store (B tb : Nat) (sp : Option Addr) (n cap : Nat) (ps : Ps) (c : Cl) (w : World) (h : Tab w B tb sp n cap ps) (hup : upB ps = true) (hn : n ≤ 4096) :
    Calls Tryd.prog 46 #[.pointer (some ⟨tb, 0, none⟩), .agg (clA c)] w (WayEnd B tb sp (insP ps c.key c.a) (anK ps c.key) w) := by
  obtain ⟨op, key, x, y⟩ := c
  have H0 := ((Hs.nil w).new2 (clA ⟨op, key, x, y⟩) (anA ⟨0, 0, false⟩ none 0 0) 31 34)
  obtain ⟨W0, hW0⟩ : ∃ W0, W0 = ((w.alloc (.cells (clA ⟨op, key, x, y⟩) 31)).alloc (.cells (anA ⟨0, 0, false⟩ none 0 0) 34)) := ⟨_, rfl⟩
  rw [← hW0] at H0
  have G := mget_any tb sp n cap ps key _ (h.r.below H0.old) hup hn
  obtain ⟨an, han⟩ : ∃ an, an = anK ps key := ⟨_, rfl⟩
  have htl := lt_of_heap h.tbl
  have hsl := h.spot
  show Calls _ _ _ _ (WayEnd B tb sp (insP ps key x) (anK ps key) w)
  rw [← han] at G
  have h'h := Lib.hid h
  have hup'h := Lib.hid hup
  have H0'h := Lib.hid H0
  have G'h := Lib.hid G
  have han'h := Lib.hid han
  have htl'h := Lib.hid htl
  have hsl'h := Lib.hid hsl
  have hW0'h := Lib.hid hW0
  clear h hup H0 G han htl hsl hW0
  go_enter Tryd.func46, Tryd.ntmps46
  go_upto_region 1 with fail
  change Code.wp _ _ _ _ ((w.alloc (.cells (clA ⟨op, key, x, y⟩) 31)).alloc (.cells (anA ⟨0, 0, false⟩ none 0 0) 34))
  rw [← hW0'h.out]
  have x0 : W0.cell? ⟨w.heap.size, 0, none⟩ = some (.int .i64 op) := blk_cell (i := 0) H0'h.out.rows.2.1 rfl
  have x1 : W0.cell? ⟨w.heap.size, 1, none⟩ = some (.int .u64 (key : Int)) := blk_cell (i := 1) H0'h.out.rows.2.1 rfl
  have x2 : W0.cell? ⟨w.heap.size, 2, none⟩ = some (.int .u64 (x : Int)) := blk_cell (i := 2) H0'h.out.rows.2.1 rfl
  have x3 : W0.cell? ⟨w.heap.size, 3, none⟩ = some (.int .u64 (y : Int)) := blk_cell (i := 3) H0'h.out.rows.2.1 rfl
  go_upto_region 2 with (first | (go_at_call 68; refine G'h.out.mono ?_; rintro e w1 ⟨rfl, hb1⟩) | (refine wpList_store_row rfl _ _ _ rfl w1.heap.size (anA an none 0 0) rfl rfl 34 _ (World.alloc_heap_new _ _) info_an rfl (anA_one _ _ _ _) ?_))
  have H1 := ((H0'h.out.next hb1).new (anA ⟨0, 0, false⟩ none 0 0) 34).set 0 rfl (anA an none 0 0)
  change Code.wp _ _ _ _ ((w1.alloc (.cells (anA ⟨0, 0, false⟩ none 0 0) 34)).setRow w1.heap.size (anA an none 0 0))
  generalize World.setRow _ _ _ = W1 at H1 ⊢
  have hw1 : w.heap.size + 1 < w1.heap.size := by have := (H0'h.out.next hb1).lt _ (List.mem_cons_self ..); exact this
  clear x0 x1 x2 x3 hb1
  have hT1 := h'h.out.below H1.old
  have x0 : W1.cell? ⟨w.heap.size, 0, none⟩ = some (.int .i64 op) := blk_cell (i := 0) H1.rows.2.2.1 rfl
  have x1 : W1.cell? ⟨w.heap.size, 1, none⟩ = some (.int .u64 (key : Int)) := blk_cell (i := 1) H1.rows.2.2.1 rfl
  have x2 : W1.cell? ⟨w.heap.size, 2, none⟩ = some (.int .u64 (x : Int)) := blk_cell (i := 2) H1.rows.2.2.1 rfl
  have x3 : W1.cell? ⟨w.heap.size, 3, none⟩ = some (.int .u64 (y : Int)) := blk_cell (i := 3) H1.rows.2.2.1 rfl
  have P := mput_any B tb sp n cap ps key x W1 hT1 hup'h.out hn
  have H1'h := Lib.hid H1
  have hT1'h := Lib.hid hT1
  have P'h := Lib.hid P
  clear H1 hT1 P
  go_upto_region 3 with (go_at_call 69; refine P'h.out.mono ?_; rintro e w2 ⟨sp', n', cap', rfl, hT2, hK2, hN2⟩)
  try clear x0 x1 x2 x3
  have hL2 := H1'h.out.rows.keptT hK2 (fun z hz => by
    have hlo := H1'h.out.low z hz
    refine ⟨by have := htl'h.out; omega, fun e => ?_⟩
    have := hsl'h.out _ e; omega)
  have hKw := (KeptT.of_below (tb := tb) (sp := sp) H1'h.out.old).trans hK2
  have hN := hN2.low H1'h.out.old.size
  have hne1 : sp.map (·.block) ≠ some (w.heap.size + 1) := fun e => by have := hsl'h.out _ e; omega
  have hlt1 := (H1'h.out.lt _ (List.mem_cons_of_mem _ (List.mem_cons_self ..)))
  have hne := hN2.ne hne1 hlt1
  have hne2 := hN2.ne (b := w1.heap.size) (fun e => by have := hsl'h.out _ e; omega) (H1'h.out.lt _ (List.mem_cons_self ..))
  clear hK2 hN2 hne1 hlt1
  have hT2'h := Lib.hid hT2
  have hL2'h := Lib.hid hL2
  have hKw'h := Lib.hid hKw
  have hN'h := Lib.hid hN
  have hne'h := Lib.hid hne
  have hne2'h := Lib.hid hne2
  clear hT2 hL2 hKw hN hne hne2
  go_wp2_with (first | (refine wpList_load_row rfl _ _ rfl (w1.heap.size) rfl 34 _ (0, 0) _ (hL2'h.out.1) Tryd.underlying34 rfl info_an ?_) | (refine wpList_store_row rfl _ _ _ rfl (w.heap.size + 1) (anA an none 0 0) rfl rfl 34 _ (hL2'h.out.2.1) info_an rfl (anA_one _ _ _ _) ?_))
  have hZ := setRow_heap _ _ _ (anA an none 0 0) _ _ hL2'h.out.2.1
  have hTZ := hT2'h.out.setRow (b := w.heap.size + 1) (by have := htl'h.out; omega) hne'h.out (anA an none 0 0)
  have hKZ := hKw'h.out.setRow (b := w.heap.size + 1) (by omega) (anA an none 0 0)
  generalize World.setRow _ _ _ = W9 at hZ hTZ hKZ ⊢
  have z0 := blk_cell (i := 0) hZ rfl
  have z1 := blk_cell (i := 1) hZ rfl
  have z2 := blk_cell (i := 2) hZ rfl
  have z3 := blk_cell (i := 3) hZ rfl
  refine bodyPost_ret (v := .agg (anA an none 0 0)) ?_ rfl ⟨sp', n', cap', by rw [han'h.out], hTZ, hKZ, hN'h.out⟩
  simp [results, Tryd.results46, go_sem, z0, z1, z2, z3, anA]
set_option maxHeartbeats 1000000 in
theorem way_load (B tb : Nat) (sp : Option Addr) (n cap : Nat) (ps : Ps) (c : Cl) (w : World) (h : Tab w B tb sp n cap ps) (hup : upB ps = true) (hn : n ≤ 4096) :
    Calls Tryd.prog 45 #[.pointer (some ⟨tb, 0, none⟩), .agg (clA c)] w (WayEnd B tb sp ps (anK ps c.key) w) := by
  obtain ⟨op, key, x, y⟩ := c
  have H0 := ((Hs.nil w).new2 (clA ⟨op, key, x, y⟩) (anA ⟨0, 0, false⟩ none 0 0) 31 34)
  obtain ⟨W0, hW0⟩ : ∃ W0, W0 = ((w.alloc (.cells (clA ⟨op, key, x, y⟩) 31)).alloc (.cells (anA ⟨0, 0, false⟩ none 0 0) 34)) := ⟨_, rfl⟩
  rw [← hW0] at H0
  have G := mget_any tb sp n cap ps key _ (h.r.below H0.old) hup hn
  obtain ⟨an, han⟩ : ∃ an, an = anK ps key := ⟨_, rfl⟩
  have htl := lt_of_heap h.tbl
  have hsl := h.spot
  show Calls _ _ _ _ (WayEnd B tb sp (ps) (anK ps key) w)
  rw [← han] at G
  have h'h := Lib.hid h
  have hup'h := Lib.hid hup
  have H0'h := Lib.hid H0
  have G'h := Lib.hid G
  have han'h := Lib.hid han
  have htl'h := Lib.hid htl
  have hsl'h := Lib.hid hsl
  have hW0'h := Lib.hid hW0
  clear h hup H0 G han htl hsl hW0
  go_enter Tryd.func45, Tryd.ntmps45
  go_upto_region 1 with fail
  change Code.wp _ _ _ _ ((w.alloc (.cells (clA ⟨op, key, x, y⟩) 31)).alloc (.cells (anA ⟨0, 0, false⟩ none 0 0) 34))
  rw [← hW0'h.out]
  have x0 : W0.cell? ⟨w.heap.size, 0, none⟩ = some (.int .i64 op) := blk_cell (i := 0) H0'h.out.rows.2.1 rfl
  have x1 : W0.cell? ⟨w.heap.size, 1, none⟩ = some (.int .u64 (key : Int)) := blk_cell (i := 1) H0'h.out.rows.2.1 rfl
  have x2 : W0.cell? ⟨w.heap.size, 2, none⟩ = some (.int .u64 (x : Int)) := blk_cell (i := 2) H0'h.out.rows.2.1 rfl
  have x3 : W0.cell? ⟨w.heap.size, 3, none⟩ = some (.int .u64 (y : Int)) := blk_cell (i := 3) H0'h.out.rows.2.1 rfl
  go_wp2_with (first | (go_at_call 68; refine G'h.out.mono ?_; rintro e w1 ⟨rfl, hb1⟩; have H1 := H0'h.out.next hb1; have H1'h := Lib.hid H1; clear H1) | (refine wpList_store_row rfl _ _ _ rfl (w.heap.size + 1) (anA an none 0 0) rfl rfl 34 _ (H1'h.out.rows.1) info_an rfl (anA_one _ _ _ _) ?_))
  have hT1 := h'h.out.below H1'h.out.old
  have hL2 : HasL w1 [(0, #[], 0), (w.heap.size + 1, anA ⟨0, 0, false⟩ none 0 0, 34)] ∨ True := .inr trivial
  have hZ := setRow_heap _ _ _ (anA an none 0 0) _ _ H1'h.out.rows.1
  have hTZ := hT1.setRow (b := w.heap.size + 1) (by have := htl'h.out; omega) (fun e => by have := hsl'h.out _ e; omega) (anA an none 0 0)
  have hKZ := (KeptT.of_below (tb := tb) (sp := sp) H1'h.out.old).setRow (b := w.heap.size + 1) (by omega) (anA an none 0 0)
  clear hL2
  generalize World.setRow _ _ _ = W9 at hZ hTZ hKZ ⊢
  have z0 := blk_cell (i := 0) hZ rfl
  have z1 := blk_cell (i := 1) hZ rfl
  have z2 := blk_cell (i := 2) hZ rfl
  have z3 := blk_cell (i := 3) hZ rfl
  refine bodyPost_ret (v := .agg (anA an none 0 0)) ?_ rfl ⟨sp, n, cap, by rw [han'h.out], hTZ, hKZ, .inl rfl⟩
  simp [results, Tryd.results45, go_sem, z0, z1, z2, z3, anA]
theorem anK_done (ps : Ps) (key : Nat) : (anK ps key).done = hasP ps key := rfl
set_option maxHeartbeats 1000000 in
theorem way_first_has (B tb : Nat) (sp : Option Addr) (n cap : Nat) (ps : Ps) (c : Cl) (w : World) (h : Tab w B tb sp n cap ps) (hup : upB ps = true) (hn : n ≤ 4096) (hh : hasP ps c.key = true) :
    Calls Tryd.prog 49 #[.pointer (some ⟨tb, 0, none⟩), .agg (clA c)] w (WayEnd B tb sp ps (anK ps c.key) w) := by
  obtain ⟨op, key, x, y⟩ := c
  have H0 := ((Hs.nil w).new2 (clA ⟨op, key, x, y⟩) (anA ⟨0, 0, false⟩ none 0 0) 31 34)
  obtain ⟨W0, hW0⟩ : ∃ W0, W0 = ((w.alloc (.cells (clA ⟨op, key, x, y⟩) 31)).alloc (.cells (anA ⟨0, 0, false⟩ none 0 0) 34)) := ⟨_, rfl⟩
  rw [← hW0] at H0
  have G := mget_any tb sp n cap ps key _ (h.r.below H0.old) hup hn
  obtain ⟨an, han⟩ : ∃ an, an = anK ps key := ⟨_, rfl⟩
  have htl := lt_of_heap h.tbl
  have hsl := h.spot
  show Calls _ _ _ _ (WayEnd B tb sp (ps) (anK ps key) w)
  rw [← han] at G
  have h'h := Lib.hid h
  have hup'h := Lib.hid hup
  have H0'h := Lib.hid H0
  have G'h := Lib.hid G
  have han'h := Lib.hid han
  have htl'h := Lib.hid htl
  have hsl'h := Lib.hid hsl
  have hW0'h := Lib.hid hW0
  clear h hup H0 G han htl hsl hW0
  go_enter Tryd.func49, Tryd.ntmps49
  go_upto_region 1 with fail
  change Code.wp _ _ _ _ ((w.alloc (.cells (clA ⟨op, key, x, y⟩) 31)).alloc (.cells (anA ⟨0, 0, false⟩ none 0 0) 34))
  rw [← hW0'h.out]
  have x0 : W0.cell? ⟨w.heap.size, 0, none⟩ = some (.int .i64 op) := blk_cell (i := 0) H0'h.out.rows.2.1 rfl
  have x1 : W0.cell? ⟨w.heap.size, 1, none⟩ = some (.int .u64 (key : Int)) := blk_cell (i := 1) H0'h.out.rows.2.1 rfl
  have x2 : W0.cell? ⟨w.heap.size, 2, none⟩ = some (.int .u64 (x : Int)) := blk_cell (i := 2) H0'h.out.rows.2.1 rfl
  have x3 : W0.cell? ⟨w.heap.size, 3, none⟩ = some (.int .u64 (y : Int)) := blk_cell (i := 3) H0'h.out.rows.2.1 rfl
  have hd : an.done = true := by rw [han'h.out]; exact hh
  clear hh
  go_upto_region 2 with (first | (go_at_call 68; refine G'h.out.mono ?_; rintro e w1 ⟨rfl, hb1⟩) | (refine wpList_store_row rfl _ _ _ rfl w1.heap.size (anA an none 0 0) rfl rfl 34 _ (World.alloc_heap_new _ _) info_an rfl (anA_one _ _ _ _) ?_))
  have H1 := ((H0'h.out.next hb1).new (anA ⟨0, 0, false⟩ none 0 0) 34).set 0 rfl (anA an none 0 0)
  change Code.wp _ _ _ _ ((w1.alloc (.cells (anA ⟨0, 0, false⟩ none 0 0) 34)).setRow w1.heap.size (anA an none 0 0))
  generalize World.setRow _ _ _ = W1 at H1 ⊢
  have hw1 : w.heap.size + 1 < w1.heap.size := by have := (H0'h.out.next hb1).lt _ (List.mem_cons_self ..); exact this
  clear x0 x1 x2 x3 hb1
  have hT1 := h'h.out.below H1.old
  have x0 : W1.cell? ⟨w.heap.size, 0, none⟩ = some (.int .i64 op) := blk_cell (i := 0) H1.rows.2.2.1 rfl
  have x1 : W1.cell? ⟨w.heap.size, 1, none⟩ = some (.int .u64 (key : Int)) := blk_cell (i := 1) H1.rows.2.2.1 rfl
  have x2 : W1.cell? ⟨w.heap.size, 2, none⟩ = some (.int .u64 (x : Int)) := blk_cell (i := 2) H1.rows.2.2.1 rfl
  have x3 : W1.cell? ⟨w.heap.size, 3, none⟩ = some (.int .u64 (y : Int)) := blk_cell (i := 3) H1.rows.2.2.1 rfl
  have y2 : W1.cell? ⟨w1.heap.size, 2, none⟩ = some (.bool true) := by rw [← hd]; exact blk_cell (i := 2) H1.rows.1 rfl
  clear hd
  have H1'h := Lib.hid H1
  have hT1'h := Lib.hid hT1
  clear H1 hT1
  go_upto_region 5 with fail
  clear y2
  clear x0 x1 x2 x3
  obtain ⟨sp', hsp'⟩ : ∃ sp', sp' = sp := ⟨_, rfl⟩
  obtain ⟨n', hn'⟩ : ∃ n', n' = n := ⟨_, rfl⟩
  obtain ⟨cap', hcap'⟩ : ∃ cap', cap' = cap := ⟨_, rfl⟩
  have hT2 := hT1'h.out
  rw [← hsp', ← hn', ← hcap'] at hT2
  have hL2 := H1'h.out.rows
  have hKw := KeptT.of_below (tb := tb) (sp := sp) H1'h.out.old
  have hN : NewOr sp sp' w.heap.size := .inl hsp'
  have hne : sp'.map (·.block) ≠ some (w.heap.size + 1) := fun e => by rw [hsp'] at e; have := hsl'h.out _ e; omega
  clear hsp' hn' hcap'
  have hT2'h := Lib.hid hT2
  have hL2'h := Lib.hid hL2
  have hKw'h := Lib.hid hKw
  have hN'h := Lib.hid hN
  have hne'h := Lib.hid hne
  clear hT2 hL2 hKw hN hne
  go_wp2_with (first | (refine wpList_load_row rfl _ _ rfl (w1.heap.size) rfl 34 _ (0, 0) _ (hL2'h.out.1) Tryd.underlying34 rfl info_an ?_) | (refine wpList_store_row rfl _ _ _ rfl (w.heap.size + 1) (anA an none 0 0) rfl rfl 34 _ (hL2'h.out.2.1) info_an rfl (anA_one _ _ _ _) ?_))
  have hZ := setRow_heap _ _ _ (anA an none 0 0) _ _ hL2'h.out.2.1
  have hTZ := hT2'h.out.setRow (b := w.heap.size + 1) (by have := htl'h.out; omega) hne'h.out (anA an none 0 0)
  have hKZ := hKw'h.out.setRow (b := w.heap.size + 1) (by omega) (anA an none 0 0)
  generalize World.setRow _ _ _ = W9 at hZ hTZ hKZ ⊢
  have z0 := blk_cell (i := 0) hZ rfl
  have z1 := blk_cell (i := 1) hZ rfl
  have z2 := blk_cell (i := 2) hZ rfl
  have z3 := blk_cell (i := 3) hZ rfl
  refine bodyPost_ret (v := .agg (anA an none 0 0)) ?_ rfl ⟨sp', n', cap', by rw [han'h.out], hTZ, hKZ, hN'h.out⟩
  simp [results, Tryd.results49, go_sem, z0, z1, z2, z3, anA]
set_option maxHeartbeats 1000000 in
theorem way_first_no (B tb : Nat) (sp : Option Addr) (n cap : Nat) (ps : Ps) (c : Cl) (w : World) (h : Tab w B tb sp n cap ps) (hup : upB ps = true) (hn : n ≤ 4096) (hh : hasP ps c.key = false) :
    Calls Tryd.prog 49 #[.pointer (some ⟨tb, 0, none⟩), .agg (clA c)] w (WayEnd B tb sp (insP ps c.key c.a) ⟨0, c.a, false⟩ w) := by
  obtain ⟨op, key, x, y⟩ := c
  have H0 := ((Hs.nil w).new2 (clA ⟨op, key, x, y⟩) (anA ⟨0, 0, false⟩ none 0 0) 31 34)
  obtain ⟨W0, hW0⟩ : ∃ W0, W0 = ((w.alloc (.cells (clA ⟨op, key, x, y⟩) 31)).alloc (.cells (anA ⟨0, 0, false⟩ none 0 0) 34)) := ⟨_, rfl⟩
  rw [← hW0] at H0
  have G := mget_any tb sp n cap ps key _ (h.r.below H0.old) hup hn
  obtain ⟨an, han⟩ : ∃ an, an = anK ps key := ⟨_, rfl⟩
  have htl := lt_of_heap h.tbl
  have hsl := h.spot
  show Calls _ _ _ _ (WayEnd B tb sp (insP ps key x) (⟨0, x, false⟩) w)
  rw [← han] at G
  have h'h := Lib.hid h
  have hup'h := Lib.hid hup
  have H0'h := Lib.hid H0
  have G'h := Lib.hid G
  have han'h := Lib.hid han
  have htl'h := Lib.hid htl
  have hsl'h := Lib.hid hsl
  have hW0'h := Lib.hid hW0
  clear h hup H0 G han htl hsl hW0
  go_enter Tryd.func49, Tryd.ntmps49
  go_upto_region 1 with fail
  change Code.wp _ _ _ _ ((w.alloc (.cells (clA ⟨op, key, x, y⟩) 31)).alloc (.cells (anA ⟨0, 0, false⟩ none 0 0) 34))
  rw [← hW0'h.out]
  have x0 : W0.cell? ⟨w.heap.size, 0, none⟩ = some (.int .i64 op) := blk_cell (i := 0) H0'h.out.rows.2.1 rfl
  have x1 : W0.cell? ⟨w.heap.size, 1, none⟩ = some (.int .u64 (key : Int)) := blk_cell (i := 1) H0'h.out.rows.2.1 rfl
  have x2 : W0.cell? ⟨w.heap.size, 2, none⟩ = some (.int .u64 (x : Int)) := blk_cell (i := 2) H0'h.out.rows.2.1 rfl
  have x3 : W0.cell? ⟨w.heap.size, 3, none⟩ = some (.int .u64 (y : Int)) := blk_cell (i := 3) H0'h.out.rows.2.1 rfl
  have hd : an = ⟨0, 0, false⟩ := by
    rw [han'h.out]
    have h0 : hasP ps key = false := hh
    have : getS ps key = none := by unfold hasP at h0; simpa using h0
    unfold anK; rw [h0, this]; rfl
  clear hh
  have hd'h := Lib.hid hd
  clear hd
  go_upto_region 2 with (first | (go_at_call 68; refine G'h.out.mono ?_; rintro e w1 ⟨rfl, hb1⟩) | (refine wpList_store_row rfl _ _ _ rfl w1.heap.size (anA an none 0 0) rfl rfl 34 _ (World.alloc_heap_new _ _) info_an rfl (anA_one _ _ _ _) ?_))
  have H1 := ((H0'h.out.next hb1).new (anA ⟨0, 0, false⟩ none 0 0) 34).set 0 rfl (anA an none 0 0)
  change Code.wp _ _ _ _ ((w1.alloc (.cells (anA ⟨0, 0, false⟩ none 0 0) 34)).setRow w1.heap.size (anA an none 0 0))
  generalize World.setRow _ _ _ = W1 at H1 ⊢
  have hw1 : w.heap.size + 1 < w1.heap.size := by have := (H0'h.out.next hb1).lt _ (List.mem_cons_self ..); exact this
  clear x0 x1 x2 x3 hb1
  have hT1 := h'h.out.below H1.old
  have x0 : W1.cell? ⟨w.heap.size, 0, none⟩ = some (.int .i64 op) := blk_cell (i := 0) H1.rows.2.2.1 rfl
  have x1 : W1.cell? ⟨w.heap.size, 1, none⟩ = some (.int .u64 (key : Int)) := blk_cell (i := 1) H1.rows.2.2.1 rfl
  have x2 : W1.cell? ⟨w.heap.size, 2, none⟩ = some (.int .u64 (x : Int)) := blk_cell (i := 2) H1.rows.2.2.1 rfl
  have x3 : W1.cell? ⟨w.heap.size, 3, none⟩ = some (.int .u64 (y : Int)) := blk_cell (i := 3) H1.rows.2.2.1 rfl
  rw [hd'h.out] at H1
  have y2 : W1.cell? ⟨w1.heap.size, 2, none⟩ = some (.bool false) := blk_cell (i := 2) H1.rows.1 rfl
  have P := mput_any B tb sp n cap ps key x W1 hT1 hup'h.out hn
  have H1'h := Lib.hid H1
  have hT1'h := Lib.hid hT1
  have P'h := Lib.hid P
  clear H1 hT1 P
  go_upto_region 4 with (go_at_call 69; refine P'h.out.mono ?_; rintro e w2 ⟨sp', n', cap', rfl, hT2, hK2, hN2⟩)
  clear y2
  try clear x0 x1 x2 x3
  have hL2 := H1'h.out.rows.keptT hK2 (fun z hz => by
    have hlo := H1'h.out.low z hz
    refine ⟨by have := htl'h.out; omega, fun e => ?_⟩
    have := hsl'h.out _ e; omega)
  have hKw := (KeptT.of_below (tb := tb) (sp := sp) H1'h.out.old).trans hK2
  have hN := hN2.low H1'h.out.old.size
  have hne1 : sp.map (·.block) ≠ some (w.heap.size + 1) := fun e => by have := hsl'h.out _ e; omega
  have hlt1 := (H1'h.out.lt _ (List.mem_cons_of_mem _ (List.mem_cons_self ..)))
  have hne := hN2.ne hne1 hlt1
  have hne2 := hN2.ne (b := w1.heap.size) (fun e => by have := hsl'h.out _ e; omega) (H1'h.out.lt _ (List.mem_cons_self ..))
  clear hK2 hN2 hne1 hlt1
  have hT2'h := Lib.hid hT2
  have hL2'h := Lib.hid hL2
  have hKw'h := Lib.hid hKw
  have hN'h := Lib.hid hN
  have hne'h := Lib.hid hne
  have hne2'h := Lib.hid hne2
  clear hT2 hL2 hKw hN hne hne2
  have y1 : w2.cell? ⟨w1.heap.size, 1, none⟩ = some (.int .u64 0) := blk_cell (i := 1) hL2'h.out.1 rfl
  have v1 := blk_free 1 hL2'h.out.1
  have v2 : w2.cell? ⟨w.heap.size, 2, none⟩ = some (.int .u64 (x : Int)) := blk_cell (i := 2) hL2'h.out.2.2.1 rfl
  go_upto_region 5 with fail
  clear y1 v1 v2
  have hL3 := hL2'h.out.putHead (j := 1) (fun z hz => by
    rcases List.mem_cons.1 hz with e | hz
    · rw [e]; simp only; omega
    · rcases List.mem_cons.1 hz with e | hz
      · rw [e]; simp only; omega
      · cases hz) (.int .u64 (x : Int))
  have hT3 := hT2'h.out.setCell (a := ⟨w1.heap.size, 1, none⟩) (by have := htl'h.out; simp only; omega) hne2'h.out (.int .u64 (x : Int))
  have hK3 := hKw'h.out.setCell (a := ⟨w1.heap.size, 1, none⟩) (by simp only; omega) (.int .u64 (x : Int))
  clear hL2'h hT2'h hKw'h
  generalize World.setCell _ _ _ = W3 at hL3 hT3 hK3 ⊢
  have hL2 : HasL W3 [(w1.heap.size, anA ⟨0, x, false⟩ none 0 0, 34), (w.heap.size + 1, anA ⟨0, 0, false⟩ none 0 0, 34), (w.heap.size, clA ⟨op, key, x, y⟩, 31)] := hL3
  have hT2 := hT3
  have hKw := hK3
  clear hL3 hT3 hK3
  have hL2'h := Lib.hid hL2
  have hT2'h := Lib.hid hT2
  have hKw'h := Lib.hid hKw
  clear hL2 hT2 hKw
  go_wp2_with (first | (refine wpList_load_row rfl _ _ rfl (w1.heap.size) rfl 34 _ (0, 0) _ (hL2'h.out.1) Tryd.underlying34 rfl info_an ?_) | (refine wpList_store_row rfl _ _ _ rfl (w.heap.size + 1) (anA ⟨0, x, false⟩ none 0 0) rfl rfl 34 _ (hL2'h.out.2.1) info_an rfl (anA_one _ _ _ _) ?_))
  have hZ := setRow_heap _ _ _ (anA ⟨0, x, false⟩ none 0 0) _ _ hL2'h.out.2.1
  have hTZ := hT2'h.out.setRow (b := w.heap.size + 1) (by have := htl'h.out; omega) hne'h.out (anA ⟨0, x, false⟩ none 0 0)
  have hKZ := hKw'h.out.setRow (b := w.heap.size + 1) (by omega) (anA ⟨0, x, false⟩ none 0 0)
  generalize World.setRow _ _ _ = W9 at hZ hTZ hKZ ⊢
  have z0 := blk_cell (i := 0) hZ rfl
  have z1 := blk_cell (i := 1) hZ rfl
  have z2 := blk_cell (i := 2) hZ rfl
  have z3 := blk_cell (i := 3) hZ rfl
  refine bodyPost_ret (v := .agg (anA ⟨0, x, false⟩ none 0 0)) ?_ rfl ⟨sp', n', cap', rfl, hTZ, hKZ, hN'h.out⟩
  simp [results, Tryd.results49, go_sem, z0, z1, z2, z3, anA]
end Go.Proofs.YtogeohjeabbmaaaDoor
