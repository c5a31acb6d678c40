/-
  Several texts of mine in one: ModelK ModelL ModelM ModelN.
-/
import Derived.Test.YtogeohjeabbmaaaDoorY4
/-
  Package model: the ways of a call.
-/
set_option linter.unusedSimpArgs false
set_option linter.unusedVariables false
set_option maxRecDepth 100000
namespace Go.Proofs.YtogeohjeabbmaaaDoor
open Go.RowKit

/-- A call. -/
structure Cl where
  op : Int
  key : Nat
  a : Nat
  b : Nat
def clA (c : Cl) : Array Value := #[.int .i64 c.op, .int .u64 (c.key : Int), .int .u64 (c.a : Int), .int .u64 (c.b : Int)]
theorem info_cl : (Tryd.prog.info? 31).map (·.size) = some 4 := by kernel_rfl
theorem HasL.keptT {tb : Nat} {sp : Option Addr} {W W' : World} {l : List Blk3} (h : HasL W l) (hk : KeptT tb sp W W') (hl : ∀ x ∈ l, x.1 ≠ tb ∧ sp.map (·.block) ≠ some x.1) : HasL W' l :=
  HasL.of fun x hx => (hk.block x.1 (lt_of_heap (h.mem x hx)) (hl x hx)).trans (h.mem x hx)
theorem KeptT.setRow {tb b : Nat} {sp : Option Addr} {w W : World} (h : KeptT tb sp w W) (hb : w.heap.size ≤ b) (cs : Array Value) : KeptT tb sp w (W.setRow b cs) :=
  ⟨h.os, h.tape, h.output, by have := h.size; simpa using this, fun k hk hs => (setRow_other _ _ _ _ (by omega)).trans (h.block k hk hs)⟩
theorem Tab.spot {W : World} {B tb : Nat} {sp : Option Addr} {n cap : Nat} {ps : Ps} (h : Tab W B tb sp n cap ps) : ∀ b, sp.map (·.block) = some b → b < W.heap.size := by
  intro b e
  rcases h.row.row with ⟨e', _⟩ | ⟨g, cur, e', _, hg, _⟩
  · rw [e'] at e; cases e
  · rw [e'] at e; cases e; exact lt_of_heap hg
theorem Tab.keep {W W' : World} {B tb : Nat} {sp : Option Addr} {n cap : Nat} {ps : Ps} (h : Tab W B tb sp n cap ps) (hk : ∀ b, (b = tb ∨ sp.map (·.block) = some b) → W'.heap[b]? = W.heap[b]?) : Tab W' B tb sp n cap ps :=
  ⟨(hk tb (.inl rfl)).trans h.tbl, h.low, h.row.keep fun g e _ => hk g (.inr (by rw [e]; rfl))⟩
theorem Tab.setRow {W : World} {B tb : Nat} {sp : Option Addr} {n cap : Nat} {ps : Ps} (h : Tab W B tb sp n cap ps) {b : Nat} (h1 : b ≠ tb) (h2 : sp.map (·.block) ≠ some b) (cs : Array Value) : Tab (W.setRow b cs) B tb sp n cap ps :=
  h.keep fun k hk => setRow_other _ _ _ _ (by rintro rfl; rcases hk with e | e; exact h1 e; exact h2 e)
theorem KeptT.setCell {tb : Nat} {a : Addr} {sp : Option Addr} {w W : World} (h : KeptT tb sp w W) (hb : w.heap.size ≤ a.block) (v : Value) : KeptT tb sp w (W.setCell a v) :=
  ⟨h.os, h.tape, h.output, by have := h.size; simpa [World.setCell] using this, fun k hk hs => (Below.heap_setCell _ _ _ _ (by omega)).trans (h.block k hk hs)⟩
theorem Tab.setCell {W : World} {B tb : Nat} {sp : Option Addr} {n cap : Nat} {ps : Ps} (h : Tab W B tb sp n cap ps) {a : Addr} (h1 : a.block ≠ tb) (h2 : sp.map (·.block) ≠ some a.block) (v : Value) : Tab (W.setCell a v) B tb sp n cap ps :=
  h.keep fun k hk => Below.heap_setCell _ _ _ _ (by rintro rfl; rcases hk with e | e; exact h1 e; exact h2 e)
theorem HasL.putHead {W : World} {b j : Nat} {cs : Array Value} {t : TypeId} {l : List Blk3} (h : HasL W ((b, cs, t) :: l)) (hl : ∀ x ∈ l, x.1 ≠ b) (v : Value) : HasL (W.setCell ⟨b, j, none⟩ v) ((b, cs.setIfInBounds j v, t) :: l) :=
  ⟨blk_set v h.1, HasL.of fun x hx => (Below.heap_setCell _ _ _ _ (hl x hx)).trans (h.2.mem x hx)⟩
theorem NewOr.ne {sp sp' : Option Addr} {H b : Nat} (h : NewOr sp sp' H) (h1 : sp.map (·.block) ≠ some b) (h2 : b < H) : sp'.map (·.block) ≠ some b := by
  rcases h with rfl | h
  · exact h1
  · intro e
    cases sp' with
    | none => cases e
    | some a => have := h a rfl; simp at e; omega
theorem NewOr.low {sp sp' : Option Addr} {H H' : Nat} (h : NewOr sp sp' H) (hl : H' ≤ H) : NewOr sp sp' H' := h.imp id fun h a e => Nat.le_trans hl (h a e)
/-- What a way leaves. -/
def WayEnd (B tb : Nat) (sp : Option Addr) (ps : Ps) (a : An) (w : World) (e : Ending) (w' : World) : Prop :=
  ∃ sp' n' cap', e = .returned (.agg (anA a none 0 0)) ∧ Tab w' B tb sp' n' cap' ps ∧ KeptT tb sp w w' ∧ NewOr sp sp' w.heap.size
set_option maxHeartbeats 1000000 in
theorem way_store (B tb : Nat) (sp : Option Addr) (n cap : Nat) (ps : Ps) (c : Cl) (w : World) (h : Tab w B tb sp n cap ps) (hup : upB ps = true) (hn : n ≤ 4096) :
    Calls Tryd.prog 46 #[.pointer (some ⟨tb, 0, none⟩), .agg (clA c)] w (WayEnd B tb sp (insP ps c.key c.a) (anK ps c.key) w) := by
  obtain ⟨op, key, x, y⟩ := c
  have H0 := ((Hs.nil w).new2 (clA ⟨op, key, x, y⟩) (anA ⟨0, 0, false⟩ none 0 0) 31 34)
  obtain ⟨W0, hW0⟩ : ∃ W0, W0 = ((w.alloc (.cells (clA ⟨op, key, x, y⟩) 31)).alloc (.cells (anA ⟨0, 0, false⟩ none 0 0) 34)) := ⟨_, rfl⟩
  rw [← hW0] at H0
  have G := mget_any tb sp n cap ps key _ (h.r.below H0.old) hup hn
  obtain ⟨an, han⟩ : ∃ an, an = anK ps key := ⟨_, rfl⟩
  have htl := lt_of_heap h.tbl
  have hsl := h.spot
  show Calls _ _ _ _ (WayEnd B tb sp (insP ps key x) (anK ps key) w)
  rw [← han] at G
  have h'h := Lib.hid h
  have hup'h := Lib.hid hup
  have H0'h := Lib.hid H0
  have G'h := Lib.hid G
  have han'h := Lib.hid han
  have htl'h := Lib.hid htl
  have hsl'h := Lib.hid hsl
  have hW0'h := Lib.hid hW0
  clear h hup H0 G han htl hsl hW0
  go_enter Tryd.func46, Tryd.ntmps46
  go_upto_region 1 with fail
  change Code.wp _ _ _ _ ((w.alloc (.cells (clA ⟨op, key, x, y⟩) 31)).alloc (.cells (anA ⟨0, 0, false⟩ none 0 0) 34))
  rw [← hW0'h.out]
  have x0 : W0.cell? ⟨w.heap.size, 0, none⟩ = some (.int .i64 op) := blk_cell (i := 0) H0'h.out.rows.2.1 rfl
  have x1 : W0.cell? ⟨w.heap.size, 1, none⟩ = some (.int .u64 (key : Int)) := blk_cell (i := 1) H0'h.out.rows.2.1 rfl
  have x2 : W0.cell? ⟨w.heap.size, 2, none⟩ = some (.int .u64 (x : Int)) := blk_cell (i := 2) H0'h.out.rows.2.1 rfl
  have x3 : W0.cell? ⟨w.heap.size, 3, none⟩ = some (.int .u64 (y : Int)) := blk_cell (i := 3) H0'h.out.rows.2.1 rfl
  go_upto_region 2 with (first | (go_at_call 68; refine G'h.out.mono ?_; rintro e w1 ⟨rfl, hb1⟩) | (refine wpList_store_row rfl _ _ _ rfl w1.heap.size (anA an none 0 0) rfl rfl 34 _ (World.alloc_heap_new _ _) info_an rfl (anA_one _ _ _ _) ?_))
  have H1 := ((H0'h.out.next hb1).new (anA ⟨0, 0, false⟩ none 0 0) 34).set 0 rfl (anA an none 0 0)
  change Code.wp _ _ _ _ ((w1.alloc (.cells (anA ⟨0, 0, false⟩ none 0 0) 34)).setRow w1.heap.size (anA an none 0 0))
  generalize World.setRow _ _ _ = W1 at H1 ⊢
  have hw1 : w.heap.size + 1 < w1.heap.size := by have := (H0'h.out.next hb1).lt _ (List.mem_cons_self ..); exact this
  clear x0 x1 x2 x3 hb1
  have hT1 := h'h.out.below H1.old
  have x0 : W1.cell? ⟨w.heap.size, 0, none⟩ = some (.int .i64 op) := blk_cell (i := 0) H1.rows.2.2.1 rfl
  have x1 : W1.cell? ⟨w.heap.size, 1, none⟩ = some (.int .u64 (key : Int)) := blk_cell (i := 1) H1.rows.2.2.1 rfl
  have x2 : W1.cell? ⟨w.heap.size, 2, none⟩ = some (.int .u64 (x : Int)) := blk_cell (i := 2) H1.rows.2.2.1 rfl
  have x3 : W1.cell? ⟨w.heap.size, 3, none⟩ = some (.int .u64 (y : Int)) := blk_cell (i := 3) H1.rows.2.2.1 rfl
  have P := mput_any B tb sp n cap ps key x W1 hT1 hup'h.out hn
  have H1'h := Lib.hid H1
  have hT1'h := Lib.hid hT1
  have P'h := Lib.hid P
  clear H1 hT1 P
  go_upto_region 3 with (go_at_call 69; refine P'h.out.mono ?_; rintro e w2 ⟨sp', n', cap', rfl, hT2, hK2, hN2⟩)
  try clear x0 x1 x2 x3
  have hL2 := H1'h.out.rows.keptT hK2 (fun z hz => by
    have hlo := H1'h.out.low z hz
    refine ⟨by have := htl'h.out; omega, fun e => ?_⟩
    have := hsl'h.out _ e; omega)
  have hKw := (KeptT.of_below (tb := tb) (sp := sp) H1'h.out.old).trans hK2
  have hN := hN2.low H1'h.out.old.size
  have hne1 : sp.map (·.block) ≠ some (w.heap.size + 1) := fun e => by have := hsl'h.out _ e; omega
  have hlt1 := (H1'h.out.lt _ (List.mem_cons_of_mem _ (List.mem_cons_self ..)))
  have hne := hN2.ne hne1 hlt1
  have hne2 := hN2.ne (b := w1.heap.size) (fun e => by have := hsl'h.out _ e; omega) (H1'h.out.lt _ (List.mem_cons_self ..))
  clear hK2 hN2 hne1 hlt1
  have hT2'h := Lib.hid hT2
  have hL2'h := Lib.hid hL2
  have hKw'h := Lib.hid hKw
  have hN'h := Lib.hid hN
  have hne'h := Lib.hid hne
  have hne2'h := Lib.hid hne2
  clear hT2 hL2 hKw hN hne hne2
  go_wp2_with (first | (refine wpList_load_row rfl _ _ rfl (w1.heap.size) rfl 34 _ (0, 0) _ (hL2'h.out.1) Tryd.underlying34 rfl info_an ?_) | (refine wpList_store_row rfl _ _ _ rfl (w.heap.size + 1) (anA an none 0 0) rfl rfl 34 _ (hL2'h.out.2.1) info_an rfl (anA_one _ _ _ _) ?_))
  have hZ := setRow_heap _ _ _ (anA an none 0 0) _ _ hL2'h.out.2.1
  have hTZ := hT2'h.out.setRow (b := w.heap.size + 1) (by have := htl'h.out; omega) hne'h.out (anA an none 0 0)
  have hKZ := hKw'h.out.setRow (b := w.heap.size + 1) (by omega) (anA an none 0 0)
  generalize World.setRow _ _ _ = W9 at hZ hTZ hKZ ⊢
  have z0 := blk_cell (i := 0) hZ rfl
  have z1 := blk_cell (i := 1) hZ rfl
  have z2 := blk_cell (i := 2) hZ rfl
  have z3 := blk_cell (i := 3) hZ rfl
  refine bodyPost_ret (v := .agg (anA an none 0 0)) ?_ rfl ⟨sp', n', cap', by rw [han'h.out], hTZ, hKZ, hN'h.out⟩
  simp [results, Tryd.results46, go_sem, z0, z1, z2, z3, anA]
set_option maxHeartbeats 1000000 in
theorem way_load (B tb : Nat) (sp : Option Addr) (n cap : Nat) (ps : Ps) (c : Cl) (w : World) (h : Tab w B tb sp n cap ps) (hup : upB ps = true) (hn : n ≤ 4096) :
    Calls Tryd.prog 45 #[.pointer (some ⟨tb, 0, none⟩), .agg (clA c)] w (WayEnd B tb sp ps (anK ps c.key) w) := by
  obtain ⟨op, key, x, y⟩ := c
  have H0 := ((Hs.nil w).new2 (clA ⟨op, key, x, y⟩) (anA ⟨0, 0, false⟩ none 0 0) 31 34)
  obtain ⟨W0, hW0⟩ : ∃ W0, W0 = ((w.alloc (.cells (clA ⟨op, key, x, y⟩) 31)).alloc (.cells (anA ⟨0, 0, false⟩ none 0 0) 34)) := ⟨_, rfl⟩
  rw [← hW0] at H0
  have G := mget_any tb sp n cap ps key _ (h.r.below H0.old) hup hn
  obtain ⟨an, han⟩ : ∃ an, an = anK ps key := ⟨_, rfl⟩
  have htl := lt_of_heap h.tbl
  have hsl := h.spot
  show Calls _ _ _ _ (WayEnd B tb sp (ps) (anK ps key) w)
  rw [← han] at G
  have h'h := Lib.hid h
  have hup'h := Lib.hid hup
  have H0'h := Lib.hid H0
  have G'h := Lib.hid G
  have han'h := Lib.hid han
  have htl'h := Lib.hid htl
  have hsl'h := Lib.hid hsl
  have hW0'h := Lib.hid hW0
  clear h hup H0 G han htl hsl hW0
  go_enter Tryd.func45, Tryd.ntmps45
  go_upto_region 1 with fail
  change Code.wp _ _ _ _ ((w.alloc (.cells (clA ⟨op, key, x, y⟩) 31)).alloc (.cells (anA ⟨0, 0, false⟩ none 0 0) 34))
  rw [← hW0'h.out]
  have x0 : W0.cell? ⟨w.heap.size, 0, none⟩ = some (.int .i64 op) := blk_cell (i := 0) H0'h.out.rows.2.1 rfl
  have x1 : W0.cell? ⟨w.heap.size, 1, none⟩ = some (.int .u64 (key : Int)) := blk_cell (i := 1) H0'h.out.rows.2.1 rfl
  have x2 : W0.cell? ⟨w.heap.size, 2, none⟩ = some (.int .u64 (x : Int)) := blk_cell (i := 2) H0'h.out.rows.2.1 rfl
  have x3 : W0.cell? ⟨w.heap.size, 3, none⟩ = some (.int .u64 (y : Int)) := blk_cell (i := 3) H0'h.out.rows.2.1 rfl
  go_wp2_with (first | (go_at_call 68; refine G'h.out.mono ?_; rintro e w1 ⟨rfl, hb1⟩; have H1 := H0'h.out.next hb1; have H1'h := Lib.hid H1; clear H1) | (refine wpList_store_row rfl _ _ _ rfl (w.heap.size + 1) (anA an none 0 0) rfl rfl 34 _ (H1'h.out.rows.1) info_an rfl (anA_one _ _ _ _) ?_))
  have hT1 := h'h.out.below H1'h.out.old
  have hL2 : HasL w1 [(0, #[], 0), (w.heap.size + 1, anA ⟨0, 0, false⟩ none 0 0, 34)] ∨ True := .inr trivial
  have hZ := setRow_heap _ _ _ (anA an none 0 0) _ _ H1'h.out.rows.1
  have hTZ := hT1.setRow (b := w.heap.size + 1) (by have := htl'h.out; omega) (fun e => by have := hsl'h.out _ e; omega) (anA an none 0 0)
  have hKZ := (KeptT.of_below (tb := tb) (sp := sp) H1'h.out.old).setRow (b := w.heap.size + 1) (by omega) (anA an none 0 0)
  clear hL2
  generalize World.setRow _ _ _ = W9 at hZ hTZ hKZ ⊢
  have z0 := blk_cell (i := 0) hZ rfl
  have z1 := blk_cell (i := 1) hZ rfl
  have z2 := blk_cell (i := 2) hZ rfl
  have z3 := blk_cell (i := 3) hZ rfl
  refine bodyPost_ret (v := .agg (anA an none 0 0)) ?_ rfl ⟨sp, n, cap, by rw [han'h.out], hTZ, hKZ, .inl rfl⟩
  simp [results, Tryd.results45, go_sem, z0, z1, z2, z3, anA]
theorem anK_done (ps : Ps) (key : Nat) : (anK ps key).done = hasP ps key := rfl
set_option maxHeartbeats 1000000 in
theorem way_first_has (B tb : Nat) (sp : Option Addr) (n cap : Nat) (ps : Ps) (c : Cl) (w : World) (h : Tab w B tb sp n cap ps) (hup : upB ps = true) (hn : n ≤ 4096) (hh : hasP ps c.key = true) :
    Calls Tryd.prog 49 #[.pointer (some ⟨tb, 0, none⟩), .agg (clA c)] w (WayEnd B tb sp ps (anK ps c.key) w) := by
  obtain ⟨op, key, x, y⟩ := c
  have H0 := ((Hs.nil w).new2 (clA ⟨op, key, x, y⟩) (anA ⟨0, 0, false⟩ none 0 0) 31 34)
  obtain ⟨W0, hW0⟩ : ∃ W0, W0 = ((w.alloc (.cells (clA ⟨op, key, x, y⟩) 31)).alloc (.cells (anA ⟨0, 0, false⟩ none 0 0) 34)) := ⟨_, rfl⟩
  rw [← hW0] at H0
  have G := mget_any tb sp n cap ps key _ (h.r.below H0.old) hup hn
  obtain ⟨an, han⟩ : ∃ an, an = anK ps key := ⟨_, rfl⟩
  have htl := lt_of_heap h.tbl
  have hsl := h.spot
  show Calls _ _ _ _ (WayEnd B tb sp (ps) (anK ps key) w)
  rw [← han] at G
  have h'h := Lib.hid h
  have hup'h := Lib.hid hup
  have H0'h := Lib.hid H0
  have G'h := Lib.hid G
  have han'h := Lib.hid han
  have htl'h := Lib.hid htl
  have hsl'h := Lib.hid hsl
  have hW0'h := Lib.hid hW0
  clear h hup H0 G han htl hsl hW0
  go_enter Tryd.func49, Tryd.ntmps49
  go_upto_region 1 with fail
  change Code.wp _ _ _ _ ((w.alloc (.cells (clA ⟨op, key, x, y⟩) 31)).alloc (.cells (anA ⟨0, 0, false⟩ none 0 0) 34))
  rw [← hW0'h.out]
  have x0 : W0.cell? ⟨w.heap.size, 0, none⟩ = some (.int .i64 op) := blk_cell (i := 0) H0'h.out.rows.2.1 rfl
  have x1 : W0.cell? ⟨w.heap.size, 1, none⟩ = some (.int .u64 (key : Int)) := blk_cell (i := 1) H0'h.out.rows.2.1 rfl
  have x2 : W0.cell? ⟨w.heap.size, 2, none⟩ = some (.int .u64 (x : Int)) := blk_cell (i := 2) H0'h.out.rows.2.1 rfl
  have x3 : W0.cell? ⟨w.heap.size, 3, none⟩ = some (.int .u64 (y : Int)) := blk_cell (i := 3) H0'h.out.rows.2.1 rfl
  have hd : an.done = true := by rw [han'h.out]; exact hh
  clear hh
  go_upto_region 2 with (first | (go_at_call 68; refine G'h.out.mono ?_; rintro e w1 ⟨rfl, hb1⟩) | (refine wpList_store_row rfl _ _ _ rfl w1.heap.size (anA an none 0 0) rfl rfl 34 _ (World.alloc_heap_new _ _) info_an rfl (anA_one _ _ _ _) ?_))
  have H1 := ((H0'h.out.next hb1).new (anA ⟨0, 0, false⟩ none 0 0) 34).set 0 rfl (anA an none 0 0)
  change Code.wp _ _ _ _ ((w1.alloc (.cells (anA ⟨0, 0, false⟩ none 0 0) 34)).setRow w1.heap.size (anA an none 0 0))
  generalize World.setRow _ _ _ = W1 at H1 ⊢
  have hw1 : w.heap.size + 1 < w1.heap.size := by have := (H0'h.out.next hb1).lt _ (List.mem_cons_self ..); exact this
  clear x0 x1 x2 x3 hb1
  have hT1 := h'h.out.below H1.old
  have x0 : W1.cell? ⟨w.heap.size, 0, none⟩ = some (.int .i64 op) := blk_cell (i := 0) H1.rows.2.2.1 rfl
  have x1 : W1.cell? ⟨w.heap.size, 1, none⟩ = some (.int .u64 (key : Int)) := blk_cell (i := 1) H1.rows.2.2.1 rfl
  have x2 : W1.cell? ⟨w.heap.size, 2, none⟩ = some (.int .u64 (x : Int)) := blk_cell (i := 2) H1.rows.2.2.1 rfl
  have x3 : W1.cell? ⟨w.heap.size, 3, none⟩ = some (.int .u64 (y : Int)) := blk_cell (i := 3) H1.rows.2.2.1 rfl
  have y2 : W1.cell? ⟨w1.heap.size, 2, none⟩ = some (.bool true) := by rw [← hd]; exact blk_cell (i := 2) H1.rows.1 rfl
  clear hd
  have H1'h := Lib.hid H1
  have hT1'h := Lib.hid hT1
  clear H1 hT1
  go_upto_region 5 with fail
  clear y2
  clear x0 x1 x2 x3
  obtain ⟨sp', hsp'⟩ : ∃ sp', sp' = sp := ⟨_, rfl⟩
  obtain ⟨n', hn'⟩ : ∃ n', n' = n := ⟨_, rfl⟩
  obtain ⟨cap', hcap'⟩ : ∃ cap', cap' = cap := ⟨_, rfl⟩
  have hT2 := hT1'h.out
  rw [← hsp', ← hn', ← hcap'] at hT2
  have hL2 := H1'h.out.rows
  have hKw := KeptT.of_below (tb := tb) (sp := sp) H1'h.out.old
  have hN : NewOr sp sp' w.heap.size := .inl hsp'
  have hne : sp'.map (·.block) ≠ some (w.heap.size + 1) := fun e => by rw [hsp'] at e; have := hsl'h.out _ e; omega
  clear hsp' hn' hcap'
  have hT2'h := Lib.hid hT2
  have hL2'h := Lib.hid hL2
  have hKw'h := Lib.hid hKw
  have hN'h := Lib.hid hN
  have hne'h := Lib.hid hne
  clear hT2 hL2 hKw hN hne
  go_wp2_with (first | (refine wpList_load_row rfl _ _ rfl (w1.heap.size) rfl 34 _ (0, 0) _ (hL2'h.out.1) Tryd.underlying34 rfl info_an ?_) | (refine wpList_store_row rfl _ _ _ rfl (w.heap.size + 1) (anA an none 0 0) rfl rfl 34 _ (hL2'h.out.2.1) info_an rfl (anA_one _ _ _ _) ?_))
  have hZ := setRow_heap _ _ _ (anA an none 0 0) _ _ hL2'h.out.2.1
  have hTZ := hT2'h.out.setRow (b := w.heap.size + 1) (by have := htl'h.out; omega) hne'h.out (anA an none 0 0)
  have hKZ := hKw'h.out.setRow (b := w.heap.size + 1) (by omega) (anA an none 0 0)
  generalize World.setRow _ _ _ = W9 at hZ hTZ hKZ ⊢
  have z0 := blk_cell (i := 0) hZ rfl
  have z1 := blk_cell (i := 1) hZ rfl
  have z2 := blk_cell (i := 2) hZ rfl
  have z3 := blk_cell (i := 3) hZ rfl
  refine bodyPost_ret (v := .agg (anA an none 0 0)) ?_ rfl ⟨sp', n', cap', by rw [han'h.out], hTZ, hKZ, hN'h.out⟩
  simp [results, Tryd.results49, go_sem, z0, z1, z2, z3, anA]
set_option maxHeartbeats 1000000 in
theorem way_first_no (B tb : Nat) (sp : Option Addr) (n cap : Nat) (ps : Ps) (c : Cl) (w : World) (h : Tab w B tb sp n cap ps) (hup : upB ps = true) (hn : n ≤ 4096) (hh : hasP ps c.key = false) :
    Calls Tryd.prog 49 #[.pointer (some ⟨tb, 0, none⟩), .agg (clA c)] w (WayEnd B tb sp (insP ps c.key c.a) ⟨0, c.a, false⟩ w) := by
  obtain ⟨op, key, x, y⟩ := c
  have H0 := ((Hs.nil w).new2 (clA ⟨op, key, x, y⟩) (anA ⟨0, 0, false⟩ none 0 0) 31 34)
  obtain ⟨W0, hW0⟩ : ∃ W0, W0 = ((w.alloc (.cells (clA ⟨op, key, x, y⟩) 31)).alloc (.cells (anA ⟨0, 0, false⟩ none 0 0) 34)) := ⟨_, rfl⟩
  rw [← hW0] at H0
  have G := mget_any tb sp n cap ps key _ (h.r.below H0.old) hup hn
  obtain ⟨an, han⟩ : ∃ an, an = anK ps key := ⟨_, rfl⟩
  have htl := lt_of_heap h.tbl
  have hsl := h.spot
  show Calls _ _ _ _ (WayEnd B tb sp (insP ps key x) (⟨0, x, false⟩) w)
  rw [← han] at G
  have h'h := Lib.hid h
  have hup'h := Lib.hid hup
  have H0'h := Lib.hid H0
  have G'h := Lib.hid G
  have han'h := Lib.hid han
  have htl'h := Lib.hid htl
  have hsl'h := Lib.hid hsl
  have hW0'h := Lib.hid hW0
  clear h hup H0 G han htl hsl hW0
  go_enter Tryd.func49, Tryd.ntmps49
  go_upto_region 1 with fail
  change Code.wp _ _ _ _ ((w.alloc (.cells (clA ⟨op, key, x, y⟩) 31)).alloc (.cells (anA ⟨0, 0, false⟩ none 0 0) 34))
  rw [← hW0'h.out]
  have x0 : W0.cell? ⟨w.heap.size, 0, none⟩ = some (.int .i64 op) := blk_cell (i := 0) H0'h.out.rows.2.1 rfl
  have x1 : W0.cell? ⟨w.heap.size, 1, none⟩ = some (.int .u64 (key : Int)) := blk_cell (i := 1) H0'h.out.rows.2.1 rfl
  have x2 : W0.cell? ⟨w.heap.size, 2, none⟩ = some (.int .u64 (x : Int)) := blk_cell (i := 2) H0'h.out.rows.2.1 rfl
  have x3 : W0.cell? ⟨w.heap.size, 3, none⟩ = some (.int .u64 (y : Int)) := blk_cell (i := 3) H0'h.out.rows.2.1 rfl
  have hd : an = ⟨0, 0, false⟩ := by
    rw [han'h.out]
    have h0 : hasP ps key = false := hh
    have : getS ps key = none := by unfold hasP at h0; simpa using h0
    unfold anK; rw [h0, this]; rfl
  clear hh
  have hd'h := Lib.hid hd
  clear hd
  go_upto_region 2 with (first | (go_at_call 68; refine G'h.out.mono ?_; rintro e w1 ⟨rfl, hb1⟩) | (refine wpList_store_row rfl _ _ _ rfl w1.heap.size (anA an none 0 0) rfl rfl 34 _ (World.alloc_heap_new _ _) info_an rfl (anA_one _ _ _ _) ?_))
  have H1 := ((H0'h.out.next hb1).new (anA ⟨0, 0, false⟩ none 0 0) 34).set 0 rfl (anA an none 0 0)
  change Code.wp _ _ _ _ ((w1.alloc (.cells (anA ⟨0, 0, false⟩ none 0 0) 34)).setRow w1.heap.size (anA an none 0 0))
  generalize World.setRow _ _ _ = W1 at H1 ⊢
  have hw1 : w.heap.size + 1 < w1.heap.size := by have := (H0'h.out.next hb1).lt _ (List.mem_cons_self ..); exact this
  clear x0 x1 x2 x3 hb1
  have hT1 := h'h.out.below H1.old
  have x0 : W1.cell? ⟨w.heap.size, 0, none⟩ = some (.int .i64 op) := blk_cell (i := 0) H1.rows.2.2.1 rfl
  have x1 : W1.cell? ⟨w.heap.size, 1, none⟩ = some (.int .u64 (key : Int)) := blk_cell (i := 1) H1.rows.2.2.1 rfl
  have x2 : W1.cell? ⟨w.heap.size, 2, none⟩ = some (.int .u64 (x : Int)) := blk_cell (i := 2) H1.rows.2.2.1 rfl
  have x3 : W1.cell? ⟨w.heap.size, 3, none⟩ = some (.int .u64 (y : Int)) := blk_cell (i := 3) H1.rows.2.2.1 rfl
  rw [hd'h.out] at H1
  have y2 : W1.cell? ⟨w1.heap.size, 2, none⟩ = some (.bool false) := blk_cell (i := 2) H1.rows.1 rfl
  have P := mput_any B tb sp n cap ps key x W1 hT1 hup'h.out hn
  have H1'h := Lib.hid H1
  have hT1'h := Lib.hid hT1
  have P'h := Lib.hid P
  clear H1 hT1 P
  go_upto_region 4 with (go_at_call 69; refine P'h.out.mono ?_; rintro e w2 ⟨sp', n', cap', rfl, hT2, hK2, hN2⟩)
  clear y2
  try clear x0 x1 x2 x3
  have hL2 := H1'h.out.rows.keptT hK2 (fun z hz => by
    have hlo := H1'h.out.low z hz
    refine ⟨by have := htl'h.out; omega, fun e => ?_⟩
    have := hsl'h.out _ e; omega)
  have hKw := (KeptT.of_below (tb := tb) (sp := sp) H1'h.out.old).trans hK2
  have hN := hN2.low H1'h.out.old.size
  have hne1 : sp.map (·.block) ≠ some (w.heap.size + 1) := fun e => by have := hsl'h.out _ e; omega
  have hlt1 := (H1'h.out.lt _ (List.mem_cons_of_mem _ (List.mem_cons_self ..)))
  have hne := hN2.ne hne1 hlt1
  have hne2 := hN2.ne (b := w1.heap.size) (fun e => by have := hsl'h.out _ e; omega) (H1'h.out.lt _ (List.mem_cons_self ..))
  clear hK2 hN2 hne1 hlt1
  have hT2'h := Lib.hid hT2
  have hL2'h := Lib.hid hL2
  have hKw'h := Lib.hid hKw
  have hN'h := Lib.hid hN
  have hne'h := Lib.hid hne
  have hne2'h := Lib.hid hne2
  clear hT2 hL2 hKw hN hne hne2
  have y1 : w2.cell? ⟨w1.heap.size, 1, none⟩ = some (.int .u64 0) := blk_cell (i := 1) hL2'h.out.1 rfl
  have v1 := blk_free 1 hL2'h.out.1
  have v2 : w2.cell? ⟨w.heap.size, 2, none⟩ = some (.int .u64 (x : Int)) := blk_cell (i := 2) hL2'h.out.2.2.1 rfl
  go_upto_region 5 with fail
  clear y1 v1 v2
  have hL3 := hL2'h.out.putHead (j := 1) (fun z hz => by
    rcases List.mem_cons.1 hz with e | hz
    · rw [e]; simp only; omega
    · rcases List.mem_cons.1 hz with e | hz
      · rw [e]; simp only; omega
      · cases hz) (.int .u64 (x : Int))
  have hT3 := hT2'h.out.setCell (a := ⟨w1.heap.size, 1, none⟩) (by have := htl'h.out; simp only; omega) hne2'h.out (.int .u64 (x : Int))
  have hK3 := hKw'h.out.setCell (a := ⟨w1.heap.size, 1, none⟩) (by simp only; omega) (.int .u64 (x : Int))
  clear hL2'h hT2'h hKw'h
  generalize World.setCell _ _ _ = W3 at hL3 hT3 hK3 ⊢
  have hL2 : HasL W3 [(w1.heap.size, anA ⟨0, x, false⟩ none 0 0, 34), (w.heap.size + 1, anA ⟨0, 0, false⟩ none 0 0, 34), (w.heap.size, clA ⟨op, key, x, y⟩, 31)] := hL3
  have hT2 := hT3
  have hKw := hK3
  clear hL3 hT3 hK3
  have hL2'h := Lib.hid hL2
  have hT2'h := Lib.hid hT2
  have hKw'h := Lib.hid hKw
  clear hL2 hT2 hKw
  go_wp2_with (first | (refine wpList_load_row rfl _ _ rfl (w1.heap.size) rfl 34 _ (0, 0) _ (hL2'h.out.1) Tryd.underlying34 rfl info_an ?_) | (refine wpList_store_row rfl _ _ _ rfl (w.heap.size + 1) (anA ⟨0, x, false⟩ none 0 0) rfl rfl 34 _ (hL2'h.out.2.1) info_an rfl (anA_one _ _ _ _) ?_))
  have hZ := setRow_heap _ _ _ (anA ⟨0, x, false⟩ none 0 0) _ _ hL2'h.out.2.1
  have hTZ := hT2'h.out.setRow (b := w.heap.size + 1) (by have := htl'h.out; omega) hne'h.out (anA ⟨0, x, false⟩ none 0 0)
  have hKZ := hKw'h.out.setRow (b := w.heap.size + 1) (by omega) (anA ⟨0, x, false⟩ none 0 0)
  generalize World.setRow _ _ _ = W9 at hZ hTZ hKZ ⊢
  have z0 := blk_cell (i := 0) hZ rfl
  have z1 := blk_cell (i := 1) hZ rfl
  have z2 := blk_cell (i := 2) hZ rfl
  have z3 := blk_cell (i := 3) hZ rfl
  refine bodyPost_ret (v := .agg (anA ⟨0, x, false⟩ none 0 0)) ?_ rfl ⟨sp', n', cap', rfl, hTZ, hKZ, hN'h.out⟩
  simp [results, Tryd.results49, go_sem, z0, z1, z2, z3, anA]
end Go.Proofs.YtogeohjeabbmaaaDoor

/-
  Package model: more ways of a call.
-/
set_option linter.unusedSimpArgs false
set_option linter.unusedVariables false
set_option maxRecDepth 100000
namespace Go.Proofs.YtogeohjeabbmaaaDoor
open Go.RowKit

set_option maxHeartbeats 1000000 in
theorem way_swap_yes (B tb : Nat) (sp : Option Addr) (n cap : Nat) (ps : Ps) (c : Cl) (w : World) (h : Tab w B tb sp n cap ps) (hup : upB ps = true) (hn : n ≤ 4096) (hh : hasP ps c.key = true) (hv : (anK ps c.key).val = c.a) :
    Calls Tryd.prog 48 #[.pointer (some ⟨tb, 0, none⟩), .agg (clA c)] w (WayEnd B tb sp (insP ps c.key c.b) { anK ps c.key with done := true } w) := by
  obtain ⟨op, key, x, y⟩ := c
  have H0 := ((Hs.nil w).new2 (clA ⟨op, key, x, y⟩) (anA ⟨0, 0, false⟩ none 0 0) 31 34)
  obtain ⟨W0, hW0⟩ : ∃ W0, W0 = ((w.alloc (.cells (clA ⟨op, key, x, y⟩) 31)).alloc (.cells (anA ⟨0, 0, false⟩ none 0 0) 34)) := ⟨_, rfl⟩
  rw [← hW0] at H0
  have G := mget_any tb sp n cap ps key _ (h.r.below H0.old) hup hn
  obtain ⟨an, han⟩ : ∃ an, an = anK ps key := ⟨_, rfl⟩
  have htl := lt_of_heap h.tbl
  have hsl := h.spot
  show Calls _ _ _ _ (WayEnd B tb sp (insP ps key y) ({ anK ps key with done := true }) w)
  rw [← han] at G
  have h'h := Lib.hid h
  have hup'h := Lib.hid hup
  have H0'h := Lib.hid H0
  have G'h := Lib.hid G
  have han'h := Lib.hid han
  have htl'h := Lib.hid htl
  have hsl'h := Lib.hid hsl
  have hW0'h := Lib.hid hW0
  clear h hup H0 G han htl hsl hW0
  go_enter Tryd.func48, Tryd.ntmps48
  go_upto_region 1 with fail
  change Code.wp _ _ _ _ ((w.alloc (.cells (clA ⟨op, key, x, y⟩) 31)).alloc (.cells (anA ⟨0, 0, false⟩ none 0 0) 34))
  rw [← hW0'h.out]
  have x0 : W0.cell? ⟨w.heap.size, 0, none⟩ = some (.int .i64 op) := blk_cell (i := 0) H0'h.out.rows.2.1 rfl
  have x1 : W0.cell? ⟨w.heap.size, 1, none⟩ = some (.int .u64 (key : Int)) := blk_cell (i := 1) H0'h.out.rows.2.1 rfl
  have x2 : W0.cell? ⟨w.heap.size, 2, none⟩ = some (.int .u64 (x : Int)) := blk_cell (i := 2) H0'h.out.rows.2.1 rfl
  have x3 : W0.cell? ⟨w.heap.size, 3, none⟩ = some (.int .u64 (y : Int)) := blk_cell (i := 3) H0'h.out.rows.2.1 rfl
  obtain ⟨va, hva⟩ : ∃ va, va = an.val := ⟨_, rfl⟩
  have hd : an = ⟨0, va, true⟩ := by
    have h0 : hasP ps key = true := hh
    rw [hva, han'h.out]; unfold anK; rw [h0]
  have hv2 : va = x := by
    have h1 := hv
    try simp only at h1
    rw [hva, han'h.out]; exact h1
  have han2 : { anK ps key with done := true } = (⟨0, va, true⟩ : An) := by rw [hva, han'h.out]; rfl
  clear hh hv hva
  have hd'h := Lib.hid hd
  have hv2'h := Lib.hid hv2
  have han2'h := Lib.hid han2
  clear hd hv2 han2
  go_upto_region 2 with (first | (go_at_call 68; refine G'h.out.mono ?_; rintro e w1 ⟨rfl, hb1⟩) | (refine wpList_store_row rfl _ _ _ rfl w1.heap.size (anA an none 0 0) rfl rfl 34 _ (World.alloc_heap_new _ _) info_an rfl (anA_one _ _ _ _) ?_))
  have H1 := ((H0'h.out.next hb1).new (anA ⟨0, 0, false⟩ none 0 0) 34).set 0 rfl (anA an none 0 0)
  change Code.wp _ _ _ _ ((w1.alloc (.cells (anA ⟨0, 0, false⟩ none 0 0) 34)).setRow w1.heap.size (anA an none 0 0))
  generalize World.setRow _ _ _ = W1 at H1 ⊢
  have hw1 : w.heap.size + 1 < w1.heap.size := by have := (H0'h.out.next hb1).lt _ (List.mem_cons_self ..); exact this
  clear x0 x1 x2 x3 hb1
  have hT1 := h'h.out.below H1.old
  have x0 : W1.cell? ⟨w.heap.size, 0, none⟩ = some (.int .i64 op) := blk_cell (i := 0) H1.rows.2.2.1 rfl
  have x1 : W1.cell? ⟨w.heap.size, 1, none⟩ = some (.int .u64 (key : Int)) := blk_cell (i := 1) H1.rows.2.2.1 rfl
  have x2 : W1.cell? ⟨w.heap.size, 2, none⟩ = some (.int .u64 (x : Int)) := blk_cell (i := 2) H1.rows.2.2.1 rfl
  have x3 : W1.cell? ⟨w.heap.size, 3, none⟩ = some (.int .u64 (y : Int)) := blk_cell (i := 3) H1.rows.2.2.1 rfl
  rw [hd'h.out] at H1
  have y1 : W1.cell? ⟨w1.heap.size, 1, none⟩ = some (.int .u64 (va : Int)) := blk_cell (i := 1) H1.rows.1 rfl
  have y2 : W1.cell? ⟨w1.heap.size, 2, none⟩ = some (.bool true) := blk_cell (i := 2) H1.rows.1 rfl
  have y3 := blk_free 2 H1.rows.1
  have t1 : ((va : Int) == (x : Int)) = true := by have := hv2'h.out; rw [Bool.eq_iff_iff]; simp; omega
  clear hT1
  have H1'h := Lib.hid H1
  clear H1
  go_upto_region 3 with fail
  clear x0 x1 x2 x3 y1 y2 y3 t1
  have H2 : Hs w [(w1.heap.size, anA ⟨0, va, true⟩ none 0 0, 34), (w.heap.size + 1, anA ⟨0, 0, false⟩ none 0 0, 34), (w.heap.size, clA ⟨op, key, x, y⟩, 31)] (W1.setCell ⟨w1.heap.size, 2, none⟩ (.bool true)) := H1'h.out.put 0 rfl 2 (.bool true)
  clear H1'h
  generalize World.setCell _ _ _ = W2 at H2 ⊢
  have H1 := H2
  have hT1 := h'h.out.below H2.old
  have x0 : W2.cell? ⟨w.heap.size, 0, none⟩ = some (.int .i64 op) := blk_cell (i := 0) H1.rows.2.2.1 rfl
  have x1 : W2.cell? ⟨w.heap.size, 1, none⟩ = some (.int .u64 (key : Int)) := blk_cell (i := 1) H1.rows.2.2.1 rfl
  have x2 : W2.cell? ⟨w.heap.size, 2, none⟩ = some (.int .u64 (x : Int)) := blk_cell (i := 2) H1.rows.2.2.1 rfl
  have x3 : W2.cell? ⟨w.heap.size, 3, none⟩ = some (.int .u64 (y : Int)) := blk_cell (i := 3) H1.rows.2.2.1 rfl
  have y2 : W2.cell? ⟨w1.heap.size, 2, none⟩ = some (.bool true) := blk_cell (i := 2) H1.rows.1 rfl
  clear H2
  have P := mput_any B tb sp n cap ps key y W2 hT1 hup'h.out hn
  have H1'h := Lib.hid H1
  have hT1'h := Lib.hid hT1
  have P'h := Lib.hid P
  clear H1 hT1 P
  go_upto_region 5 with (go_at_call 69; refine P'h.out.mono ?_; rintro e w2 ⟨sp', n', cap', rfl, hT2, hK2, hN2⟩)
  clear y2
  try clear x0 x1 x2 x3
  have hL2 := H1'h.out.rows.keptT hK2 (fun z hz => by
    have hlo := H1'h.out.low z hz
    refine ⟨by have := htl'h.out; omega, fun e => ?_⟩
    have := hsl'h.out _ e; omega)
  have hKw := (KeptT.of_below (tb := tb) (sp := sp) H1'h.out.old).trans hK2
  have hN := hN2.low H1'h.out.old.size
  have hne1 : sp.map (·.block) ≠ some (w.heap.size + 1) := fun e => by have := hsl'h.out _ e; omega
  have hlt1 := (H1'h.out.lt _ (List.mem_cons_of_mem _ (List.mem_cons_self ..)))
  have hne := hN2.ne hne1 hlt1
  have hne2 := hN2.ne (b := w1.heap.size) (fun e => by have := hsl'h.out _ e; omega) (H1'h.out.lt _ (List.mem_cons_self ..))
  clear hK2 hN2 hne1 hlt1
  have hT2'h := Lib.hid hT2
  have hL2'h := Lib.hid hL2
  have hKw'h := Lib.hid hKw
  have hN'h := Lib.hid hN
  have hne'h := Lib.hid hne
  have hne2'h := Lib.hid hne2
  clear hT2 hL2 hKw hN hne hne2
  go_wp2_with (first | (refine wpList_load_row rfl _ _ rfl (w1.heap.size) rfl 34 _ (0, 0) _ (hL2'h.out.1) Tryd.underlying34 rfl info_an ?_) | (refine wpList_store_row rfl _ _ _ rfl (w.heap.size + 1) (anA ⟨0, va, true⟩ none 0 0) rfl rfl 34 _ (hL2'h.out.2.1) info_an rfl (anA_one _ _ _ _) ?_))
  have hZ := setRow_heap _ _ _ (anA ⟨0, va, true⟩ none 0 0) _ _ hL2'h.out.2.1
  have hTZ := hT2'h.out.setRow (b := w.heap.size + 1) (by have := htl'h.out; omega) hne'h.out (anA ⟨0, va, true⟩ none 0 0)
  have hKZ := hKw'h.out.setRow (b := w.heap.size + 1) (by omega) (anA ⟨0, va, true⟩ none 0 0)
  generalize World.setRow _ _ _ = W9 at hZ hTZ hKZ ⊢
  have z0 := blk_cell (i := 0) hZ rfl
  have z1 := blk_cell (i := 1) hZ rfl
  have z2 := blk_cell (i := 2) hZ rfl
  have z3 := blk_cell (i := 3) hZ rfl
  refine bodyPost_ret (v := .agg (anA ⟨0, va, true⟩ none 0 0)) ?_ rfl ⟨sp', n', cap', by rw [han2'h.out], hTZ, hKZ, hN'h.out⟩
  simp [results, Tryd.results48, go_sem, z0, z1, z2, z3, anA]
set_option maxHeartbeats 1000000 in
theorem way_swap_other (B tb : Nat) (sp : Option Addr) (n cap : Nat) (ps : Ps) (c : Cl) (w : World) (h : Tab w B tb sp n cap ps) (hup : upB ps = true) (hn : n ≤ 4096) (hh : hasP ps c.key = true) (hv : (anK ps c.key).val ≠ c.a) :
    Calls Tryd.prog 48 #[.pointer (some ⟨tb, 0, none⟩), .agg (clA c)] w (WayEnd B tb sp (ps) { anK ps c.key with done := false } w) := by
  obtain ⟨op, key, x, y⟩ := c
  have H0 := ((Hs.nil w).new2 (clA ⟨op, key, x, y⟩) (anA ⟨0, 0, false⟩ none 0 0) 31 34)
  obtain ⟨W0, hW0⟩ : ∃ W0, W0 = ((w.alloc (.cells (clA ⟨op, key, x, y⟩) 31)).alloc (.cells (anA ⟨0, 0, false⟩ none 0 0) 34)) := ⟨_, rfl⟩
  rw [← hW0] at H0
  have G := mget_any tb sp n cap ps key _ (h.r.below H0.old) hup hn
  obtain ⟨an, han⟩ : ∃ an, an = anK ps key := ⟨_, rfl⟩
  have htl := lt_of_heap h.tbl
  have hsl := h.spot
  show Calls _ _ _ _ (WayEnd B tb sp (ps) ({ anK ps key with done := false }) w)
  rw [← han] at G
  have h'h := Lib.hid h
  have hup'h := Lib.hid hup
  have H0'h := Lib.hid H0
  have G'h := Lib.hid G
  have han'h := Lib.hid han
  have htl'h := Lib.hid htl
  have hsl'h := Lib.hid hsl
  have hW0'h := Lib.hid hW0
  clear h hup H0 G han htl hsl hW0
  go_enter Tryd.func48, Tryd.ntmps48
  go_upto_region 1 with fail
  change Code.wp _ _ _ _ ((w.alloc (.cells (clA ⟨op, key, x, y⟩) 31)).alloc (.cells (anA ⟨0, 0, false⟩ none 0 0) 34))
  rw [← hW0'h.out]
  have x0 : W0.cell? ⟨w.heap.size, 0, none⟩ = some (.int .i64 op) := blk_cell (i := 0) H0'h.out.rows.2.1 rfl
  have x1 : W0.cell? ⟨w.heap.size, 1, none⟩ = some (.int .u64 (key : Int)) := blk_cell (i := 1) H0'h.out.rows.2.1 rfl
  have x2 : W0.cell? ⟨w.heap.size, 2, none⟩ = some (.int .u64 (x : Int)) := blk_cell (i := 2) H0'h.out.rows.2.1 rfl
  have x3 : W0.cell? ⟨w.heap.size, 3, none⟩ = some (.int .u64 (y : Int)) := blk_cell (i := 3) H0'h.out.rows.2.1 rfl
  obtain ⟨va, hva⟩ : ∃ va, va = an.val := ⟨_, rfl⟩
  have hd : an = ⟨0, va, true⟩ := by
    have h0 : hasP ps key = true := hh
    rw [hva, han'h.out]; unfold anK; rw [h0]
  have hv2 : va ≠ x := by
    have h1 := hv
    try simp only at h1
    rw [hva, han'h.out]; exact h1
  have han2 : { anK ps key with done := false } = (⟨0, va, false⟩ : An) := by rw [hva, han'h.out]; rfl
  clear hh hv hva
  have hd'h := Lib.hid hd
  have hv2'h := Lib.hid hv2
  have han2'h := Lib.hid han2
  clear hd hv2 han2
  go_upto_region 2 with (first | (go_at_call 68; refine G'h.out.mono ?_; rintro e w1 ⟨rfl, hb1⟩) | (refine wpList_store_row rfl _ _ _ rfl w1.heap.size (anA an none 0 0) rfl rfl 34 _ (World.alloc_heap_new _ _) info_an rfl (anA_one _ _ _ _) ?_))
  have H1 := ((H0'h.out.next hb1).new (anA ⟨0, 0, false⟩ none 0 0) 34).set 0 rfl (anA an none 0 0)
  change Code.wp _ _ _ _ ((w1.alloc (.cells (anA ⟨0, 0, false⟩ none 0 0) 34)).setRow w1.heap.size (anA an none 0 0))
  generalize World.setRow _ _ _ = W1 at H1 ⊢
  have hw1 : w.heap.size + 1 < w1.heap.size := by have := (H0'h.out.next hb1).lt _ (List.mem_cons_self ..); exact this
  clear x0 x1 x2 x3 hb1
  have hT1 := h'h.out.below H1.old
  have x0 : W1.cell? ⟨w.heap.size, 0, none⟩ = some (.int .i64 op) := blk_cell (i := 0) H1.rows.2.2.1 rfl
  have x1 : W1.cell? ⟨w.heap.size, 1, none⟩ = some (.int .u64 (key : Int)) := blk_cell (i := 1) H1.rows.2.2.1 rfl
  have x2 : W1.cell? ⟨w.heap.size, 2, none⟩ = some (.int .u64 (x : Int)) := blk_cell (i := 2) H1.rows.2.2.1 rfl
  have x3 : W1.cell? ⟨w.heap.size, 3, none⟩ = some (.int .u64 (y : Int)) := blk_cell (i := 3) H1.rows.2.2.1 rfl
  rw [hd'h.out] at H1
  have y1 : W1.cell? ⟨w1.heap.size, 1, none⟩ = some (.int .u64 (va : Int)) := blk_cell (i := 1) H1.rows.1 rfl
  have y2 : W1.cell? ⟨w1.heap.size, 2, none⟩ = some (.bool true) := blk_cell (i := 2) H1.rows.1 rfl
  have y3 := blk_free 2 H1.rows.1
  have t1 : ((va : Int) == (x : Int)) = false := by have := hv2'h.out; rw [Bool.eq_iff_iff]; simp; omega
  clear hT1
  have H1'h := Lib.hid H1
  clear H1
  go_upto_region 3 with fail
  clear x0 x1 x2 x3 y1 y2 y3 t1
  have H2 : Hs w [(w1.heap.size, anA ⟨0, va, false⟩ none 0 0, 34), (w.heap.size + 1, anA ⟨0, 0, false⟩ none 0 0, 34), (w.heap.size, clA ⟨op, key, x, y⟩, 31)] (W1.setCell ⟨w1.heap.size, 2, none⟩ (.bool false)) := H1'h.out.put 0 rfl 2 (.bool false)
  clear H1'h
  generalize World.setCell _ _ _ = W2 at H2 ⊢
  have H1 := H2
  have hT1 := h'h.out.below H2.old
  have x0 : W2.cell? ⟨w.heap.size, 0, none⟩ = some (.int .i64 op) := blk_cell (i := 0) H1.rows.2.2.1 rfl
  have x1 : W2.cell? ⟨w.heap.size, 1, none⟩ = some (.int .u64 (key : Int)) := blk_cell (i := 1) H1.rows.2.2.1 rfl
  have x2 : W2.cell? ⟨w.heap.size, 2, none⟩ = some (.int .u64 (x : Int)) := blk_cell (i := 2) H1.rows.2.2.1 rfl
  have x3 : W2.cell? ⟨w.heap.size, 3, none⟩ = some (.int .u64 (y : Int)) := blk_cell (i := 3) H1.rows.2.2.1 rfl
  have y2 : W2.cell? ⟨w1.heap.size, 2, none⟩ = some (.bool false) := blk_cell (i := 2) H1.rows.1 rfl
  clear H2
  have H1'h := Lib.hid H1
  have hT1'h := Lib.hid hT1
  clear H1 hT1
  go_upto_region 5 with fail
  clear y2
  clear x0 x1 x2 x3
  obtain ⟨sp', hsp'⟩ : ∃ sp', sp' = sp := ⟨_, rfl⟩
  obtain ⟨n', hn'⟩ : ∃ n', n' = n := ⟨_, rfl⟩
  obtain ⟨cap', hcap'⟩ : ∃ cap', cap' = cap := ⟨_, rfl⟩
  have hT2 := hT1'h.out
  rw [← hsp', ← hn', ← hcap'] at hT2
  have hL2 := H1'h.out.rows
  have hKw := KeptT.of_below (tb := tb) (sp := sp) H1'h.out.old
  have hN : NewOr sp sp' w.heap.size := .inl hsp'
  have hne : sp'.map (·.block) ≠ some (w.heap.size + 1) := fun e => by rw [hsp'] at e; have := hsl'h.out _ e; omega
  clear hsp' hn' hcap'
  have hT2'h := Lib.hid hT2
  have hL2'h := Lib.hid hL2
  have hKw'h := Lib.hid hKw
  have hN'h := Lib.hid hN
  have hne'h := Lib.hid hne
  clear hT2 hL2 hKw hN hne
  go_wp2_with (first | (refine wpList_load_row rfl _ _ rfl (w1.heap.size) rfl 34 _ (0, 0) _ (hL2'h.out.1) Tryd.underlying34 rfl info_an ?_) | (refine wpList_store_row rfl _ _ _ rfl (w.heap.size + 1) (anA ⟨0, va, false⟩ none 0 0) rfl rfl 34 _ (hL2'h.out.2.1) info_an rfl (anA_one _ _ _ _) ?_))
  have hZ := setRow_heap _ _ _ (anA ⟨0, va, false⟩ none 0 0) _ _ hL2'h.out.2.1
  have hTZ := hT2'h.out.setRow (b := w.heap.size + 1) (by have := htl'h.out; omega) hne'h.out (anA ⟨0, va, false⟩ none 0 0)
  have hKZ := hKw'h.out.setRow (b := w.heap.size + 1) (by omega) (anA ⟨0, va, false⟩ none 0 0)
  generalize World.setRow _ _ _ = W9 at hZ hTZ hKZ ⊢
  have z0 := blk_cell (i := 0) hZ rfl
  have z1 := blk_cell (i := 1) hZ rfl
  have z2 := blk_cell (i := 2) hZ rfl
  have z3 := blk_cell (i := 3) hZ rfl
  refine bodyPost_ret (v := .agg (anA ⟨0, va, false⟩ none 0 0)) ?_ rfl ⟨sp', n', cap', by rw [han2'h.out], hTZ, hKZ, hN'h.out⟩
  simp [results, Tryd.results48, go_sem, z0, z1, z2, z3, anA]
set_option maxHeartbeats 1000000 in
theorem way_swap_no (B tb : Nat) (sp : Option Addr) (n cap : Nat) (ps : Ps) (c : Cl) (w : World) (h : Tab w B tb sp n cap ps) (hup : upB ps = true) (hn : n ≤ 4096) (hh : hasP ps c.key = false) (hv : True) :
    Calls Tryd.prog 48 #[.pointer (some ⟨tb, 0, none⟩), .agg (clA c)] w (WayEnd B tb sp (ps) { anK ps c.key with done := false } w) := by
  obtain ⟨op, key, x, y⟩ := c
  have H0 := ((Hs.nil w).new2 (clA ⟨op, key, x, y⟩) (anA ⟨0, 0, false⟩ none 0 0) 31 34)
  obtain ⟨W0, hW0⟩ : ∃ W0, W0 = ((w.alloc (.cells (clA ⟨op, key, x, y⟩) 31)).alloc (.cells (anA ⟨0, 0, false⟩ none 0 0) 34)) := ⟨_, rfl⟩
  rw [← hW0] at H0
  have G := mget_any tb sp n cap ps key _ (h.r.below H0.old) hup hn
  obtain ⟨an, han⟩ : ∃ an, an = anK ps key := ⟨_, rfl⟩
  have htl := lt_of_heap h.tbl
  have hsl := h.spot
  show Calls _ _ _ _ (WayEnd B tb sp (ps) ({ anK ps key with done := false }) w)
  rw [← han] at G
  have h'h := Lib.hid h
  have hup'h := Lib.hid hup
  have H0'h := Lib.hid H0
  have G'h := Lib.hid G
  have han'h := Lib.hid han
  have htl'h := Lib.hid htl
  have hsl'h := Lib.hid hsl
  have hW0'h := Lib.hid hW0
  clear h hup H0 G han htl hsl hW0
  go_enter Tryd.func48, Tryd.ntmps48
  go_upto_region 1 with fail
  change Code.wp _ _ _ _ ((w.alloc (.cells (clA ⟨op, key, x, y⟩) 31)).alloc (.cells (anA ⟨0, 0, false⟩ none 0 0) 34))
  rw [← hW0'h.out]
  have x0 : W0.cell? ⟨w.heap.size, 0, none⟩ = some (.int .i64 op) := blk_cell (i := 0) H0'h.out.rows.2.1 rfl
  have x1 : W0.cell? ⟨w.heap.size, 1, none⟩ = some (.int .u64 (key : Int)) := blk_cell (i := 1) H0'h.out.rows.2.1 rfl
  have x2 : W0.cell? ⟨w.heap.size, 2, none⟩ = some (.int .u64 (x : Int)) := blk_cell (i := 2) H0'h.out.rows.2.1 rfl
  have x3 : W0.cell? ⟨w.heap.size, 3, none⟩ = some (.int .u64 (y : Int)) := blk_cell (i := 3) H0'h.out.rows.2.1 rfl
  obtain ⟨va, hva⟩ : ∃ va, va = an.val := ⟨_, rfl⟩
  have hd : an = ⟨0, va, false⟩ := by
    have h0 : hasP ps key = false := hh
    rw [hva, han'h.out]; unfold anK; rw [h0]
  have hv2 : True := by
    have h1 := hv
    try simp only at h1
    exact trivial
  have han2 : { anK ps key with done := false } = (⟨0, va, false⟩ : An) := by rw [hva, han'h.out]; rfl
  clear hh hv hva
  have hd'h := Lib.hid hd
  have hv2'h := Lib.hid hv2
  have han2'h := Lib.hid han2
  clear hd hv2 han2
  go_upto_region 2 with (first | (go_at_call 68; refine G'h.out.mono ?_; rintro e w1 ⟨rfl, hb1⟩) | (refine wpList_store_row rfl _ _ _ rfl w1.heap.size (anA an none 0 0) rfl rfl 34 _ (World.alloc_heap_new _ _) info_an rfl (anA_one _ _ _ _) ?_))
  have H1 := ((H0'h.out.next hb1).new (anA ⟨0, 0, false⟩ none 0 0) 34).set 0 rfl (anA an none 0 0)
  change Code.wp _ _ _ _ ((w1.alloc (.cells (anA ⟨0, 0, false⟩ none 0 0) 34)).setRow w1.heap.size (anA an none 0 0))
  generalize World.setRow _ _ _ = W1 at H1 ⊢
  have hw1 : w.heap.size + 1 < w1.heap.size := by have := (H0'h.out.next hb1).lt _ (List.mem_cons_self ..); exact this
  clear x0 x1 x2 x3 hb1
  have hT1 := h'h.out.below H1.old
  have x0 : W1.cell? ⟨w.heap.size, 0, none⟩ = some (.int .i64 op) := blk_cell (i := 0) H1.rows.2.2.1 rfl
  have x1 : W1.cell? ⟨w.heap.size, 1, none⟩ = some (.int .u64 (key : Int)) := blk_cell (i := 1) H1.rows.2.2.1 rfl
  have x2 : W1.cell? ⟨w.heap.size, 2, none⟩ = some (.int .u64 (x : Int)) := blk_cell (i := 2) H1.rows.2.2.1 rfl
  have x3 : W1.cell? ⟨w.heap.size, 3, none⟩ = some (.int .u64 (y : Int)) := blk_cell (i := 3) H1.rows.2.2.1 rfl
  rw [hd'h.out] at H1
  have y1 : W1.cell? ⟨w1.heap.size, 1, none⟩ = some (.int .u64 (va : Int)) := blk_cell (i := 1) H1.rows.1 rfl
  have y2 : W1.cell? ⟨w1.heap.size, 2, none⟩ = some (.bool false) := blk_cell (i := 2) H1.rows.1 rfl
  have y3 := blk_free 2 H1.rows.1
  have t1 := trivial
  clear hT1
  have H1'h := Lib.hid H1
  clear H1
  go_upto_region 3 with fail
  clear x0 x1 x2 x3 y1 y2 y3 t1
  have H2 : Hs w [(w1.heap.size, anA ⟨0, va, false⟩ none 0 0, 34), (w.heap.size + 1, anA ⟨0, 0, false⟩ none 0 0, 34), (w.heap.size, clA ⟨op, key, x, y⟩, 31)] (W1.setCell ⟨w1.heap.size, 2, none⟩ (.bool false)) := H1'h.out.put 0 rfl 2 (.bool false)
  clear H1'h
  generalize World.setCell _ _ _ = W2 at H2 ⊢
  have H1 := H2
  have hT1 := h'h.out.below H2.old
  have x0 : W2.cell? ⟨w.heap.size, 0, none⟩ = some (.int .i64 op) := blk_cell (i := 0) H1.rows.2.2.1 rfl
  have x1 : W2.cell? ⟨w.heap.size, 1, none⟩ = some (.int .u64 (key : Int)) := blk_cell (i := 1) H1.rows.2.2.1 rfl
  have x2 : W2.cell? ⟨w.heap.size, 2, none⟩ = some (.int .u64 (x : Int)) := blk_cell (i := 2) H1.rows.2.2.1 rfl
  have x3 : W2.cell? ⟨w.heap.size, 3, none⟩ = some (.int .u64 (y : Int)) := blk_cell (i := 3) H1.rows.2.2.1 rfl
  have y2 : W2.cell? ⟨w1.heap.size, 2, none⟩ = some (.bool false) := blk_cell (i := 2) H1.rows.1 rfl
  clear H2
  have H1'h := Lib.hid H1
  have hT1'h := Lib.hid hT1
  clear H1 hT1
  go_upto_region 5 with fail
  clear y2
  clear x0 x1 x2 x3
  obtain ⟨sp', hsp'⟩ : ∃ sp', sp' = sp := ⟨_, rfl⟩
  obtain ⟨n', hn'⟩ : ∃ n', n' = n := ⟨_, rfl⟩
  obtain ⟨cap', hcap'⟩ : ∃ cap', cap' = cap := ⟨_, rfl⟩
  have hT2 := hT1'h.out
  rw [← hsp', ← hn', ← hcap'] at hT2
  have hL2 := H1'h.out.rows
  have hKw := KeptT.of_below (tb := tb) (sp := sp) H1'h.out.old
  have hN : NewOr sp sp' w.heap.size := .inl hsp'
  have hne : sp'.map (·.block) ≠ some (w.heap.size + 1) := fun e => by rw [hsp'] at e; have := hsl'h.out _ e; omega
  clear hsp' hn' hcap'
  have hT2'h := Lib.hid hT2
  have hL2'h := Lib.hid hL2
  have hKw'h := Lib.hid hKw
  have hN'h := Lib.hid hN
  have hne'h := Lib.hid hne
  clear hT2 hL2 hKw hN hne
  go_wp2_with (first | (refine wpList_load_row rfl _ _ rfl (w1.heap.size) rfl 34 _ (0, 0) _ (hL2'h.out.1) Tryd.underlying34 rfl info_an ?_) | (refine wpList_store_row rfl _ _ _ rfl (w.heap.size + 1) (anA ⟨0, va, false⟩ none 0 0) rfl rfl 34 _ (hL2'h.out.2.1) info_an rfl (anA_one _ _ _ _) ?_))
  have hZ := setRow_heap _ _ _ (anA ⟨0, va, false⟩ none 0 0) _ _ hL2'h.out.2.1
  have hTZ := hT2'h.out.setRow (b := w.heap.size + 1) (by have := htl'h.out; omega) hne'h.out (anA ⟨0, va, false⟩ none 0 0)
  have hKZ := hKw'h.out.setRow (b := w.heap.size + 1) (by omega) (anA ⟨0, va, false⟩ none 0 0)
  generalize World.setRow _ _ _ = W9 at hZ hTZ hKZ ⊢
  have z0 := blk_cell (i := 0) hZ rfl
  have z1 := blk_cell (i := 1) hZ rfl
  have z2 := blk_cell (i := 2) hZ rfl
  have z3 := blk_cell (i := 3) hZ rfl
  refine bodyPost_ret (v := .agg (anA ⟨0, va, false⟩ none 0 0)) ?_ rfl ⟨sp', n', cap', by rw [han2'h.out], hTZ, hKZ, hN'h.out⟩
  simp [results, Tryd.results48, go_sem, z0, z1, z2, z3, anA]
/-- What an answer with pairs leaves. -/
def WayEndP (B tb : Nat) (sp : Option Addr) (ps : Ps) (a : An) (qs : Ps) (w : World) (e : Ending) (w' : World) : Prop :=
  ∃ sp' n' cap' sq nq cq, e = .returned (.agg (anA a sq nq cq)) ∧ Tab w' B tb sp' n' cap' ps ∧ KeptT tb sp w w' ∧ NewOr sp sp' w.heap.size ∧ SlK w' 2 sq nq (prs qs) ∧ (sq = none → cq = 0) ∧ nq ≤ cq ∧ (∀ b, sq.map (·.block) = some b → w.heap.size ≤ b)
theorem WayEnd.p {B tb : Nat} {sp : Option Addr} {ps : Ps} {a : An} {w : World} {e : Ending} {w' : World} (h : WayEnd B tb sp ps a w e w') : WayEndP B tb sp ps a [] w e w' := by
  obtain ⟨sp', n', cap', h1, h2, h3, h4⟩ := h
  exact ⟨sp', n', cap', none, 0, 0, h1, h2, h3, h4, SlK.nil _ _ _, fun _ => rfl, Nat.le_refl _, fun b e => by cases e⟩
set_option maxHeartbeats 1000000 in
theorem way_size (B tb : Nat) (sp : Option Addr) (n cap : Nat) (ps : Ps) (c : Cl) (w : World) (h : Tab w B tb sp n cap ps) (hn : n ≤ 4096) :
    Calls Tryd.prog 51 #[.pointer (some ⟨tb, 0, none⟩), .agg (clA c)] w (WayEnd B tb sp ps ⟨0, ps.length, false⟩ w) := by
  have H0 := ((Hs.nil w).new2 (clA c) (anA ⟨0, 0, false⟩ none 0 0) 31 34)
  obtain ⟨W0, hW0⟩ : ∃ W0, W0 = ((w.alloc (.cells (clA c) 31)).alloc (.cells (anA ⟨0, 0, false⟩ none 0 0) 34)) := ⟨_, rfl⟩
  rw [← hW0] at H0
  have hT := h.below H0.old
  have hc := hT.cell
  have htl := lt_of_heap h.tbl
  have hsl := h.spot
  have hlen := h.row.len
  have hw : IntKind.u64.wrap (n : Int) = (n : Int) := by rw [IntKind.wrap_u64]; omega
  have hna : n = ps.length := hlen
  rw [← hna]
  have h'h := Lib.hid h
  have hT'h := Lib.hid hT
  have htl'h := Lib.hid htl
  have hsl'h := Lib.hid hsl
  have hlen'h := Lib.hid hlen
  have hna'h := Lib.hid hna
  have H0'h := Lib.hid H0
  have hW0'h := Lib.hid hW0
  clear h hT htl hsl hlen hna H0 hW0
  go_enter Tryd.func51, Tryd.ntmps51
  go_upto_region 1 with fail
  change Code.wp _ _ _ _ ((w.alloc (.cells (clA c) 31)).alloc (.cells (anA ⟨0, 0, false⟩ none 0 0) 34))
  rw [← hW0'h.out]
  go_wp2_with (refine wpList_store_row rfl _ _ _ rfl (w.heap.size + 1) (anA ⟨0, n, false⟩ none 0 0) rfl rfl 34 _ (H0'h.out.rows.1) info_an rfl (anA_one _ _ _ _) ?_)
  have hZ := setRow_heap _ _ _ (anA ⟨0, n, false⟩ none 0 0) _ _ H0'h.out.rows.1
  have hTZ := hT'h.out.setRow (b := w.heap.size + 1) (by have := htl'h.out; omega) (fun e => by have := hsl'h.out _ e; omega) (anA ⟨0, n, false⟩ none 0 0)
  have hKZ := (KeptT.of_below (tb := tb) (sp := sp) H0'h.out.old).setRow (b := w.heap.size + 1) (by omega) (anA ⟨0, n, false⟩ none 0 0)
  generalize World.setRow _ _ _ = W9 at hZ hTZ hKZ ⊢
  have z0 := blk_cell (i := 0) hZ rfl
  have z1 := blk_cell (i := 1) hZ rfl
  have z2 := blk_cell (i := 2) hZ rfl
  have z3 := blk_cell (i := 3) hZ rfl
  refine bodyPost_ret (v := .agg (anA ⟨0, n, false⟩ none 0 0)) ?_ rfl ⟨sp, n, cap, rfl, hTZ, hKZ, .inl rfl⟩
  simp [results, Tryd.results51, go_sem, z0, z1, z2, z3, anA]
end Go.Proofs.YtogeohjeabbmaaaDoor

/-
  Package model: all of a table; a key dropped.
-/
set_option linter.unusedSimpArgs false
set_option linter.unusedVariables false
set_option maxRecDepth 100000
namespace Go.Proofs.YtogeohjeabbmaaaDoor
open Go.RowKit

set_option maxHeartbeats 1000000 in
theorem way_all (B tb : Nat) (sp : Option Addr) (n cap : Nat) (ps : Ps) (c : Cl) (w : World) (h : Tab w B tb sp n cap ps) (hn : n ≤ 4096) :
    Calls Tryd.prog 50 #[.pointer (some ⟨tb, 0, none⟩), .agg (clA c)] w (WayEndP B tb sp ps ⟨0, 0, false⟩ ps w) := by
  have H0 := ((Hs.nil w).new2 (clA c) (anA ⟨0, 0, false⟩ none 0 0) 31 34)
  obtain ⟨W0, hW0⟩ : ∃ W0, W0 = ((w.alloc (.cells (clA c) 31)).alloc (.cells (anA ⟨0, 0, false⟩ none 0 0) 34)) := ⟨_, rfl⟩
  rw [← hW0] at H0
  have hT := h.below H0.old
  have hc := hT.cell
  have htl := lt_of_heap h.tbl
  have hsl := h.spot
  have O := mown_any sp n cap ps W0 hT.row.sl hn
  have h1s := H0.lt _ (List.mem_cons_self ..)
  have h'h := Lib.hid h
  have hT'h := Lib.hid hT
  have htl'h := Lib.hid htl
  have hsl'h := Lib.hid hsl
  have H0'h := Lib.hid H0
  have hW0'h := Lib.hid hW0
  have O'h := Lib.hid O
  have h1s'h := Lib.hid h1s
  clear h hT htl hsl H0 hW0 O h1s
  go_enter Tryd.func50, Tryd.ntmps50
  go_upto_region 1 with fail
  change Code.wp _ _ _ _ ((w.alloc (.cells (clA c) 31)).alloc (.cells (anA ⟨0, 0, false⟩ none 0 0) 34))
  rw [← hW0'h.out]
  go_wp2_with (first | (go_at_call 44; refine O'h.out.mono ?_; rintro e w1 ⟨rfl, hb1, hR1⟩; have H1 := H0'h.out.next hb1; have H1'h := Lib.hid H1; have hR1'h := Lib.hid hR1; clear H1 hR1) | (refine wpList_store_row rfl _ _ _ rfl (w.heap.size + 1) (anA ⟨0, 0, false⟩ (some ⟨W0.heap.size, 0, none⟩) n n) rfl rfl 34 _ (H1'h.out.rows.1) info_an rfl (anA_one _ _ _ _) ?_))
  have hT1 := hT'h.out.below hb1
  have hZ := setRow_heap _ _ _ (anA ⟨0, 0, false⟩ (some ⟨W0.heap.size, 0, none⟩) n n) _ _ H1'h.out.rows.1
  have hTZ := hT1.setRow (b := w.heap.size + 1) (by have := htl'h.out; omega) (fun e => by have := hsl'h.out _ e; omega) (anA ⟨0, 0, false⟩ (some ⟨W0.heap.size, 0, none⟩) n n)
  have hKZ := (KeptT.of_below (tb := tb) (sp := sp) H1'h.out.old).setRow (b := w.heap.size + 1) (by omega) (anA ⟨0, 0, false⟩ (some ⟨W0.heap.size, 0, none⟩) n n)
  have hRZ : RowP (w1.setRow (w.heap.size + 1) (anA ⟨0, 0, false⟩ (some ⟨W0.heap.size, 0, none⟩) n n)) W0.heap.size (some ⟨W0.heap.size, 0, none⟩) n n ps := hR1'h.out.keep fun g e _ => setRow_other _ _ _ _ (by cases e; have h9 : w.heap.size + 1 < W0.heap.size := h1s'h.out; omega)
  generalize World.setRow _ _ _ = W9 at hZ hTZ hKZ hRZ ⊢
  have z0 := blk_cell (i := 0) hZ rfl
  have z1 := blk_cell (i := 1) hZ rfl
  have z2 := blk_cell (i := 2) hZ rfl
  have z3 := blk_cell (i := 3) hZ rfl
  refine bodyPost_ret (v := .agg (anA ⟨0, 0, false⟩ (some ⟨W0.heap.size, 0, none⟩) n n)) ?_ rfl ⟨sp, n, cap, _, n, n, rfl, hTZ, hKZ, .inl rfl, hRZ.sl, fun e => (by cases e), Nat.le_refl _, fun b e => by cases e; have h9 : w.heap.size + 1 < W0.heap.size := h1s'h.out; show w.heap.size ≤ W0.heap.size; omega⟩
  simp [results, Tryd.results50, go_sem, z0, z1, z2, z3, anA]
end Go.Proofs.YtogeohjeabbmaaaDoor

/-
  Package model: a key dropped.
-/
set_option linter.unusedSimpArgs false
set_option linter.unusedVariables false
set_option maxRecDepth 100000
namespace Go.Proofs.YtogeohjeabbmaaaDoor
open Go.RowKit

theorem step_append_run' {P : Program} {ops : Array Oper} {o : Oper} {a : Act} {w : World} {K : Act → World → Prop} {Q : Exit → Act → World → Prop} {E : Prop}
    (hg : o.guard = none) (s x : Operand) (t tn : TypeId) (hop : o.op = Op.call { callee := Callee.builtin Builtin.append, args := #[s, x], argTypes := #[t, tn] })
    (vs vx : Value) (hs : a.eval s = vs) (hx : a.eval x = vx) {v' : Value} {w' : World} (hr : (Builtin.append_ #[t, tn] o.type #[vs, vx]).run P w = .ok v' w') (hK : K (a.put o.dst v') w') :
    if Region.wanted o (yielded ops a.tmps) = true then Oper.wp P o a w K Q else E := by
  have hw : Region.wanted o (yielded ops a.tmps) = true := by simp [Region.wanted, hg]
  rw [if_pos hw]
  exact Lib.wp_append_run w s x t tn hop vs vx hs hx v' w' hr hK
theorem run_append_zero' {P : Program} (w : World) (t ty e : TypeId) (i : TypeInfo) (ht : P.underlying t = some (.slice e)) (hi : P.info? e = some i) (s A : Option Addr) (n cap c : Nat) (hn : n ≤ cap) :
    (Builtin.append_ #[t, t] ty #[.slice s n cap, .slice A 0 c]).run P w = .ok (.slice s n cap) w := by
  have hl : ∀ (x : Addr), (loadCells x 0).run P w = .ok #[] w := fun x => by simpa using run_loadCells_list (P := P) w x [] (by simp)
  cases s <;> cases A <;> simp [Builtin.append_, run_underlying ht, sizeOf, typeInfo, hi, Builtin.lenOf, Builtin.firstCells, hn, storeCells, hl]
theorem RowP.cutTo {W : World} {B : Nat} {sp : Option Addr} {n cap : Nat} {ps : Ps} (h : RowP W B sp n cap ps) {i : Nat} (hi : i ≤ n) : RowP W B sp i i (ps.take i) := by
  have hl := h.len
  have hc := h.le
  refine ⟨by simp; omega, Nat.le_refl _, Nat.le_trans (Nat.le_trans hi hc) h.lim, ?_⟩
  rcases h.row with ⟨e, h0⟩ | ⟨g, cur, e, hb, hg, hs, ht⟩
  · exact .inl ⟨e, by omega⟩
  · refine .inr ⟨g, cur, e, hb, hg, by omega, ?_⟩
    rw [← prs_take, ← ht, List.take_take, Nat.min_eq_left (by omega)]
theorem RowP.drew {W : World} {B : Nat} {sp : Option Addr} {n cap : Nat} {ps : Ps} (h : RowP W B sp n cap ps) : RowP W.drew B sp n cap ps := ⟨h.len, h.le, h.lim, h.row⟩
theorem SlK.cut {w : World} {b off n i : Nat} {ps : Ps} (h : SlK w 2 (some ⟨b, off, none⟩) n (prs ps)) (hi : i ≤ n) : SlK w 2 (some ⟨b, off + i * 2, none⟩) (n - i) (prs (ps.drop i)) := by
  have hl := prs_len h
  refine ⟨by rw [prs_length, List.length_drop]; omega, by have := h.2.1; omega, .inr ⟨b, off + i * 2, rfl, fun j u hu => ?_⟩⟩
  have : prs ps = prs (ps.take i) ++ prs (ps.drop i) := by rw [← prs_append, List.take_append_drop]
  have e : (prs ps)[i * 2 + j]? = some u := by
    rw [this, List.getElem?_append_right (by rw [prs_length, List.length_take]; omega), prs_length, List.length_take, show i * 2 + j - min i ps.length * 2 = j by omega]
    exact hu
  rw [Nat.add_assoc]
  exact h.cell e
/-- What is left without element i: the append's run. -/
theorem del_run (B : Nat) (g n cap i c : Nat) (A : Option Addr) (ps : Ps) (w : World) (h : RowP w B (some ⟨g, 0, none⟩) n cap ps) (hi : i < n) (hB : B ≤ w.heap.size) (hn : n ≤ 4096) (hA : A = some ⟨g, (i + 1) * 2, none⟩ ∨ n - (i + 1) = 0) :
    ∃ sp' cap' w', (∀ ty, (Builtin.append_ #[26, 26] ty #[.slice (some ⟨g, 0, none⟩) i i, .slice A (n - (i + 1)) c]).run Tryd.prog w = .ok (.slice sp' (n - 1) cap') w') ∧
      RowP w' B sp' (n - 1) cap' (ps.take i ++ ps.drop (i + 1)) ∧ KeptR (some ⟨g, 0, none⟩) w w' ∧ NewOr (some ⟨g, 0, none⟩) sp' w.heap.size := by
  obtain ⟨i0, hi0, hz0, hz1, hz2⟩ := info_parts info_pair
  have hlen := h.len
  have hc := h.cutTo (i := i) (by omega)
  by_cases hm : n - (i + 1) = 0
  · have hin : n - 1 = i := by omega
    have hd : ps.drop (i + 1) = [] := List.drop_of_length_le (by omega)
    rw [hin, hm, hd, List.append_nil]
    exact ⟨_, _, w, fun ty => run_append_zero' w _ ty _ i0 Tryd.underlying26 hi0 _ A i i c (Nat.le_refl _), hc, Kept.refl _ _, .inl rfl⟩
  · obtain rfl := hA.resolve_right hm
    have hs := SlK.cut h.sl (i := i + 1) (by omega)
    rw [Nat.zero_add] at hs
    obtain ⟨sp', cap', w', hr, hR, hK, hN⟩ := rowP_append B _ i i _ (ps.drop (i + 1)) _ (n - (i + 1)) c w hc hs (by omega) hB (by omega)
    have e : i + (n - (i + 1)) = n - 1 := by omega
    rw [e] at hr hR
    exact ⟨sp', cap', w', hr, hR, hK, hN.imp id fun e a ha => by rw [e] at ha; cases ha; exact Nat.le_refl _⟩
set_option maxHeartbeats 1000000 in
theorem way_drop_no (B tb : Nat) (sp : Option Addr) (n cap : Nat) (ps : Ps) (c : Cl) (w : World) (h : Tab w B tb sp n cap ps) (hup : upB ps = true) (hn : n ≤ 4096) (hh : hasP ps c.key = false) :
    Calls Tryd.prog 47 #[.pointer (some ⟨tb, 0, none⟩), .agg (clA c)] w (WayEnd B tb sp ps (anK ps c.key) w) := by
  obtain ⟨op, key, x, y⟩ := c
  have H0 := ((Hs.nil w).new2 (clA ⟨op, key, x, y⟩) (anA ⟨0, 0, false⟩ none 0 0) 31 34)
  obtain ⟨W0, hW0⟩ : ∃ W0, W0 = ((w.alloc (.cells (clA ⟨op, key, x, y⟩) 31)).alloc (.cells (anA ⟨0, 0, false⟩ none 0 0) 34)) := ⟨_, rfl⟩
  rw [← hW0] at H0
  have G := mget_any tb sp n cap ps key _ (h.r.below H0.old) hup hn
  obtain ⟨an, han⟩ : ∃ an, an = anK ps key := ⟨_, rfl⟩
  have htl := lt_of_heap h.tbl
  have hsl := h.spot
  show Calls _ _ _ _ (WayEnd B tb sp (ps) (anK ps key) w)
  rw [← han] at G
  have h'h := Lib.hid h
  have hup'h := Lib.hid hup
  have H0'h := Lib.hid H0
  have G'h := Lib.hid G
  have han'h := Lib.hid han
  have htl'h := Lib.hid htl
  have hsl'h := Lib.hid hsl
  have hW0'h := Lib.hid hW0
  clear h hup H0 G han htl hsl hW0
  go_enter Tryd.func47, Tryd.ntmps47
  go_upto_region 1 with fail
  change Code.wp _ _ _ _ ((w.alloc (.cells (clA ⟨op, key, x, y⟩) 31)).alloc (.cells (anA ⟨0, 0, false⟩ none 0 0) 34))
  rw [← hW0'h.out]
  have x0 : W0.cell? ⟨w.heap.size, 0, none⟩ = some (.int .i64 op) := blk_cell (i := 0) H0'h.out.rows.2.1 rfl
  have x1 : W0.cell? ⟨w.heap.size, 1, none⟩ = some (.int .u64 (key : Int)) := blk_cell (i := 1) H0'h.out.rows.2.1 rfl
  have x2 : W0.cell? ⟨w.heap.size, 2, none⟩ = some (.int .u64 (x : Int)) := blk_cell (i := 2) H0'h.out.rows.2.1 rfl
  have x3 : W0.cell? ⟨w.heap.size, 3, none⟩ = some (.int .u64 (y : Int)) := blk_cell (i := 3) H0'h.out.rows.2.1 rfl
  have h0 : hasP ps key = false := hh
  clear hh
  have h0'h := Lib.hid h0
  clear h0
  go_upto_region 2 with (first | (go_at_call 68; refine G'h.out.mono ?_; rintro e w1 ⟨rfl, hb1⟩) | (refine wpList_store_row rfl _ _ _ rfl w1.heap.size (anA an none 0 0) rfl rfl 34 _ (World.alloc_heap_new _ _) info_an rfl (anA_one _ _ _ _) ?_))
  have H1 := ((H0'h.out.next hb1).new (anA ⟨0, 0, false⟩ none 0 0) 34).set 0 rfl (anA an none 0 0)
  change Code.wp _ _ _ _ ((w1.alloc (.cells (anA ⟨0, 0, false⟩ none 0 0) 34)).setRow w1.heap.size (anA an none 0 0))
  generalize World.setRow _ _ _ = W1 at H1 ⊢
  have hw1 : w.heap.size + 1 < w1.heap.size := by have := (H0'h.out.next hb1).lt _ (List.mem_cons_self ..); exact this
  clear x0 x1 x2 x3 hb1
  have hT1 := h'h.out.below H1.old
  have x0 : W1.cell? ⟨w.heap.size, 0, none⟩ = some (.int .i64 op) := blk_cell (i := 0) H1.rows.2.2.1 rfl
  have x1 : W1.cell? ⟨w.heap.size, 1, none⟩ = some (.int .u64 (key : Int)) := blk_cell (i := 1) H1.rows.2.2.1 rfl
  have x2 : W1.cell? ⟨w.heap.size, 2, none⟩ = some (.int .u64 (x : Int)) := blk_cell (i := 2) H1.rows.2.2.1 rfl
  have x3 : W1.cell? ⟨w.heap.size, 3, none⟩ = some (.int .u64 (y : Int)) := blk_cell (i := 3) H1.rows.2.2.1 rfl
  have A := mat_any tb sp n cap ps key W1 hT1.r hup'h.out hn
  rw [h0'h.out] at A
  have H1'h := Lib.hid H1
  have hT1'h := Lib.hid hT1
  have A'h := Lib.hid A
  clear H1 hT1 A
  go_upto_region 5 with (go_at_call 70; refine A'h.out.mono ?_; rintro e w2 ⟨rfl, hb2⟩)
  have H1 := H1'h.out.next hb2
  have hT1 := hT1'h.out.below hb2
  clear H1'h hT1'h hb2
  have H1'h := Lib.hid H1
  have hT1'h := Lib.hid hT1
  clear H1 hT1
  clear x0 x1 x2 x3
  obtain ⟨sp', hsp'⟩ : ∃ sp', sp' = sp := ⟨_, rfl⟩
  obtain ⟨n', hn'⟩ : ∃ n', n' = n := ⟨_, rfl⟩
  obtain ⟨cap', hcap'⟩ : ∃ cap', cap' = cap := ⟨_, rfl⟩
  have hT2 := hT1'h.out
  rw [← hsp', ← hn', ← hcap'] at hT2
  have hL2 := H1'h.out.rows
  have hKw := KeptT.of_below (tb := tb) (sp := sp) H1'h.out.old
  have hN : NewOr sp sp' w.heap.size := .inl hsp'
  have hne : sp'.map (·.block) ≠ some (w.heap.size + 1) := fun e => by rw [hsp'] at e; have := hsl'h.out _ e; omega
  clear hsp' hn' hcap'
  have hT2'h := Lib.hid hT2
  have hL2'h := Lib.hid hL2
  have hKw'h := Lib.hid hKw
  have hN'h := Lib.hid hN
  have hne'h := Lib.hid hne
  clear hT2 hL2 hKw hN hne
  go_wp2_with (first | (refine wpList_load_row rfl _ _ rfl (w1.heap.size) rfl 34 _ (0, 0) _ (hL2'h.out.1) Tryd.underlying34 rfl info_an ?_) | (refine wpList_store_row rfl _ _ _ rfl (w.heap.size + 1) (anA an none 0 0) rfl rfl 34 _ (hL2'h.out.2.1) info_an rfl (anA_one _ _ _ _) ?_))
  have hZ := setRow_heap _ _ _ (anA an none 0 0) _ _ hL2'h.out.2.1
  have hTZ := hT2'h.out.setRow (b := w.heap.size + 1) (by have := htl'h.out; omega) hne'h.out (anA an none 0 0)
  have hKZ := hKw'h.out.setRow (b := w.heap.size + 1) (by omega) (anA an none 0 0)
  generalize World.setRow _ _ _ = W9 at hZ hTZ hKZ ⊢
  have z0 := blk_cell (i := 0) hZ rfl
  have z1 := blk_cell (i := 1) hZ rfl
  have z2 := blk_cell (i := 2) hZ rfl
  have z3 := blk_cell (i := 3) hZ rfl
  refine bodyPost_ret (v := .agg (anA an none 0 0)) ?_ rfl ⟨sp', n', cap', by rw [han'h.out], hTZ, hKZ, hN'h.out⟩
  simp [results, Tryd.results47, go_sem, z0, z1, z2, z3, anA]
set_option maxHeartbeats 4000000 in
theorem way_drop_yes (B tb : Nat) (sp : Option Addr) (n cap : Nat) (ps : Ps) (c : Cl) (w : World) (h : Tab w B tb sp n cap ps) (hup : upB ps = true) (hn : n ≤ 4096) (hh : hasP ps c.key = true) :
    Calls Tryd.prog 47 #[.pointer (some ⟨tb, 0, none⟩), .agg (clA c)] w (WayEnd B tb sp (delP ps c.key) (anK ps c.key) w) := by
  obtain ⟨op, key, x, y⟩ := c
  have H0 := ((Hs.nil w).new2 (clA ⟨op, key, x, y⟩) (anA ⟨0, 0, false⟩ none 0 0) 31 34)
  obtain ⟨W0, hW0⟩ : ∃ W0, W0 = ((w.alloc (.cells (clA ⟨op, key, x, y⟩) 31)).alloc (.cells (anA ⟨0, 0, false⟩ none 0 0) 34)) := ⟨_, rfl⟩
  rw [← hW0] at H0
  have G := mget_any tb sp n cap ps key _ (h.r.below H0.old) hup hn
  obtain ⟨an, han⟩ : ∃ an, an = anK ps key := ⟨_, rfl⟩
  have htl := lt_of_heap h.tbl
  have hsl := h.spot
  show Calls _ _ _ _ (WayEnd B tb sp (delP ps key) (anK ps key) w)
  rw [← han] at G
  have h'h := Lib.hid h
  have hup'h := Lib.hid hup
  have H0'h := Lib.hid H0
  have G'h := Lib.hid G
  have han'h := Lib.hid han
  have htl'h := Lib.hid htl
  have hsl'h := Lib.hid hsl
  have hW0'h := Lib.hid hW0
  clear h hup H0 G han htl hsl hW0
  go_enter Tryd.func47, Tryd.ntmps47
  go_upto_region 1 with fail
  change Code.wp _ _ _ _ ((w.alloc (.cells (clA ⟨op, key, x, y⟩) 31)).alloc (.cells (anA ⟨0, 0, false⟩ none 0 0) 34))
  rw [← hW0'h.out]
  have x0 : W0.cell? ⟨w.heap.size, 0, none⟩ = some (.int .i64 op) := blk_cell (i := 0) H0'h.out.rows.2.1 rfl
  have x1 : W0.cell? ⟨w.heap.size, 1, none⟩ = some (.int .u64 (key : Int)) := blk_cell (i := 1) H0'h.out.rows.2.1 rfl
  have x2 : W0.cell? ⟨w.heap.size, 2, none⟩ = some (.int .u64 (x : Int)) := blk_cell (i := 2) H0'h.out.rows.2.1 rfl
  have x3 : W0.cell? ⟨w.heap.size, 3, none⟩ = some (.int .u64 (y : Int)) := blk_cell (i := 3) H0'h.out.rows.2.1 rfl
  have h0 : hasP ps key = true := hh
  have hdel := delP_pos ps key
  rw [h0, if_pos rfl] at hdel
  have hpos : posP ps key < n := by
    have h2 := hasP_pos ps key
    rw [h0] at h2
    have hl := h'h.out.row.len
    have h3 : posP ps key < ps.length := by simp at h2; exact h2.1
    omega
  clear hh
  obtain ⟨i, hi⟩ : ∃ i, i = posP ps key := ⟨_, rfl⟩
  rw [← hi] at hdel hpos
  obtain ⟨g, hg⟩ : ∃ g, sp = some ⟨g, 0, none⟩ := by
    rcases h'h.out.row.row with ⟨_, e⟩ | ⟨g, cur, e, _⟩
    · have := h'h.out.row.le; omega
    · exact ⟨g, e⟩
  subst hg
  have h0'h := Lib.hid h0
  have hdel'h := Lib.hid hdel
  have hi'h := Lib.hid hi
  clear h0 hdel hi
  go_upto_region 2 with (first | (go_at_call 68; refine G'h.out.mono ?_; rintro e w1 ⟨rfl, hb1⟩) | (refine wpList_store_row rfl _ _ _ rfl w1.heap.size (anA an none 0 0) rfl rfl 34 _ (World.alloc_heap_new _ _) info_an rfl (anA_one _ _ _ _) ?_))
  have H1 := ((H0'h.out.next hb1).new (anA ⟨0, 0, false⟩ none 0 0) 34).set 0 rfl (anA an none 0 0)
  change Code.wp _ _ _ _ ((w1.alloc (.cells (anA ⟨0, 0, false⟩ none 0 0) 34)).setRow w1.heap.size (anA an none 0 0))
  generalize World.setRow _ _ _ = W1 at H1 ⊢
  have hw1 : w.heap.size + 1 < w1.heap.size := by have := (H0'h.out.next hb1).lt _ (List.mem_cons_self ..); exact this
  clear x0 x1 x2 x3 hb1
  have hT1 := h'h.out.below H1.old
  have x0 : W1.cell? ⟨w.heap.size, 0, none⟩ = some (.int .i64 op) := blk_cell (i := 0) H1.rows.2.2.1 rfl
  have x1 : W1.cell? ⟨w.heap.size, 1, none⟩ = some (.int .u64 (key : Int)) := blk_cell (i := 1) H1.rows.2.2.1 rfl
  have x2 : W1.cell? ⟨w.heap.size, 2, none⟩ = some (.int .u64 (x : Int)) := blk_cell (i := 2) H1.rows.2.2.1 rfl
  have x3 : W1.cell? ⟨w.heap.size, 3, none⟩ = some (.int .u64 (y : Int)) := blk_cell (i := 3) H1.rows.2.2.1 rfl
  have A := mat_any tb _ n cap ps key W1 hT1.r hup'h.out hn
  rw [h0'h.out, ← hi'h.out] at A
  have H1'h := Lib.hid H1
  have hT1'h := Lib.hid hT1
  have A'h := Lib.hid A
  clear H1 hT1 A
  go_upto_region 4 with (go_at_call 70; refine A'h.out.mono ?_; rintro e w2 ⟨rfl, hb2⟩)
  have H1 := H1'h.out.next hb2
  have hT1 := hT1'h.out.below hb2
  clear H1'h hT1'h hb2 x0 x1 x2 x3
  have hle := hT1.row.le
  have hlim := hT1.row.lim
  unfold maxLen at hlim
  have hA' : (if cap = i + 1 then some ⟨g, 0, none⟩ else some (⟨g, (i + 1) * 2, none⟩ : Addr)) = some ⟨g, (i + 1) * 2, none⟩ ∨ n - (i + 1) = 0 := by
    split
    · exact .inr (by omega)
    · exact .inl rfl
  have hBw : B ≤ w2.heap.size := by have := hT1.low; have := lt_of_heap hT1.tbl; omega
  obtain ⟨sp', cap', W4, hr, hR4, hK4, hN4⟩ := del_run B g n cap i (cap - (i + 1)) _ ps w2.drew hT1.row.drew hpos hBw hn hA'
  have hcell : w2.cell? ⟨tb, 0, none⟩ = some (.slice (some ⟨g, 0, none⟩) n cap) := hT1.cell
  have hcell' : w2.drew.cell? ⟨tb, 0, none⟩ = some (.slice (some ⟨g, 0, none⟩) n cap) := hT1.cell
  have hgt : g ≠ tb := hT1.apart ⟨g, 0, none⟩ rfl
  have hc4 : W4.cell? ⟨tb, 0, none⟩ = some (.slice (some ⟨g, 0, none⟩) n cap) := hK4.cell (fun e => hgt (by simpa using e)) hcell'
  have hf4 : W4.frozen? ⟨tb, 0, none⟩ = false := (hK4.frozen (fun e => hgt (by simpa using e)) hcell').trans (blk_free (W := w2.drew) 0 hT1.tbl)
  have s0 : (0 : Int) ≤ (i : Int) := by omega
  have s1 : IntKind.i64.wrap ((i : Int) + 1) = (i : Int) + 1 := IntWalk.i64_in _ (by omega)
  have s2 : (0 : Int) ≤ (i : Int) + 1 := by omega
  have s3 : ((i : Int) + 1).toNat = i + 1 := by omega
  have s4 : (i : Int) + 1 ≤ (n : Int) := by omega
  have s5 : (i : Int) ≤ (cap : Int) := by omega
  have H1'h := Lib.hid H1
  have hT1'h := Lib.hid hT1
  have hr'h := Lib.hid hr
  have hR4'h := Lib.hid hR4
  have hK4'h := Lib.hid hK4
  have hN4'h := Lib.hid hN4
  have hA''h := Lib.hid hA'
  have hBw'h := Lib.hid hBw
  have hgt'h := Lib.hid hgt
  clear H1 hT1 hr hR4 hK4 hN4 hA' hBw hgt
  go_region_law (refine step_append_run' rfl _ _ 26 26 rfl _ _ (by first | rfl | (simp [Act.eval, Act.put]; done)) (by first | rfl | (simp [Act.eval, Act.put]; done)) (hr'h.out _) ?_)
  all_goals
    have hne : ((some ⟨g, 0, none⟩ : Option Addr).map (·.block)) ≠ some tb := fun e => hgt'h.out (by simpa using e)
    have hg4 := (hK4'h.out.block tb (lt_of_heap hT1'h.out.tbl) hne).trans (show w2.drew.heap[tb]? = _ from hT1'h.out.tbl)
    have hK2 : KeptT tb (some ⟨g, 0, none⟩) w2 (W4.setCell ⟨tb, 0, none⟩ (.slice sp' (n - 1) cap')) := Kept.trans (Kept.drew _ _) (Kept.trans (hK4'h.out.mono fun b hb => hb.2) (Kept.setCell _ _ _ _ fun hs => hs.1 rfl))
    have hN2 : NewOr (some ⟨g, 0, none⟩) sp' w2.heap.size := hN4'h.out
    have hT2 : Tab (W4.setCell ⟨tb, 0, none⟩ (.slice sp' (n - 1) cap')) B tb sp' (n - 1) cap' (delP ps key) := by
      refine ⟨blk_set (i := 0) _ hg4, h'h.out.low, ?_⟩
      rw [hdel'h.out]
      refine hR4'h.out.keep fun g' e _ => Below.heap_setCell _ _ _ _ ?_
      intro e2
      simp only at e2
      rcases hN2 with e1 | e1
      · exact hne (by rw [← e1, e, e2]; rfl)
      · have h8 := e1 _ e
        have h9 := lt_of_heap hT1'h.out.tbl
        simp only at h8
        omega
    clear hne hg4 hc4 hf4 hcell hcell' s0 s1 s2 s3 s4 s5
    generalize hWW : W4.setCell ⟨tb, 0, none⟩ (.slice sp' (n - 1) cap') = W5 at hK2 hT2 ⊢
    clear hWW
    obtain ⟨n', hn'⟩ : ∃ n', n' = n - 1 := ⟨_, rfl⟩
    rw [← hn'] at hT2
    try clear x0 x1 x2 x3
    have hL2 := H1'h.out.rows.keptT hK2 (fun z hz => by
      have hlo := H1'h.out.low z hz
      refine ⟨by have := htl'h.out; omega, fun e => ?_⟩
      have := hsl'h.out _ e; omega)
    have hKw := (KeptT.of_below (tb := tb) (sp := some ⟨g, 0, none⟩) H1'h.out.old).trans hK2
    have hN := hN2.low H1'h.out.old.size
    have hne1 : (some ⟨g, 0, none⟩ : Option Addr).map (·.block) ≠ some (w.heap.size + 1) := fun e => by have := hsl'h.out _ e; omega
    have hlt1 := (H1'h.out.lt _ (List.mem_cons_of_mem _ (List.mem_cons_self ..)))
    have hne := hN2.ne hne1 hlt1
    have hne2 := hN2.ne (b := w1.heap.size) (fun e => by have := hsl'h.out _ e; omega) (H1'h.out.lt _ (List.mem_cons_self ..))
    clear hK2 hN2 hne1 hlt1
    have hT2'h := Lib.hid hT2
    have hL2'h := Lib.hid hL2
    have hKw'h := Lib.hid hKw
    have hN'h := Lib.hid hN
    have hne'h := Lib.hid hne
    have hne2'h := Lib.hid hne2
    clear hT2 hL2 hKw hN hne hne2
    go_wp2_with (first | (refine wpList_load_row rfl _ _ rfl (w1.heap.size) rfl 34 _ (0, 0) _ (hL2'h.out.1) Tryd.underlying34 rfl info_an ?_) | (refine wpList_store_row rfl _ _ _ rfl (w.heap.size + 1) (anA an none 0 0) rfl rfl 34 _ (hL2'h.out.2.1) info_an rfl (anA_one _ _ _ _) ?_))
    all_goals
      have hZ := setRow_heap _ _ _ (anA an none 0 0) _ _ hL2'h.out.2.1
      have hTZ := hT2'h.out.setRow (b := w.heap.size + 1) (by have := htl'h.out; omega) hne'h.out (anA an none 0 0)
      have hKZ := hKw'h.out.setRow (b := w.heap.size + 1) (by omega) (anA an none 0 0)
      generalize World.setRow _ _ _ = W9 at hZ hTZ hKZ ⊢
      have z0 := blk_cell (i := 0) hZ rfl
      have z1 := blk_cell (i := 1) hZ rfl
      have z2 := blk_cell (i := 2) hZ rfl
      have z3 := blk_cell (i := 3) hZ rfl
      refine bodyPost_ret (v := .agg (anA an none 0 0)) ?_ rfl ⟨sp', n', cap', by rw [han'h.out], hTZ, hKZ, hN'h.out⟩
      simp [results, Tryd.results47, go_sem, z0, z1, z2, z3, anA]
end Go.Proofs.YtogeohjeabbmaaaDoor

