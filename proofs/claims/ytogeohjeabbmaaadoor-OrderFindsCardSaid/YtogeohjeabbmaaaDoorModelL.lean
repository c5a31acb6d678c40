/-
  Package model: more ways of a call.
-/
import Derived.Test.YtogeohjeabbmaaaDoorModelK
set_option linter.unusedSimpArgs false
set_option linter.unusedVariables false
set_option maxRecDepth 100000
namespace Go.Proofs.YtogeohjeabbmaaaDoor
open Go.RowKit

set_option maxHeartbeats 1000000 in
theorem way_swap_yes (B tb : Nat) (sp : Option Addr) (n cap : Nat) (ps : Ps) (c : Cl) (w : World) (h : Tab w B tb sp n cap ps) (hup : upB ps = true) (hn : n ≤ 4096) (hh : hasP ps c.key = true) (hv : (anK ps c.key).val = c.a) :
    Calls Tryd.prog 48 #[.pointer (some ⟨tb, 0, none⟩), .agg (clA c)] w (WayEnd B tb sp (insP ps c.key c.b) { anK ps c.key with done := true } w) := by
  obtain ⟨op, key, x, y⟩ := c
  have H0 := ((Hs.nil w).new2 (clA ⟨op, key, x, y⟩) (anA ⟨0, 0, false⟩ none 0 0) 31 34)
  obtain ⟨W0, hW0⟩ : ∃ W0, W0 = ((w.alloc (.cells (clA ⟨op, key, x, y⟩) 31)).alloc (.cells (anA ⟨0, 0, false⟩ none 0 0) 34)) := ⟨_, rfl⟩
  rw [← hW0] at H0
  have G := mget_any tb sp n cap ps key _ (h.r.below H0.old) hup hn
  obtain ⟨an, han⟩ : ∃ an, an = anK ps key := ⟨_, rfl⟩
  have htl := lt_of_heap h.tbl
  have hsl := h.spot
  show Calls _ _ _ _ (WayEnd B tb sp (insP ps key y) ({ anK ps key with done := true }) w)
  rw [← han] at G
  have h'h := Lib.hid h
  have hup'h := Lib.hid hup
  have H0'h := Lib.hid H0
  have G'h := Lib.hid G
  have han'h := Lib.hid han
  have htl'h := Lib.hid htl
  have hsl'h := Lib.hid hsl
  have hW0'h := Lib.hid hW0
  clear h hup H0 G han htl hsl hW0
  go_enter Tryd.func48, Tryd.ntmps48
  go_upto_region 1 with fail
  change Code.wp _ _ _ _ ((w.alloc (.cells (clA ⟨op, key, x, y⟩) 31)).alloc (.cells (anA ⟨0, 0, false⟩ none 0 0) 34))
  rw [← hW0'h.out]
  have x0 : W0.cell? ⟨w.heap.size, 0, none⟩ = some (.int .i64 op) := blk_cell (i := 0) H0'h.out.rows.2.1 rfl
  have x1 : W0.cell? ⟨w.heap.size, 1, none⟩ = some (.int .u64 (key : Int)) := blk_cell (i := 1) H0'h.out.rows.2.1 rfl
  have x2 : W0.cell? ⟨w.heap.size, 2, none⟩ = some (.int .u64 (x : Int)) := blk_cell (i := 2) H0'h.out.rows.2.1 rfl
  have x3 : W0.cell? ⟨w.heap.size, 3, none⟩ = some (.int .u64 (y : Int)) := blk_cell (i := 3) H0'h.out.rows.2.1 rfl
  obtain ⟨va, hva⟩ : ∃ va, va = an.val := ⟨_, rfl⟩
  have hd : an = ⟨0, va, true⟩ := by
    have h0 : hasP ps key = true := hh
    rw [hva, han'h.out]; unfold anK; rw [h0]
  have hv2 : va = x := by
    have h1 := hv
    try simp only at h1
    rw [hva, han'h.out]; exact h1
  have han2 : { anK ps key with done := true } = (⟨0, va, true⟩ : An) := by rw [hva, han'h.out]; rfl
  clear hh hv hva
  have hd'h := Lib.hid hd
  have hv2'h := Lib.hid hv2
  have han2'h := Lib.hid han2
  clear hd hv2 han2
  go_upto_region 2 with (first | (go_at_call 68; refine G'h.out.mono ?_; rintro e w1 ⟨rfl, hb1⟩) | (refine wpList_store_row rfl _ _ _ rfl w1.heap.size (anA an none 0 0) rfl rfl 34 _ (World.alloc_heap_new _ _) info_an rfl (anA_one _ _ _ _) ?_))
  have H1 := ((H0'h.out.next hb1).new (anA ⟨0, 0, false⟩ none 0 0) 34).set 0 rfl (anA an none 0 0)
  change Code.wp _ _ _ _ ((w1.alloc (.cells (anA ⟨0, 0, false⟩ none 0 0) 34)).setRow w1.heap.size (anA an none 0 0))
  generalize World.setRow _ _ _ = W1 at H1 ⊢
  have hw1 : w.heap.size + 1 < w1.heap.size := by have := (H0'h.out.next hb1).lt _ (List.mem_cons_self ..); exact this
  clear x0 x1 x2 x3 hb1
  have hT1 := h'h.out.below H1.old
  have x0 : W1.cell? ⟨w.heap.size, 0, none⟩ = some (.int .i64 op) := blk_cell (i := 0) H1.rows.2.2.1 rfl
  have x1 : W1.cell? ⟨w.heap.size, 1, none⟩ = some (.int .u64 (key : Int)) := blk_cell (i := 1) H1.rows.2.2.1 rfl
  have x2 : W1.cell? ⟨w.heap.size, 2, none⟩ = some (.int .u64 (x : Int)) := blk_cell (i := 2) H1.rows.2.2.1 rfl
  have x3 : W1.cell? ⟨w.heap.size, 3, none⟩ = some (.int .u64 (y : Int)) := blk_cell (i := 3) H1.rows.2.2.1 rfl
  rw [hd'h.out] at H1
  have y1 : W1.cell? ⟨w1.heap.size, 1, none⟩ = some (.int .u64 (va : Int)) := blk_cell (i := 1) H1.rows.1 rfl
  have y2 : W1.cell? ⟨w1.heap.size, 2, none⟩ = some (.bool true) := blk_cell (i := 2) H1.rows.1 rfl
  have y3 := blk_free 2 H1.rows.1
  have t1 : ((va : Int) == (x : Int)) = true := by have := hv2'h.out; rw [Bool.eq_iff_iff]; simp; omega
  clear hT1
  have H1'h := Lib.hid H1
  clear H1
  go_upto_region 3 with fail
  clear x0 x1 x2 x3 y1 y2 y3 t1
  have H2 : Hs w [(w1.heap.size, anA ⟨0, va, true⟩ none 0 0, 34), (w.heap.size + 1, anA ⟨0, 0, false⟩ none 0 0, 34), (w.heap.size, clA ⟨op, key, x, y⟩, 31)] (W1.setCell ⟨w1.heap.size, 2, none⟩ (.bool true)) := H1'h.out.put 0 rfl 2 (.bool true)
  clear H1'h
  generalize World.setCell _ _ _ = W2 at H2 ⊢
  have H1 := H2
  have hT1 := h'h.out.below H2.old
  have x0 : W2.cell? ⟨w.heap.size, 0, none⟩ = some (.int .i64 op) := blk_cell (i := 0) H1.rows.2.2.1 rfl
  have x1 : W2.cell? ⟨w.heap.size, 1, none⟩ = some (.int .u64 (key : Int)) := blk_cell (i := 1) H1.rows.2.2.1 rfl
  have x2 : W2.cell? ⟨w.heap.size, 2, none⟩ = some (.int .u64 (x : Int)) := blk_cell (i := 2) H1.rows.2.2.1 rfl
  have x3 : W2.cell? ⟨w.heap.size, 3, none⟩ = some (.int .u64 (y : Int)) := blk_cell (i := 3) H1.rows.2.2.1 rfl
  have y2 : W2.cell? ⟨w1.heap.size, 2, none⟩ = some (.bool true) := blk_cell (i := 2) H1.rows.1 rfl
  clear H2
  have P := mput_any B tb sp n cap ps key y W2 hT1 hup'h.out hn
  have H1'h := Lib.hid H1
  have hT1'h := Lib.hid hT1
  have P'h := Lib.hid P
  clear H1 hT1 P
  go_upto_region 5 with (go_at_call 69; refine P'h.out.mono ?_; rintro e w2 ⟨sp', n', cap', rfl, hT2, hK2, hN2⟩)
  clear y2
  try clear x0 x1 x2 x3
  have hL2 := H1'h.out.rows.keptT hK2 (fun z hz => by
    have hlo := H1'h.out.low z hz
    refine ⟨by have := htl'h.out; omega, fun e => ?_⟩
    have := hsl'h.out _ e; omega)
  have hKw := (KeptT.of_below (tb := tb) (sp := sp) H1'h.out.old).trans hK2
  have hN := hN2.low H1'h.out.old.size
  have hne1 : sp.map (·.block) ≠ some (w.heap.size + 1) := fun e => by have := hsl'h.out _ e; omega
  have hlt1 := (H1'h.out.lt _ (List.mem_cons_of_mem _ (List.mem_cons_self ..)))
  have hne := hN2.ne hne1 hlt1
  have hne2 := hN2.ne (b := w1.heap.size) (fun e => by have := hsl'h.out _ e; omega) (H1'h.out.lt _ (List.mem_cons_self ..))
  clear hK2 hN2 hne1 hlt1
  have hT2'h := Lib.hid hT2
  have hL2'h := Lib.hid hL2
  have hKw'h := Lib.hid hKw
  have hN'h := Lib.hid hN
  have hne'h := Lib.hid hne
  have hne2'h := Lib.hid hne2
  clear hT2 hL2 hKw hN hne hne2
  go_wp2_with (first | (refine wpList_load_row rfl _ _ rfl (w1.heap.size) rfl 34 _ (0, 0) _ (hL2'h.out.1) Tryd.underlying34 rfl info_an ?_) | (refine wpList_store_row rfl _ _ _ rfl (w.heap.size + 1) (anA ⟨0, va, true⟩ none 0 0) rfl rfl 34 _ (hL2'h.out.2.1) info_an rfl (anA_one _ _ _ _) ?_))
  have hZ := setRow_heap _ _ _ (anA ⟨0, va, true⟩ none 0 0) _ _ hL2'h.out.2.1
  have hTZ := hT2'h.out.setRow (b := w.heap.size + 1) (by have := htl'h.out; omega) hne'h.out (anA ⟨0, va, true⟩ none 0 0)
  have hKZ := hKw'h.out.setRow (b := w.heap.size + 1) (by omega) (anA ⟨0, va, true⟩ none 0 0)
  generalize World.setRow _ _ _ = W9 at hZ hTZ hKZ ⊢
  have z0 := blk_cell (i := 0) hZ rfl
  have z1 := blk_cell (i := 1) hZ rfl
  have z2 := blk_cell (i := 2) hZ rfl
  have z3 := blk_cell (i := 3) hZ rfl
  refine bodyPost_ret (v := .agg (anA ⟨0, va, true⟩ none 0 0)) ?_ rfl ⟨sp', n', cap', by rw [han2'h.out], hTZ, hKZ, hN'h.out⟩
  simp [results, Tryd.results48, go_sem, z0, z1, z2, z3, anA]
set_option maxHeartbeats 1000000 in
theorem way_swap_other (B tb : Nat) (sp : Option Addr) (n cap : Nat) (ps : Ps) (c : Cl) (w : World) (h : Tab w B tb sp n cap ps) (hup : upB ps = true) (hn : n ≤ 4096) (hh : hasP ps c.key = true) (hv : (anK ps c.key).val ≠ c.a) :
    Calls Tryd.prog 48 #[.pointer (some ⟨tb, 0, none⟩), .agg (clA c)] w (WayEnd B tb sp (ps) { anK ps c.key with done := false } w) := by
  obtain ⟨op, key, x, y⟩ := c
  have H0 := ((Hs.nil w).new2 (clA ⟨op, key, x, y⟩) (anA ⟨0, 0, false⟩ none 0 0) 31 34)
  obtain ⟨W0, hW0⟩ : ∃ W0, W0 = ((w.alloc (.cells (clA ⟨op, key, x, y⟩) 31)).alloc (.cells (anA ⟨0, 0, false⟩ none 0 0) 34)) := ⟨_, rfl⟩
  rw [← hW0] at H0
  have G := mget_any tb sp n cap ps key _ (h.r.below H0.old) hup hn
  obtain ⟨an, han⟩ : ∃ an, an = anK ps key := ⟨_, rfl⟩
  have htl := lt_of_heap h.tbl
  have hsl := h.spot
  show Calls _ _ _ _ (WayEnd B tb sp (ps) ({ anK ps key with done := false }) w)
  rw [← han] at G
  have h'h := Lib.hid h
  have hup'h := Lib.hid hup
  have H0'h := Lib.hid H0
  have G'h := Lib.hid G
  have han'h := Lib.hid han
  have htl'h := Lib.hid htl
  have hsl'h := Lib.hid hsl
  have hW0'h := Lib.hid hW0
  clear h hup H0 G han htl hsl hW0
  go_enter Tryd.func48, Tryd.ntmps48
  go_upto_region 1 with fail
  change Code.wp _ _ _ _ ((w.alloc (.cells (clA ⟨op, key, x, y⟩) 31)).alloc (.cells (anA ⟨0, 0, false⟩ none 0 0) 34))
  rw [← hW0'h.out]
  have x0 : W0.cell? ⟨w.heap.size, 0, none⟩ = some (.int .i64 op) := blk_cell (i := 0) H0'h.out.rows.2.1 rfl
  have x1 : W0.cell? ⟨w.heap.size, 1, none⟩ = some (.int .u64 (key : Int)) := blk_cell (i := 1) H0'h.out.rows.2.1 rfl
  have x2 : W0.cell? ⟨w.heap.size, 2, none⟩ = some (.int .u64 (x : Int)) := blk_cell (i := 2) H0'h.out.rows.2.1 rfl
  have x3 : W0.cell? ⟨w.heap.size, 3, none⟩ = some (.int .u64 (y : Int)) := blk_cell (i := 3) H0'h.out.rows.2.1 rfl
  obtain ⟨va, hva⟩ : ∃ va, va = an.val := ⟨_, rfl⟩
  have hd : an = ⟨0, va, true⟩ := by
    have h0 : hasP ps key = true := hh
    rw [hva, han'h.out]; unfold anK; rw [h0]
  have hv2 : va ≠ x := by
    have h1 := hv
    try simp only at h1
    rw [hva, han'h.out]; exact h1
  have han2 : { anK ps key with done := false } = (⟨0, va, false⟩ : An) := by rw [hva, han'h.out]; rfl
  clear hh hv hva
  have hd'h := Lib.hid hd
  have hv2'h := Lib.hid hv2
  have han2'h := Lib.hid han2
  clear hd hv2 han2
  go_upto_region 2 with (first | (go_at_call 68; refine G'h.out.mono ?_; rintro e w1 ⟨rfl, hb1⟩) | (refine wpList_store_row rfl _ _ _ rfl w1.heap.size (anA an none 0 0) rfl rfl 34 _ (World.alloc_heap_new _ _) info_an rfl (anA_one _ _ _ _) ?_))
  have H1 := ((H0'h.out.next hb1).new (anA ⟨0, 0, false⟩ none 0 0) 34).set 0 rfl (anA an none 0 0)
  change Code.wp _ _ _ _ ((w1.alloc (.cells (anA ⟨0, 0, false⟩ none 0 0) 34)).setRow w1.heap.size (anA an none 0 0))
  generalize World.setRow _ _ _ = W1 at H1 ⊢
  have hw1 : w.heap.size + 1 < w1.heap.size := by have := (H0'h.out.next hb1).lt _ (List.mem_cons_self ..); exact this
  clear x0 x1 x2 x3 hb1
  have hT1 := h'h.out.below H1.old
  have x0 : W1.cell? ⟨w.heap.size, 0, none⟩ = some (.int .i64 op) := blk_cell (i := 0) H1.rows.2.2.1 rfl
  have x1 : W1.cell? ⟨w.heap.size, 1, none⟩ = some (.int .u64 (key : Int)) := blk_cell (i := 1) H1.rows.2.2.1 rfl
  have x2 : W1.cell? ⟨w.heap.size, 2, none⟩ = some (.int .u64 (x : Int)) := blk_cell (i := 2) H1.rows.2.2.1 rfl
  have x3 : W1.cell? ⟨w.heap.size, 3, none⟩ = some (.int .u64 (y : Int)) := blk_cell (i := 3) H1.rows.2.2.1 rfl
  rw [hd'h.out] at H1
  have y1 : W1.cell? ⟨w1.heap.size, 1, none⟩ = some (.int .u64 (va : Int)) := blk_cell (i := 1) H1.rows.1 rfl
  have y2 : W1.cell? ⟨w1.heap.size, 2, none⟩ = some (.bool true) := blk_cell (i := 2) H1.rows.1 rfl
  have y3 := blk_free 2 H1.rows.1
  have t1 : ((va : Int) == (x : Int)) = false := by have := hv2'h.out; rw [Bool.eq_iff_iff]; simp; omega
  clear hT1
  have H1'h := Lib.hid H1
  clear H1
  go_upto_region 3 with fail
  clear x0 x1 x2 x3 y1 y2 y3 t1
  have H2 : Hs w [(w1.heap.size, anA ⟨0, va, false⟩ none 0 0, 34), (w.heap.size + 1, anA ⟨0, 0, false⟩ none 0 0, 34), (w.heap.size, clA ⟨op, key, x, y⟩, 31)] (W1.setCell ⟨w1.heap.size, 2, none⟩ (.bool false)) := H1'h.out.put 0 rfl 2 (.bool false)
  clear H1'h
  generalize World.setCell _ _ _ = W2 at H2 ⊢
  have H1 := H2
  have hT1 := h'h.out.below H2.old
  have x0 : W2.cell? ⟨w.heap.size, 0, none⟩ = some (.int .i64 op) := blk_cell (i := 0) H1.rows.2.2.1 rfl
  have x1 : W2.cell? ⟨w.heap.size, 1, none⟩ = some (.int .u64 (key : Int)) := blk_cell (i := 1) H1.rows.2.2.1 rfl
  have x2 : W2.cell? ⟨w.heap.size, 2, none⟩ = some (.int .u64 (x : Int)) := blk_cell (i := 2) H1.rows.2.2.1 rfl
  have x3 : W2.cell? ⟨w.heap.size, 3, none⟩ = some (.int .u64 (y : Int)) := blk_cell (i := 3) H1.rows.2.2.1 rfl
  have y2 : W2.cell? ⟨w1.heap.size, 2, none⟩ = some (.bool false) := blk_cell (i := 2) H1.rows.1 rfl
  clear H2
  have H1'h := Lib.hid H1
  have hT1'h := Lib.hid hT1
  clear H1 hT1
  go_upto_region 5 with fail
  clear y2
  clear x0 x1 x2 x3
  obtain ⟨sp', hsp'⟩ : ∃ sp', sp' = sp := ⟨_, rfl⟩
  obtain ⟨n', hn'⟩ : ∃ n', n' = n := ⟨_, rfl⟩
  obtain ⟨cap', hcap'⟩ : ∃ cap', cap' = cap := ⟨_, rfl⟩
  have hT2 := hT1'h.out
  rw [← hsp', ← hn', ← hcap'] at hT2
  have hL2 := H1'h.out.rows
  have hKw := KeptT.of_below (tb := tb) (sp := sp) H1'h.out.old
  have hN : NewOr sp sp' w.heap.size := .inl hsp'
  have hne : sp'.map (·.block) ≠ some (w.heap.size + 1) := fun e => by rw [hsp'] at e; have := hsl'h.out _ e; omega
  clear hsp' hn' hcap'
  have hT2'h := Lib.hid hT2
  have hL2'h := Lib.hid hL2
  have hKw'h := Lib.hid hKw
  have hN'h := Lib.hid hN
  have hne'h := Lib.hid hne
  clear hT2 hL2 hKw hN hne
  go_wp2_with (first | (refine wpList_load_row rfl _ _ rfl (w1.heap.size) rfl 34 _ (0, 0) _ (hL2'h.out.1) Tryd.underlying34 rfl info_an ?_) | (refine wpList_store_row rfl _ _ _ rfl (w.heap.size + 1) (anA ⟨0, va, false⟩ none 0 0) rfl rfl 34 _ (hL2'h.out.2.1) info_an rfl (anA_one _ _ _ _) ?_))
  have hZ := setRow_heap _ _ _ (anA ⟨0, va, false⟩ none 0 0) _ _ hL2'h.out.2.1
  have hTZ := hT2'h.out.setRow (b := w.heap.size + 1) (by have := htl'h.out; omega) hne'h.out (anA ⟨0, va, false⟩ none 0 0)
  have hKZ := hKw'h.out.setRow (b := w.heap.size + 1) (by omega) (anA ⟨0, va, false⟩ none 0 0)
  generalize World.setRow _ _ _ = W9 at hZ hTZ hKZ ⊢
  have z0 := blk_cell (i := 0) hZ rfl
  have z1 := blk_cell (i := 1) hZ rfl
  have z2 := blk_cell (i := 2) hZ rfl
  have z3 := blk_cell (i := 3) hZ rfl
  refine bodyPost_ret (v := .agg (anA ⟨0, va, false⟩ none 0 0)) ?_ rfl ⟨sp', n', cap', by rw [han2'h.out], hTZ, hKZ, hN'h.out⟩
  simp [results, Tryd.results48, go_sem, z0, z1, z2, z3, anA]
set_option maxHeartbeats 1000000 in
theorem way_swap_no (B tb : Nat) (sp : Option Addr) (n cap : Nat) (ps : Ps) (c : Cl) (w : World) (h : Tab w B tb sp n cap ps) (hup : upB ps = true) (hn : n ≤ 4096) (hh : hasP ps c.key = false) (hv : True) :
    Calls Tryd.prog 48 #[.pointer (some ⟨tb, 0, none⟩), .agg (clA c)] w (WayEnd B tb sp (ps) { anK ps c.key with done := false } w) := by
  obtain ⟨op, key, x, y⟩ := c
  have H0 := ((Hs.nil w).new2 (clA ⟨op, key, x, y⟩) (anA ⟨0, 0, false⟩ none 0 0) 31 34)
  obtain ⟨W0, hW0⟩ : ∃ W0, W0 = ((w.alloc (.cells (clA ⟨op, key, x, y⟩) 31)).alloc (.cells (anA ⟨0, 0, false⟩ none 0 0) 34)) := ⟨_, rfl⟩
  rw [← hW0] at H0
  have G := mget_any tb sp n cap ps key _ (h.r.below H0.old) hup hn
  obtain ⟨an, han⟩ : ∃ an, an = anK ps key := ⟨_, rfl⟩
  have htl := lt_of_heap h.tbl
  have hsl := h.spot
  show Calls _ _ _ _ (WayEnd B tb sp (ps) ({ anK ps key with done := false }) w)
  rw [← han] at G
  have h'h := Lib.hid h
  have hup'h := Lib.hid hup
  have H0'h := Lib.hid H0
  have G'h := Lib.hid G
  have han'h := Lib.hid han
  have htl'h := Lib.hid htl
  have hsl'h := Lib.hid hsl
  have hW0'h := Lib.hid hW0
  clear h hup H0 G han htl hsl hW0
  go_enter Tryd.func48, Tryd.ntmps48
  go_upto_region 1 with fail
  change Code.wp _ _ _ _ ((w.alloc (.cells (clA ⟨op, key, x, y⟩) 31)).alloc (.cells (anA ⟨0, 0, false⟩ none 0 0) 34))
  rw [← hW0'h.out]
  have x0 : W0.cell? ⟨w.heap.size, 0, none⟩ = some (.int .i64 op) := blk_cell (i := 0) H0'h.out.rows.2.1 rfl
  have x1 : W0.cell? ⟨w.heap.size, 1, none⟩ = some (.int .u64 (key : Int)) := blk_cell (i := 1) H0'h.out.rows.2.1 rfl
  have x2 : W0.cell? ⟨w.heap.size, 2, none⟩ = some (.int .u64 (x : Int)) := blk_cell (i := 2) H0'h.out.rows.2.1 rfl
  have x3 : W0.cell? ⟨w.heap.size, 3, none⟩ = some (.int .u64 (y : Int)) := blk_cell (i := 3) H0'h.out.rows.2.1 rfl
  obtain ⟨va, hva⟩ : ∃ va, va = an.val := ⟨_, rfl⟩
  have hd : an = ⟨0, va, false⟩ := by
    have h0 : hasP ps key = false := hh
    rw [hva, han'h.out]; unfold anK; rw [h0]
  have hv2 : True := by
    have h1 := hv
    try simp only at h1
    exact trivial
  have han2 : { anK ps key with done := false } = (⟨0, va, false⟩ : An) := by rw [hva, han'h.out]; rfl
  clear hh hv hva
  have hd'h := Lib.hid hd
  have hv2'h := Lib.hid hv2
  have han2'h := Lib.hid han2
  clear hd hv2 han2
  go_upto_region 2 with (first | (go_at_call 68; refine G'h.out.mono ?_; rintro e w1 ⟨rfl, hb1⟩) | (refine wpList_store_row rfl _ _ _ rfl w1.heap.size (anA an none 0 0) rfl rfl 34 _ (World.alloc_heap_new _ _) info_an rfl (anA_one _ _ _ _) ?_))
  have H1 := ((H0'h.out.next hb1).new (anA ⟨0, 0, false⟩ none 0 0) 34).set 0 rfl (anA an none 0 0)
  change Code.wp _ _ _ _ ((w1.alloc (.cells (anA ⟨0, 0, false⟩ none 0 0) 34)).setRow w1.heap.size (anA an none 0 0))
  generalize World.setRow _ _ _ = W1 at H1 ⊢
  have hw1 : w.heap.size + 1 < w1.heap.size := by have := (H0'h.out.next hb1).lt _ (List.mem_cons_self ..); exact this
  clear x0 x1 x2 x3 hb1
  have hT1 := h'h.out.below H1.old
  have x0 : W1.cell? ⟨w.heap.size, 0, none⟩ = some (.int .i64 op) := blk_cell (i := 0) H1.rows.2.2.1 rfl
  have x1 : W1.cell? ⟨w.heap.size, 1, none⟩ = some (.int .u64 (key : Int)) := blk_cell (i := 1) H1.rows.2.2.1 rfl
  have x2 : W1.cell? ⟨w.heap.size, 2, none⟩ = some (.int .u64 (x : Int)) := blk_cell (i := 2) H1.rows.2.2.1 rfl
  have x3 : W1.cell? ⟨w.heap.size, 3, none⟩ = some (.int .u64 (y : Int)) := blk_cell (i := 3) H1.rows.2.2.1 rfl
  rw [hd'h.out] at H1
  have y1 : W1.cell? ⟨w1.heap.size, 1, none⟩ = some (.int .u64 (va : Int)) := blk_cell (i := 1) H1.rows.1 rfl
  have y2 : W1.cell? ⟨w1.heap.size, 2, none⟩ = some (.bool false) := blk_cell (i := 2) H1.rows.1 rfl
  have y3 := blk_free 2 H1.rows.1
  have t1 := trivial
  clear hT1
  have H1'h := Lib.hid H1
  clear H1
  go_upto_region 3 with fail
  clear x0 x1 x2 x3 y1 y2 y3 t1
  have H2 : Hs w [(w1.heap.size, anA ⟨0, va, false⟩ none 0 0, 34), (w.heap.size + 1, anA ⟨0, 0, false⟩ none 0 0, 34), (w.heap.size, clA ⟨op, key, x, y⟩, 31)] (W1.setCell ⟨w1.heap.size, 2, none⟩ (.bool false)) := H1'h.out.put 0 rfl 2 (.bool false)
  clear H1'h
  generalize World.setCell _ _ _ = W2 at H2 ⊢
  have H1 := H2
  have hT1 := h'h.out.below H2.old
  have x0 : W2.cell? ⟨w.heap.size, 0, none⟩ = some (.int .i64 op) := blk_cell (i := 0) H1.rows.2.2.1 rfl
  have x1 : W2.cell? ⟨w.heap.size, 1, none⟩ = some (.int .u64 (key : Int)) := blk_cell (i := 1) H1.rows.2.2.1 rfl
  have x2 : W2.cell? ⟨w.heap.size, 2, none⟩ = some (.int .u64 (x : Int)) := blk_cell (i := 2) H1.rows.2.2.1 rfl
  have x3 : W2.cell? ⟨w.heap.size, 3, none⟩ = some (.int .u64 (y : Int)) := blk_cell (i := 3) H1.rows.2.2.1 rfl
  have y2 : W2.cell? ⟨w1.heap.size, 2, none⟩ = some (.bool false) := blk_cell (i := 2) H1.rows.1 rfl
  clear H2
  have H1'h := Lib.hid H1
  have hT1'h := Lib.hid hT1
  clear H1 hT1
  go_upto_region 5 with fail
  clear y2
  clear x0 x1 x2 x3
  obtain ⟨sp', hsp'⟩ : ∃ sp', sp' = sp := ⟨_, rfl⟩
  obtain ⟨n', hn'⟩ : ∃ n', n' = n := ⟨_, rfl⟩
  obtain ⟨cap', hcap'⟩ : ∃ cap', cap' = cap := ⟨_, rfl⟩
  have hT2 := hT1'h.out
  rw [← hsp', ← hn', ← hcap'] at hT2
  have hL2 := H1'h.out.rows
  have hKw := KeptT.of_below (tb := tb) (sp := sp) H1'h.out.old
  have hN : NewOr sp sp' w.heap.size := .inl hsp'
  have hne : sp'.map (·.block) ≠ some (w.heap.size + 1) := fun e => by rw [hsp'] at e; have := hsl'h.out _ e; omega
  clear hsp' hn' hcap'
  have hT2'h := Lib.hid hT2
  have hL2'h := Lib.hid hL2
  have hKw'h := Lib.hid hKw
  have hN'h := Lib.hid hN
  have hne'h := Lib.hid hne
  clear hT2 hL2 hKw hN hne
  go_wp2_with (first | (refine wpList_load_row rfl _ _ rfl (w1.heap.size) rfl 34 _ (0, 0) _ (hL2'h.out.1) Tryd.underlying34 rfl info_an ?_) | (refine wpList_store_row rfl _ _ _ rfl (w.heap.size + 1) (anA ⟨0, va, false⟩ none 0 0) rfl rfl 34 _ (hL2'h.out.2.1) info_an rfl (anA_one _ _ _ _) ?_))
  have hZ := setRow_heap _ _ _ (anA ⟨0, va, false⟩ none 0 0) _ _ hL2'h.out.2.1
  have hTZ := hT2'h.out.setRow (b := w.heap.size + 1) (by have := htl'h.out; omega) hne'h.out (anA ⟨0, va, false⟩ none 0 0)
  have hKZ := hKw'h.out.setRow (b := w.heap.size + 1) (by omega) (anA ⟨0, va, false⟩ none 0 0)
  generalize World.setRow _ _ _ = W9 at hZ hTZ hKZ ⊢
  have z0 := blk_cell (i := 0) hZ rfl
  have z1 := blk_cell (i := 1) hZ rfl
  have z2 := blk_cell (i := 2) hZ rfl
  have z3 := blk_cell (i := 3) hZ rfl
  refine bodyPost_ret (v := .agg (anA ⟨0, va, false⟩ none 0 0)) ?_ rfl ⟨sp', n', cap', by rw [han2'h.out], hTZ, hKZ, hN'h.out⟩
  simp [results, Tryd.results48, go_sem, z0, z1, z2, z3, anA]
/-- What an answer with pairs leaves. -/
def WayEndP (B tb : Nat) (sp : Option Addr) (ps : Ps) (a : An) (qs : Ps) (w : World) (e : Ending) (w' : World) : Prop :=
  ∃ sp' n' cap' sq nq cq, e = .returned (.agg (anA a sq nq cq)) ∧ Tab w' B tb sp' n' cap' ps ∧ KeptT tb sp w w' ∧ NewOr sp sp' w.heap.size ∧ SlK w' 2 sq nq (prs qs) ∧ (sq = none → cq = 0) ∧ nq ≤ cq ∧ (∀ b, sq.map (·.block) = some b → w.heap.size ≤ b)
theorem WayEnd.p {B tb : Nat} {sp : Option Addr} {ps : Ps} {a : An} {w : World} {e : Ending} {w' : World} (h : WayEnd B tb sp ps a w e w') : WayEndP B tb sp ps a [] w e w' := by
  obtain ⟨sp', n', cap', h1, h2, h3, h4⟩ := h
  exact ⟨sp', n', cap', none, 0, 0, h1, h2, h3, h4, SlK.nil _ _ _, fun _ => rfl, Nat.le_refl _, fun b e => by cases e⟩
set_option maxHeartbeats 1000000 in
theorem way_size (B tb : Nat) (sp : Option Addr) (n cap : Nat) (ps : Ps) (c : Cl) (w : World) (h : Tab w B tb sp n cap ps) (hn : n ≤ 4096) :
    Calls Tryd.prog 51 #[.pointer (some ⟨tb, 0, none⟩), .agg (clA c)] w (WayEnd B tb sp ps ⟨0, ps.length, false⟩ w) := by
  have H0 := ((Hs.nil w).new2 (clA c) (anA ⟨0, 0, false⟩ none 0 0) 31 34)
  obtain ⟨W0, hW0⟩ : ∃ W0, W0 = ((w.alloc (.cells (clA c) 31)).alloc (.cells (anA ⟨0, 0, false⟩ none 0 0) 34)) := ⟨_, rfl⟩
  rw [← hW0] at H0
  have hT := h.below H0.old
  have hc := hT.cell
  have htl := lt_of_heap h.tbl
  have hsl := h.spot
  have hlen := h.row.len
  have hw : IntKind.u64.wrap (n : Int) = (n : Int) := by rw [IntKind.wrap_u64]; omega
  have hna : n = ps.length := hlen
  rw [← hna]
  have h'h := Lib.hid h
  have hT'h := Lib.hid hT
  have htl'h := Lib.hid htl
  have hsl'h := Lib.hid hsl
  have hlen'h := Lib.hid hlen
  have hna'h := Lib.hid hna
  have H0'h := Lib.hid H0
  have hW0'h := Lib.hid hW0
  clear h hT htl hsl hlen hna H0 hW0
  go_enter Tryd.func51, Tryd.ntmps51
  go_upto_region 1 with fail
  change Code.wp _ _ _ _ ((w.alloc (.cells (clA c) 31)).alloc (.cells (anA ⟨0, 0, false⟩ none 0 0) 34))
  rw [← hW0'h.out]
  go_wp2_with (refine wpList_store_row rfl _ _ _ rfl (w.heap.size + 1) (anA ⟨0, n, false⟩ none 0 0) rfl rfl 34 _ (H0'h.out.rows.1) info_an rfl (anA_one _ _ _ _) ?_)
  have hZ := setRow_heap _ _ _ (anA ⟨0, n, false⟩ none 0 0) _ _ H0'h.out.rows.1
  have hTZ := hT'h.out.setRow (b := w.heap.size + 1) (by have := htl'h.out; omega) (fun e => by have := hsl'h.out _ e; omega) (anA ⟨0, n, false⟩ none 0 0)
  have hKZ := (KeptT.of_below (tb := tb) (sp := sp) H0'h.out.old).setRow (b := w.heap.size + 1) (by omega) (anA ⟨0, n, false⟩ none 0 0)
  generalize World.setRow _ _ _ = W9 at hZ hTZ hKZ ⊢
  have z0 := blk_cell (i := 0) hZ rfl
  have z1 := blk_cell (i := 1) hZ rfl
  have z2 := blk_cell (i := 2) hZ rfl
  have z3 := blk_cell (i := 3) hZ rfl
  refine bodyPost_ret (v := .agg (anA ⟨0, n, false⟩ none 0 0)) ?_ rfl ⟨sp, n, cap, rfl, hTZ, hKZ, .inl rfl⟩
  simp [results, Tryd.results51, go_sem, z0, z1, z2, z3, anA]
end Go.Proofs.YtogeohjeabbmaaaDoor
