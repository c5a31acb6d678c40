/-
  Package model: all of a table; a key dropped.
-/
import Derived.Test.YtogeohjeabbmaaaDoorModelL
set_option linter.unusedSimpArgs false
set_option linter.unusedVariables false
set_option maxRecDepth 100000
namespace Go.Proofs.YtogeohjeabbmaaaDoor
open Go.RowKit

set_option maxHeartbeats 1000000 in
theorem way_all (B tb : Nat) (sp : Option Addr) (n cap : Nat) (ps : Ps) (c : Cl) (w : World) (h : Tab w B tb sp n cap ps) (hn : n ≤ 4096) :
    Calls Tryd.prog 50 #[.pointer (some ⟨tb, 0, none⟩), .agg (clA c)] w (WayEndP B tb sp ps ⟨0, 0, false⟩ ps w) := by
  have H0 := ((Hs.nil w).new2 (clA c) (anA ⟨0, 0, false⟩ none 0 0) 31 34)
  obtain ⟨W0, hW0⟩ : ∃ W0, W0 = ((w.alloc (.cells (clA c) 31)).alloc (.cells (anA ⟨0, 0, false⟩ none 0 0) 34)) := ⟨_, rfl⟩
  rw [← hW0] at H0
  have hT := h.below H0.old
  have hc := hT.cell
  have htl := lt_of_heap h.tbl
  have hsl := h.spot
  have O := mown_any sp n cap ps W0 hT.row.sl hn
  have h1s := H0.lt _ (List.mem_cons_self ..)
  have h'h := Lib.hid h
  have hT'h := Lib.hid hT
  have htl'h := Lib.hid htl
  have hsl'h := Lib.hid hsl
  have H0'h := Lib.hid H0
  have hW0'h := Lib.hid hW0
  have O'h := Lib.hid O
  have h1s'h := Lib.hid h1s
  clear h hT htl hsl H0 hW0 O h1s
  go_enter Tryd.func50, Tryd.ntmps50
  go_upto_region 1 with fail
  change Code.wp _ _ _ _ ((w.alloc (.cells (clA c) 31)).alloc (.cells (anA ⟨0, 0, false⟩ none 0 0) 34))
  rw [← hW0'h.out]
  go_wp2_with (first | (go_at_call 44; refine O'h.out.mono ?_; rintro e w1 ⟨rfl, hb1, hR1⟩; have H1 := H0'h.out.next hb1; have H1'h := Lib.hid H1; have hR1'h := Lib.hid hR1; clear H1 hR1) | (refine wpList_store_row rfl _ _ _ rfl (w.heap.size + 1) (anA ⟨0, 0, false⟩ (some ⟨W0.heap.size, 0, none⟩) n n) rfl rfl 34 _ (H1'h.out.rows.1) info_an rfl (anA_one _ _ _ _) ?_))
  have hT1 := hT'h.out.below hb1
  have hZ := setRow_heap _ _ _ (anA ⟨0, 0, false⟩ (some ⟨W0.heap.size, 0, none⟩) n n) _ _ H1'h.out.rows.1
  have hTZ := hT1.setRow (b := w.heap.size + 1) (by have := htl'h.out; omega) (fun e => by have := hsl'h.out _ e; omega) (anA ⟨0, 0, false⟩ (some ⟨W0.heap.size, 0, none⟩) n n)
  have hKZ := (KeptT.of_below (tb := tb) (sp := sp) H1'h.out.old).setRow (b := w.heap.size + 1) (by omega) (anA ⟨0, 0, false⟩ (some ⟨W0.heap.size, 0, none⟩) n n)
  have hRZ : RowP (w1.setRow (w.heap.size + 1) (anA ⟨0, 0, false⟩ (some ⟨W0.heap.size, 0, none⟩) n n)) W0.heap.size (some ⟨W0.heap.size, 0, none⟩) n n ps := hR1'h.out.keep fun g e _ => setRow_other _ _ _ _ (by cases e; have h9 : w.heap.size + 1 < W0.heap.size := h1s'h.out; omega)
  generalize World.setRow _ _ _ = W9 at hZ hTZ hKZ hRZ ⊢
  have z0 := blk_cell (i := 0) hZ rfl
  have z1 := blk_cell (i := 1) hZ rfl
  have z2 := blk_cell (i := 2) hZ rfl
  have z3 := blk_cell (i := 3) hZ rfl
  refine bodyPost_ret (v := .agg (anA ⟨0, 0, false⟩ (some ⟨W0.heap.size, 0, none⟩) n n)) ?_ rfl ⟨sp, n, cap, _, n, n, rfl, hTZ, hKZ, .inl rfl, hRZ.sl, fun e => (by cases e), Nat.le_refl _, fun b e => by cases e; have h9 : w.heap.size + 1 < W0.heap.size := h1s'h.out; show w.heap.size ≤ W0.heap.size; omega⟩
  simp [results, Tryd.results50, go_sem, z0, z1, z2, z3, anA]
end Go.Proofs.YtogeohjeabbmaaaDoor
