/-
  Several texts of mine in one: ModelO ModelStep ModelP ModelQ ModelR.
-/
import Derived.Test.YtogeohjeabbmaaaDoorY7
import Derived.Deep.RegionHeld3
/-
  Package model: a call, done on a table (under way).
-/
set_option linter.unusedSimpArgs false
set_option linter.unusedVariables false
set_option maxRecDepth 100000
namespace Go.Proofs.YtogeohjeabbmaaaDoor
open Go.RowKit

theorem infoWays7 : (Tryd.prog.info? 88).map (·.size) = some 8 := by kernel_rfl
def wayRow (tb : Nat) : Array Value := #[.nilFunc, .func (.func 45) #[.pointer (some ⟨tb, 0, none⟩)] #[], .func (.func 46) #[.pointer (some ⟨tb, 0, none⟩)] #[], .func (.func 47) #[.pointer (some ⟨tb, 0, none⟩)] #[], .func (.func 48) #[.pointer (some ⟨tb, 0, none⟩)] #[], .func (.func 49) #[.pointer (some ⟨tb, 0, none⟩)] #[], .func (.func 50) #[.pointer (some ⟨tb, 0, none⟩)] #[], .func (.func 51) #[.pointer (some ⟨tb, 0, none⟩)] #[]]
def nilRow : Array Value := #[.nilFunc, .nilFunc, .nilFunc, .nilFunc, .nilFunc, .nilFunc, .nilFunc, .nilFunc]
theorem wayRow_one (tb : Nat) : (wayRow tb).all (·.oneCell') = true := by unfold wayRow; kernel_rfl
set_option maxHeartbeats 2000000 in
theorem does_no (B tb : Nat) (sp : Option Addr) (n cap : Nat) (ps : Ps) (c : Cl) (w : World) (h : Tab w B tb sp n cap ps) (ho : ¬ (1 ≤ c.op ∧ c.op ≤ 7)) :
    Calls Tryd.prog 27 #[.pointer (some ⟨tb, 0, none⟩), .agg (clA c)] w fun e w' => e = .returned (.tuple #[.agg (anA ⟨0, 0, false⟩ none 0 0), .bool false]) ∧ Below w.heap.size w w' := by
  obtain ⟨op, key, x, y⟩ := c
  have H0 := ((Hs.nil w).new2 (clA ⟨op, key, x, y⟩) (anA ⟨0, 0, false⟩ none 0 0) 31 34)
  obtain ⟨W0, hW0⟩ : ∃ W0, W0 = ((w.alloc (.cells (clA ⟨op, key, x, y⟩) 31)).alloc (.cells (anA ⟨0, 0, false⟩ none 0 0) 34)) := ⟨_, rfl⟩
  rw [← hW0] at H0
  have H1 := (H0.new nilRow 88).set 0 rfl (wayRow tb)
  have hop : (decide (op < 1) = true) ∨ (decide (op < 1) = false ∧ decide ((8 : Int) ≤ op) = true) := by
    simp only at ho
    by_cases h1 : op < 1
    · exact .inl (by simpa using h1)
    · exact .inr ⟨by simpa using h1, by rw [decide_eq_true_eq]; omega⟩
  clear ho
  have h'h := Lib.hid h
  have H0'h := Lib.hid H0
  have hW0'h := Lib.hid hW0
  have H1'h := Lib.hid H1
  have hop'h := Lib.hid hop
  clear h H0 hW0 H1 hop
  go_enter Tryd.func27, Tryd.ntmps27
  go_upto_region 1 with fail
  change Code.wp _ _ _ _ ((w.alloc (.cells (clA ⟨op, key, x, y⟩) 31)).alloc (.cells (anA ⟨0, 0, false⟩ none 0 0) 34))
  rw [← hW0'h.out]
  go_upto_region 2 with (refine wpList_store_row rfl _ _ _ rfl W0.heap.size (wayRow tb) rfl rfl 88 nilRow (World.alloc_heap_new _ _) infoWays7 rfl (wayRow_one tb) ?_)
  have H2 := H1'h.out
  clear H1'h
  change Code.wp _ _ _ _ ((W0.alloc (.cells nilRow 88)).setRow W0.heap.size (wayRow tb))
  generalize World.setRow _ _ _ = W1 at H2 ⊢
  have x0 : W1.cell? ⟨w.heap.size, 0, none⟩ = some (.int .i64 op) := blk_cell (i := 0) H2.rows.2.2.1 rfl
  have H2'h := Lib.hid H2
  clear H2
  rcases hop'h.out with h1 | ⟨h1, h2⟩
  all_goals
    go_wp2_with (refine wpList_store_row rfl _ _ _ rfl (w.heap.size + 1) (anA ⟨0, 0, false⟩ none 0 0) rfl rfl 34 _ (H2'h.out.rows.2.1) info_an rfl (anA_one _ _ _ _) ?_)
    have H3 := H2'h.out.set 1 rfl (anA ⟨0, 0, false⟩ none 0 0)
    generalize World.setRow _ _ _ = W2 at H3 ⊢
    have z0 := blk_cell (i := 0) H3.rows.2.1 rfl
    have z1 := blk_cell (i := 1) H3.rows.2.1 rfl
    have z2 := blk_cell (i := 2) H3.rows.2.1 rfl
    have z3 := blk_cell (i := 3) H3.rows.2.1 rfl
    refine bodyPost_ret (v := .tuple #[.agg (anA ⟨0, 0, false⟩ none 0 0), .bool false]) ?_ rfl ⟨rfl, H3.old⟩
    simp [results, Tryd.results27, go_sem, z0, z1, z2, z3, anA]
theorem run_storeCells_row {P : Program} (w : World) (g : Nat) (t : TypeId) (old cells : Array Value) (hg : w.heap[g]? = some (.cells old t (0, 0))) (ho : old.size = cells.size) (h1 : cells.all (·.oneCell') = true) :
    (storeCells ⟨g, 0, none⟩ cells.toList).run P w = .ok () (w.setRow g cells) := by
  have := run_storeCells_from (P := P) g t cells.toList 0 old w hg (by simp; omega) (fun v hv => (Array.all_eq_true_iff_forall_mem.1 h1) v (by simpa using hv))
  simpa using this
def WayEndO (six : Bool) (B tb : Nat) (sp : Option Addr) (ps : Ps) (a : An) (qs : Ps) (w : World) (e : Ending) (w' : World) : Prop :=
  ∃ sp' n' cap' sq nq cq, e = .returned (.agg (anA a sq nq cq)) ∧ Tab w' B tb sp' n' cap' ps ∧ KeptT tb sp w w' ∧ NewOr sp sp' w.heap.size ∧ SlK w' 2 sq nq (prs qs) ∧ (sq = none → cq = 0) ∧ nq ≤ cq ∧ (∀ b, sq.map (·.block) = some b → w.heap.size ≤ b) ∧ (six = false → sq = none ∧ nq = 0 ∧ cq = 0)
theorem WayEnd.o {B tb : Nat} {sp : Option Addr} {ps : Ps} {a : An} {w : World} {e : Ending} {w' : World} (h : WayEnd B tb sp ps a w e w') : WayEndO false B tb sp ps a [] w e w' := by
  obtain ⟨sp', n', cap', h1, h2, h3, h4⟩ := h
  exact ⟨sp', n', cap', none, 0, 0, h1, h2, h3, h4, SlK.nil _ _ _, fun _ => rfl, Nat.le_refl _, (fun b e => by cases e), fun _ => ⟨rfl, rfl, rfl⟩⟩
theorem WayEndP.o {B tb : Nat} {sp : Option Addr} {ps : Ps} {a : An} {qs : Ps} {w : World} {e : Ending} {w' : World} (h : WayEndP B tb sp ps a qs w e w') : WayEndO true B tb sp ps a qs w e w' := by
  obtain ⟨sp', n', cap', sq, nq, cq, h1, h2, h3, h4, h5, h6, h7, h8⟩ := h
  exact ⟨sp', n', cap', sq, nq, cq, h1, h2, h3, h4, h5, h6, h7, h8, fun e => by cases e⟩
/-- What a call that is done leaves. -/
def DoesEnd (six : Bool) (B tb : Nat) (sp : Option Addr) (ps : Ps) (a : An) (qs : Ps) (w : World) (e : Ending) (w' : World) : Prop :=
  ∃ sp' n' cap' sq nq cq, e = .returned (.tuple #[.agg (anA a sq nq cq), .bool true]) ∧ Tab w' B tb sp' n' cap' ps ∧ KeptT tb sp w w' ∧ NewOr sp sp' w.heap.size ∧ SlK w' 2 sq nq (prs qs) ∧ (sq = none → cq = 0) ∧ nq ≤ cq ∧ (∀ b, sq.map (·.block) = some b → w.heap.size ≤ b) ∧ (six = false → sq = none ∧ nq = 0 ∧ cq = 0)
set_option maxHeartbeats 4000000 in
theorem does_1 (B tb : Nat) (sp : Option Addr) (n cap : Nat) (ps ps' qs : Ps) (a : An) (six : Bool) (c : Cl) (w : World) (h : Tab w B tb sp n cap ps)
    (way : ∀ W, Tab W B tb sp n cap ps → Calls Tryd.prog 45 #[.pointer (some ⟨tb, 0, none⟩), .agg (clA c)] W (WayEndO six B tb sp ps' a qs W)) (ho : c.op = 1) :
    Calls Tryd.prog 27 #[.pointer (some ⟨tb, 0, none⟩), .agg (clA c)] w (DoesEnd six B tb sp ps' a qs w) := by
  obtain ⟨op, key, x, y⟩ := c
  obtain rfl : op = 1 := ho
  have H0 := ((Hs.nil w).new2 (clA ⟨1, key, x, y⟩) (anA ⟨0, 0, false⟩ none 0 0) 31 34)
  obtain ⟨W0, hW0⟩ : ∃ W0, W0 = ((w.alloc (.cells (clA ⟨1, key, x, y⟩) 31)).alloc (.cells (anA ⟨0, 0, false⟩ none 0 0) 34)) := ⟨_, rfl⟩
  rw [← hW0] at H0
  have H1 := (H0.new nilRow 88).set 0 rfl (wayRow tb)
  have htl := lt_of_heap h.tbl
  have hsl := h.spot
  have h'h := Lib.hid h
  have H0'h := Lib.hid H0
  have hW0'h := Lib.hid hW0
  have H1'h := Lib.hid H1
  have way'h := Lib.hid way
  have htl'h := Lib.hid htl
  have hsl'h := Lib.hid hsl
  clear h H0 hW0 H1 way htl hsl
  go_enter Tryd.func27, Tryd.ntmps27
  go_upto_region 1 with fail
  change Code.wp _ _ _ _ ((w.alloc (.cells (clA ⟨1, key, x, y⟩) 31)).alloc (.cells (anA ⟨0, 0, false⟩ none 0 0) 34))
  rw [← hW0'h.out]
  go_upto_region 2 with (refine wpList_store_row rfl _ _ _ rfl W0.heap.size (wayRow tb) rfl rfl 88 nilRow (World.alloc_heap_new _ _) infoWays7 rfl (wayRow_one tb) ?_)
  have H2 := H1'h.out
  clear H1'h
  change Code.wp _ _ _ _ ((W0.alloc (.cells nilRow 88)).setRow W0.heap.size (wayRow tb))
  have hW0l : w.heap.size + 1 < W0.heap.size := H0'h.out.lt _ (List.mem_cons_self ..)
  generalize World.setRow _ _ _ = W1 at H2 ⊢
  have x0 : W1.cell? ⟨w.heap.size, 0, none⟩ = some (.int .i64 1) := blk_cell (i := 0) H2.rows.2.2.1 rfl
  have x1 : W1.cell? ⟨w.heap.size, 1, none⟩ = some (.int .u64 (key : Int)) := blk_cell (i := 1) H2.rows.2.2.1 rfl
  have x2 : W1.cell? ⟨w.heap.size, 2, none⟩ = some (.int .u64 (x : Int)) := blk_cell (i := 2) H2.rows.2.2.1 rfl
  have x3 : W1.cell? ⟨w.heap.size, 3, none⟩ = some (.int .u64 (y : Int)) := blk_cell (i := 3) H2.rows.2.2.1 rfl
  have xf : W1.cell? ⟨W0.heap.size, 1, none⟩ = some (.func (.func 45) #[.pointer (some ⟨tb, 0, none⟩)] #[]) := blk_cell (i := 1) H2.rows.1 rfl
  have hT1 := h'h.out.below H2.old
  have way1 := way'h.out W1.drew (hT1.below (Below.drew (Below.refl _ _)))
  have hzl : w.heap.size + 1 < W1.heap.size := H2.lt _ (List.mem_cons_of_mem _ (List.mem_cons_self ..))
  have H2'h := Lib.hid H2
  have hT1'h := Lib.hid hT1
  have way1'h := Lib.hid way1
  have hzl'h := Lib.hid hzl
  have hW0l'h := Lib.hid hW0l
  clear H2 hT1 way1 hzl hW0l
  go_upto_region 4 with fail
  go_region_law (first | ((try go_simp); refine way1'h.out.mono ?_; rintro e w4 ⟨sp', n', cap', sq, nq, cq, rfl, hT4, hK4, hN4, hS4, hc4, hle4, hlo4, hx4⟩; have hz4 : w4.heap[w.heap.size + 1]? = some (.cells (anA ⟨0, 0, false⟩ none 0 0) 34 (0, 0)) := (hK4.block (w.heap.size + 1) hzl'h.out ⟨by have := htl'h.out; omega, fun e => by have := hsl'h.out _ e; omega⟩).trans (show W1.drew.heap[w.heap.size + 1]? = _ from H2'h.out.rows.2.1); have hst := run_storeCells_row (P := Tryd.prog) _ _ _ _ (anA a sq nq cq) hz4 rfl (anA_one _ _ _ _); have hsz4 : (anA a sq nq cq).size = 4 := rfl; have hz4'h := Lib.hid hz4; have hT4'h := Lib.hid hT4; have hK4'h := Lib.hid hK4; have hN4'h := Lib.hid hN4; have hS4'h := Lib.hid hS4; have hc4'h := Lib.hid hc4; have hle4'h := Lib.hid hle4; have hlo4'h := Lib.hid hlo4; have hx4'h := Lib.hid hx4; clear hz4 hT4 hK4 hN4 hS4 hc4 hle4 hlo4 hx4))
  all_goals
    have hdz : W1.drew.heap.size = W1.heap.size := rfl
    have hR := setRow_heap _ _ _ (anA a sq nq cq) _ _ hz4'h.out
    have hT5 := hT4'h.out.setRow (b := w.heap.size + 1) (by have := htl'h.out; omega) (hN4'h.out.ne (fun e => by have := hsl'h.out _ e; omega) hzl'h.out) (anA a sq nq cq)
    have hK5 := ((KeptT.of_below (tb := tb) (sp := sp) H2'h.out.old).trans (Kept.trans (Kept.drew _ _) hK4'h.out)).setRow (b := w.heap.size + 1) (by omega) (anA a sq nq cq)
    have hN5 : NewOr sp sp' w.heap.size := hN4'h.out.low (by have := hzl'h.out; omega)
    have hS5 : SlK (w4.setRow (w.heap.size + 1) (anA a sq nq cq)) 2 sq nq (prs qs) := hS4'h.out.keep fun b o hb he ho => (setRow_other _ _ _ _ (by rintro rfl; have := hlo4'h.out _ he; have := hzl'h.out; omega)).trans ho
    have hlo5 : ∀ b, sq.map (·.block) = some b → w.heap.size ≤ b := fun b e => by have := hlo4'h.out b e; have := hzl'h.out; omega
    clear hst hsz4 hdz
    generalize World.setRow _ _ _ = W5 at hR hT5 hK5 hS5 ⊢
    have hR'h := Lib.hid hR
    have hT5'h := Lib.hid hT5
    have hK5'h := Lib.hid hK5
    have hN5'h := Lib.hid hN5
    have hS5'h := Lib.hid hS5
    have hlo5'h := Lib.hid hlo5
    clear hR hT5 hK5 hN5 hS5 hlo5
    go_wp2
    have z0 := blk_cell (i := 0) hR'h.out rfl
    have z1 := blk_cell (i := 1) hR'h.out rfl
    have z2 := blk_cell (i := 2) hR'h.out rfl
    have z3 := blk_cell (i := 3) hR'h.out rfl
    refine bodyPost_ret (v := .tuple #[.agg (anA a sq nq cq), .bool true]) ?_ rfl ⟨sp', n', cap', sq, nq, cq, rfl, hT5'h.out, hK5'h.out, hN5'h.out, hS5'h.out, hc4'h.out, hle4'h.out, hlo5'h.out, hx4'h.out⟩
    simp [results, Tryd.results27, go_sem, z0, z1, z2, z3, anA]
set_option maxHeartbeats 4000000 in
theorem does_2 (B tb : Nat) (sp : Option Addr) (n cap : Nat) (ps ps' qs : Ps) (a : An) (six : Bool) (c : Cl) (w : World) (h : Tab w B tb sp n cap ps)
    (way : ∀ W, Tab W B tb sp n cap ps → Calls Tryd.prog 46 #[.pointer (some ⟨tb, 0, none⟩), .agg (clA c)] W (WayEndO six B tb sp ps' a qs W)) (ho : c.op = 2) :
    Calls Tryd.prog 27 #[.pointer (some ⟨tb, 0, none⟩), .agg (clA c)] w (DoesEnd six B tb sp ps' a qs w) := by
  obtain ⟨op, key, x, y⟩ := c
  obtain rfl : op = 2 := ho
  have H0 := ((Hs.nil w).new2 (clA ⟨2, key, x, y⟩) (anA ⟨0, 0, false⟩ none 0 0) 31 34)
  obtain ⟨W0, hW0⟩ : ∃ W0, W0 = ((w.alloc (.cells (clA ⟨2, key, x, y⟩) 31)).alloc (.cells (anA ⟨0, 0, false⟩ none 0 0) 34)) := ⟨_, rfl⟩
  rw [← hW0] at H0
  have H1 := (H0.new nilRow 88).set 0 rfl (wayRow tb)
  have htl := lt_of_heap h.tbl
  have hsl := h.spot
  have h'h := Lib.hid h
  have H0'h := Lib.hid H0
  have hW0'h := Lib.hid hW0
  have H1'h := Lib.hid H1
  have way'h := Lib.hid way
  have htl'h := Lib.hid htl
  have hsl'h := Lib.hid hsl
  clear h H0 hW0 H1 way htl hsl
  go_enter Tryd.func27, Tryd.ntmps27
  go_upto_region 1 with fail
  change Code.wp _ _ _ _ ((w.alloc (.cells (clA ⟨2, key, x, y⟩) 31)).alloc (.cells (anA ⟨0, 0, false⟩ none 0 0) 34))
  rw [← hW0'h.out]
  go_upto_region 2 with (refine wpList_store_row rfl _ _ _ rfl W0.heap.size (wayRow tb) rfl rfl 88 nilRow (World.alloc_heap_new _ _) infoWays7 rfl (wayRow_one tb) ?_)
  have H2 := H1'h.out
  clear H1'h
  change Code.wp _ _ _ _ ((W0.alloc (.cells nilRow 88)).setRow W0.heap.size (wayRow tb))
  have hW0l : w.heap.size + 1 < W0.heap.size := H0'h.out.lt _ (List.mem_cons_self ..)
  generalize World.setRow _ _ _ = W1 at H2 ⊢
  have x0 : W1.cell? ⟨w.heap.size, 0, none⟩ = some (.int .i64 2) := blk_cell (i := 0) H2.rows.2.2.1 rfl
  have x1 : W1.cell? ⟨w.heap.size, 1, none⟩ = some (.int .u64 (key : Int)) := blk_cell (i := 1) H2.rows.2.2.1 rfl
  have x2 : W1.cell? ⟨w.heap.size, 2, none⟩ = some (.int .u64 (x : Int)) := blk_cell (i := 2) H2.rows.2.2.1 rfl
  have x3 : W1.cell? ⟨w.heap.size, 3, none⟩ = some (.int .u64 (y : Int)) := blk_cell (i := 3) H2.rows.2.2.1 rfl
  have xf : W1.cell? ⟨W0.heap.size, 2, none⟩ = some (.func (.func 46) #[.pointer (some ⟨tb, 0, none⟩)] #[]) := blk_cell (i := 2) H2.rows.1 rfl
  have hT1 := h'h.out.below H2.old
  have way1 := way'h.out W1.drew (hT1.below (Below.drew (Below.refl _ _)))
  have hzl : w.heap.size + 1 < W1.heap.size := H2.lt _ (List.mem_cons_of_mem _ (List.mem_cons_self ..))
  have H2'h := Lib.hid H2
  have hT1'h := Lib.hid hT1
  have way1'h := Lib.hid way1
  have hzl'h := Lib.hid hzl
  have hW0l'h := Lib.hid hW0l
  clear H2 hT1 way1 hzl hW0l
  go_upto_region 4 with fail
  go_region_law (first | ((try go_simp); refine way1'h.out.mono ?_; rintro e w4 ⟨sp', n', cap', sq, nq, cq, rfl, hT4, hK4, hN4, hS4, hc4, hle4, hlo4, hx4⟩; have hz4 : w4.heap[w.heap.size + 1]? = some (.cells (anA ⟨0, 0, false⟩ none 0 0) 34 (0, 0)) := (hK4.block (w.heap.size + 1) hzl'h.out ⟨by have := htl'h.out; omega, fun e => by have := hsl'h.out _ e; omega⟩).trans (show W1.drew.heap[w.heap.size + 1]? = _ from H2'h.out.rows.2.1); have hst := run_storeCells_row (P := Tryd.prog) _ _ _ _ (anA a sq nq cq) hz4 rfl (anA_one _ _ _ _); have hsz4 : (anA a sq nq cq).size = 4 := rfl; have hz4'h := Lib.hid hz4; have hT4'h := Lib.hid hT4; have hK4'h := Lib.hid hK4; have hN4'h := Lib.hid hN4; have hS4'h := Lib.hid hS4; have hc4'h := Lib.hid hc4; have hle4'h := Lib.hid hle4; have hlo4'h := Lib.hid hlo4; have hx4'h := Lib.hid hx4; clear hz4 hT4 hK4 hN4 hS4 hc4 hle4 hlo4 hx4))
  all_goals
    have hdz : W1.drew.heap.size = W1.heap.size := rfl
    have hR := setRow_heap _ _ _ (anA a sq nq cq) _ _ hz4'h.out
    have hT5 := hT4'h.out.setRow (b := w.heap.size + 1) (by have := htl'h.out; omega) (hN4'h.out.ne (fun e => by have := hsl'h.out _ e; omega) hzl'h.out) (anA a sq nq cq)
    have hK5 := ((KeptT.of_below (tb := tb) (sp := sp) H2'h.out.old).trans (Kept.trans (Kept.drew _ _) hK4'h.out)).setRow (b := w.heap.size + 1) (by omega) (anA a sq nq cq)
    have hN5 : NewOr sp sp' w.heap.size := hN4'h.out.low (by have := hzl'h.out; omega)
    have hS5 : SlK (w4.setRow (w.heap.size + 1) (anA a sq nq cq)) 2 sq nq (prs qs) := hS4'h.out.keep fun b o hb he ho => (setRow_other _ _ _ _ (by rintro rfl; have := hlo4'h.out _ he; have := hzl'h.out; omega)).trans ho
    have hlo5 : ∀ b, sq.map (·.block) = some b → w.heap.size ≤ b := fun b e => by have := hlo4'h.out b e; have := hzl'h.out; omega
    clear hst hsz4 hdz
    generalize World.setRow _ _ _ = W5 at hR hT5 hK5 hS5 ⊢
    have hR'h := Lib.hid hR
    have hT5'h := Lib.hid hT5
    have hK5'h := Lib.hid hK5
    have hN5'h := Lib.hid hN5
    have hS5'h := Lib.hid hS5
    have hlo5'h := Lib.hid hlo5
    clear hR hT5 hK5 hN5 hS5 hlo5
    go_wp2
    have z0 := blk_cell (i := 0) hR'h.out rfl
    have z1 := blk_cell (i := 1) hR'h.out rfl
    have z2 := blk_cell (i := 2) hR'h.out rfl
    have z3 := blk_cell (i := 3) hR'h.out rfl
    refine bodyPost_ret (v := .tuple #[.agg (anA a sq nq cq), .bool true]) ?_ rfl ⟨sp', n', cap', sq, nq, cq, rfl, hT5'h.out, hK5'h.out, hN5'h.out, hS5'h.out, hc4'h.out, hle4'h.out, hlo5'h.out, hx4'h.out⟩
    simp [results, Tryd.results27, go_sem, z0, z1, z2, z3, anA]
set_option maxHeartbeats 4000000 in
theorem does_3 (B tb : Nat) (sp : Option Addr) (n cap : Nat) (ps ps' qs : Ps) (a : An) (six : Bool) (c : Cl) (w : World) (h : Tab w B tb sp n cap ps)
    (way : ∀ W, Tab W B tb sp n cap ps → Calls Tryd.prog 47 #[.pointer (some ⟨tb, 0, none⟩), .agg (clA c)] W (WayEndO six B tb sp ps' a qs W)) (ho : c.op = 3) :
    Calls Tryd.prog 27 #[.pointer (some ⟨tb, 0, none⟩), .agg (clA c)] w (DoesEnd six B tb sp ps' a qs w) := by
  obtain ⟨op, key, x, y⟩ := c
  obtain rfl : op = 3 := ho
  have H0 := ((Hs.nil w).new2 (clA ⟨3, key, x, y⟩) (anA ⟨0, 0, false⟩ none 0 0) 31 34)
  obtain ⟨W0, hW0⟩ : ∃ W0, W0 = ((w.alloc (.cells (clA ⟨3, key, x, y⟩) 31)).alloc (.cells (anA ⟨0, 0, false⟩ none 0 0) 34)) := ⟨_, rfl⟩
  rw [← hW0] at H0
  have H1 := (H0.new nilRow 88).set 0 rfl (wayRow tb)
  have htl := lt_of_heap h.tbl
  have hsl := h.spot
  have h'h := Lib.hid h
  have H0'h := Lib.hid H0
  have hW0'h := Lib.hid hW0
  have H1'h := Lib.hid H1
  have way'h := Lib.hid way
  have htl'h := Lib.hid htl
  have hsl'h := Lib.hid hsl
  clear h H0 hW0 H1 way htl hsl
  go_enter Tryd.func27, Tryd.ntmps27
  go_upto_region 1 with fail
  change Code.wp _ _ _ _ ((w.alloc (.cells (clA ⟨3, key, x, y⟩) 31)).alloc (.cells (anA ⟨0, 0, false⟩ none 0 0) 34))
  rw [← hW0'h.out]
  go_upto_region 2 with (refine wpList_store_row rfl _ _ _ rfl W0.heap.size (wayRow tb) rfl rfl 88 nilRow (World.alloc_heap_new _ _) infoWays7 rfl (wayRow_one tb) ?_)
  have H2 := H1'h.out
  clear H1'h
  change Code.wp _ _ _ _ ((W0.alloc (.cells nilRow 88)).setRow W0.heap.size (wayRow tb))
  have hW0l : w.heap.size + 1 < W0.heap.size := H0'h.out.lt _ (List.mem_cons_self ..)
  generalize World.setRow _ _ _ = W1 at H2 ⊢
  have x0 : W1.cell? ⟨w.heap.size, 0, none⟩ = some (.int .i64 3) := blk_cell (i := 0) H2.rows.2.2.1 rfl
  have x1 : W1.cell? ⟨w.heap.size, 1, none⟩ = some (.int .u64 (key : Int)) := blk_cell (i := 1) H2.rows.2.2.1 rfl
  have x2 : W1.cell? ⟨w.heap.size, 2, none⟩ = some (.int .u64 (x : Int)) := blk_cell (i := 2) H2.rows.2.2.1 rfl
  have x3 : W1.cell? ⟨w.heap.size, 3, none⟩ = some (.int .u64 (y : Int)) := blk_cell (i := 3) H2.rows.2.2.1 rfl
  have xf : W1.cell? ⟨W0.heap.size, 3, none⟩ = some (.func (.func 47) #[.pointer (some ⟨tb, 0, none⟩)] #[]) := blk_cell (i := 3) H2.rows.1 rfl
  have hT1 := h'h.out.below H2.old
  have way1 := way'h.out W1.drew (hT1.below (Below.drew (Below.refl _ _)))
  have hzl : w.heap.size + 1 < W1.heap.size := H2.lt _ (List.mem_cons_of_mem _ (List.mem_cons_self ..))
  have H2'h := Lib.hid H2
  have hT1'h := Lib.hid hT1
  have way1'h := Lib.hid way1
  have hzl'h := Lib.hid hzl
  have hW0l'h := Lib.hid hW0l
  clear H2 hT1 way1 hzl hW0l
  go_upto_region 4 with fail
  go_region_law (first | ((try go_simp); refine way1'h.out.mono ?_; rintro e w4 ⟨sp', n', cap', sq, nq, cq, rfl, hT4, hK4, hN4, hS4, hc4, hle4, hlo4, hx4⟩; have hz4 : w4.heap[w.heap.size + 1]? = some (.cells (anA ⟨0, 0, false⟩ none 0 0) 34 (0, 0)) := (hK4.block (w.heap.size + 1) hzl'h.out ⟨by have := htl'h.out; omega, fun e => by have := hsl'h.out _ e; omega⟩).trans (show W1.drew.heap[w.heap.size + 1]? = _ from H2'h.out.rows.2.1); have hst := run_storeCells_row (P := Tryd.prog) _ _ _ _ (anA a sq nq cq) hz4 rfl (anA_one _ _ _ _); have hsz4 : (anA a sq nq cq).size = 4 := rfl; have hz4'h := Lib.hid hz4; have hT4'h := Lib.hid hT4; have hK4'h := Lib.hid hK4; have hN4'h := Lib.hid hN4; have hS4'h := Lib.hid hS4; have hc4'h := Lib.hid hc4; have hle4'h := Lib.hid hle4; have hlo4'h := Lib.hid hlo4; have hx4'h := Lib.hid hx4; clear hz4 hT4 hK4 hN4 hS4 hc4 hle4 hlo4 hx4))
  all_goals
    have hdz : W1.drew.heap.size = W1.heap.size := rfl
    have hR := setRow_heap _ _ _ (anA a sq nq cq) _ _ hz4'h.out
    have hT5 := hT4'h.out.setRow (b := w.heap.size + 1) (by have := htl'h.out; omega) (hN4'h.out.ne (fun e => by have := hsl'h.out _ e; omega) hzl'h.out) (anA a sq nq cq)
    have hK5 := ((KeptT.of_below (tb := tb) (sp := sp) H2'h.out.old).trans (Kept.trans (Kept.drew _ _) hK4'h.out)).setRow (b := w.heap.size + 1) (by omega) (anA a sq nq cq)
    have hN5 : NewOr sp sp' w.heap.size := hN4'h.out.low (by have := hzl'h.out; omega)
    have hS5 : SlK (w4.setRow (w.heap.size + 1) (anA a sq nq cq)) 2 sq nq (prs qs) := hS4'h.out.keep fun b o hb he ho => (setRow_other _ _ _ _ (by rintro rfl; have := hlo4'h.out _ he; have := hzl'h.out; omega)).trans ho
    have hlo5 : ∀ b, sq.map (·.block) = some b → w.heap.size ≤ b := fun b e => by have := hlo4'h.out b e; have := hzl'h.out; omega
    clear hst hsz4 hdz
    generalize World.setRow _ _ _ = W5 at hR hT5 hK5 hS5 ⊢
    have hR'h := Lib.hid hR
    have hT5'h := Lib.hid hT5
    have hK5'h := Lib.hid hK5
    have hN5'h := Lib.hid hN5
    have hS5'h := Lib.hid hS5
    have hlo5'h := Lib.hid hlo5
    clear hR hT5 hK5 hN5 hS5 hlo5
    go_wp2
    have z0 := blk_cell (i := 0) hR'h.out rfl
    have z1 := blk_cell (i := 1) hR'h.out rfl
    have z2 := blk_cell (i := 2) hR'h.out rfl
    have z3 := blk_cell (i := 3) hR'h.out rfl
    refine bodyPost_ret (v := .tuple #[.agg (anA a sq nq cq), .bool true]) ?_ rfl ⟨sp', n', cap', sq, nq, cq, rfl, hT5'h.out, hK5'h.out, hN5'h.out, hS5'h.out, hc4'h.out, hle4'h.out, hlo5'h.out, hx4'h.out⟩
    simp [results, Tryd.results27, go_sem, z0, z1, z2, z3, anA]
set_option maxHeartbeats 4000000 in
theorem does_4 (B tb : Nat) (sp : Option Addr) (n cap : Nat) (ps ps' qs : Ps) (a : An) (six : Bool) (c : Cl) (w : World) (h : Tab w B tb sp n cap ps)
    (way : ∀ W, Tab W B tb sp n cap ps → Calls Tryd.prog 48 #[.pointer (some ⟨tb, 0, none⟩), .agg (clA c)] W (WayEndO six B tb sp ps' a qs W)) (ho : c.op = 4) :
    Calls Tryd.prog 27 #[.pointer (some ⟨tb, 0, none⟩), .agg (clA c)] w (DoesEnd six B tb sp ps' a qs w) := by
  obtain ⟨op, key, x, y⟩ := c
  obtain rfl : op = 4 := ho
  have H0 := ((Hs.nil w).new2 (clA ⟨4, key, x, y⟩) (anA ⟨0, 0, false⟩ none 0 0) 31 34)
  obtain ⟨W0, hW0⟩ : ∃ W0, W0 = ((w.alloc (.cells (clA ⟨4, key, x, y⟩) 31)).alloc (.cells (anA ⟨0, 0, false⟩ none 0 0) 34)) := ⟨_, rfl⟩
  rw [← hW0] at H0
  have H1 := (H0.new nilRow 88).set 0 rfl (wayRow tb)
  have htl := lt_of_heap h.tbl
  have hsl := h.spot
  have h'h := Lib.hid h
  have H0'h := Lib.hid H0
  have hW0'h := Lib.hid hW0
  have H1'h := Lib.hid H1
  have way'h := Lib.hid way
  have htl'h := Lib.hid htl
  have hsl'h := Lib.hid hsl
  clear h H0 hW0 H1 way htl hsl
  go_enter Tryd.func27, Tryd.ntmps27
  go_upto_region 1 with fail
  change Code.wp _ _ _ _ ((w.alloc (.cells (clA ⟨4, key, x, y⟩) 31)).alloc (.cells (anA ⟨0, 0, false⟩ none 0 0) 34))
  rw [← hW0'h.out]
  go_upto_region 2 with (refine wpList_store_row rfl _ _ _ rfl W0.heap.size (wayRow tb) rfl rfl 88 nilRow (World.alloc_heap_new _ _) infoWays7 rfl (wayRow_one tb) ?_)
  have H2 := H1'h.out
  clear H1'h
  change Code.wp _ _ _ _ ((W0.alloc (.cells nilRow 88)).setRow W0.heap.size (wayRow tb))
  have hW0l : w.heap.size + 1 < W0.heap.size := H0'h.out.lt _ (List.mem_cons_self ..)
  generalize World.setRow _ _ _ = W1 at H2 ⊢
  have x0 : W1.cell? ⟨w.heap.size, 0, none⟩ = some (.int .i64 4) := blk_cell (i := 0) H2.rows.2.2.1 rfl
  have x1 : W1.cell? ⟨w.heap.size, 1, none⟩ = some (.int .u64 (key : Int)) := blk_cell (i := 1) H2.rows.2.2.1 rfl
  have x2 : W1.cell? ⟨w.heap.size, 2, none⟩ = some (.int .u64 (x : Int)) := blk_cell (i := 2) H2.rows.2.2.1 rfl
  have x3 : W1.cell? ⟨w.heap.size, 3, none⟩ = some (.int .u64 (y : Int)) := blk_cell (i := 3) H2.rows.2.2.1 rfl
  have xf : W1.cell? ⟨W0.heap.size, 4, none⟩ = some (.func (.func 48) #[.pointer (some ⟨tb, 0, none⟩)] #[]) := blk_cell (i := 4) H2.rows.1 rfl
  have hT1 := h'h.out.below H2.old
  have way1 := way'h.out W1.drew (hT1.below (Below.drew (Below.refl _ _)))
  have hzl : w.heap.size + 1 < W1.heap.size := H2.lt _ (List.mem_cons_of_mem _ (List.mem_cons_self ..))
  have H2'h := Lib.hid H2
  have hT1'h := Lib.hid hT1
  have way1'h := Lib.hid way1
  have hzl'h := Lib.hid hzl
  have hW0l'h := Lib.hid hW0l
  clear H2 hT1 way1 hzl hW0l
  go_upto_region 4 with fail
  go_region_law (first | ((try go_simp); refine way1'h.out.mono ?_; rintro e w4 ⟨sp', n', cap', sq, nq, cq, rfl, hT4, hK4, hN4, hS4, hc4, hle4, hlo4, hx4⟩; have hz4 : w4.heap[w.heap.size + 1]? = some (.cells (anA ⟨0, 0, false⟩ none 0 0) 34 (0, 0)) := (hK4.block (w.heap.size + 1) hzl'h.out ⟨by have := htl'h.out; omega, fun e => by have := hsl'h.out _ e; omega⟩).trans (show W1.drew.heap[w.heap.size + 1]? = _ from H2'h.out.rows.2.1); have hst := run_storeCells_row (P := Tryd.prog) _ _ _ _ (anA a sq nq cq) hz4 rfl (anA_one _ _ _ _); have hsz4 : (anA a sq nq cq).size = 4 := rfl; have hz4'h := Lib.hid hz4; have hT4'h := Lib.hid hT4; have hK4'h := Lib.hid hK4; have hN4'h := Lib.hid hN4; have hS4'h := Lib.hid hS4; have hc4'h := Lib.hid hc4; have hle4'h := Lib.hid hle4; have hlo4'h := Lib.hid hlo4; have hx4'h := Lib.hid hx4; clear hz4 hT4 hK4 hN4 hS4 hc4 hle4 hlo4 hx4))
  all_goals
    have hdz : W1.drew.heap.size = W1.heap.size := rfl
    have hR := setRow_heap _ _ _ (anA a sq nq cq) _ _ hz4'h.out
    have hT5 := hT4'h.out.setRow (b := w.heap.size + 1) (by have := htl'h.out; omega) (hN4'h.out.ne (fun e => by have := hsl'h.out _ e; omega) hzl'h.out) (anA a sq nq cq)
    have hK5 := ((KeptT.of_below (tb := tb) (sp := sp) H2'h.out.old).trans (Kept.trans (Kept.drew _ _) hK4'h.out)).setRow (b := w.heap.size + 1) (by omega) (anA a sq nq cq)
    have hN5 : NewOr sp sp' w.heap.size := hN4'h.out.low (by have := hzl'h.out; omega)
    have hS5 : SlK (w4.setRow (w.heap.size + 1) (anA a sq nq cq)) 2 sq nq (prs qs) := hS4'h.out.keep fun b o hb he ho => (setRow_other _ _ _ _ (by rintro rfl; have := hlo4'h.out _ he; have := hzl'h.out; omega)).trans ho
    have hlo5 : ∀ b, sq.map (·.block) = some b → w.heap.size ≤ b := fun b e => by have := hlo4'h.out b e; have := hzl'h.out; omega
    clear hst hsz4 hdz
    generalize World.setRow _ _ _ = W5 at hR hT5 hK5 hS5 ⊢
    have hR'h := Lib.hid hR
    have hT5'h := Lib.hid hT5
    have hK5'h := Lib.hid hK5
    have hN5'h := Lib.hid hN5
    have hS5'h := Lib.hid hS5
    have hlo5'h := Lib.hid hlo5
    clear hR hT5 hK5 hN5 hS5 hlo5
    go_wp2
    have z0 := blk_cell (i := 0) hR'h.out rfl
    have z1 := blk_cell (i := 1) hR'h.out rfl
    have z2 := blk_cell (i := 2) hR'h.out rfl
    have z3 := blk_cell (i := 3) hR'h.out rfl
    refine bodyPost_ret (v := .tuple #[.agg (anA a sq nq cq), .bool true]) ?_ rfl ⟨sp', n', cap', sq, nq, cq, rfl, hT5'h.out, hK5'h.out, hN5'h.out, hS5'h.out, hc4'h.out, hle4'h.out, hlo5'h.out, hx4'h.out⟩
    simp [results, Tryd.results27, go_sem, z0, z1, z2, z3, anA]
set_option maxHeartbeats 4000000 in
theorem does_5 (B tb : Nat) (sp : Option Addr) (n cap : Nat) (ps ps' qs : Ps) (a : An) (six : Bool) (c : Cl) (w : World) (h : Tab w B tb sp n cap ps)
    (way : ∀ W, Tab W B tb sp n cap ps → Calls Tryd.prog 49 #[.pointer (some ⟨tb, 0, none⟩), .agg (clA c)] W (WayEndO six B tb sp ps' a qs W)) (ho : c.op = 5) :
    Calls Tryd.prog 27 #[.pointer (some ⟨tb, 0, none⟩), .agg (clA c)] w (DoesEnd six B tb sp ps' a qs w) := by
  obtain ⟨op, key, x, y⟩ := c
  obtain rfl : op = 5 := ho
  have H0 := ((Hs.nil w).new2 (clA ⟨5, key, x, y⟩) (anA ⟨0, 0, false⟩ none 0 0) 31 34)
  obtain ⟨W0, hW0⟩ : ∃ W0, W0 = ((w.alloc (.cells (clA ⟨5, key, x, y⟩) 31)).alloc (.cells (anA ⟨0, 0, false⟩ none 0 0) 34)) := ⟨_, rfl⟩
  rw [← hW0] at H0
  have H1 := (H0.new nilRow 88).set 0 rfl (wayRow tb)
  have htl := lt_of_heap h.tbl
  have hsl := h.spot
  have h'h := Lib.hid h
  have H0'h := Lib.hid H0
  have hW0'h := Lib.hid hW0
  have H1'h := Lib.hid H1
  have way'h := Lib.hid way
  have htl'h := Lib.hid htl
  have hsl'h := Lib.hid hsl
  clear h H0 hW0 H1 way htl hsl
  go_enter Tryd.func27, Tryd.ntmps27
  go_upto_region 1 with fail
  change Code.wp _ _ _ _ ((w.alloc (.cells (clA ⟨5, key, x, y⟩) 31)).alloc (.cells (anA ⟨0, 0, false⟩ none 0 0) 34))
  rw [← hW0'h.out]
  go_upto_region 2 with (refine wpList_store_row rfl _ _ _ rfl W0.heap.size (wayRow tb) rfl rfl 88 nilRow (World.alloc_heap_new _ _) infoWays7 rfl (wayRow_one tb) ?_)
  have H2 := H1'h.out
  clear H1'h
  change Code.wp _ _ _ _ ((W0.alloc (.cells nilRow 88)).setRow W0.heap.size (wayRow tb))
  have hW0l : w.heap.size + 1 < W0.heap.size := H0'h.out.lt _ (List.mem_cons_self ..)
  generalize World.setRow _ _ _ = W1 at H2 ⊢
  have x0 : W1.cell? ⟨w.heap.size, 0, none⟩ = some (.int .i64 5) := blk_cell (i := 0) H2.rows.2.2.1 rfl
  have x1 : W1.cell? ⟨w.heap.size, 1, none⟩ = some (.int .u64 (key : Int)) := blk_cell (i := 1) H2.rows.2.2.1 rfl
  have x2 : W1.cell? ⟨w.heap.size, 2, none⟩ = some (.int .u64 (x : Int)) := blk_cell (i := 2) H2.rows.2.2.1 rfl
  have x3 : W1.cell? ⟨w.heap.size, 3, none⟩ = some (.int .u64 (y : Int)) := blk_cell (i := 3) H2.rows.2.2.1 rfl
  have xf : W1.cell? ⟨W0.heap.size, 5, none⟩ = some (.func (.func 49) #[.pointer (some ⟨tb, 0, none⟩)] #[]) := blk_cell (i := 5) H2.rows.1 rfl
  have hT1 := h'h.out.below H2.old
  have way1 := way'h.out W1.drew (hT1.below (Below.drew (Below.refl _ _)))
  have hzl : w.heap.size + 1 < W1.heap.size := H2.lt _ (List.mem_cons_of_mem _ (List.mem_cons_self ..))
  have H2'h := Lib.hid H2
  have hT1'h := Lib.hid hT1
  have way1'h := Lib.hid way1
  have hzl'h := Lib.hid hzl
  have hW0l'h := Lib.hid hW0l
  clear H2 hT1 way1 hzl hW0l
  go_upto_region 4 with fail
  go_region_law (first | ((try go_simp); refine way1'h.out.mono ?_; rintro e w4 ⟨sp', n', cap', sq, nq, cq, rfl, hT4, hK4, hN4, hS4, hc4, hle4, hlo4, hx4⟩; have hz4 : w4.heap[w.heap.size + 1]? = some (.cells (anA ⟨0, 0, false⟩ none 0 0) 34 (0, 0)) := (hK4.block (w.heap.size + 1) hzl'h.out ⟨by have := htl'h.out; omega, fun e => by have := hsl'h.out _ e; omega⟩).trans (show W1.drew.heap[w.heap.size + 1]? = _ from H2'h.out.rows.2.1); have hst := run_storeCells_row (P := Tryd.prog) _ _ _ _ (anA a sq nq cq) hz4 rfl (anA_one _ _ _ _); have hsz4 : (anA a sq nq cq).size = 4 := rfl; have hz4'h := Lib.hid hz4; have hT4'h := Lib.hid hT4; have hK4'h := Lib.hid hK4; have hN4'h := Lib.hid hN4; have hS4'h := Lib.hid hS4; have hc4'h := Lib.hid hc4; have hle4'h := Lib.hid hle4; have hlo4'h := Lib.hid hlo4; have hx4'h := Lib.hid hx4; clear hz4 hT4 hK4 hN4 hS4 hc4 hle4 hlo4 hx4))
  all_goals
    have hdz : W1.drew.heap.size = W1.heap.size := rfl
    have hR := setRow_heap _ _ _ (anA a sq nq cq) _ _ hz4'h.out
    have hT5 := hT4'h.out.setRow (b := w.heap.size + 1) (by have := htl'h.out; omega) (hN4'h.out.ne (fun e => by have := hsl'h.out _ e; omega) hzl'h.out) (anA a sq nq cq)
    have hK5 := ((KeptT.of_below (tb := tb) (sp := sp) H2'h.out.old).trans (Kept.trans (Kept.drew _ _) hK4'h.out)).setRow (b := w.heap.size + 1) (by omega) (anA a sq nq cq)
    have hN5 : NewOr sp sp' w.heap.size := hN4'h.out.low (by have := hzl'h.out; omega)
    have hS5 : SlK (w4.setRow (w.heap.size + 1) (anA a sq nq cq)) 2 sq nq (prs qs) := hS4'h.out.keep fun b o hb he ho => (setRow_other _ _ _ _ (by rintro rfl; have := hlo4'h.out _ he; have := hzl'h.out; omega)).trans ho
    have hlo5 : ∀ b, sq.map (·.block) = some b → w.heap.size ≤ b := fun b e => by have := hlo4'h.out b e; have := hzl'h.out; omega
    clear hst hsz4 hdz
    generalize World.setRow _ _ _ = W5 at hR hT5 hK5 hS5 ⊢
    have hR'h := Lib.hid hR
    have hT5'h := Lib.hid hT5
    have hK5'h := Lib.hid hK5
    have hN5'h := Lib.hid hN5
    have hS5'h := Lib.hid hS5
    have hlo5'h := Lib.hid hlo5
    clear hR hT5 hK5 hN5 hS5 hlo5
    go_wp2
    have z0 := blk_cell (i := 0) hR'h.out rfl
    have z1 := blk_cell (i := 1) hR'h.out rfl
    have z2 := blk_cell (i := 2) hR'h.out rfl
    have z3 := blk_cell (i := 3) hR'h.out rfl
    refine bodyPost_ret (v := .tuple #[.agg (anA a sq nq cq), .bool true]) ?_ rfl ⟨sp', n', cap', sq, nq, cq, rfl, hT5'h.out, hK5'h.out, hN5'h.out, hS5'h.out, hc4'h.out, hle4'h.out, hlo5'h.out, hx4'h.out⟩
    simp [results, Tryd.results27, go_sem, z0, z1, z2, z3, anA]
set_option maxHeartbeats 4000000 in
theorem does_6 (B tb : Nat) (sp : Option Addr) (n cap : Nat) (ps ps' qs : Ps) (a : An) (six : Bool) (c : Cl) (w : World) (h : Tab w B tb sp n cap ps)
    (way : ∀ W, Tab W B tb sp n cap ps → Calls Tryd.prog 50 #[.pointer (some ⟨tb, 0, none⟩), .agg (clA c)] W (WayEndO six B tb sp ps' a qs W)) (ho : c.op = 6) :
    Calls Tryd.prog 27 #[.pointer (some ⟨tb, 0, none⟩), .agg (clA c)] w (DoesEnd six B tb sp ps' a qs w) := by
  obtain ⟨op, key, x, y⟩ := c
  obtain rfl : op = 6 := ho
  have H0 := ((Hs.nil w).new2 (clA ⟨6, key, x, y⟩) (anA ⟨0, 0, false⟩ none 0 0) 31 34)
  obtain ⟨W0, hW0⟩ : ∃ W0, W0 = ((w.alloc (.cells (clA ⟨6, key, x, y⟩) 31)).alloc (.cells (anA ⟨0, 0, false⟩ none 0 0) 34)) := ⟨_, rfl⟩
  rw [← hW0] at H0
  have H1 := (H0.new nilRow 88).set 0 rfl (wayRow tb)
  have htl := lt_of_heap h.tbl
  have hsl := h.spot
  have h'h := Lib.hid h
  have H0'h := Lib.hid H0
  have hW0'h := Lib.hid hW0
  have H1'h := Lib.hid H1
  have way'h := Lib.hid way
  have htl'h := Lib.hid htl
  have hsl'h := Lib.hid hsl
  clear h H0 hW0 H1 way htl hsl
  go_enter Tryd.func27, Tryd.ntmps27
  go_upto_region 1 with fail
  change Code.wp _ _ _ _ ((w.alloc (.cells (clA ⟨6, key, x, y⟩) 31)).alloc (.cells (anA ⟨0, 0, false⟩ none 0 0) 34))
  rw [← hW0'h.out]
  go_upto_region 2 with (refine wpList_store_row rfl _ _ _ rfl W0.heap.size (wayRow tb) rfl rfl 88 nilRow (World.alloc_heap_new _ _) infoWays7 rfl (wayRow_one tb) ?_)
  have H2 := H1'h.out
  clear H1'h
  change Code.wp _ _ _ _ ((W0.alloc (.cells nilRow 88)).setRow W0.heap.size (wayRow tb))
  have hW0l : w.heap.size + 1 < W0.heap.size := H0'h.out.lt _ (List.mem_cons_self ..)
  generalize World.setRow _ _ _ = W1 at H2 ⊢
  have x0 : W1.cell? ⟨w.heap.size, 0, none⟩ = some (.int .i64 6) := blk_cell (i := 0) H2.rows.2.2.1 rfl
  have x1 : W1.cell? ⟨w.heap.size, 1, none⟩ = some (.int .u64 (key : Int)) := blk_cell (i := 1) H2.rows.2.2.1 rfl
  have x2 : W1.cell? ⟨w.heap.size, 2, none⟩ = some (.int .u64 (x : Int)) := blk_cell (i := 2) H2.rows.2.2.1 rfl
  have x3 : W1.cell? ⟨w.heap.size, 3, none⟩ = some (.int .u64 (y : Int)) := blk_cell (i := 3) H2.rows.2.2.1 rfl
  have xf : W1.cell? ⟨W0.heap.size, 6, none⟩ = some (.func (.func 50) #[.pointer (some ⟨tb, 0, none⟩)] #[]) := blk_cell (i := 6) H2.rows.1 rfl
  have hT1 := h'h.out.below H2.old
  have way1 := way'h.out W1.drew (hT1.below (Below.drew (Below.refl _ _)))
  have hzl : w.heap.size + 1 < W1.heap.size := H2.lt _ (List.mem_cons_of_mem _ (List.mem_cons_self ..))
  have H2'h := Lib.hid H2
  have hT1'h := Lib.hid hT1
  have way1'h := Lib.hid way1
  have hzl'h := Lib.hid hzl
  have hW0l'h := Lib.hid hW0l
  clear H2 hT1 way1 hzl hW0l
  go_upto_region 4 with fail
  go_region_law (first | ((try go_simp); refine way1'h.out.mono ?_; rintro e w4 ⟨sp', n', cap', sq, nq, cq, rfl, hT4, hK4, hN4, hS4, hc4, hle4, hlo4, hx4⟩; have hz4 : w4.heap[w.heap.size + 1]? = some (.cells (anA ⟨0, 0, false⟩ none 0 0) 34 (0, 0)) := (hK4.block (w.heap.size + 1) hzl'h.out ⟨by have := htl'h.out; omega, fun e => by have := hsl'h.out _ e; omega⟩).trans (show W1.drew.heap[w.heap.size + 1]? = _ from H2'h.out.rows.2.1); have hst := run_storeCells_row (P := Tryd.prog) _ _ _ _ (anA a sq nq cq) hz4 rfl (anA_one _ _ _ _); have hsz4 : (anA a sq nq cq).size = 4 := rfl; have hz4'h := Lib.hid hz4; have hT4'h := Lib.hid hT4; have hK4'h := Lib.hid hK4; have hN4'h := Lib.hid hN4; have hS4'h := Lib.hid hS4; have hc4'h := Lib.hid hc4; have hle4'h := Lib.hid hle4; have hlo4'h := Lib.hid hlo4; have hx4'h := Lib.hid hx4; clear hz4 hT4 hK4 hN4 hS4 hc4 hle4 hlo4 hx4))
  all_goals
    have hdz : W1.drew.heap.size = W1.heap.size := rfl
    have hR := setRow_heap _ _ _ (anA a sq nq cq) _ _ hz4'h.out
    have hT5 := hT4'h.out.setRow (b := w.heap.size + 1) (by have := htl'h.out; omega) (hN4'h.out.ne (fun e => by have := hsl'h.out _ e; omega) hzl'h.out) (anA a sq nq cq)
    have hK5 := ((KeptT.of_below (tb := tb) (sp := sp) H2'h.out.old).trans (Kept.trans (Kept.drew _ _) hK4'h.out)).setRow (b := w.heap.size + 1) (by omega) (anA a sq nq cq)
    have hN5 : NewOr sp sp' w.heap.size := hN4'h.out.low (by have := hzl'h.out; omega)
    have hS5 : SlK (w4.setRow (w.heap.size + 1) (anA a sq nq cq)) 2 sq nq (prs qs) := hS4'h.out.keep fun b o hb he ho => (setRow_other _ _ _ _ (by rintro rfl; have := hlo4'h.out _ he; have := hzl'h.out; omega)).trans ho
    have hlo5 : ∀ b, sq.map (·.block) = some b → w.heap.size ≤ b := fun b e => by have := hlo4'h.out b e; have := hzl'h.out; omega
    clear hst hsz4 hdz
    generalize World.setRow _ _ _ = W5 at hR hT5 hK5 hS5 ⊢
    have hR'h := Lib.hid hR
    have hT5'h := Lib.hid hT5
    have hK5'h := Lib.hid hK5
    have hN5'h := Lib.hid hN5
    have hS5'h := Lib.hid hS5
    have hlo5'h := Lib.hid hlo5
    clear hR hT5 hK5 hN5 hS5 hlo5
    go_wp2
    have z0 := blk_cell (i := 0) hR'h.out rfl
    have z1 := blk_cell (i := 1) hR'h.out rfl
    have z2 := blk_cell (i := 2) hR'h.out rfl
    have z3 := blk_cell (i := 3) hR'h.out rfl
    refine bodyPost_ret (v := .tuple #[.agg (anA a sq nq cq), .bool true]) ?_ rfl ⟨sp', n', cap', sq, nq, cq, rfl, hT5'h.out, hK5'h.out, hN5'h.out, hS5'h.out, hc4'h.out, hle4'h.out, hlo5'h.out, hx4'h.out⟩
    simp [results, Tryd.results27, go_sem, z0, z1, z2, z3, anA]
set_option maxHeartbeats 4000000 in
theorem does_7 (B tb : Nat) (sp : Option Addr) (n cap : Nat) (ps ps' qs : Ps) (a : An) (six : Bool) (c : Cl) (w : World) (h : Tab w B tb sp n cap ps)
    (way : ∀ W, Tab W B tb sp n cap ps → Calls Tryd.prog 51 #[.pointer (some ⟨tb, 0, none⟩), .agg (clA c)] W (WayEndO six B tb sp ps' a qs W)) (ho : c.op = 7) :
    Calls Tryd.prog 27 #[.pointer (some ⟨tb, 0, none⟩), .agg (clA c)] w (DoesEnd six B tb sp ps' a qs w) := by
  obtain ⟨op, key, x, y⟩ := c
  obtain rfl : op = 7 := ho
  have H0 := ((Hs.nil w).new2 (clA ⟨7, key, x, y⟩) (anA ⟨0, 0, false⟩ none 0 0) 31 34)
  obtain ⟨W0, hW0⟩ : ∃ W0, W0 = ((w.alloc (.cells (clA ⟨7, key, x, y⟩) 31)).alloc (.cells (anA ⟨0, 0, false⟩ none 0 0) 34)) := ⟨_, rfl⟩
  rw [← hW0] at H0
  have H1 := (H0.new nilRow 88).set 0 rfl (wayRow tb)
  have htl := lt_of_heap h.tbl
  have hsl := h.spot
  have h'h := Lib.hid h
  have H0'h := Lib.hid H0
  have hW0'h := Lib.hid hW0
  have H1'h := Lib.hid H1
  have way'h := Lib.hid way
  have htl'h := Lib.hid htl
  have hsl'h := Lib.hid hsl
  clear h H0 hW0 H1 way htl hsl
  go_enter Tryd.func27, Tryd.ntmps27
  go_upto_region 1 with fail
  change Code.wp _ _ _ _ ((w.alloc (.cells (clA ⟨7, key, x, y⟩) 31)).alloc (.cells (anA ⟨0, 0, false⟩ none 0 0) 34))
  rw [← hW0'h.out]
  go_upto_region 2 with (refine wpList_store_row rfl _ _ _ rfl W0.heap.size (wayRow tb) rfl rfl 88 nilRow (World.alloc_heap_new _ _) infoWays7 rfl (wayRow_one tb) ?_)
  have H2 := H1'h.out
  clear H1'h
  change Code.wp _ _ _ _ ((W0.alloc (.cells nilRow 88)).setRow W0.heap.size (wayRow tb))
  have hW0l : w.heap.size + 1 < W0.heap.size := H0'h.out.lt _ (List.mem_cons_self ..)
  generalize World.setRow _ _ _ = W1 at H2 ⊢
  have x0 : W1.cell? ⟨w.heap.size, 0, none⟩ = some (.int .i64 7) := blk_cell (i := 0) H2.rows.2.2.1 rfl
  have x1 : W1.cell? ⟨w.heap.size, 1, none⟩ = some (.int .u64 (key : Int)) := blk_cell (i := 1) H2.rows.2.2.1 rfl
  have x2 : W1.cell? ⟨w.heap.size, 2, none⟩ = some (.int .u64 (x : Int)) := blk_cell (i := 2) H2.rows.2.2.1 rfl
  have x3 : W1.cell? ⟨w.heap.size, 3, none⟩ = some (.int .u64 (y : Int)) := blk_cell (i := 3) H2.rows.2.2.1 rfl
  have xf : W1.cell? ⟨W0.heap.size, 7, none⟩ = some (.func (.func 51) #[.pointer (some ⟨tb, 0, none⟩)] #[]) := blk_cell (i := 7) H2.rows.1 rfl
  have hT1 := h'h.out.below H2.old
  have way1 := way'h.out W1.drew (hT1.below (Below.drew (Below.refl _ _)))
  have hzl : w.heap.size + 1 < W1.heap.size := H2.lt _ (List.mem_cons_of_mem _ (List.mem_cons_self ..))
  have H2'h := Lib.hid H2
  have hT1'h := Lib.hid hT1
  have way1'h := Lib.hid way1
  have hzl'h := Lib.hid hzl
  have hW0l'h := Lib.hid hW0l
  clear H2 hT1 way1 hzl hW0l
  go_upto_region 4 with fail
  go_region_law (first | ((try go_simp); refine way1'h.out.mono ?_; rintro e w4 ⟨sp', n', cap', sq, nq, cq, rfl, hT4, hK4, hN4, hS4, hc4, hle4, hlo4, hx4⟩; have hz4 : w4.heap[w.heap.size + 1]? = some (.cells (anA ⟨0, 0, false⟩ none 0 0) 34 (0, 0)) := (hK4.block (w.heap.size + 1) hzl'h.out ⟨by have := htl'h.out; omega, fun e => by have := hsl'h.out _ e; omega⟩).trans (show W1.drew.heap[w.heap.size + 1]? = _ from H2'h.out.rows.2.1); have hst := run_storeCells_row (P := Tryd.prog) _ _ _ _ (anA a sq nq cq) hz4 rfl (anA_one _ _ _ _); have hsz4 : (anA a sq nq cq).size = 4 := rfl; have hz4'h := Lib.hid hz4; have hT4'h := Lib.hid hT4; have hK4'h := Lib.hid hK4; have hN4'h := Lib.hid hN4; have hS4'h := Lib.hid hS4; have hc4'h := Lib.hid hc4; have hle4'h := Lib.hid hle4; have hlo4'h := Lib.hid hlo4; have hx4'h := Lib.hid hx4; clear hz4 hT4 hK4 hN4 hS4 hc4 hle4 hlo4 hx4))
  all_goals
    have hdz : W1.drew.heap.size = W1.heap.size := rfl
    have hR := setRow_heap _ _ _ (anA a sq nq cq) _ _ hz4'h.out
    have hT5 := hT4'h.out.setRow (b := w.heap.size + 1) (by have := htl'h.out; omega) (hN4'h.out.ne (fun e => by have := hsl'h.out _ e; omega) hzl'h.out) (anA a sq nq cq)
    have hK5 := ((KeptT.of_below (tb := tb) (sp := sp) H2'h.out.old).trans (Kept.trans (Kept.drew _ _) hK4'h.out)).setRow (b := w.heap.size + 1) (by omega) (anA a sq nq cq)
    have hN5 : NewOr sp sp' w.heap.size := hN4'h.out.low (by have := hzl'h.out; omega)
    have hS5 : SlK (w4.setRow (w.heap.size + 1) (anA a sq nq cq)) 2 sq nq (prs qs) := hS4'h.out.keep fun b o hb he ho => (setRow_other _ _ _ _ (by rintro rfl; have := hlo4'h.out _ he; have := hzl'h.out; omega)).trans ho
    have hlo5 : ∀ b, sq.map (·.block) = some b → w.heap.size ≤ b := fun b e => by have := hlo4'h.out b e; have := hzl'h.out; omega
    clear hst hsz4 hdz
    generalize World.setRow _ _ _ = W5 at hR hT5 hK5 hS5 ⊢
    have hR'h := Lib.hid hR
    have hT5'h := Lib.hid hT5
    have hK5'h := Lib.hid hK5
    have hN5'h := Lib.hid hN5
    have hS5'h := Lib.hid hS5
    have hlo5'h := Lib.hid hlo5
    clear hR hT5 hK5 hN5 hS5 hlo5
    go_wp2
    have z0 := blk_cell (i := 0) hR'h.out rfl
    have z1 := blk_cell (i := 1) hR'h.out rfl
    have z2 := blk_cell (i := 2) hR'h.out rfl
    have z3 := blk_cell (i := 3) hR'h.out rfl
    refine bodyPost_ret (v := .tuple #[.agg (anA a sq nq cq), .bool true]) ?_ rfl ⟨sp', n', cap', sq, nq, cq, rfl, hT5'h.out, hK5'h.out, hN5'h.out, hS5'h.out, hc4'h.out, hle4'h.out, hlo5'h.out, hx4'h.out⟩
    simp [results, Tryd.results27, go_sem, z0, z1, z2, z3, anA]
end Go.Proofs.YtogeohjeabbmaaaDoor

/-
  The map of layer 24 in plain Lean: what calls make of rows of pairs.
-/
set_option linter.unusedSimpArgs false
set_option linter.unusedVariables false
namespace Go.Proofs.YtogeohjeabbmaaaDoor
open Go.RowKit

def effV (c : Cl) (old : Option Nat) : Option Nat :=
  if c.op = 2 then some c.a else if c.op = 3 then none else if c.op = 4 then (if old = some c.a then some c.b else old) else if c.op = 5 then (if old.isSome then old else some c.a) else old
def nextP (c : Cl) (ps : Ps) : Ps :=
  if c.op = 2 then insP ps c.key c.a else if c.op = 3 then delP ps c.key else if c.op = 4 then (if getS ps c.key = some c.a then insP ps c.key c.b else ps) else if c.op = 5 then (if hasP ps c.key then ps else insP ps c.key c.a) else ps
def tellA (c : Cl) (ps : Ps) : An :=
  if c.op = 4 then { anK ps c.key with done := decide (getS ps c.key = some c.a) } else if c.op = 5 then (if hasP ps c.key then anK ps c.key else ⟨0, c.a, false⟩) else if c.op = 6 then ⟨0, 0, false⟩ else if c.op = 7 then ⟨0, ps.length, false⟩ else anK ps c.key
def tellQ (c : Cl) (ps : Ps) : Ps := if c.op = 6 then ps else []
def isOp (c : Cl) : Bool := decide (1 ≤ c.op ∧ c.op ≤ 7)
theorem up_next {ps : Ps} (h : upB ps = true) (c : Cl) : upB (nextP c ps) = true := by
  unfold nextP
  split
  · exact up_ins h _ _
  · split
    · exact up_del h _
    · split
      · split
        · exact up_ins h _ _
        · exact h
      · split
        · split
          · exact h
          · exact up_ins h _ _
        · exact h
theorem get_same (ps : Ps) (k q : Nat) : getS ps q = if q = k then getS ps k else getS ps q := by
  split
  · rename_i e; rw [e]
  · rfl
theorem get_next {ps : Ps} (h : upB ps = true) (c : Cl) (q : Nat) : getS (nextP c ps) q = if q = c.key then effV c (getS ps c.key) else getS ps q := by
  unfold nextP effV
  by_cases h2 : c.op = 2
  · rw [if_pos h2, if_pos h2, get_ins h]
  rw [if_neg h2, if_neg h2]
  by_cases h3 : c.op = 3
  · rw [if_pos h3, if_pos h3, get_del h]
  rw [if_neg h3, if_neg h3]
  by_cases h4 : c.op = 4
  · rw [if_pos h4, if_pos h4]
    by_cases hs : getS ps c.key = some c.a
    · rw [if_pos hs, if_pos hs, get_ins h]
    · rw [if_neg hs, if_neg hs]; exact get_same ps c.key q
  rw [if_neg h4, if_neg h4]
  by_cases h5 : c.op = 5
  · rw [if_pos h5, if_pos h5]
    unfold hasP
    by_cases hs : (getS ps c.key).isSome = true
    · rw [if_pos hs, if_pos hs]; exact get_same ps c.key q
    · rw [if_neg hs, if_neg hs, get_ins h]
  rw [if_neg h5, if_neg h5]; exact get_same ps c.key q
theorem get_next_other {ps : Ps} (h : upB ps = true) (c : Cl) {q : Nat} (hq : q ≠ c.key) : getS (nextP c ps) q = getS ps q := by rw [get_next h, if_neg hq]
theorem len_next_le (c : Cl) (ps : Ps) : (nextP c ps).length ≤ ps.length + 1 := by
  have hi : ∀ k v, (insP ps k v).length ≤ ps.length + 1 := fun k v => by rw [len_ins]; split <;> omega
  unfold nextP
  split
  · exact hi _ _
  · split
    · rw [len_del]; omega
    · split
      · split
        · exact hi _ _
        · omega
      · split
        · split
          · omega
          · exact hi _ _
        · omega
/-- What a call of a key is told rests on what the key has alone. -/
theorem tell_of_get {c : Cl} {a b : Ps} (hc : c.op ≤ 5) (h : getS a c.key = getS b c.key) : tellA c a = tellA c b := by
  have hk : anK a c.key = anK b c.key := by unfold anK hasP; rw [h]
  have hh : hasP a c.key = hasP b c.key := by unfold hasP; rw [h]
  unfold tellA
  rw [hk, hh, h, if_neg (show ¬ c.op = 6 by omega), if_neg (show ¬ c.op = 7 by omega), if_neg (show ¬ c.op = 6 by omega), if_neg (show ¬ c.op = 7 by omega)]
theorem tellQ_none {c : Cl} (hc : c.op ≠ 6) (ps : Ps) : tellQ c ps = [] := by unfold tellQ; rw [if_neg hc]
theorem turns_next {ps : Ps} (h : upB ps = true) {c d : Cl} (hk : c.key ≠ d.key) : nextP d (nextP c ps) = nextP c (nextP d ps) := by
  refine up_ext (up_next (up_next h c) d) (up_next (up_next h d) c) fun q => ?_
  rw [get_next (up_next h c), get_next h, get_next (up_next h d), get_next h, get_next h, get_next h]
  by_cases h1 : q = d.key
  · rw [if_pos h1, if_neg (Ne.symm hk), if_neg (fun e => hk (e.symm.trans h1)), if_pos h1]
  · rw [if_neg h1]
    by_cases h2 : q = c.key
    · rw [if_pos h2, if_pos h2, if_neg hk]
    · rw [if_neg h2, if_neg h2, if_neg h1]
theorem turns_tell {ps : Ps} (h : upB ps = true) {c d : Cl} (hk : c.key ≠ d.key) (hd : d.op ≤ 5) : tellA d (nextP c ps) = tellA d ps :=
  tell_of_get hd (get_next_other h c (Ne.symm hk))
/-! ### calls, one behind the other -/
def runP : List Cl → Ps → Option (Ps × List An)
  | [], ps => some (ps, [])
  | c :: l, ps => if isOp c then (runP l (nextP c ps)).map fun r => (r.1, tellA c ps :: r.2) else none
/-- The map behind k calls. -/
def mapP (l : List Cl) (ps : Ps) : Nat → Ps
  | 0 => ps
  | k + 1 => match l[k]? with
    | some c => nextP c (mapP l ps k)
    | none => mapP l ps k
theorem mapP_succ {l : List Cl} {ps : Ps} {k : Nat} {c : Cl} (h : l[k]? = some c) : mapP l ps (k + 1) = nextP c (mapP l ps k) := by rw [mapP, h]
theorem up_mapP {l : List Cl} {ps : Ps} (h : upB ps = true) : ∀ k, upB (mapP l ps k) = true
  | 0 => h
  | k + 1 => by
    rw [mapP]
    split
    · exact up_next (up_mapP h k) _
    · exact up_mapP h k
theorem len_mapP (l : List Cl) (ps : Ps) : ∀ k, (mapP l ps k).length ≤ ps.length + k
  | 0 => Nat.le_refl _
  | k + 1 => by
    have := len_mapP l ps k
    rw [mapP]
    split
    · have := len_next_le (‹Cl›) (mapP l ps k); omega
    · omega
def ansP (l : List Cl) (ps : Ps) (k : Nat) : An := match l[k]? with
  | some c => tellA c (mapP l ps k)
  | none => ⟨0, 0, false⟩
theorem ansP_at {l : List Cl} {ps : Ps} {k : Nat} {c : Cl} (h : l[k]? = some c) : ansP l ps k = tellA c (mapP l ps k) := by unfold ansP; rw [h]
end Go.Proofs.YtogeohjeabbmaaaDoor

/-
  Package model: a call, done on a table, of every Op; done on a map.
-/
set_option linter.unusedSimpArgs false
set_option linter.unusedVariables false
set_option maxRecDepth 100000
namespace Go.Proofs.YtogeohjeabbmaaaDoor
open Go.RowKit

theorem does_any (B tb : Nat) (sp : Option Addr) (n cap : Nat) (ps : Ps) (c : Cl) (w : World) (h : Tab w B tb sp n cap ps) (hup : upB ps = true) (hn : n ≤ 4096) (ho : isOp c = true) :
    Calls Tryd.prog 27 #[.pointer (some ⟨tb, 0, none⟩), .agg (clA c)] w (DoesEnd (decide (c.op = 6)) B tb sp (nextP c ps) (tellA c ps) (tellQ c ps) w) := by
  unfold isOp at ho
  have ho' : 1 ≤ c.op ∧ c.op ≤ 7 := by simpa using ho
  have hs : hasP ps c.key = true ↔ ∃ v, getS ps c.key = some v := by unfold hasP; exact Option.isSome_iff_exists
  have hc : c.op = 1 ∨ c.op = 2 ∨ c.op = 3 ∨ c.op = 4 ∨ c.op = 5 ∨ c.op = 6 ∨ c.op = 7 := by omega
  rcases hc with e | e | e | e | e | e | e
  · have hx : nextP c ps = ps ∧ tellA c ps = anK ps c.key ∧ tellQ c ps = [] ∧ decide (c.op = 6) = false := by unfold nextP tellA tellQ; simp [e]
    rw [hx.1, hx.2.1, hx.2.2.1, hx.2.2.2]
    exact does_1 B tb sp n cap ps _ _ _ _ c w h (fun W hT => (way_load B tb sp n cap ps c W hT hup hn).mono fun _ _ h => h.o) e
  · have hx : nextP c ps = insP ps c.key c.a ∧ tellA c ps = anK ps c.key ∧ tellQ c ps = [] ∧ decide (c.op = 6) = false := by unfold nextP tellA tellQ; simp [e]
    rw [hx.1, hx.2.1, hx.2.2.1, hx.2.2.2]
    exact does_2 B tb sp n cap ps _ _ _ _ c w h (fun W hT => (way_store B tb sp n cap ps c W hT hup hn).mono fun _ _ h => h.o) e
  · have hx : nextP c ps = delP ps c.key ∧ tellA c ps = anK ps c.key ∧ tellQ c ps = [] ∧ decide (c.op = 6) = false := by unfold nextP tellA tellQ; simp [e]
    rw [hx.1, hx.2.1, hx.2.2.1, hx.2.2.2]
    refine does_3 B tb sp n cap ps _ _ _ _ c w h (fun W hT => ?_) e
    cases hh : hasP ps c.key with
    | true => exact (way_drop_yes B tb sp n cap ps c W hT hup hn hh).mono fun _ _ h => h.o
    | false =>
      have hd := delP_pos ps c.key
      rw [hh, if_neg (by decide)] at hd
      rw [hd]
      exact (way_drop_no B tb sp n cap ps c W hT hup hn hh).mono fun _ _ h => h.o
  · have hx : tellQ c ps = [] ∧ decide (c.op = 6) = false ∧ nextP c ps = (if getS ps c.key = some c.a then insP ps c.key c.b else ps) ∧ tellA c ps = { anK ps c.key with done := decide (getS ps c.key = some c.a) } := by unfold nextP tellA tellQ; simp [e]
    rw [hx.1, hx.2.1, hx.2.2.1, hx.2.2.2]
    refine does_4 B tb sp n cap ps _ _ _ _ c w h (fun W hT => ?_) e
    cases hh : hasP ps c.key with
    | true =>
      obtain ⟨v, hv⟩ := hs.1 hh
      by_cases hva : v = c.a
      · rw [if_pos (by rw [hv, hva]), show decide (getS ps c.key = some c.a) = true by rw [hv, hva]; simp]
        exact (way_swap_yes B tb sp n cap ps c W hT hup hn hh (by unfold anK; rw [hv]; exact hva)).mono fun _ _ h => h.o
      · rw [if_neg (by rw [hv]; simpa using hva), show decide (getS ps c.key = some c.a) = false by rw [hv]; simpa using hva]
        exact (way_swap_other B tb sp n cap ps c W hT hup hn hh (by unfold anK; rw [hv]; exact hva)).mono fun _ _ h => h.o
    | false =>
      have hv : getS ps c.key = none := by unfold hasP at hh; simpa using hh
      rw [if_neg (by rw [hv]; simp), show decide (getS ps c.key = some c.a) = false by rw [hv]; simp]
      exact (way_swap_no B tb sp n cap ps c W hT hup hn hh trivial).mono fun _ _ h => h.o
  · have hx : tellQ c ps = [] ∧ decide (c.op = 6) = false ∧ nextP c ps = (if hasP ps c.key then ps else insP ps c.key c.a) ∧ tellA c ps = (if hasP ps c.key then anK ps c.key else ⟨0, c.a, false⟩) := by unfold nextP tellA tellQ; simp [e]
    rw [hx.1, hx.2.1, hx.2.2.1, hx.2.2.2]
    refine does_5 B tb sp n cap ps _ _ _ _ c w h (fun W hT => ?_) e
    cases hh : hasP ps c.key with
    | true =>
      rw [if_pos rfl, if_pos rfl]
      exact (way_first_has B tb sp n cap ps c W hT hup hn hh).mono fun _ _ h => h.o
    | false =>
      rw [if_neg (by decide), if_neg (by decide)]
      exact (way_first_no B tb sp n cap ps c W hT hup hn hh).mono fun _ _ h => h.o
  · have hx : nextP c ps = ps ∧ tellA c ps = ⟨0, 0, false⟩ ∧ tellQ c ps = ps ∧ decide (c.op = 6) = true := by unfold nextP tellA tellQ; simp [e]
    rw [hx.1, hx.2.1, hx.2.2.1, hx.2.2.2]
    exact does_6 B tb sp n cap ps _ _ _ _ c w h (fun W hT => (way_all B tb sp n cap ps c W hT hn).mono fun _ _ h => h.o) e
  · have hx : nextP c ps = ps ∧ tellA c ps = ⟨0, ps.length, false⟩ ∧ tellQ c ps = [] ∧ decide (c.op = 6) = false := by unfold nextP tellA tellQ; simp [e]
    rw [hx.1, hx.2.1, hx.2.2.1, hx.2.2.2]
    exact does_7 B tb sp n cap ps _ _ _ _ c w h (fun W hT => (way_size B tb sp n cap ps c W hT hn).mono fun _ _ h => h.o) e
/-- What a call that is done on a map leaves. -/
def DoEnd (six : Bool) (ps : Ps) (a : An) (qs : Ps) (w : World) (e : Ending) (w' : World) : Prop :=
  ∃ sp' n' cap' sq nq cq, e = .returned (.tuple #[.agg #[.slice sp' n' cap'], .agg (anA a sq nq cq), .int .i64 0]) ∧ Below w.heap.size w w' ∧ RowP w' w.heap.size sp' n' cap' ps ∧ SlK w' 2 sq nq (prs qs) ∧ (sq = none → cq = 0) ∧ nq ≤ cq ∧ (∀ b, sq.map (·.block) = some b → w.heap.size ≤ b) ∧ (six = false → sq = none ∧ nq = 0 ∧ cq = 0)
set_option maxHeartbeats 4000000 in
theorem mDo_yes (sp : Option Addr) (n cap : Nat) (ps : Ps) (c : Cl) (w : World) (h : SlK w 2 sp n (prs ps)) (hup : upB ps = true) (hn : n ≤ 4096) (ho : isOp c = true) :
    Calls Tryd.prog 8 #[.agg #[.slice sp n cap], .agg (clA c)] w (DoEnd (decide (c.op = 6)) (nextP c ps) (tellA c ps) (tellQ c ps) w) := by
  have H0 := (((Hs.nil w).new2 #[.slice sp n cap] (clA c) 28 31).new #[.slice none 0 0] 28).new (anA ⟨0, 0, false⟩ none 0 0) 34
  simp only [World.size_alloc] at H0
  obtain ⟨W0, hW0⟩ : ∃ W0, W0 = ((((w.alloc (.cells #[.slice sp n cap] 28)).alloc (.cells (clA c) 31)).alloc (.cells #[.slice none 0 0] 28)).alloc (.cells (anA ⟨0, 0, false⟩ none 0 0) 34)) := ⟨_, rfl⟩
  rw [← hW0] at H0
  have C := mcheck_yes sp n cap ps W0 (h.below H0.old) hup
  obtain ⟨ps', hpn⟩ : ∃ ps', ps' = nextP c ps := ⟨_, rfl⟩
  obtain ⟨a, ha⟩ : ∃ a, a = tellA c ps := ⟨_, rfl⟩
  obtain ⟨qs, hqs⟩ : ∃ qs, qs = tellQ c ps := ⟨_, rfl⟩
  obtain ⟨six, hsix⟩ : ∃ six, six = decide (c.op = 6) := ⟨_, rfl⟩
  rw [← hpn, ← ha, ← hqs, ← hsix]
  have h'h := Lib.hid h
  have hup'h := Lib.hid hup
  have H0'h := Lib.hid H0
  have hW0'h := Lib.hid hW0
  have C'h := Lib.hid C
  have ho'h := Lib.hid ho
  have hpn'h := Lib.hid hpn
  have ha'h := Lib.hid ha
  have hqs'h := Lib.hid hqs
  have hsix'h := Lib.hid hsix
  clear h hup H0 hW0 C ho hpn ha hqs hsix
  go_enter Tryd.func8, Tryd.ntmps8
  go_upto_region 1 with fail
  change Code.wp _ _ _ _ ((((w.alloc (.cells #[.slice sp n cap] 28)).alloc (.cells (clA c) 31)).alloc (.cells #[.slice none 0 0] 28)).alloc (.cells (anA ⟨0, 0, false⟩ none 0 0) 34))
  rw [← hW0'h.out]
  have x0 : W0.cell? ⟨w.heap.size, 0, none⟩ = some (.slice sp n cap) := blk_cell (i := 0) H0'h.out.rows.2.2.2.1 rfl
  go_upto_region 4 with (go_at_call 25; refine C'h.out.mono ?_; rintro e w2 ⟨rfl, hb2⟩)
  clear x0
  have H2 := H0'h.out.next hb2
  have O := mof_any sp n cap ps w2 (h'h.out.below H2.old) hn
  have x0 : w2.cell? ⟨w.heap.size, 0, none⟩ = some (.slice sp n cap) := blk_cell (i := 0) H2.rows.2.2.2.1 rfl
  have H2'h := Lib.hid H2
  have O'h := Lib.hid O
  have hb2'h := Lib.hid hb2
  clear H2 O hb2
  go_upto_region 5 with (go_at_call 26; refine O'h.out.mono ?_; rintro e w3 ⟨tb, g, rfl, hb3, hT3⟩)
  clear x0
  have H3 := H2'h.out.next hb3
  have D := does_any w2.heap.size tb _ n n ps c w3 hT3 hup'h.out hn ho'h.out
  rw [← hpn'h.out, ← ha'h.out, ← hqs'h.out, ← hsix'h.out] at D
  have H3'h := Lib.hid H3
  have D'h := Lib.hid D
  have hb3'h := Lib.hid hb3
  have hT3'h := Lib.hid hT3
  clear H3 D hb3 hT3
  go_upto_region 6 with (first | (refine wpList_load_row rfl _ _ rfl (w.heap.size + 1) rfl 31 _ (0, 0) _ H3'h.out.rows.2.2.1 Tryd.underlying31 rfl info_cl ?_) | (go_at_call 27; refine D'h.out.mono ?_; rintro e w4 ⟨sp', n', cap', sq, nq, cq, rfl, hT4, hK4, hN4, hS4, hc4, hle4, hlo4, hx4⟩; have hT4'h := Lib.hid hT4; have hK4'h := Lib.hid hK4; have hN4'h := Lib.hid hN4; have hS4'h := Lib.hid hS4; have hc4'h := Lib.hid hc4; have hle4'h := Lib.hid hle4; have hlo4'h := Lib.hid hlo4; have hx4'h := Lib.hid hx4; clear hT4 hK4 hN4 hS4 hc4 hle4 hlo4 hx4) | (refine wpList_store_row rfl _ _ _ rfl w4.heap.size (anA a sq nq cq) rfl rfl 34 _ (World.alloc_heap_new _ _) info_an rfl (anA_one _ _ _ _) ?_))
  change Code.wp _ _ _ _ ((w4.alloc (.cells (anA ⟨0, 0, false⟩ none 0 0) 34)).setRow w4.heap.size (anA a sq nq cq))
  have hl3 := H2'h.out.lt
  have hT3 := hT3'h.out
  have hgl : w2.heap.size ≤ g := hT3.lowrow ⟨g, 0, none⟩ rfl
  have hL4 := H3'h.out.rows.keptT hK4'h.out (fun x hx => ⟨by have := hl3 x hx; have := hT3.low; omega, fun e => by have := hl3 x hx; simp at e; omega⟩)
  have hB4 : Below w.heap.size w w4 := KeptT.below (W0 := w) hK4'h.out H3'h.out.old (by have := hT3.low; have := H2'h.out.old.size; omega) (fun a e => by cases e; have := H2'h.out.old.size; simp only; omega)
  have H4 : Hs w _ w4 := ⟨hL4, hB4, H3'h.out.low, H3'h.out.desc⟩
  have H5 := (H4.new (anA ⟨0, 0, false⟩ none 0 0) 34).set 0 rfl (anA a sq nq cq)
  have hb5 : Below w4.heap.size w4 ((w4.alloc (.cells (anA ⟨0, 0, false⟩ none 0 0) 34)).setRow w4.heap.size (anA a sq nq cq)) := below_setRow' ((Below.refl _ _).alloc (Nat.le_refl _) _) (Nat.le_refl _) _
  have hT5 := hT4'h.out.below hb5
  have hS5 := hS4'h.out.below hb5
  generalize World.setRow _ _ _ = W5 at H5 hT5 hS5 ⊢
  have m0 := hT5.cell
  have hlw4 := H4.lt
  have hl0 := H2'h.out.lt (w.heap.size + 1 + 1 + 1, anA ⟨0, 0, false⟩ none 0 0, 34) (List.mem_cons_self ..)
  have hl1 := H4.lt (w.heap.size + 1 + 1 + 1, anA ⟨0, 0, false⟩ none 0 0, 34) (List.mem_cons_self ..)
  have htl3 := hT3.low
  have q1 : ∀ (W : World) (o o' : Nat) (v : Value), (W.setCell ⟨w.heap.size + 1 + 1, o, none⟩ v).cell? ⟨tb, o', none⟩ = W.cell? ⟨tb, o', none⟩ := fun W o o' v => World.cell?_of_block (Below.heap_setCell _ _ _ _ (by simp only at hl0 ⊢; omega))
  have q2 : ∀ (W : World) (o o' : Nat) (v : Value), (W.setCell ⟨w.heap.size + 1 + 1, o, none⟩ v).cell? ⟨w4.heap.size, o', none⟩ = W.cell? ⟨w4.heap.size, o', none⟩ := fun W o o' v => World.cell?_of_block (Below.heap_setCell _ _ _ _ (by simp only at hl1 ⊢; omega))
  have q3 : ∀ (W : World) (o o' : Nat) (v : Value), (W.setCell ⟨w.heap.size + 1 + 1 + 1, o, none⟩ v).cell? ⟨tb, o', none⟩ = W.cell? ⟨tb, o', none⟩ := fun W o o' v => World.cell?_of_block (Below.heap_setCell _ _ _ _ (by simp only at hl0 ⊢; omega))
  have q4 : ∀ (W : World) (o o' : Nat) (v : Value), (W.setCell ⟨w.heap.size + 1 + 1 + 1, o, none⟩ v).cell? ⟨w4.heap.size, o', none⟩ = W.cell? ⟨w4.heap.size, o', none⟩ := fun W o o' v => World.cell?_of_block (Below.heap_setCell _ _ _ _ (by simp only at hl1 ⊢; omega))
  have y0 : W5.cell? ⟨w4.heap.size, 0, none⟩ = some (.int .i64 a.err) := blk_cell (i := 0) H5.rows.1 rfl
  have y1 : W5.cell? ⟨w4.heap.size, 1, none⟩ = some (.int .u64 (a.val : Int)) := blk_cell (i := 1) H5.rows.1 rfl
  have y2 : W5.cell? ⟨w4.heap.size, 2, none⟩ = some (.bool a.done) := blk_cell (i := 2) H5.rows.1 rfl
  have y3 : W5.cell? ⟨w4.heap.size, 3, none⟩ = some (.slice sq nq cq) := blk_cell (i := 3) H5.rows.1 rfl
  have z0 : W5.cell? ⟨w.heap.size + 1 + 1 + 1, 0, none⟩ = some (.int .i64 0) := blk_cell (i := 0) H5.rows.2.1 rfl
  have z1 : W5.cell? ⟨w.heap.size + 1 + 1 + 1, 1, none⟩ = some (.int .u64 0) := blk_cell (i := 1) H5.rows.2.1 rfl
  have z2 : W5.cell? ⟨w.heap.size + 1 + 1 + 1, 2, none⟩ = some (.bool false) := blk_cell (i := 2) H5.rows.2.1 rfl
  have z3 : W5.cell? ⟨w.heap.size + 1 + 1 + 1, 3, none⟩ = some (.slice none 0 0) := blk_cell (i := 3) H5.rows.2.1 rfl
  have u0 : W5.cell? ⟨w.heap.size + 1 + 1, 0, none⟩ = some (.slice none 0 0) := blk_cell (i := 0) H5.rows.2.2.1 rfl
  have f0 := blk_free 0 H5.rows.2.1
  have f1 := blk_free 1 H5.rows.2.1
  have f2 := blk_free 2 H5.rows.2.1
  have f3 := blk_free 3 H5.rows.2.1
  have g0 := blk_free 0 H5.rows.2.2.1
  have H5'h := Lib.hid H5
  have hT5'h := Lib.hid hT5
  have hS5'h := Lib.hid hS5
  have hT3'h := Lib.hid hT3
  have hL4'h := Lib.hid hL4
  have hB4'h := Lib.hid hB4
  have H4'h := Lib.hid H4
  have hb5'h := Lib.hid hb5
  clear H5 hT5 hS5 hT3 hL4 hB4 H4 hb5
  clear hl3 hgl hlw4 hl0 hl1 htl3
  go_upto_region 8 with fail
  go_region_held3 (fun w' => w'.cell? ⟨tb, 0, none⟩ = some (.slice sp' n' cap') ∧ w'.cell? ⟨w4.heap.size, 0, none⟩ = some (.int .i64 a.err) ∧ w'.cell? ⟨w4.heap.size, 1, none⟩ = some (.int .u64 (a.val : Int)) ∧ w'.cell? ⟨w4.heap.size, 2, none⟩ = some (.bool a.done) ∧ w'.cell? ⟨w4.heap.size, 3, none⟩ = some (.slice sq nq cq)) (go_keep) (fail)
  all_goals
    have H6 := (((((H5'h.out.put 2 rfl 0 (.slice sp' n' cap')).put 1 rfl 0 (.int .i64 a.err)).put 1 rfl 1 (.int .u64 (a.val : Int))).put 1 rfl 2 (.bool a.done)).put 1 rfl 3 (.slice sq nq cq)).drew
    have hK6 : Kept (fun b => b ≠ w.heap.size + 1 + 1 ∧ b ≠ w.heap.size + 1 + 1 + 1) W5 _ := (((((Kept.setCell _ W5 ⟨w.heap.size + 1 + 1, 0, none⟩ (.slice sp' n' cap') (fun h => h.1 rfl)).trans (Kept.setCell _ _ ⟨w.heap.size + 1 + 1 + 1, 0, none⟩ (.int .i64 a.err) (fun h => h.2 rfl))).trans (Kept.setCell _ _ ⟨w.heap.size + 1 + 1 + 1, 1, none⟩ (.int .u64 (a.val : Int)) (fun h => h.2 rfl))).trans (Kept.setCell _ _ ⟨w.heap.size + 1 + 1 + 1, 2, none⟩ (.bool a.done) (fun h => h.2 rfl))).trans (Kept.setCell _ _ ⟨w.heap.size + 1 + 1 + 1, 3, none⟩ (.slice sq nq cq) (fun h => h.2 rfl))).trans (Kept.drew _ _)
    clear m0 q1 q2 q3 q4 y0 y1 y2 y3 z0 z1 z2 z3 u0 f0 f1 f2 f3 g0
    generalize World.drew _ = W7 at H6 hK6 ⊢
    have e0 : W7.cell? ⟨w.heap.size + 1 + 1 + 1, 0, none⟩ = some (.int .i64 a.err) := blk_cell (i := 0) H6.rows.2.1 rfl
    have e1 : W7.cell? ⟨w.heap.size + 1 + 1 + 1, 1, none⟩ = some (.int .u64 (a.val : Int)) := blk_cell (i := 1) H6.rows.2.1 rfl
    have e2 : W7.cell? ⟨w.heap.size + 1 + 1 + 1, 2, none⟩ = some (.bool a.done) := blk_cell (i := 2) H6.rows.2.1 rfl
    have e3 : W7.cell? ⟨w.heap.size + 1 + 1 + 1, 3, none⟩ = some (.slice sq nq cq) := blk_cell (i := 3) H6.rows.2.1 rfl
    have e4 : W7.cell? ⟨w.heap.size + 1 + 1, 0, none⟩ = some (.slice sp' n' cap') := blk_cell (i := 0) H6.rows.2.2.1 rfl
    have hs2 := H2'h.out.lt (w.heap.size + 1 + 1 + 1, anA ⟨0, 0, false⟩ none 0 0, 34) (List.mem_cons_self ..)
    have hs3 := H3'h.out.lt (w.heap.size + 1 + 1 + 1, anA ⟨0, 0, false⟩ none 0 0, 34) (List.mem_cons_self ..)
    have hgl : w2.heap.size ≤ g := hT3'h.out.lowrow ⟨g, 0, none⟩ rfl
    simp only at hs2 hs3
    have hR7 : RowP W7 w.heap.size sp' n' cap' ps' := by
      refine (hT5'h.out.row.keep fun g' e _ => hK6.block g' (hT5'h.out.spot g' (by rw [e]; rfl)) ?_).low H2'h.out.old.size
      rcases hN4'h.out with e1 | e1
      · rw [e1] at e; cases e; constructor <;> omega
      · have := e1 _ e; simp only at this; constructor <;> omega
    have hS7 : SlK W7 2 sq nq (prs qs) := hS5'h.out.keep fun b o hb e ho => (hK6.block b hb (by have := hlo4'h.out b e; constructor <;> omega)).trans ho
    go_wp2
    refine bodyPost_ret (v := .tuple #[.agg #[.slice sp' n' cap'], .agg (anA a sq nq cq), .int .i64 0]) ?_ rfl ⟨sp', n', cap', sq, nq, cq, rfl, H6.old, hR7, hS7, hc4'h.out, hle4'h.out, fun b e => by have := hlo4'h.out b e; omega, hx4'h.out⟩
    simp [results, Tryd.results8, go_sem, e0, e1, e2, e3, e4, anA]
end Go.Proofs.YtogeohjeabbmaaaDoor

/-
  Package model: what is no map, or of no Op, is not done; how many keys come.
-/
set_option linter.unusedSimpArgs false
set_option linter.unusedVariables false
set_option maxRecDepth 100000
namespace Go.Proofs.YtogeohjeabbmaaaDoor
open Go.RowKit

theorem info_map : (Tryd.prog.info? 28).map (·.size) = some 1 := by kernel_rfl
theorem map_one (sp : Option Addr) (n cap : Nat) : (#[.slice sp n cap] : Array Value).all (·.oneCell') = true := by kernel_rfl
set_option maxHeartbeats 1000000 in
theorem mDo_map (sp : Option Addr) (n cap : Nat) (ps : Ps) (c : Cl) (w : World) (h : SlK w 2 sp n (prs ps)) (hup : upB ps = false) :
    Calls Tryd.prog 8 #[.agg #[.slice sp n cap], .agg (clA c)] w fun e w' => e = .returned (.tuple #[.agg #[.slice none 0 0], .agg (anA ⟨0, 0, false⟩ none 0 0), .int .i64 340]) ∧ Below w.heap.size w w' := by
  have H0 := (((Hs.nil w).new2 #[.slice sp n cap] (clA c) 28 31).new #[.slice none 0 0] 28).new (anA ⟨0, 0, false⟩ none 0 0) 34
  simp only [World.size_alloc] at H0
  obtain ⟨W0, hW0⟩ : ∃ W0, W0 = ((((w.alloc (.cells #[.slice sp n cap] 28)).alloc (.cells (clA c) 31)).alloc (.cells #[.slice none 0 0] 28)).alloc (.cells (anA ⟨0, 0, false⟩ none 0 0) 34)) := ⟨_, rfl⟩
  rw [← hW0] at H0
  have C := mcheck_no sp n cap ps W0 (h.below H0.old) hup
  have h'h := Lib.hid h
  have hup'h := Lib.hid hup
  have H0'h := Lib.hid H0
  have hW0'h := Lib.hid hW0
  have C'h := Lib.hid C
  clear h hup H0 hW0 C
  go_enter Tryd.func8, Tryd.ntmps8
  go_upto_region 1 with fail
  change Code.wp _ _ _ _ ((((w.alloc (.cells #[.slice sp n cap] 28)).alloc (.cells (clA c) 31)).alloc (.cells #[.slice none 0 0] 28)).alloc (.cells (anA ⟨0, 0, false⟩ none 0 0) 34))
  rw [← hW0'h.out]
  have x0 : W0.cell? ⟨w.heap.size, 0, none⟩ = some (.slice sp n cap) := blk_cell (i := 0) H0'h.out.rows.2.2.2.1 rfl
  go_upto_region 3 with (go_at_call 25; refine C'h.out.mono ?_; rintro e w2 ⟨rfl, hb2⟩)
  clear x0
  have H2 := H0'h.out.next hb2
  have H3 := H2.set 1 rfl #[.slice none 0 0]
  have H2'h := Lib.hid H2
  have H3'h := Lib.hid H3
  have hb2'h := Lib.hid hb2
  clear H2 H3 hb2
  go_wp2_with (first | (refine wpList_store_row rfl _ _ _ rfl (w.heap.size + 1 + 1) #[.slice none 0 0] rfl rfl 28 _ H2'h.out.rows.2.1 info_map rfl (map_one _ _ _) ?_) | (refine wpList_store_row rfl _ _ _ rfl (w.heap.size + 1 + 1 + 1) (anA ⟨0, 0, false⟩ none 0 0) rfl rfl 34 _ H3'h.out.rows.1 info_an rfl (anA_one _ _ _ _) ?_))
  have H7 := (H2'h.out.set 1 rfl #[.slice none 0 0]).set 0 rfl (anA ⟨0, 0, false⟩ none 0 0)
  generalize World.setRow _ _ _ = W7 at H7 ⊢
  have e0 : W7.cell? ⟨w.heap.size + 1 + 1 + 1, 0, none⟩ = some (.int .i64 0) := blk_cell (i := 0) H7.rows.1 rfl
  have e1 : W7.cell? ⟨w.heap.size + 1 + 1 + 1, 1, none⟩ = some (.int .u64 0) := blk_cell (i := 1) H7.rows.1 rfl
  have e2 : W7.cell? ⟨w.heap.size + 1 + 1 + 1, 2, none⟩ = some (.bool false) := blk_cell (i := 2) H7.rows.1 rfl
  have e3 : W7.cell? ⟨w.heap.size + 1 + 1 + 1, 3, none⟩ = some (.slice none 0 0) := blk_cell (i := 3) H7.rows.1 rfl
  have e4 : W7.cell? ⟨w.heap.size + 1 + 1, 0, none⟩ = some (.slice none 0 0) := blk_cell (i := 0) H7.rows.2.1 rfl
  refine bodyPost_ret (v := .tuple #[.agg #[.slice none 0 0], .agg (anA ⟨0, 0, false⟩ none 0 0), .int .i64 340]) ?_ rfl ⟨rfl, H7.old⟩
  simp [results, Tryd.results8, go_sem, e0, e1, e2, e3, e4, anA]
set_option maxHeartbeats 1000000 in
theorem mDo_op (sp : Option Addr) (n cap : Nat) (ps : Ps) (c : Cl) (w : World) (h : SlK w 2 sp n (prs ps)) (hup : upB ps = true) (hn : n ≤ 4096) (ho : isOp c = false) :
    Calls Tryd.prog 8 #[.agg #[.slice sp n cap], .agg (clA c)] w fun e w' => e = .returned (.tuple #[.agg #[.slice none 0 0], .agg (anA ⟨0, 0, false⟩ none 0 0), .int .i64 341]) ∧ Below w.heap.size w w' := by
  have ho' : ¬ (1 ≤ c.op ∧ c.op ≤ 7) := by unfold isOp at ho; simpa using ho
  have H0 := (((Hs.nil w).new2 #[.slice sp n cap] (clA c) 28 31).new #[.slice none 0 0] 28).new (anA ⟨0, 0, false⟩ none 0 0) 34
  simp only [World.size_alloc] at H0
  obtain ⟨W0, hW0⟩ : ∃ W0, W0 = ((((w.alloc (.cells #[.slice sp n cap] 28)).alloc (.cells (clA c) 31)).alloc (.cells #[.slice none 0 0] 28)).alloc (.cells (anA ⟨0, 0, false⟩ none 0 0) 34)) := ⟨_, rfl⟩
  rw [← hW0] at H0
  have C := mcheck_yes sp n cap ps W0 (h.below H0.old) hup
  have h'h := Lib.hid h
  have hup'h := Lib.hid hup
  have H0'h := Lib.hid H0
  have hW0'h := Lib.hid hW0
  have C'h := Lib.hid C
  clear h hup H0 hW0 C
  go_enter Tryd.func8, Tryd.ntmps8
  go_upto_region 1 with fail
  change Code.wp _ _ _ _ ((((w.alloc (.cells #[.slice sp n cap] 28)).alloc (.cells (clA c) 31)).alloc (.cells #[.slice none 0 0] 28)).alloc (.cells (anA ⟨0, 0, false⟩ none 0 0) 34))
  rw [← hW0'h.out]
  have x0 : W0.cell? ⟨w.heap.size, 0, none⟩ = some (.slice sp n cap) := blk_cell (i := 0) H0'h.out.rows.2.2.2.1 rfl
  go_upto_region 4 with (go_at_call 25; refine C'h.out.mono ?_; rintro e w2 ⟨rfl, hb2⟩)
  clear x0
  have H2 := H0'h.out.next hb2
  have O := mof_any sp n cap ps w2 (h'h.out.below H2.old) hn
  have x0 : w2.cell? ⟨w.heap.size, 0, none⟩ = some (.slice sp n cap) := blk_cell (i := 0) H2.rows.2.2.2.1 rfl
  have H2'h := Lib.hid H2
  have O'h := Lib.hid O
  have hb2'h := Lib.hid hb2
  clear H2 O hb2
  go_upto_region 5 with (go_at_call 26; refine O'h.out.mono ?_; rintro e w3 ⟨tb, g, rfl, hb3, hT3⟩)
  clear x0
  have H3 := H2'h.out.next hb3
  have D := does_no w2.heap.size tb _ n n ps c w3 hT3 ho'
  have H3'h := Lib.hid H3
  have D'h := Lib.hid D
  have hb3'h := Lib.hid hb3
  have hT3'h := Lib.hid hT3
  have ho''h := Lib.hid ho'
  clear H3 D hb3 hT3 ho'
  go_upto_region 7 with (first | (refine wpList_load_row rfl _ _ rfl (w.heap.size + 1) rfl 31 _ (0, 0) _ H3'h.out.rows.2.2.1 Tryd.underlying31 rfl info_cl ?_) | (go_at_call 27; refine D'h.out.mono ?_; rintro e w4 ⟨rfl, hb4⟩; have hb4'h := Lib.hid hb4; clear hb4) | (refine wpList_store_row rfl _ _ _ rfl w4.heap.size (anA ⟨0, 0, false⟩ none 0 0) rfl rfl 34 _ (World.alloc_heap_new _ _) info_an rfl (anA_one _ _ _ _) ?_))
  change Code.wp _ _ _ _ ((w4.alloc (.cells (anA ⟨0, 0, false⟩ none 0 0) 34)).setRow w4.heap.size (anA ⟨0, 0, false⟩ none 0 0))
  have H5 := (((H3'h.out.next hb4'h.out).new (anA ⟨0, 0, false⟩ none 0 0) 34).set 0 rfl (anA ⟨0, 0, false⟩ none 0 0)).tail
  generalize World.setRow _ _ _ = W5 at H5 ⊢
  have H6 := H5.set 1 rfl #[.slice none 0 0]
  have H5'h := Lib.hid H5
  have H6'h := Lib.hid H6
  clear H5 H6
  go_wp2_with (first | (refine wpList_store_row rfl _ _ _ rfl (w.heap.size + 1 + 1) #[.slice none 0 0] rfl rfl 28 _ H5'h.out.rows.2.1 info_map rfl (map_one _ _ _) ?_) | (refine wpList_store_row rfl _ _ _ rfl (w.heap.size + 1 + 1 + 1) (anA ⟨0, 0, false⟩ none 0 0) rfl rfl 34 _ H6'h.out.rows.1 info_an rfl (anA_one _ _ _ _) ?_))
  have H7 := (H5'h.out.set 1 rfl #[.slice none 0 0]).set 0 rfl (anA ⟨0, 0, false⟩ none 0 0)
  generalize World.setRow _ _ _ = W7 at H7 ⊢
  have e0 : W7.cell? ⟨w.heap.size + 1 + 1 + 1, 0, none⟩ = some (.int .i64 0) := blk_cell (i := 0) H7.rows.1 rfl
  have e1 : W7.cell? ⟨w.heap.size + 1 + 1 + 1, 1, none⟩ = some (.int .u64 0) := blk_cell (i := 1) H7.rows.1 rfl
  have e2 : W7.cell? ⟨w.heap.size + 1 + 1 + 1, 2, none⟩ = some (.bool false) := blk_cell (i := 2) H7.rows.1 rfl
  have e3 : W7.cell? ⟨w.heap.size + 1 + 1 + 1, 3, none⟩ = some (.slice none 0 0) := blk_cell (i := 3) H7.rows.1 rfl
  have e4 : W7.cell? ⟨w.heap.size + 1 + 1, 0, none⟩ = some (.slice none 0 0) := blk_cell (i := 0) H7.rows.2.1 rfl
  refine bodyPost_ret (v := .tuple #[.agg #[.slice none 0 0], .agg (anA ⟨0, 0, false⟩ none 0 0), .int .i64 341]) ?_ rfl ⟨rfl, H7.old⟩
  simp [results, Tryd.results8, go_sem, e0, e1, e2, e3, e4, anA]
end Go.Proofs.YtogeohjeabbmaaaDoor

/-
  Package model: how many keys a call brings.
-/
set_option linter.unusedSimpArgs false
set_option linter.unusedVariables false
set_option maxRecDepth 100000
namespace Go.Proofs.YtogeohjeabbmaaaDoor
open Go.RowKit

def comesP (ps : Ps) (c : Cl) : Int := if upB ps && isOp c then ((nextP c ps).length : Int) - (ps.length : Int) else 0
end Go.Proofs.YtogeohjeabbmaaaDoor

