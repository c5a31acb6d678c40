/-
  Package model: a call, done on a table (under way).
-/
import Derived.Test.YtogeohjeabbmaaaDoorModelN
set_option linter.unusedSimpArgs false
set_option linter.unusedVariables false
set_option maxRecDepth 100000
namespace Go.Proofs.YtogeohjeabbmaaaDoor
open Go.RowKit

theorem infoWays7 : (Tryd.prog.info? 88).map (·.size) = some 8 := by kernel_rfl
def wayRow (tb : Nat) : Array Value := #[.nilFunc, .func (.func 45) #[.pointer (some ⟨tb, 0, none⟩)] #[], .func (.func 46) #[.pointer (some ⟨tb, 0, none⟩)] #[], .func (.func 47) #[.pointer (some ⟨tb, 0, none⟩)] #[], .func (.func 48) #[.pointer (some ⟨tb, 0, none⟩)] #[], .func (.func 49) #[.pointer (some ⟨tb, 0, none⟩)] #[], .func (.func 50) #[.pointer (some ⟨tb, 0, none⟩)] #[], .func (.func 51) #[.pointer (some ⟨tb, 0, none⟩)] #[]]
def nilRow : Array Value := #[.nilFunc, .nilFunc, .nilFunc, .nilFunc, .nilFunc, .nilFunc, .nilFunc, .nilFunc]
theorem wayRow_one (tb : Nat) : (wayRow tb).all (·.oneCell') = true := by unfold wayRow; kernel_rfl
set_option maxHeartbeats 2000000 in
theorem does_no (B tb : Nat) (sp : Option Addr) (n cap : Nat) (ps : Ps) (c : Cl) (w : World) (h : Tab w B tb sp n cap ps) (ho : ¬ (1 ≤ c.op ∧ c.op ≤ 7)) :
    Calls Tryd.prog 27 #[.pointer (some ⟨tb, 0, none⟩), .agg (clA c)] w fun e w' => e = .returned (.tuple #[.agg (anA ⟨0, 0, false⟩ none 0 0), .bool false]) ∧ Below w.heap.size w w' := by
  obtain ⟨op, key, x, y⟩ := c
  have H0 := ((Hs.nil w).new2 (clA ⟨op, key, x, y⟩) (anA ⟨0, 0, false⟩ none 0 0) 31 34)
  obtain ⟨W0, hW0⟩ : ∃ W0, W0 = ((w.alloc (.cells (clA ⟨op, key, x, y⟩) 31)).alloc (.cells (anA ⟨0, 0, false⟩ none 0 0) 34)) := ⟨_, rfl⟩
  rw [← hW0] at H0
  have H1 := (H0.new nilRow 88).set 0 rfl (wayRow tb)
  have hop : (decide (op < 1) = true) ∨ (decide (op < 1) = false ∧ decide ((8 : Int) ≤ op) = true) := by
    simp only at ho
    by_cases h1 : op < 1
    · exact .inl (by simpa using h1)
    · exact .inr ⟨by simpa using h1, by rw [decide_eq_true_eq]; omega⟩
  clear ho
  have h'h := Lib.hid h
  have H0'h := Lib.hid H0
  have hW0'h := Lib.hid hW0
  have H1'h := Lib.hid H1
  have hop'h := Lib.hid hop
  clear h H0 hW0 H1 hop
  go_enter Tryd.func27, Tryd.ntmps27
  go_upto_region 1 with fail
  change Code.wp _ _ _ _ ((w.alloc (.cells (clA ⟨op, key, x, y⟩) 31)).alloc (.cells (anA ⟨0, 0, false⟩ none 0 0) 34))
  rw [← hW0'h.out]
  go_upto_region 2 with (refine wpList_store_row rfl _ _ _ rfl W0.heap.size (wayRow tb) rfl rfl 88 nilRow (World.alloc_heap_new _ _) infoWays7 rfl (wayRow_one tb) ?_)
  have H2 := H1'h.out
  clear H1'h
  change Code.wp _ _ _ _ ((W0.alloc (.cells nilRow 88)).setRow W0.heap.size (wayRow tb))
  generalize World.setRow _ _ _ = W1 at H2 ⊢
  have x0 : W1.cell? ⟨w.heap.size, 0, none⟩ = some (.int .i64 op) := blk_cell (i := 0) H2.rows.2.2.1 rfl
  have H2'h := Lib.hid H2
  clear H2
  rcases hop'h.out with h1 | ⟨h1, h2⟩
  all_goals
    go_wp2_with (refine wpList_store_row rfl _ _ _ rfl (w.heap.size + 1) (anA ⟨0, 0, false⟩ none 0 0) rfl rfl 34 _ (H2'h.out.rows.2.1) info_an rfl (anA_one _ _ _ _) ?_)
    have H3 := H2'h.out.set 1 rfl (anA ⟨0, 0, false⟩ none 0 0)
    generalize World.setRow _ _ _ = W2 at H3 ⊢
    have z0 := blk_cell (i := 0) H3.rows.2.1 rfl
    have z1 := blk_cell (i := 1) H3.rows.2.1 rfl
    have z2 := blk_cell (i := 2) H3.rows.2.1 rfl
    have z3 := blk_cell (i := 3) H3.rows.2.1 rfl
    refine bodyPost_ret (v := .tuple #[.agg (anA ⟨0, 0, false⟩ none 0 0), .bool false]) ?_ rfl ⟨rfl, H3.old⟩
    simp [results, Tryd.results27, go_sem, z0, z1, z2, z3, anA]
theorem run_storeCells_row {P : Program} (w : World) (g : Nat) (t : TypeId) (old cells : Array Value) (hg : w.heap[g]? = some (.cells old t (0, 0))) (ho : old.size = cells.size) (h1 : cells.all (·.oneCell') = true) :
    (storeCells ⟨g, 0, none⟩ cells.toList).run P w = .ok () (w.setRow g cells) := by
  have := run_storeCells_from (P := P) g t cells.toList 0 old w hg (by simp; omega) (fun v hv => (Array.all_eq_true_iff_forall_mem.1 h1) v (by simpa using hv))
  simpa using this
def WayEndO (six : Bool) (B tb : Nat) (sp : Option Addr) (ps : Ps) (a : An) (qs : Ps) (w : World) (e : Ending) (w' : World) : Prop :=
  ∃ sp' n' cap' sq nq cq, e = .returned (.agg (anA a sq nq cq)) ∧ Tab w' B tb sp' n' cap' ps ∧ KeptT tb sp w w' ∧ NewOr sp sp' w.heap.size ∧ SlK w' 2 sq nq (prs qs) ∧ (sq = none → cq = 0) ∧ nq ≤ cq ∧ (∀ b, sq.map (·.block) = some b → w.heap.size ≤ b) ∧ (six = false → sq = none ∧ nq = 0 ∧ cq = 0)
theorem WayEnd.o {B tb : Nat} {sp : Option Addr} {ps : Ps} {a : An} {w : World} {e : Ending} {w' : World} (h : WayEnd B tb sp ps a w e w') : WayEndO false B tb sp ps a [] w e w' := by
  obtain ⟨sp', n', cap', h1, h2, h3, h4⟩ := h
  exact ⟨sp', n', cap', none, 0, 0, h1, h2, h3, h4, SlK.nil _ _ _, fun _ => rfl, Nat.le_refl _, (fun b e => by cases e), fun _ => ⟨rfl, rfl, rfl⟩⟩
theorem WayEndP.o {B tb : Nat} {sp : Option Addr} {ps : Ps} {a : An} {qs : Ps} {w : World} {e : Ending} {w' : World} (h : WayEndP B tb sp ps a qs w e w') : WayEndO true B tb sp ps a qs w e w' := by
  obtain ⟨sp', n', cap', sq, nq, cq, h1, h2, h3, h4, h5, h6, h7, h8⟩ := h
  exact ⟨sp', n', cap', sq, nq, cq, h1, h2, h3, h4, h5, h6, h7, h8, fun e => by cases e⟩
/-- What a call that is done leaves. -/
def DoesEnd (six : Bool) (B tb : Nat) (sp : Option Addr) (ps : Ps) (a : An) (qs : Ps) (w : World) (e : Ending) (w' : World) : Prop :=
  ∃ sp' n' cap' sq nq cq, e = .returned (.tuple #[.agg (anA a sq nq cq), .bool true]) ∧ Tab w' B tb sp' n' cap' ps ∧ KeptT tb sp w w' ∧ NewOr sp sp' w.heap.size ∧ SlK w' 2 sq nq (prs qs) ∧ (sq = none → cq = 0) ∧ nq ≤ cq ∧ (∀ b, sq.map (·.block) = some b → w.heap.size ≤ b) ∧ (six = false → sq = none ∧ nq = 0 ∧ cq = 0)
set_option maxHeartbeats 4000000 in
theorem does_1 (B tb : Nat) (sp : Option Addr) (n cap : Nat) (ps ps' qs : Ps) (a : An) (six : Bool) (c : Cl) (w : World) (h : Tab w B tb sp n cap ps)
    (way : ∀ W, Tab W B tb sp n cap ps → Calls Tryd.prog 45 #[.pointer (some ⟨tb, 0, none⟩), .agg (clA c)] W (WayEndO six B tb sp ps' a qs W)) (ho : c.op = 1) :
    Calls Tryd.prog 27 #[.pointer (some ⟨tb, 0, none⟩), .agg (clA c)] w (DoesEnd six B tb sp ps' a qs w) := by
  obtain ⟨op, key, x, y⟩ := c
  obtain rfl : op = 1 := ho
  have H0 := ((Hs.nil w).new2 (clA ⟨1, key, x, y⟩) (anA ⟨0, 0, false⟩ none 0 0) 31 34)
  obtain ⟨W0, hW0⟩ : ∃ W0, W0 = ((w.alloc (.cells (clA ⟨1, key, x, y⟩) 31)).alloc (.cells (anA ⟨0, 0, false⟩ none 0 0) 34)) := ⟨_, rfl⟩
  rw [← hW0] at H0
  have H1 := (H0.new nilRow 88).set 0 rfl (wayRow tb)
  have htl := lt_of_heap h.tbl
  have hsl := h.spot
  have h'h := Lib.hid h
  have H0'h := Lib.hid H0
  have hW0'h := Lib.hid hW0
  have H1'h := Lib.hid H1
  have way'h := Lib.hid way
  have htl'h := Lib.hid htl
  have hsl'h := Lib.hid hsl
  clear h H0 hW0 H1 way htl hsl
  go_enter Tryd.func27, Tryd.ntmps27
  go_upto_region 1 with fail
  change Code.wp _ _ _ _ ((w.alloc (.cells (clA ⟨1, key, x, y⟩) 31)).alloc (.cells (anA ⟨0, 0, false⟩ none 0 0) 34))
  rw [← hW0'h.out]
  go_upto_region 2 with (refine wpList_store_row rfl _ _ _ rfl W0.heap.size (wayRow tb) rfl rfl 88 nilRow (World.alloc_heap_new _ _) infoWays7 rfl (wayRow_one tb) ?_)
  have H2 := H1'h.out
  clear H1'h
  change Code.wp _ _ _ _ ((W0.alloc (.cells nilRow 88)).setRow W0.heap.size (wayRow tb))
  have hW0l : w.heap.size + 1 < W0.heap.size := H0'h.out.lt _ (List.mem_cons_self ..)
  generalize World.setRow _ _ _ = W1 at H2 ⊢
  have x0 : W1.cell? ⟨w.heap.size, 0, none⟩ = some (.int .i64 1) := blk_cell (i := 0) H2.rows.2.2.1 rfl
  have x1 : W1.cell? ⟨w.heap.size, 1, none⟩ = some (.int .u64 (key : Int)) := blk_cell (i := 1) H2.rows.2.2.1 rfl
  have x2 : W1.cell? ⟨w.heap.size, 2, none⟩ = some (.int .u64 (x : Int)) := blk_cell (i := 2) H2.rows.2.2.1 rfl
  have x3 : W1.cell? ⟨w.heap.size, 3, none⟩ = some (.int .u64 (y : Int)) := blk_cell (i := 3) H2.rows.2.2.1 rfl
  have xf : W1.cell? ⟨W0.heap.size, 1, none⟩ = some (.func (.func 45) #[.pointer (some ⟨tb, 0, none⟩)] #[]) := blk_cell (i := 1) H2.rows.1 rfl
  have hT1 := h'h.out.below H2.old
  have way1 := way'h.out W1.drew (hT1.below (Below.drew (Below.refl _ _)))
  have hzl : w.heap.size + 1 < W1.heap.size := H2.lt _ (List.mem_cons_of_mem _ (List.mem_cons_self ..))
  have H2'h := Lib.hid H2
  have hT1'h := Lib.hid hT1
  have way1'h := Lib.hid way1
  have hzl'h := Lib.hid hzl
  have hW0l'h := Lib.hid hW0l
  clear H2 hT1 way1 hzl hW0l
  go_upto_region 4 with fail
  go_region_law (first | ((try go_simp); refine way1'h.out.mono ?_; rintro e w4 ⟨sp', n', cap', sq, nq, cq, rfl, hT4, hK4, hN4, hS4, hc4, hle4, hlo4, hx4⟩; have hz4 : w4.heap[w.heap.size + 1]? = some (.cells (anA ⟨0, 0, false⟩ none 0 0) 34 (0, 0)) := (hK4.block (w.heap.size + 1) hzl'h.out ⟨by have := htl'h.out; omega, fun e => by have := hsl'h.out _ e; omega⟩).trans (show W1.drew.heap[w.heap.size + 1]? = _ from H2'h.out.rows.2.1); have hst := run_storeCells_row (P := Tryd.prog) _ _ _ _ (anA a sq nq cq) hz4 rfl (anA_one _ _ _ _); have hsz4 : (anA a sq nq cq).size = 4 := rfl; have hz4'h := Lib.hid hz4; have hT4'h := Lib.hid hT4; have hK4'h := Lib.hid hK4; have hN4'h := Lib.hid hN4; have hS4'h := Lib.hid hS4; have hc4'h := Lib.hid hc4; have hle4'h := Lib.hid hle4; have hlo4'h := Lib.hid hlo4; have hx4'h := Lib.hid hx4; clear hz4 hT4 hK4 hN4 hS4 hc4 hle4 hlo4 hx4))
  all_goals
    have hdz : W1.drew.heap.size = W1.heap.size := rfl
    have hR := setRow_heap _ _ _ (anA a sq nq cq) _ _ hz4'h.out
    have hT5 := hT4'h.out.setRow (b := w.heap.size + 1) (by have := htl'h.out; omega) (hN4'h.out.ne (fun e => by have := hsl'h.out _ e; omega) hzl'h.out) (anA a sq nq cq)
    have hK5 := ((KeptT.of_below (tb := tb) (sp := sp) H2'h.out.old).trans (Kept.trans (Kept.drew _ _) hK4'h.out)).setRow (b := w.heap.size + 1) (by omega) (anA a sq nq cq)
    have hN5 : NewOr sp sp' w.heap.size := hN4'h.out.low (by have := hzl'h.out; omega)
    have hS5 : SlK (w4.setRow (w.heap.size + 1) (anA a sq nq cq)) 2 sq nq (prs qs) := hS4'h.out.keep fun b o hb he ho => (setRow_other _ _ _ _ (by rintro rfl; have := hlo4'h.out _ he; have := hzl'h.out; omega)).trans ho
    have hlo5 : ∀ b, sq.map (·.block) = some b → w.heap.size ≤ b := fun b e => by have := hlo4'h.out b e; have := hzl'h.out; omega
    clear hst hsz4 hdz
    generalize World.setRow _ _ _ = W5 at hR hT5 hK5 hS5 ⊢
    have hR'h := Lib.hid hR
    have hT5'h := Lib.hid hT5
    have hK5'h := Lib.hid hK5
    have hN5'h := Lib.hid hN5
    have hS5'h := Lib.hid hS5
    have hlo5'h := Lib.hid hlo5
    clear hR hT5 hK5 hN5 hS5 hlo5
    go_wp2
    have z0 := blk_cell (i := 0) hR'h.out rfl
    have z1 := blk_cell (i := 1) hR'h.out rfl
    have z2 := blk_cell (i := 2) hR'h.out rfl
    have z3 := blk_cell (i := 3) hR'h.out rfl
    refine bodyPost_ret (v := .tuple #[.agg (anA a sq nq cq), .bool true]) ?_ rfl ⟨sp', n', cap', sq, nq, cq, rfl, hT5'h.out, hK5'h.out, hN5'h.out, hS5'h.out, hc4'h.out, hle4'h.out, hlo5'h.out, hx4'h.out⟩
    simp [results, Tryd.results27, go_sem, z0, z1, z2, z3, anA]
set_option maxHeartbeats 4000000 in
theorem does_2 (B tb : Nat) (sp : Option Addr) (n cap : Nat) (ps ps' qs : Ps) (a : An) (six : Bool) (c : Cl) (w : World) (h : Tab w B tb sp n cap ps)
    (way : ∀ W, Tab W B tb sp n cap ps → Calls Tryd.prog 46 #[.pointer (some ⟨tb, 0, none⟩), .agg (clA c)] W (WayEndO six B tb sp ps' a qs W)) (ho : c.op = 2) :
    Calls Tryd.prog 27 #[.pointer (some ⟨tb, 0, none⟩), .agg (clA c)] w (DoesEnd six B tb sp ps' a qs w) := by
  obtain ⟨op, key, x, y⟩ := c
  obtain rfl : op = 2 := ho
  have H0 := ((Hs.nil w).new2 (clA ⟨2, key, x, y⟩) (anA ⟨0, 0, false⟩ none 0 0) 31 34)
  obtain ⟨W0, hW0⟩ : ∃ W0, W0 = ((w.alloc (.cells (clA ⟨2, key, x, y⟩) 31)).alloc (.cells (anA ⟨0, 0, false⟩ none 0 0) 34)) := ⟨_, rfl⟩
  rw [← hW0] at H0
  have H1 := (H0.new nilRow 88).set 0 rfl (wayRow tb)
  have htl := lt_of_heap h.tbl
  have hsl := h.spot
  have h'h := Lib.hid h
  have H0'h := Lib.hid H0
  have hW0'h := Lib.hid hW0
  have H1'h := Lib.hid H1
  have way'h := Lib.hid way
  have htl'h := Lib.hid htl
  have hsl'h := Lib.hid hsl
  clear h H0 hW0 H1 way htl hsl
  go_enter Tryd.func27, Tryd.ntmps27
  go_upto_region 1 with fail
  change Code.wp _ _ _ _ ((w.alloc (.cells (clA ⟨2, key, x, y⟩) 31)).alloc (.cells (anA ⟨0, 0, false⟩ none 0 0) 34))
  rw [← hW0'h.out]
  go_upto_region 2 with (refine wpList_store_row rfl _ _ _ rfl W0.heap.size (wayRow tb) rfl rfl 88 nilRow (World.alloc_heap_new _ _) infoWays7 rfl (wayRow_one tb) ?_)
  have H2 := H1'h.out
  clear H1'h
  change Code.wp _ _ _ _ ((W0.alloc (.cells nilRow 88)).setRow W0.heap.size (wayRow tb))
  have hW0l : w.heap.size + 1 < W0.heap.size := H0'h.out.lt _ (List.mem_cons_self ..)
  generalize World.setRow _ _ _ = W1 at H2 ⊢
  have x0 : W1.cell? ⟨w.heap.size, 0, none⟩ = some (.int .i64 2) := blk_cell (i := 0) H2.rows.2.2.1 rfl
  have x1 : W1.cell? ⟨w.heap.size, 1, none⟩ = some (.int .u64 (key : Int)) := blk_cell (i := 1) H2.rows.2.2.1 rfl
  have x2 : W1.cell? ⟨w.heap.size, 2, none⟩ = some (.int .u64 (x : Int)) := blk_cell (i := 2) H2.rows.2.2.1 rfl
  have x3 : W1.cell? ⟨w.heap.size, 3, none⟩ = some (.int .u64 (y : Int)) := blk_cell (i := 3) H2.rows.2.2.1 rfl
  have xf : W1.cell? ⟨W0.heap.size, 2, none⟩ = some (.func (.func 46) #[.pointer (some ⟨tb, 0, none⟩)] #[]) := blk_cell (i := 2) H2.rows.1 rfl
  have hT1 := h'h.out.below H2.old
  have way1 := way'h.out W1.drew (hT1.below (Below.drew (Below.refl _ _)))
  have hzl : w.heap.size + 1 < W1.heap.size := H2.lt _ (List.mem_cons_of_mem _ (List.mem_cons_self ..))
  have H2'h := Lib.hid H2
  have hT1'h := Lib.hid hT1
  have way1'h := Lib.hid way1
  have hzl'h := Lib.hid hzl
  have hW0l'h := Lib.hid hW0l
  clear H2 hT1 way1 hzl hW0l
  go_upto_region 4 with fail
  go_region_law (first | ((try go_simp); refine way1'h.out.mono ?_; rintro e w4 ⟨sp', n', cap', sq, nq, cq, rfl, hT4, hK4, hN4, hS4, hc4, hle4, hlo4, hx4⟩; have hz4 : w4.heap[w.heap.size + 1]? = some (.cells (anA ⟨0, 0, false⟩ none 0 0) 34 (0, 0)) := (hK4.block (w.heap.size + 1) hzl'h.out ⟨by have := htl'h.out; omega, fun e => by have := hsl'h.out _ e; omega⟩).trans (show W1.drew.heap[w.heap.size + 1]? = _ from H2'h.out.rows.2.1); have hst := run_storeCells_row (P := Tryd.prog) _ _ _ _ (anA a sq nq cq) hz4 rfl (anA_one _ _ _ _); have hsz4 : (anA a sq nq cq).size = 4 := rfl; have hz4'h := Lib.hid hz4; have hT4'h := Lib.hid hT4; have hK4'h := Lib.hid hK4; have hN4'h := Lib.hid hN4; have hS4'h := Lib.hid hS4; have hc4'h := Lib.hid hc4; have hle4'h := Lib.hid hle4; have hlo4'h := Lib.hid hlo4; have hx4'h := Lib.hid hx4; clear hz4 hT4 hK4 hN4 hS4 hc4 hle4 hlo4 hx4))
  all_goals
    have hdz : W1.drew.heap.size = W1.heap.size := rfl
    have hR := setRow_heap _ _ _ (anA a sq nq cq) _ _ hz4'h.out
    have hT5 := hT4'h.out.setRow (b := w.heap.size + 1) (by have := htl'h.out; omega) (hN4'h.out.ne (fun e => by have := hsl'h.out _ e; omega) hzl'h.out) (anA a sq nq cq)
    have hK5 := ((KeptT.of_below (tb := tb) (sp := sp) H2'h.out.old).trans (Kept.trans (Kept.drew _ _) hK4'h.out)).setRow (b := w.heap.size + 1) (by omega) (anA a sq nq cq)
    have hN5 : NewOr sp sp' w.heap.size := hN4'h.out.low (by have := hzl'h.out; omega)
    have hS5 : SlK (w4.setRow (w.heap.size + 1) (anA a sq nq cq)) 2 sq nq (prs qs) := hS4'h.out.keep fun b o hb he ho => (setRow_other _ _ _ _ (by rintro rfl; have := hlo4'h.out _ he; have := hzl'h.out; omega)).trans ho
    have hlo5 : ∀ b, sq.map (·.block) = some b → w.heap.size ≤ b := fun b e => by have := hlo4'h.out b e; have := hzl'h.out; omega
    clear hst hsz4 hdz
    generalize World.setRow _ _ _ = W5 at hR hT5 hK5 hS5 ⊢
    have hR'h := Lib.hid hR
    have hT5'h := Lib.hid hT5
    have hK5'h := Lib.hid hK5
    have hN5'h := Lib.hid hN5
    have hS5'h := Lib.hid hS5
    have hlo5'h := Lib.hid hlo5
    clear hR hT5 hK5 hN5 hS5 hlo5
    go_wp2
    have z0 := blk_cell (i := 0) hR'h.out rfl
    have z1 := blk_cell (i := 1) hR'h.out rfl
    have z2 := blk_cell (i := 2) hR'h.out rfl
    have z3 := blk_cell (i := 3) hR'h.out rfl
    refine bodyPost_ret (v := .tuple #[.agg (anA a sq nq cq), .bool true]) ?_ rfl ⟨sp', n', cap', sq, nq, cq, rfl, hT5'h.out, hK5'h.out, hN5'h.out, hS5'h.out, hc4'h.out, hle4'h.out, hlo5'h.out, hx4'h.out⟩
    simp [results, Tryd.results27, go_sem, z0, z1, z2, z3, anA]
set_option maxHeartbeats 4000000 in
theorem does_3 (B tb : Nat) (sp : Option Addr) (n cap : Nat) (ps ps' qs : Ps) (a : An) (six : Bool) (c : Cl) (w : World) (h : Tab w B tb sp n cap ps)
    (way : ∀ W, Tab W B tb sp n cap ps → Calls Tryd.prog 47 #[.pointer (some ⟨tb, 0, none⟩), .agg (clA c)] W (WayEndO six B tb sp ps' a qs W)) (ho : c.op = 3) :
    Calls Tryd.prog 27 #[.pointer (some ⟨tb, 0, none⟩), .agg (clA c)] w (DoesEnd six B tb sp ps' a qs w) := by
  obtain ⟨op, key, x, y⟩ := c
  obtain rfl : op = 3 := ho
  have H0 := ((Hs.nil w).new2 (clA ⟨3, key, x, y⟩) (anA ⟨0, 0, false⟩ none 0 0) 31 34)
  obtain ⟨W0, hW0⟩ : ∃ W0, W0 = ((w.alloc (.cells (clA ⟨3, key, x, y⟩) 31)).alloc (.cells (anA ⟨0, 0, false⟩ none 0 0) 34)) := ⟨_, rfl⟩
  rw [← hW0] at H0
  have H1 := (H0.new nilRow 88).set 0 rfl (wayRow tb)
  have htl := lt_of_heap h.tbl
  have hsl := h.spot
  have h'h := Lib.hid h
  have H0'h := Lib.hid H0
  have hW0'h := Lib.hid hW0
  have H1'h := Lib.hid H1
  have way'h := Lib.hid way
  have htl'h := Lib.hid htl
  have hsl'h := Lib.hid hsl
  clear h H0 hW0 H1 way htl hsl
  go_enter Tryd.func27, Tryd.ntmps27
  go_upto_region 1 with fail
  change Code.wp _ _ _ _ ((w.alloc (.cells (clA ⟨3, key, x, y⟩) 31)).alloc (.cells (anA ⟨0, 0, false⟩ none 0 0) 34))
  rw [← hW0'h.out]
  go_upto_region 2 with (refine wpList_store_row rfl _ _ _ rfl W0.heap.size (wayRow tb) rfl rfl 88 nilRow (World.alloc_heap_new _ _) infoWays7 rfl (wayRow_one tb) ?_)
  have H2 := H1'h.out
  clear H1'h
  change Code.wp _ _ _ _ ((W0.alloc (.cells nilRow 88)).setRow W0.heap.size (wayRow tb))
  have hW0l : w.heap.size + 1 < W0.heap.size := H0'h.out.lt _ (List.mem_cons_self ..)
  generalize World.setRow _ _ _ = W1 at H2 ⊢
  have x0 : W1.cell? ⟨w.heap.size, 0, none⟩ = some (.int .i64 3) := blk_cell (i := 0) H2.rows.2.2.1 rfl
  have x1 : W1.cell? ⟨w.heap.size, 1, none⟩ = some (.int .u64 (key : Int)) := blk_cell (i := 1) H2.rows.2.2.1 rfl
  have x2 : W1.cell? ⟨w.heap.size, 2, none⟩ = some (.int .u64 (x : Int)) := blk_cell (i := 2) H2.rows.2.2.1 rfl
  have x3 : W1.cell? ⟨w.heap.size, 3, none⟩ = some (.int .u64 (y : Int)) := blk_cell (i := 3) H2.rows.2.2.1 rfl
  have xf : W1.cell? ⟨W0.heap.size, 3, none⟩ = some (.func (.func 47) #[.pointer (some ⟨tb, 0, none⟩)] #[]) := blk_cell (i := 3) H2.rows.1 rfl
  have hT1 := h'h.out.below H2.old
  have way1 := way'h.out W1.drew (hT1.below (Below.drew (Below.refl _ _)))
  have hzl : w.heap.size + 1 < W1.heap.size := H2.lt _ (List.mem_cons_of_mem _ (List.mem_cons_self ..))
  have H2'h := Lib.hid H2
  have hT1'h := Lib.hid hT1
  have way1'h := Lib.hid way1
  have hzl'h := Lib.hid hzl
  have hW0l'h := Lib.hid hW0l
  clear H2 hT1 way1 hzl hW0l
  go_upto_region 4 with fail
  go_region_law (first | ((try go_simp); refine way1'h.out.mono ?_; rintro e w4 ⟨sp', n', cap', sq, nq, cq, rfl, hT4, hK4, hN4, hS4, hc4, hle4, hlo4, hx4⟩; have hz4 : w4.heap[w.heap.size + 1]? = some (.cells (anA ⟨0, 0, false⟩ none 0 0) 34 (0, 0)) := (hK4.block (w.heap.size + 1) hzl'h.out ⟨by have := htl'h.out; omega, fun e => by have := hsl'h.out _ e; omega⟩).trans (show W1.drew.heap[w.heap.size + 1]? = _ from H2'h.out.rows.2.1); have hst := run_storeCells_row (P := Tryd.prog) _ _ _ _ (anA a sq nq cq) hz4 rfl (anA_one _ _ _ _); have hsz4 : (anA a sq nq cq).size = 4 := rfl; have hz4'h := Lib.hid hz4; have hT4'h := Lib.hid hT4; have hK4'h := Lib.hid hK4; have hN4'h := Lib.hid hN4; have hS4'h := Lib.hid hS4; have hc4'h := Lib.hid hc4; have hle4'h := Lib.hid hle4; have hlo4'h := Lib.hid hlo4; have hx4'h := Lib.hid hx4; clear hz4 hT4 hK4 hN4 hS4 hc4 hle4 hlo4 hx4))
  all_goals
    have hdz : W1.drew.heap.size = W1.heap.size := rfl
    have hR := setRow_heap _ _ _ (anA a sq nq cq) _ _ hz4'h.out
    have hT5 := hT4'h.out.setRow (b := w.heap.size + 1) (by have := htl'h.out; omega) (hN4'h.out.ne (fun e => by have := hsl'h.out _ e; omega) hzl'h.out) (anA a sq nq cq)
    have hK5 := ((KeptT.of_below (tb := tb) (sp := sp) H2'h.out.old).trans (Kept.trans (Kept.drew _ _) hK4'h.out)).setRow (b := w.heap.size + 1) (by omega) (anA a sq nq cq)
    have hN5 : NewOr sp sp' w.heap.size := hN4'h.out.low (by have := hzl'h.out; omega)
    have hS5 : SlK (w4.setRow (w.heap.size + 1) (anA a sq nq cq)) 2 sq nq (prs qs) := hS4'h.out.keep fun b o hb he ho => (setRow_other _ _ _ _ (by rintro rfl; have := hlo4'h.out _ he; have := hzl'h.out; omega)).trans ho
    have hlo5 : ∀ b, sq.map (·.block) = some b → w.heap.size ≤ b := fun b e => by have := hlo4'h.out b e; have := hzl'h.out; omega
    clear hst hsz4 hdz
    generalize World.setRow _ _ _ = W5 at hR hT5 hK5 hS5 ⊢
    have hR'h := Lib.hid hR
    have hT5'h := Lib.hid hT5
    have hK5'h := Lib.hid hK5
    have hN5'h := Lib.hid hN5
    have hS5'h := Lib.hid hS5
    have hlo5'h := Lib.hid hlo5
    clear hR hT5 hK5 hN5 hS5 hlo5
    go_wp2
    have z0 := blk_cell (i := 0) hR'h.out rfl
    have z1 := blk_cell (i := 1) hR'h.out rfl
    have z2 := blk_cell (i := 2) hR'h.out rfl
    have z3 := blk_cell (i := 3) hR'h.out rfl
    refine bodyPost_ret (v := .tuple #[.agg (anA a sq nq cq), .bool true]) ?_ rfl ⟨sp', n', cap', sq, nq, cq, rfl, hT5'h.out, hK5'h.out, hN5'h.out, hS5'h.out, hc4'h.out, hle4'h.out, hlo5'h.out, hx4'h.out⟩
    simp [results, Tryd.results27, go_sem, z0, z1, z2, z3, anA]
set_option maxHeartbeats 4000000 in
theorem does_4 (B tb : Nat) (sp : Option Addr) (n cap : Nat) (ps ps' qs : Ps) (a : An) (six : Bool) (c : Cl) (w : World) (h : Tab w B tb sp n cap ps)
    (way : ∀ W, Tab W B tb sp n cap ps → Calls Tryd.prog 48 #[.pointer (some ⟨tb, 0, none⟩), .agg (clA c)] W (WayEndO six B tb sp ps' a qs W)) (ho : c.op = 4) :
    Calls Tryd.prog 27 #[.pointer (some ⟨tb, 0, none⟩), .agg (clA c)] w (DoesEnd six B tb sp ps' a qs w) := by
  obtain ⟨op, key, x, y⟩ := c
  obtain rfl : op = 4 := ho
  have H0 := ((Hs.nil w).new2 (clA ⟨4, key, x, y⟩) (anA ⟨0, 0, false⟩ none 0 0) 31 34)
  obtain ⟨W0, hW0⟩ : ∃ W0, W0 = ((w.alloc (.cells (clA ⟨4, key, x, y⟩) 31)).alloc (.cells (anA ⟨0, 0, false⟩ none 0 0) 34)) := ⟨_, rfl⟩
  rw [← hW0] at H0
  have H1 := (H0.new nilRow 88).set 0 rfl (wayRow tb)
  have htl := lt_of_heap h.tbl
  have hsl := h.spot
  have h'h := Lib.hid h
  have H0'h := Lib.hid H0
  have hW0'h := Lib.hid hW0
  have H1'h := Lib.hid H1
  have way'h := Lib.hid way
  have htl'h := Lib.hid htl
  have hsl'h := Lib.hid hsl
  clear h H0 hW0 H1 way htl hsl
  go_enter Tryd.func27, Tryd.ntmps27
  go_upto_region 1 with fail
  change Code.wp _ _ _ _ ((w.alloc (.cells (clA ⟨4, key, x, y⟩) 31)).alloc (.cells (anA ⟨0, 0, false⟩ none 0 0) 34))
  rw [← hW0'h.out]
  go_upto_region 2 with (refine wpList_store_row rfl _ _ _ rfl W0.heap.size (wayRow tb) rfl rfl 88 nilRow (World.alloc_heap_new _ _) infoWays7 rfl (wayRow_one tb) ?_)
  have H2 := H1'h.out
  clear H1'h
  change Code.wp _ _ _ _ ((W0.alloc (.cells nilRow 88)).setRow W0.heap.size (wayRow tb))
  have hW0l : w.heap.size + 1 < W0.heap.size := H0'h.out.lt _ (List.mem_cons_self ..)
  generalize World.setRow _ _ _ = W1 at H2 ⊢
  have x0 : W1.cell? ⟨w.heap.size, 0, none⟩ = some (.int .i64 4) := blk_cell (i := 0) H2.rows.2.2.1 rfl
  have x1 : W1.cell? ⟨w.heap.size, 1, none⟩ = some (.int .u64 (key : Int)) := blk_cell (i := 1) H2.rows.2.2.1 rfl
  have x2 : W1.cell? ⟨w.heap.size, 2, none⟩ = some (.int .u64 (x : Int)) := blk_cell (i := 2) H2.rows.2.2.1 rfl
  have x3 : W1.cell? ⟨w.heap.size, 3, none⟩ = some (.int .u64 (y : Int)) := blk_cell (i := 3) H2.rows.2.2.1 rfl
  have xf : W1.cell? ⟨W0.heap.size, 4, none⟩ = some (.func (.func 48) #[.pointer (some ⟨tb, 0, none⟩)] #[]) := blk_cell (i := 4) H2.rows.1 rfl
  have hT1 := h'h.out.below H2.old
  have way1 := way'h.out W1.drew (hT1.below (Below.drew (Below.refl _ _)))
  have hzl : w.heap.size + 1 < W1.heap.size := H2.lt _ (List.mem_cons_of_mem _ (List.mem_cons_self ..))
  have H2'h := Lib.hid H2
  have hT1'h := Lib.hid hT1
  have way1'h := Lib.hid way1
  have hzl'h := Lib.hid hzl
  have hW0l'h := Lib.hid hW0l
  clear H2 hT1 way1 hzl hW0l
  go_upto_region 4 with fail
  go_region_law (first | ((try go_simp); refine way1'h.out.mono ?_; rintro e w4 ⟨sp', n', cap', sq, nq, cq, rfl, hT4, hK4, hN4, hS4, hc4, hle4, hlo4, hx4⟩; have hz4 : w4.heap[w.heap.size + 1]? = some (.cells (anA ⟨0, 0, false⟩ none 0 0) 34 (0, 0)) := (hK4.block (w.heap.size + 1) hzl'h.out ⟨by have := htl'h.out; omega, fun e => by have := hsl'h.out _ e; omega⟩).trans (show W1.drew.heap[w.heap.size + 1]? = _ from H2'h.out.rows.2.1); have hst := run_storeCells_row (P := Tryd.prog) _ _ _ _ (anA a sq nq cq) hz4 rfl (anA_one _ _ _ _); have hsz4 : (anA a sq nq cq).size = 4 := rfl; have hz4'h := Lib.hid hz4; have hT4'h := Lib.hid hT4; have hK4'h := Lib.hid hK4; have hN4'h := Lib.hid hN4; have hS4'h := Lib.hid hS4; have hc4'h := Lib.hid hc4; have hle4'h := Lib.hid hle4; have hlo4'h := Lib.hid hlo4; have hx4'h := Lib.hid hx4; clear hz4 hT4 hK4 hN4 hS4 hc4 hle4 hlo4 hx4))
  all_goals
    have hdz : W1.drew.heap.size = W1.heap.size := rfl
    have hR := setRow_heap _ _ _ (anA a sq nq cq) _ _ hz4'h.out
    have hT5 := hT4'h.out.setRow (b := w.heap.size + 1) (by have := htl'h.out; omega) (hN4'h.out.ne (fun e => by have := hsl'h.out _ e; omega) hzl'h.out) (anA a sq nq cq)
    have hK5 := ((KeptT.of_below (tb := tb) (sp := sp) H2'h.out.old).trans (Kept.trans (Kept.drew _ _) hK4'h.out)).setRow (b := w.heap.size + 1) (by omega) (anA a sq nq cq)
    have hN5 : NewOr sp sp' w.heap.size := hN4'h.out.low (by have := hzl'h.out; omega)
    have hS5 : SlK (w4.setRow (w.heap.size + 1) (anA a sq nq cq)) 2 sq nq (prs qs) := hS4'h.out.keep fun b o hb he ho => (setRow_other _ _ _ _ (by rintro rfl; have := hlo4'h.out _ he; have := hzl'h.out; omega)).trans ho
    have hlo5 : ∀ b, sq.map (·.block) = some b → w.heap.size ≤ b := fun b e => by have := hlo4'h.out b e; have := hzl'h.out; omega
    clear hst hsz4 hdz
    generalize World.setRow _ _ _ = W5 at hR hT5 hK5 hS5 ⊢
    have hR'h := Lib.hid hR
    have hT5'h := Lib.hid hT5
    have hK5'h := Lib.hid hK5
    have hN5'h := Lib.hid hN5
    have hS5'h := Lib.hid hS5
    have hlo5'h := Lib.hid hlo5
    clear hR hT5 hK5 hN5 hS5 hlo5
    go_wp2
    have z0 := blk_cell (i := 0) hR'h.out rfl
    have z1 := blk_cell (i := 1) hR'h.out rfl
    have z2 := blk_cell (i := 2) hR'h.out rfl
    have z3 := blk_cell (i := 3) hR'h.out rfl
    refine bodyPost_ret (v := .tuple #[.agg (anA a sq nq cq), .bool true]) ?_ rfl ⟨sp', n', cap', sq, nq, cq, rfl, hT5'h.out, hK5'h.out, hN5'h.out, hS5'h.out, hc4'h.out, hle4'h.out, hlo5'h.out, hx4'h.out⟩
    simp [results, Tryd.results27, go_sem, z0, z1, z2, z3, anA]
set_option maxHeartbeats 4000000 in
theorem does_5 (B tb : Nat) (sp : Option Addr) (n cap : Nat) (ps ps' qs : Ps) (a : An) (six : Bool) (c : Cl) (w : World) (h : Tab w B tb sp n cap ps)
    (way : ∀ W, Tab W B tb sp n cap ps → Calls Tryd.prog 49 #[.pointer (some ⟨tb, 0, none⟩), .agg (clA c)] W (WayEndO six B tb sp ps' a qs W)) (ho : c.op = 5) :
    Calls Tryd.prog 27 #[.pointer (some ⟨tb, 0, none⟩), .agg (clA c)] w (DoesEnd six B tb sp ps' a qs w) := by
  obtain ⟨op, key, x, y⟩ := c
  obtain rfl : op = 5 := ho
  have H0 := ((Hs.nil w).new2 (clA ⟨5, key, x, y⟩) (anA ⟨0, 0, false⟩ none 0 0) 31 34)
  obtain ⟨W0, hW0⟩ : ∃ W0, W0 = ((w.alloc (.cells (clA ⟨5, key, x, y⟩) 31)).alloc (.cells (anA ⟨0, 0, false⟩ none 0 0) 34)) := ⟨_, rfl⟩
  rw [← hW0] at H0
  have H1 := (H0.new nilRow 88).set 0 rfl (wayRow tb)
  have htl := lt_of_heap h.tbl
  have hsl := h.spot
  have h'h := Lib.hid h
  have H0'h := Lib.hid H0
  have hW0'h := Lib.hid hW0
  have H1'h := Lib.hid H1
  have way'h := Lib.hid way
  have htl'h := Lib.hid htl
  have hsl'h := Lib.hid hsl
  clear h H0 hW0 H1 way htl hsl
  go_enter Tryd.func27, Tryd.ntmps27
  go_upto_region 1 with fail
  change Code.wp _ _ _ _ ((w.alloc (.cells (clA ⟨5, key, x, y⟩) 31)).alloc (.cells (anA ⟨0, 0, false⟩ none 0 0) 34))
  rw [← hW0'h.out]
  go_upto_region 2 with (refine wpList_store_row rfl _ _ _ rfl W0.heap.size (wayRow tb) rfl rfl 88 nilRow (World.alloc_heap_new _ _) infoWays7 rfl (wayRow_one tb) ?_)
  have H2 := H1'h.out
  clear H1'h
  change Code.wp _ _ _ _ ((W0.alloc (.cells nilRow 88)).setRow W0.heap.size (wayRow tb))
  have hW0l : w.heap.size + 1 < W0.heap.size := H0'h.out.lt _ (List.mem_cons_self ..)
  generalize World.setRow _ _ _ = W1 at H2 ⊢
  have x0 : W1.cell? ⟨w.heap.size, 0, none⟩ = some (.int .i64 5) := blk_cell (i := 0) H2.rows.2.2.1 rfl
  have x1 : W1.cell? ⟨w.heap.size, 1, none⟩ = some (.int .u64 (key : Int)) := blk_cell (i := 1) H2.rows.2.2.1 rfl
  have x2 : W1.cell? ⟨w.heap.size, 2, none⟩ = some (.int .u64 (x : Int)) := blk_cell (i := 2) H2.rows.2.2.1 rfl
  have x3 : W1.cell? ⟨w.heap.size, 3, none⟩ = some (.int .u64 (y : Int)) := blk_cell (i := 3) H2.rows.2.2.1 rfl
  have xf : W1.cell? ⟨W0.heap.size, 5, none⟩ = some (.func (.func 49) #[.pointer (some ⟨tb, 0, none⟩)] #[]) := blk_cell (i := 5) H2.rows.1 rfl
  have hT1 := h'h.out.below H2.old
  have way1 := way'h.out W1.drew (hT1.below (Below.drew (Below.refl _ _)))
  have hzl : w.heap.size + 1 < W1.heap.size := H2.lt _ (List.mem_cons_of_mem _ (List.mem_cons_self ..))
  have H2'h := Lib.hid H2
  have hT1'h := Lib.hid hT1
  have way1'h := Lib.hid way1
  have hzl'h := Lib.hid hzl
  have hW0l'h := Lib.hid hW0l
  clear H2 hT1 way1 hzl hW0l
  go_upto_region 4 with fail
  go_region_law (first | ((try go_simp); refine way1'h.out.mono ?_; rintro e w4 ⟨sp', n', cap', sq, nq, cq, rfl, hT4, hK4, hN4, hS4, hc4, hle4, hlo4, hx4⟩; have hz4 : w4.heap[w.heap.size + 1]? = some (.cells (anA ⟨0, 0, false⟩ none 0 0) 34 (0, 0)) := (hK4.block (w.heap.size + 1) hzl'h.out ⟨by have := htl'h.out; omega, fun e => by have := hsl'h.out _ e; omega⟩).trans (show W1.drew.heap[w.heap.size + 1]? = _ from H2'h.out.rows.2.1); have hst := run_storeCells_row (P := Tryd.prog) _ _ _ _ (anA a sq nq cq) hz4 rfl (anA_one _ _ _ _); have hsz4 : (anA a sq nq cq).size = 4 := rfl; have hz4'h := Lib.hid hz4; have hT4'h := Lib.hid hT4; have hK4'h := Lib.hid hK4; have hN4'h := Lib.hid hN4; have hS4'h := Lib.hid hS4; have hc4'h := Lib.hid hc4; have hle4'h := Lib.hid hle4; have hlo4'h := Lib.hid hlo4; have hx4'h := Lib.hid hx4; clear hz4 hT4 hK4 hN4 hS4 hc4 hle4 hlo4 hx4))
  all_goals
    have hdz : W1.drew.heap.size = W1.heap.size := rfl
    have hR := setRow_heap _ _ _ (anA a sq nq cq) _ _ hz4'h.out
    have hT5 := hT4'h.out.setRow (b := w.heap.size + 1) (by have := htl'h.out; omega) (hN4'h.out.ne (fun e => by have := hsl'h.out _ e; omega) hzl'h.out) (anA a sq nq cq)
    have hK5 := ((KeptT.of_below (tb := tb) (sp := sp) H2'h.out.old).trans (Kept.trans (Kept.drew _ _) hK4'h.out)).setRow (b := w.heap.size + 1) (by omega) (anA a sq nq cq)
    have hN5 : NewOr sp sp' w.heap.size := hN4'h.out.low (by have := hzl'h.out; omega)
    have hS5 : SlK (w4.setRow (w.heap.size + 1) (anA a sq nq cq)) 2 sq nq (prs qs) := hS4'h.out.keep fun b o hb he ho => (setRow_other _ _ _ _ (by rintro rfl; have := hlo4'h.out _ he; have := hzl'h.out; omega)).trans ho
    have hlo5 : ∀ b, sq.map (·.block) = some b → w.heap.size ≤ b := fun b e => by have := hlo4'h.out b e; have := hzl'h.out; omega
    clear hst hsz4 hdz
    generalize World.setRow _ _ _ = W5 at hR hT5 hK5 hS5 ⊢
    have hR'h := Lib.hid hR
    have hT5'h := Lib.hid hT5
    have hK5'h := Lib.hid hK5
    have hN5'h := Lib.hid hN5
    have hS5'h := Lib.hid hS5
    have hlo5'h := Lib.hid hlo5
    clear hR hT5 hK5 hN5 hS5 hlo5
    go_wp2
    have z0 := blk_cell (i := 0) hR'h.out rfl
    have z1 := blk_cell (i := 1) hR'h.out rfl
    have z2 := blk_cell (i := 2) hR'h.out rfl
    have z3 := blk_cell (i := 3) hR'h.out rfl
    refine bodyPost_ret (v := .tuple #[.agg (anA a sq nq cq), .bool true]) ?_ rfl ⟨sp', n', cap', sq, nq, cq, rfl, hT5'h.out, hK5'h.out, hN5'h.out, hS5'h.out, hc4'h.out, hle4'h.out, hlo5'h.out, hx4'h.out⟩
    simp [results, Tryd.results27, go_sem, z0, z1, z2, z3, anA]
set_option maxHeartbeats 4000000 in
theorem does_6 (B tb : Nat) (sp : Option Addr) (n cap : Nat) (ps ps' qs : Ps) (a : An) (six : Bool) (c : Cl) (w : World) (h : Tab w B tb sp n cap ps)
    (way : ∀ W, Tab W B tb sp n cap ps → Calls Tryd.prog 50 #[.pointer (some ⟨tb, 0, none⟩), .agg (clA c)] W (WayEndO six B tb sp ps' a qs W)) (ho : c.op = 6) :
    Calls Tryd.prog 27 #[.pointer (some ⟨tb, 0, none⟩), .agg (clA c)] w (DoesEnd six B tb sp ps' a qs w) := by
  obtain ⟨op, key, x, y⟩ := c
  obtain rfl : op = 6 := ho
  have H0 := ((Hs.nil w).new2 (clA ⟨6, key, x, y⟩) (anA ⟨0, 0, false⟩ none 0 0) 31 34)
  obtain ⟨W0, hW0⟩ : ∃ W0, W0 = ((w.alloc (.cells (clA ⟨6, key, x, y⟩) 31)).alloc (.cells (anA ⟨0, 0, false⟩ none 0 0) 34)) := ⟨_, rfl⟩
  rw [← hW0] at H0
  have H1 := (H0.new nilRow 88).set 0 rfl (wayRow tb)
  have htl := lt_of_heap h.tbl
  have hsl := h.spot
  have h'h := Lib.hid h
  have H0'h := Lib.hid H0
  have hW0'h := Lib.hid hW0
  have H1'h := Lib.hid H1
  have way'h := Lib.hid way
  have htl'h := Lib.hid htl
  have hsl'h := Lib.hid hsl
  clear h H0 hW0 H1 way htl hsl
  go_enter Tryd.func27, Tryd.ntmps27
  go_upto_region 1 with fail
  change Code.wp _ _ _ _ ((w.alloc (.cells (clA ⟨6, key, x, y⟩) 31)).alloc (.cells (anA ⟨0, 0, false⟩ none 0 0) 34))
  rw [← hW0'h.out]
  go_upto_region 2 with (refine wpList_store_row rfl _ _ _ rfl W0.heap.size (wayRow tb) rfl rfl 88 nilRow (World.alloc_heap_new _ _) infoWays7 rfl (wayRow_one tb) ?_)
  have H2 := H1'h.out
  clear H1'h
  change Code.wp _ _ _ _ ((W0.alloc (.cells nilRow 88)).setRow W0.heap.size (wayRow tb))
  have hW0l : w.heap.size + 1 < W0.heap.size := H0'h.out.lt _ (List.mem_cons_self ..)
  generalize World.setRow _ _ _ = W1 at H2 ⊢
  have x0 : W1.cell? ⟨w.heap.size, 0, none⟩ = some (.int .i64 6) := blk_cell (i := 0) H2.rows.2.2.1 rfl
  have x1 : W1.cell? ⟨w.heap.size, 1, none⟩ = some (.int .u64 (key : Int)) := blk_cell (i := 1) H2.rows.2.2.1 rfl
  have x2 : W1.cell? ⟨w.heap.size, 2, none⟩ = some (.int .u64 (x : Int)) := blk_cell (i := 2) H2.rows.2.2.1 rfl
  have x3 : W1.cell? ⟨w.heap.size, 3, none⟩ = some (.int .u64 (y : Int)) := blk_cell (i := 3) H2.rows.2.2.1 rfl
  have xf : W1.cell? ⟨W0.heap.size, 6, none⟩ = some (.func (.func 50) #[.pointer (some ⟨tb, 0, none⟩)] #[]) := blk_cell (i := 6) H2.rows.1 rfl
  have hT1 := h'h.out.below H2.old
  have way1 := way'h.out W1.drew (hT1.below (Below.drew (Below.refl _ _)))
  have hzl : w.heap.size + 1 < W1.heap.size := H2.lt _ (List.mem_cons_of_mem _ (List.mem_cons_self ..))
  have H2'h := Lib.hid H2
  have hT1'h := Lib.hid hT1
  have way1'h := Lib.hid way1
  have hzl'h := Lib.hid hzl
  have hW0l'h := Lib.hid hW0l
  clear H2 hT1 way1 hzl hW0l
  go_upto_region 4 with fail
  go_region_law (first | ((try go_simp); refine way1'h.out.mono ?_; rintro e w4 ⟨sp', n', cap', sq, nq, cq, rfl, hT4, hK4, hN4, hS4, hc4, hle4, hlo4, hx4⟩; have hz4 : w4.heap[w.heap.size + 1]? = some (.cells (anA ⟨0, 0, false⟩ none 0 0) 34 (0, 0)) := (hK4.block (w.heap.size + 1) hzl'h.out ⟨by have := htl'h.out; omega, fun e => by have := hsl'h.out _ e; omega⟩).trans (show W1.drew.heap[w.heap.size + 1]? = _ from H2'h.out.rows.2.1); have hst := run_storeCells_row (P := Tryd.prog) _ _ _ _ (anA a sq nq cq) hz4 rfl (anA_one _ _ _ _); have hsz4 : (anA a sq nq cq).size = 4 := rfl; have hz4'h := Lib.hid hz4; have hT4'h := Lib.hid hT4; have hK4'h := Lib.hid hK4; have hN4'h := Lib.hid hN4; have hS4'h := Lib.hid hS4; have hc4'h := Lib.hid hc4; have hle4'h := Lib.hid hle4; have hlo4'h := Lib.hid hlo4; have hx4'h := Lib.hid hx4; clear hz4 hT4 hK4 hN4 hS4 hc4 hle4 hlo4 hx4))
  all_goals
    have hdz : W1.drew.heap.size = W1.heap.size := rfl
    have hR := setRow_heap _ _ _ (anA a sq nq cq) _ _ hz4'h.out
    have hT5 := hT4'h.out.setRow (b := w.heap.size + 1) (by have := htl'h.out; omega) (hN4'h.out.ne (fun e => by have := hsl'h.out _ e; omega) hzl'h.out) (anA a sq nq cq)
    have hK5 := ((KeptT.of_below (tb := tb) (sp := sp) H2'h.out.old).trans (Kept.trans (Kept.drew _ _) hK4'h.out)).setRow (b := w.heap.size + 1) (by omega) (anA a sq nq cq)
    have hN5 : NewOr sp sp' w.heap.size := hN4'h.out.low (by have := hzl'h.out; omega)
    have hS5 : SlK (w4.setRow (w.heap.size + 1) (anA a sq nq cq)) 2 sq nq (prs qs) := hS4'h.out.keep fun b o hb he ho => (setRow_other _ _ _ _ (by rintro rfl; have := hlo4'h.out _ he; have := hzl'h.out; omega)).trans ho
    have hlo5 : ∀ b, sq.map (·.block) = some b → w.heap.size ≤ b := fun b e => by have := hlo4'h.out b e; have := hzl'h.out; omega
    clear hst hsz4 hdz
    generalize World.setRow _ _ _ = W5 at hR hT5 hK5 hS5 ⊢
    have hR'h := Lib.hid hR
    have hT5'h := Lib.hid hT5
    have hK5'h := Lib.hid hK5
    have hN5'h := Lib.hid hN5
    have hS5'h := Lib.hid hS5
    have hlo5'h := Lib.hid hlo5
    clear hR hT5 hK5 hN5 hS5 hlo5
    go_wp2
    have z0 := blk_cell (i := 0) hR'h.out rfl
    have z1 := blk_cell (i := 1) hR'h.out rfl
    have z2 := blk_cell (i := 2) hR'h.out rfl
    have z3 := blk_cell (i := 3) hR'h.out rfl
    refine bodyPost_ret (v := .tuple #[.agg (anA a sq nq cq), .bool true]) ?_ rfl ⟨sp', n', cap', sq, nq, cq, rfl, hT5'h.out, hK5'h.out, hN5'h.out, hS5'h.out, hc4'h.out, hle4'h.out, hlo5'h.out, hx4'h.out⟩
    simp [results, Tryd.results27, go_sem, z0, z1, z2, z3, anA]
set_option maxHeartbeats 4000000 in
theorem does_7 (B tb : Nat) (sp : Option Addr) (n cap : Nat) (ps ps' qs : Ps) (a : An) (six : Bool) (c : Cl) (w : World) (h : Tab w B tb sp n cap ps)
    (way : ∀ W, Tab W B tb sp n cap ps → Calls Tryd.prog 51 #[.pointer (some ⟨tb, 0, none⟩), .agg (clA c)] W (WayEndO six B tb sp ps' a qs W)) (ho : c.op = 7) :
    Calls Tryd.prog 27 #[.pointer (some ⟨tb, 0, none⟩), .agg (clA c)] w (DoesEnd six B tb sp ps' a qs w) := by
  obtain ⟨op, key, x, y⟩ := c
  obtain rfl : op = 7 := ho
  have H0 := ((Hs.nil w).new2 (clA ⟨7, key, x, y⟩) (anA ⟨0, 0, false⟩ none 0 0) 31 34)
  obtain ⟨W0, hW0⟩ : ∃ W0, W0 = ((w.alloc (.cells (clA ⟨7, key, x, y⟩) 31)).alloc (.cells (anA ⟨0, 0, false⟩ none 0 0) 34)) := ⟨_, rfl⟩
  rw [← hW0] at H0
  have H1 := (H0.new nilRow 88).set 0 rfl (wayRow tb)
  have htl := lt_of_heap h.tbl
  have hsl := h.spot
  have h'h := Lib.hid h
  have H0'h := Lib.hid H0
  have hW0'h := Lib.hid hW0
  have H1'h := Lib.hid H1
  have way'h := Lib.hid way
  have htl'h := Lib.hid htl
  have hsl'h := Lib.hid hsl
  clear h H0 hW0 H1 way htl hsl
  go_enter Tryd.func27, Tryd.ntmps27
  go_upto_region 1 with fail
  change Code.wp _ _ _ _ ((w.alloc (.cells (clA ⟨7, key, x, y⟩) 31)).alloc (.cells (anA ⟨0, 0, false⟩ none 0 0) 34))
  rw [← hW0'h.out]
  go_upto_region 2 with (refine wpList_store_row rfl _ _ _ rfl W0.heap.size (wayRow tb) rfl rfl 88 nilRow (World.alloc_heap_new _ _) infoWays7 rfl (wayRow_one tb) ?_)
  have H2 := H1'h.out
  clear H1'h
  change Code.wp _ _ _ _ ((W0.alloc (.cells nilRow 88)).setRow W0.heap.size (wayRow tb))
  have hW0l : w.heap.size + 1 < W0.heap.size := H0'h.out.lt _ (List.mem_cons_self ..)
  generalize World.setRow _ _ _ = W1 at H2 ⊢
  have x0 : W1.cell? ⟨w.heap.size, 0, none⟩ = some (.int .i64 7) := blk_cell (i := 0) H2.rows.2.2.1 rfl
  have x1 : W1.cell? ⟨w.heap.size, 1, none⟩ = some (.int .u64 (key : Int)) := blk_cell (i := 1) H2.rows.2.2.1 rfl
  have x2 : W1.cell? ⟨w.heap.size, 2, none⟩ = some (.int .u64 (x : Int)) := blk_cell (i := 2) H2.rows.2.2.1 rfl
  have x3 : W1.cell? ⟨w.heap.size, 3, none⟩ = some (.int .u64 (y : Int)) := blk_cell (i := 3) H2.rows.2.2.1 rfl
  have xf : W1.cell? ⟨W0.heap.size, 7, none⟩ = some (.func (.func 51) #[.pointer (some ⟨tb, 0, none⟩)] #[]) := blk_cell (i := 7) H2.rows.1 rfl
  have hT1 := h'h.out.below H2.old
  have way1 := way'h.out W1.drew (hT1.below (Below.drew (Below.refl _ _)))
  have hzl : w.heap.size + 1 < W1.heap.size := H2.lt _ (List.mem_cons_of_mem _ (List.mem_cons_self ..))
  have H2'h := Lib.hid H2
  have hT1'h := Lib.hid hT1
  have way1'h := Lib.hid way1
  have hzl'h := Lib.hid hzl
  have hW0l'h := Lib.hid hW0l
  clear H2 hT1 way1 hzl hW0l
  go_upto_region 4 with fail
  go_region_law (first | ((try go_simp); refine way1'h.out.mono ?_; rintro e w4 ⟨sp', n', cap', sq, nq, cq, rfl, hT4, hK4, hN4, hS4, hc4, hle4, hlo4, hx4⟩; have hz4 : w4.heap[w.heap.size + 1]? = some (.cells (anA ⟨0, 0, false⟩ none 0 0) 34 (0, 0)) := (hK4.block (w.heap.size + 1) hzl'h.out ⟨by have := htl'h.out; omega, fun e => by have := hsl'h.out _ e; omega⟩).trans (show W1.drew.heap[w.heap.size + 1]? = _ from H2'h.out.rows.2.1); have hst := run_storeCells_row (P := Tryd.prog) _ _ _ _ (anA a sq nq cq) hz4 rfl (anA_one _ _ _ _); have hsz4 : (anA a sq nq cq).size = 4 := rfl; have hz4'h := Lib.hid hz4; have hT4'h := Lib.hid hT4; have hK4'h := Lib.hid hK4; have hN4'h := Lib.hid hN4; have hS4'h := Lib.hid hS4; have hc4'h := Lib.hid hc4; have hle4'h := Lib.hid hle4; have hlo4'h := Lib.hid hlo4; have hx4'h := Lib.hid hx4; clear hz4 hT4 hK4 hN4 hS4 hc4 hle4 hlo4 hx4))
  all_goals
    have hdz : W1.drew.heap.size = W1.heap.size := rfl
    have hR := setRow_heap _ _ _ (anA a sq nq cq) _ _ hz4'h.out
    have hT5 := hT4'h.out.setRow (b := w.heap.size + 1) (by have := htl'h.out; omega) (hN4'h.out.ne (fun e => by have := hsl'h.out _ e; omega) hzl'h.out) (anA a sq nq cq)
    have hK5 := ((KeptT.of_below (tb := tb) (sp := sp) H2'h.out.old).trans (Kept.trans (Kept.drew _ _) hK4'h.out)).setRow (b := w.heap.size + 1) (by omega) (anA a sq nq cq)
    have hN5 : NewOr sp sp' w.heap.size := hN4'h.out.low (by have := hzl'h.out; omega)
    have hS5 : SlK (w4.setRow (w.heap.size + 1) (anA a sq nq cq)) 2 sq nq (prs qs) := hS4'h.out.keep fun b o hb he ho => (setRow_other _ _ _ _ (by rintro rfl; have := hlo4'h.out _ he; have := hzl'h.out; omega)).trans ho
    have hlo5 : ∀ b, sq.map (·.block) = some b → w.heap.size ≤ b := fun b e => by have := hlo4'h.out b e; have := hzl'h.out; omega
    clear hst hsz4 hdz
    generalize World.setRow _ _ _ = W5 at hR hT5 hK5 hS5 ⊢
    have hR'h := Lib.hid hR
    have hT5'h := Lib.hid hT5
    have hK5'h := Lib.hid hK5
    have hN5'h := Lib.hid hN5
    have hS5'h := Lib.hid hS5
    have hlo5'h := Lib.hid hlo5
    clear hR hT5 hK5 hN5 hS5 hlo5
    go_wp2
    have z0 := blk_cell (i := 0) hR'h.out rfl
    have z1 := blk_cell (i := 1) hR'h.out rfl
    have z2 := blk_cell (i := 2) hR'h.out rfl
    have z3 := blk_cell (i := 3) hR'h.out rfl
    refine bodyPost_ret (v := .tuple #[.agg (anA a sq nq cq), .bool true]) ?_ rfl ⟨sp', n', cap', sq, nq, cq, rfl, hT5'h.out, hK5'h.out, hN5'h.out, hS5'h.out, hc4'h.out, hle4'h.out, hlo5'h.out, hx4'h.out⟩
    simp [results, Tryd.results27, go_sem, z0, z1, z2, z3, anA]
end Go.Proofs.YtogeohjeabbmaaaDoor
