/-
  Package model: what is no map, or of no Op, is not done; how many keys come.
-/
import Derived.Test.YtogeohjeabbmaaaDoorModelP
set_option linter.unusedSimpArgs false
set_option linter.unusedVariables false
set_option maxRecDepth 100000
namespace Go.Proofs.YtogeohjeabbmaaaDoor
open Go.RowKit

theorem info_map : (Tryd.prog.info? 28).map (·.size) = some 1 := by kernel_rfl
theorem map_one (sp : Option Addr) (n cap : Nat) : (#[.slice sp n cap] : Array Value).all (·.oneCell') = true := by kernel_rfl
set_option maxHeartbeats 1000000 in
theorem mDo_map (sp : Option Addr) (n cap : Nat) (ps : Ps) (c : Cl) (w : World) (h : SlK w 2 sp n (prs ps)) (hup : upB ps = false) :
    Calls Tryd.prog 8 #[.agg #[.slice sp n cap], .agg (clA c)] w fun e w' => e = .returned (.tuple #[.agg #[.slice none 0 0], .agg (anA ⟨0, 0, false⟩ none 0 0), .int .i64 340]) ∧ Below w.heap.size w w' := by
  have H0 := (((Hs.nil w).new2 #[.slice sp n cap] (clA c) 28 31).new #[.slice none 0 0] 28).new (anA ⟨0, 0, false⟩ none 0 0) 34
  simp only [World.size_alloc] at H0
  obtain ⟨W0, hW0⟩ : ∃ W0, W0 = ((((w.alloc (.cells #[.slice sp n cap] 28)).alloc (.cells (clA c) 31)).alloc (.cells #[.slice none 0 0] 28)).alloc (.cells (anA ⟨0, 0, false⟩ none 0 0) 34)) := ⟨_, rfl⟩
  rw [← hW0] at H0
  have C := mcheck_no sp n cap ps W0 (h.below H0.old) hup
  have h'h := Lib.hid h
  have hup'h := Lib.hid hup
  have H0'h := Lib.hid H0
  have hW0'h := Lib.hid hW0
  have C'h := Lib.hid C
  clear h hup H0 hW0 C
  go_enter Tryd.func8, Tryd.ntmps8
  go_upto_region 1 with fail
  change Code.wp _ _ _ _ ((((w.alloc (.cells #[.slice sp n cap] 28)).alloc (.cells (clA c) 31)).alloc (.cells #[.slice none 0 0] 28)).alloc (.cells (anA ⟨0, 0, false⟩ none 0 0) 34))
  rw [← hW0'h.out]
  have x0 : W0.cell? ⟨w.heap.size, 0, none⟩ = some (.slice sp n cap) := blk_cell (i := 0) H0'h.out.rows.2.2.2.1 rfl
  go_upto_region 3 with (go_at_call 25; refine C'h.out.mono ?_; rintro e w2 ⟨rfl, hb2⟩)
  clear x0
  have H2 := H0'h.out.next hb2
  have H3 := H2.set 1 rfl #[.slice none 0 0]
  have H2'h := Lib.hid H2
  have H3'h := Lib.hid H3
  have hb2'h := Lib.hid hb2
  clear H2 H3 hb2
  go_wp2_with (first | (refine wpList_store_row rfl _ _ _ rfl (w.heap.size + 1 + 1) #[.slice none 0 0] rfl rfl 28 _ H2'h.out.rows.2.1 info_map rfl (map_one _ _ _) ?_) | (refine wpList_store_row rfl _ _ _ rfl (w.heap.size + 1 + 1 + 1) (anA ⟨0, 0, false⟩ none 0 0) rfl rfl 34 _ H3'h.out.rows.1 info_an rfl (anA_one _ _ _ _) ?_))
  have H7 := (H2'h.out.set 1 rfl #[.slice none 0 0]).set 0 rfl (anA ⟨0, 0, false⟩ none 0 0)
  generalize World.setRow _ _ _ = W7 at H7 ⊢
  have e0 : W7.cell? ⟨w.heap.size + 1 + 1 + 1, 0, none⟩ = some (.int .i64 0) := blk_cell (i := 0) H7.rows.1 rfl
  have e1 : W7.cell? ⟨w.heap.size + 1 + 1 + 1, 1, none⟩ = some (.int .u64 0) := blk_cell (i := 1) H7.rows.1 rfl
  have e2 : W7.cell? ⟨w.heap.size + 1 + 1 + 1, 2, none⟩ = some (.bool false) := blk_cell (i := 2) H7.rows.1 rfl
  have e3 : W7.cell? ⟨w.heap.size + 1 + 1 + 1, 3, none⟩ = some (.slice none 0 0) := blk_cell (i := 3) H7.rows.1 rfl
  have e4 : W7.cell? ⟨w.heap.size + 1 + 1, 0, none⟩ = some (.slice none 0 0) := blk_cell (i := 0) H7.rows.2.1 rfl
  refine bodyPost_ret (v := .tuple #[.agg #[.slice none 0 0], .agg (anA ⟨0, 0, false⟩ none 0 0), .int .i64 340]) ?_ rfl ⟨rfl, H7.old⟩
  simp [results, Tryd.results8, go_sem, e0, e1, e2, e3, e4, anA]
set_option maxHeartbeats 1000000 in
theorem mDo_op (sp : Option Addr) (n cap : Nat) (ps : Ps) (c : Cl) (w : World) (h : SlK w 2 sp n (prs ps)) (hup : upB ps = true) (hn : n ≤ 4096) (ho : isOp c = false) :
    Calls Tryd.prog 8 #[.agg #[.slice sp n cap], .agg (clA c)] w fun e w' => e = .returned (.tuple #[.agg #[.slice none 0 0], .agg (anA ⟨0, 0, false⟩ none 0 0), .int .i64 341]) ∧ Below w.heap.size w w' := by
  have ho' : ¬ (1 ≤ c.op ∧ c.op ≤ 7) := by unfold isOp at ho; simpa using ho
  have H0 := (((Hs.nil w).new2 #[.slice sp n cap] (clA c) 28 31).new #[.slice none 0 0] 28).new (anA ⟨0, 0, false⟩ none 0 0) 34
  simp only [World.size_alloc] at H0
  obtain ⟨W0, hW0⟩ : ∃ W0, W0 = ((((w.alloc (.cells #[.slice sp n cap] 28)).alloc (.cells (clA c) 31)).alloc (.cells #[.slice none 0 0] 28)).alloc (.cells (anA ⟨0, 0, false⟩ none 0 0) 34)) := ⟨_, rfl⟩
  rw [← hW0] at H0
  have C := mcheck_yes sp n cap ps W0 (h.below H0.old) hup
  have h'h := Lib.hid h
  have hup'h := Lib.hid hup
  have H0'h := Lib.hid H0
  have hW0'h := Lib.hid hW0
  have C'h := Lib.hid C
  clear h hup H0 hW0 C
  go_enter Tryd.func8, Tryd.ntmps8
  go_upto_region 1 with fail
  change Code.wp _ _ _ _ ((((w.alloc (.cells #[.slice sp n cap] 28)).alloc (.cells (clA c) 31)).alloc (.cells #[.slice none 0 0] 28)).alloc (.cells (anA ⟨0, 0, false⟩ none 0 0) 34))
  rw [← hW0'h.out]
  have x0 : W0.cell? ⟨w.heap.size, 0, none⟩ = some (.slice sp n cap) := blk_cell (i := 0) H0'h.out.rows.2.2.2.1 rfl
  go_upto_region 4 with (go_at_call 25; refine C'h.out.mono ?_; rintro e w2 ⟨rfl, hb2⟩)
  clear x0
  have H2 := H0'h.out.next hb2
  have O := mof_any sp n cap ps w2 (h'h.out.below H2.old) hn
  have x0 : w2.cell? ⟨w.heap.size, 0, none⟩ = some (.slice sp n cap) := blk_cell (i := 0) H2.rows.2.2.2.1 rfl
  have H2'h := Lib.hid H2
  have O'h := Lib.hid O
  have hb2'h := Lib.hid hb2
  clear H2 O hb2
  go_upto_region 5 with (go_at_call 26; refine O'h.out.mono ?_; rintro e w3 ⟨tb, g, rfl, hb3, hT3⟩)
  clear x0
  have H3 := H2'h.out.next hb3
  have D := does_no w2.heap.size tb _ n n ps c w3 hT3 ho'
  have H3'h := Lib.hid H3
  have D'h := Lib.hid D
  have hb3'h := Lib.hid hb3
  have hT3'h := Lib.hid hT3
  have ho''h := Lib.hid ho'
  clear H3 D hb3 hT3 ho'
  go_upto_region 7 with (first | (refine wpList_load_row rfl _ _ rfl (w.heap.size + 1) rfl 31 _ (0, 0) _ H3'h.out.rows.2.2.1 Tryd.underlying31 rfl info_cl ?_) | (go_at_call 27; refine D'h.out.mono ?_; rintro e w4 ⟨rfl, hb4⟩; have hb4'h := Lib.hid hb4; clear hb4) | (refine wpList_store_row rfl _ _ _ rfl w4.heap.size (anA ⟨0, 0, false⟩ none 0 0) rfl rfl 34 _ (World.alloc_heap_new _ _) info_an rfl (anA_one _ _ _ _) ?_))
  change Code.wp _ _ _ _ ((w4.alloc (.cells (anA ⟨0, 0, false⟩ none 0 0) 34)).setRow w4.heap.size (anA ⟨0, 0, false⟩ none 0 0))
  have H5 := (((H3'h.out.next hb4'h.out).new (anA ⟨0, 0, false⟩ none 0 0) 34).set 0 rfl (anA ⟨0, 0, false⟩ none 0 0)).tail
  generalize World.setRow _ _ _ = W5 at H5 ⊢
  have H6 := H5.set 1 rfl #[.slice none 0 0]
  have H5'h := Lib.hid H5
  have H6'h := Lib.hid H6
  clear H5 H6
  go_wp2_with (first | (refine wpList_store_row rfl _ _ _ rfl (w.heap.size + 1 + 1) #[.slice none 0 0] rfl rfl 28 _ H5'h.out.rows.2.1 info_map rfl (map_one _ _ _) ?_) | (refine wpList_store_row rfl _ _ _ rfl (w.heap.size + 1 + 1 + 1) (anA ⟨0, 0, false⟩ none 0 0) rfl rfl 34 _ H6'h.out.rows.1 info_an rfl (anA_one _ _ _ _) ?_))
  have H7 := (H5'h.out.set 1 rfl #[.slice none 0 0]).set 0 rfl (anA ⟨0, 0, false⟩ none 0 0)
  generalize World.setRow _ _ _ = W7 at H7 ⊢
  have e0 : W7.cell? ⟨w.heap.size + 1 + 1 + 1, 0, none⟩ = some (.int .i64 0) := blk_cell (i := 0) H7.rows.1 rfl
  have e1 : W7.cell? ⟨w.heap.size + 1 + 1 + 1, 1, none⟩ = some (.int .u64 0) := blk_cell (i := 1) H7.rows.1 rfl
  have e2 : W7.cell? ⟨w.heap.size + 1 + 1 + 1, 2, none⟩ = some (.bool false) := blk_cell (i := 2) H7.rows.1 rfl
  have e3 : W7.cell? ⟨w.heap.size + 1 + 1 + 1, 3, none⟩ = some (.slice none 0 0) := blk_cell (i := 3) H7.rows.1 rfl
  have e4 : W7.cell? ⟨w.heap.size + 1 + 1, 0, none⟩ = some (.slice none 0 0) := blk_cell (i := 0) H7.rows.2.1 rfl
  refine bodyPost_ret (v := .tuple #[.agg #[.slice none 0 0], .agg (anA ⟨0, 0, false⟩ none 0 0), .int .i64 341]) ?_ rfl ⟨rfl, H7.old⟩
  simp [results, Tryd.results8, go_sem, e0, e1, e2, e3, e4, anA]
end Go.Proofs.YtogeohjeabbmaaaDoor
