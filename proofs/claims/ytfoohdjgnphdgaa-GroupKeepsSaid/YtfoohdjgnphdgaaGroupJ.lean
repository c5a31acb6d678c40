/-
  Package group: Set, Drop.
-/
import Derived.Test.YtfoohdjgnphdgaaGroupI
set_option linter.unusedSimpArgs false
set_option linter.unusedVariables false
set_option maxRecDepth 100000
namespace Go.Proofs.Ytfoohdjgnphdgaa
open Go.RowKit

def dropZ (g : Gp) (key h : Nat) : Nat := findE g key h
def dropRG (g : Gp) (key h : Nat) : Gp := if findE g key h = 0 then dropTo g (laneG g key h) else gpZ
theorem find_zero {g : Gp} {key h : Nat} (e : findE g key h = 0) : rightG g = true ∧ h ≤ 127 ∧ laneG g key h < 8 ∧ byteAt g.c (laneG g key h) = h ∧ g.k (laneG g key h) = key ∧ placeG g key h < (looksG g h).length ∧ findL g key h = laneG g key h ∧ findN g key h = placeG g key h + 1 := by
  have h0 : looksE g h = 0 := by
    unfold findE at e
    by_cases h1 : looksE g h = 0
    · exact h1
    · rw [if_neg h1] at e; exact absurd e h1
  have hf : foundG g key h = true := by
    unfold findE at e
    rw [if_pos h0] at e
    by_cases h1 : foundG g key h = true
    · exact h1
    · rw [if_neg h1] at e; omega
  have hr : rightG g = true := by
    unfold looksE at h0
    by_cases h1 : rightG g = true
    · exact h1
    · rw [if_neg h1] at h0; omega
  have hh : h ≤ 127 := by
    unfold looksE at h0
    rw [if_pos hr] at h0
    by_cases h1 : h ≤ 127
    · exact h1
    · rw [if_neg h1] at h0; omega
  have hp : placeG g key h < (looksG g h).length := by unfold foundG at hf; simpa using hf
  have hm := nthN_mem hp
  have hx : (looksG g h).findIdx (fun i => g.k i == key) < (looksG g h).length := hp
  have hk := List.findIdx_getElem (w := hx)
  rw [nthN_eq hx] at hk
  unfold looksG at hm
  rw [List.mem_filter] at hm
  refine ⟨hr, hh, List.mem_range.1 hm.1, beq_iff_eq.1 hm.2, beq_iff_eq.1 hk, hp, by unfold findL; rw [if_pos e], by unfold findN; rw [if_pos e]⟩
theorem drop_any (g : Gp) (key h : Nat) (w : World) (hg : GpOk g) (hk : key < 2 ^ 64) (hh : h < 256) :
    Calls Try.prog 28 #[.agg (gpA g), .int .u64 key, .int .u8 h] w fun e w' => e = .returned (.tuple #[.agg (gpA (dropRG g key h)), .int .i64 (findL g key h), .int .i64 (findE g key h)]) ∧ Below w.heap.size w w' := by
  have F := fun w => find_any g key h w hg hk hh
  obtain ⟨W, hW⟩ : ∃ W, W = (w.alloc (.cells (gpA g) 25)).alloc (.cells (gpA gpZ) 25) := ⟨_, rfl⟩
  have hO := (Hs.nil w).new2 (gpA g) (gpA gpZ) 25 25
  rw [← hW] at hO
  by_cases h0 : findE g key h = 0
  · obtain ⟨hr, h127, hl8, hbt, hky, hp, zL, zN⟩ := find_zero h0
    have zG : dropRG g key h = dropTo g (laneG g key h) := by unfold dropRG; rw [if_pos h0]
    have hrw := rightG_word hr
    have hfa : fullAt g.c (laneG g key h) = true := by unfold fullAt; simp; omega
    have heE : eraseE g.c (laneG g key h : Int) = 0 := by
      unfold eraseE
      rw [if_neg (by simp; omega), Int.toNat_natCast, if_neg (by simp [hfa])]
    have E := fun w => xerase_any g.c (laneG g key h : Int) w hg.c
    have e1 : eraseW' g.c (laneG g key h : Int) = (dropTo g (laneG g key h)).c := by
      unfold eraseW'
      rw [if_pos ⟨hrw, heE⟩, Int.toNat_natCast]; rfl
    have e2 : eraseZ g.c (laneG g key h : Int) = 0 := by unfold eraseZ; rw [if_pos hrw, heE]
    rw [e1, e2] at E
    rw [h0, zL] at F
    rw [zG, h0, zL]
    obtain ⟨y, hy⟩ : ∃ y, y = (dropTo g (laneG g key h)).c := ⟨_, rfl⟩
    rw [← hy] at E
    have hgy : ({ g with c := y } : Gp) = dropTo g (laneG g key h) := by rw [hy]; rfl
    generalize laneG g key h = ln at *
    generalize findN g key h = zn at *
    have F'h := Lib.hid F
    have hO'h := Lib.hid hO
    have h0'h := Lib.hid h0
    have hr'h := Lib.hid hr
    have h127'h := Lib.hid h127
    have hl8'h := Lib.hid hl8
    have hbt'h := Lib.hid hbt
    have hky'h := Lib.hid hky
    have hp'h := Lib.hid hp
    have zL'h := Lib.hid zL
    have zN'h := Lib.hid zN
    have zG'h := Lib.hid zG
    have hrw'h := Lib.hid hrw
    have hfa'h := Lib.hid hfa
    have heE'h := Lib.hid heE
    have E'h := Lib.hid E
    have e1'h := Lib.hid e1
    have e2'h := Lib.hid e2
    have hy'h := Lib.hid hy
    have hgy'h := Lib.hid hgy
    have hg'h := Lib.hid hg
    have hk'h := Lib.hid hk
    have hh'h := Lib.hid hh
    clear F hO h0 hr h127 hl8 hbt hky hp zL zN zG hrw hfa heE E e1 e2 hy hgy hg hk hh
    go_enter Try.func28, Try.ntmps28
    go_upto_region 1 with fail
    change Code.wp _ _ _ _ ((w.alloc (.cells (gpA g) 25)).alloc (.cells (gpA gpZ) 25))
    rw [← hW]
    clear hW
    go_wp2_with (first | (refine wpList_load_row rfl _ _ rfl w.heap.size rfl 25 (gpA g) (0, 0) _ hO'h.out.rows.2.1 Try.underlying25 rfl infoGp ?_) | (go_at_call 21; refine (F'h.out _).mono ?_; rintro e w2 ⟨rfl, hb2⟩; have hO2 := hO'h.out.next hb2; have c2 := gp_ctrl hO2.rows.2.1; have hO2'h := Lib.hid hO2; clear hO2 hb2) | (go_at_call 54; refine (E'h.out _).mono ?_; rintro e w3 ⟨rfl, hb3⟩; clear c2; have hO3 := hO2'h.out.next hb3; have c3 := gp_ctrl hO3.rows.2.1; have f3 := blk_free 0 hO3.rows.2.1; have hO4 := hO3.put 1 rfl 0 (.int .u64 y); have hO4'h := Lib.hid hO4; clear hO3 hb3 hO4) | (refine wpList_load_row rfl _ _ rfl w.heap.size rfl 25 (gpA (dropTo g ln)) (0, 0) _ (by rw [← hgy'h.out, ← gpA_setC]; exact hO4'h.out.rows.2.1) Try.underlying25 rfl infoGp ?_) | (refine wpList_store_row rfl _ _ _ rfl (w.heap.size + 1) (gpA (dropTo g ln)) rfl rfl 25 _ hO4'h.out.rows.1 infoGp rfl (gpA_one _) ?_))
    have hO5 := hO4'h.out.set 0 rfl (gpA (dropTo g ln))
    change bodyPost _ _ _ _ _ ((w3.setCell ⟨w.heap.size, 0, none⟩ (.int .u64 y)).setRow (w.heap.size + 1) (gpA (dropTo g ln)))
    generalize World.setRow _ _ _ = W5 at hO5 ⊢
    exact bodyPost_ret (results_row_tmp2 rfl _ _ (w.heap.size + 1) 25 (gpA (dropTo g ln)) (0, 0) _ rfl hO5.rows.1 Try.underlying25 rfl infoGp) rfl ⟨rfl, hO5.old⟩
  · have zG : dropRG g key h = gpZ := by unfold dropRG; rw [if_neg h0]
    have zL : findL g key h = 0 := by unfold findL; rw [if_neg h0]
    have zN : findN g key h = 0 := by unfold findN; rw [if_neg h0]
    have hz : ((findE g key h : Int) != 0) = true := by simp; omega
    rw [zG]
    rw [zL] at F ⊢
    rw [zN] at F
    generalize findE g key h = z at *
    have F'h := Lib.hid F
    have hO'h := Lib.hid hO
    have h0'h := Lib.hid h0
    have zL'h := Lib.hid zL
    have zN'h := Lib.hid zN
    have zG'h := Lib.hid zG
    have hg'h := Lib.hid hg
    have hk'h := Lib.hid hk
    have hh'h := Lib.hid hh
    clear F hO h0 zL zN zG hg hk hh
    go_enter Try.func28, Try.ntmps28
    go_upto_region 1 with fail
    change Code.wp _ _ _ _ ((w.alloc (.cells (gpA g) 25)).alloc (.cells (gpA gpZ) 25))
    rw [← hW]
    clear hW
    go_wp2_with (first | (refine wpList_load_row rfl _ _ rfl w.heap.size rfl 25 (gpA g) (0, 0) _ hO'h.out.rows.2.1 Try.underlying25 rfl infoGp ?_) | (go_at_call 21; refine (F'h.out _).mono ?_; rintro e w2 ⟨rfl, hb2⟩; have hO2 := hO'h.out.next hb2; have hO2'h := Lib.hid hO2; clear hO2 hb2) | (refine wpList_store_row rfl _ _ _ rfl (w.heap.size + 1) (gpA gpZ) rfl rfl 25 _ hO2'h.out.rows.1 infoGp rfl (gpA_one _) ?_))
    have hO5 := hO2'h.out.set 0 rfl (gpA gpZ)
    change bodyPost _ _ _ _ _ (w2.setRow (w.heap.size + 1) (gpA gpZ))
    generalize World.setRow _ _ _ = W5 at hO5 ⊢
    exact bodyPost_ret (results_row_tmp2 rfl _ _ (w.heap.size + 1) 25 (gpA gpZ) (0, 0) _ rfl hO5.rows.1 Try.underlying25 rfl infoGp) rfl ⟨rfl, hO5.old⟩

/-! ### Set -/
def setE (g : Gp) (lane : Int) : Nat := if rightG g = true then (if 0 ≤ lane ∧ lane < 8 then (if fullAt g.c lane.toNat = true then 0 else 4) else 110) else 200
def setRG (g : Gp) (lane : Int) (x : Nat) : Gp := if setE g lane = 0 then setTo g lane.toNat x else gpZ
def SetL (g h : Gp) (lane : Int) (x : Nat) (z : Int) (w : World) : List Blk3 := [(w.heap.size + 4, #[.int .i64 z], 29), (w.heap.size + 3, gpA h, 25), (w.heap.size + 2, #[.int .u64 x], 22), (w.heap.size + 1, #[.int .i64 lane], 3), (w.heap.size, gpA g, 25)]
theorem SetL.start (g : Gp) (lane : Int) (x : Nat) (w : World) : Hs w (SetL g gpZ lane x 0 w) (((((w.alloc (.cells (gpA g) 25)).alloc (.cells #[.int .i64 lane] 3)).alloc (.cells #[.int .u64 x] 22)).alloc (.cells (gpA gpZ) 25)).alloc (.cells #[.int .i64 0] 29)) := by
  have hO := ((((Hs.nil w).new2 (gpA g) #[.int .i64 lane] 25 3).new #[.int .u64 x] 22).new (gpA gpZ) 25).new #[.int .i64 0] 29
  simp only [World.size_alloc, Nat.add_assoc, Nat.reduceAdd] at hO
  exact hO
theorem set_end {g : Gp} {lane : Int} {x : Nat} {w W : World} {h : Gp} {z : Int} (hO : Hs w (SetL g h lane x z w) W) : (loadVar 29 ⟨w.heap.size + 4, 0, none⟩).run Try.prog W = .ok (.int .i64 z) W := by
  have d := blk_cell (i := 0) hO.rows.1 rfl
  simp [go_sem, d]
theorem set_no (g : Gp) (lane : Int) (x : Nat) (w : World) (hg : GpOk g) (hr : rightG g = false) : Calls Try.prog 25 #[.agg (gpA g), .int .i64 lane, .int .u64 x] w fun e w' => e = .returned (.tuple #[.agg (gpA gpZ), .int .i64 200]) ∧ Below w.heap.size w w' := by
  have C := fun w => gcheck_any g w hg
  unfold gchkE at C
  rw [hr] at C
  simp only [Bool.false_eq_true, if_false] at C
  have hO := SetL.start g lane x w
  obtain ⟨W, hW⟩ : ∃ W, W = ((((w.alloc (.cells (gpA g) 25)).alloc (.cells #[.int .i64 lane] 3)).alloc (.cells #[.int .u64 x] 22)).alloc (.cells (gpA gpZ) 25)).alloc (.cells #[.int .i64 0] 29) := ⟨_, rfl⟩
  rw [← hW] at hO
  have C'h := Lib.hid C
  have hO'h := Lib.hid hO
  have hr'h := Lib.hid hr
  have hg'h := Lib.hid hg
  clear C hO hr hg
  refine (callsIn_wide (n := 0)).1 ?_
  refine callsIn_of_wp_marks Try.func25 rfl trivial ?_
  simp only [Try.ntmps25, List.size_toArray, List.length_cons, List.length_nil, Nat.reduceAdd, Nat.reduceSub, Array.replicate_succ, Array.replicate_zero, List.push_toArray, List.append_toArray, List.nil_append, List.cons_append]
  refine wpIn_wide.2 ?_
  go_upto_region 1 with fail
  simp only [Nat.add_assoc, Nat.reduceAdd]
  change Code.wp _ _ _ _ (((((w.alloc (.cells (gpA g) 25)).alloc (.cells #[.int .i64 lane] 3)).alloc (.cells #[.int .u64 x] 22)).alloc (.cells (gpA gpZ) 25)).alloc (.cells #[.int .i64 0] 29))
  rw [← hW]
  clear hW
  go_wp2_with (first | (refine wpList_load_row rfl _ _ rfl w.heap.size rfl 25 (gpA g) (0, 0) _ hO'h.out.rows.2.2.2.2.1 Try.underlying25 rfl infoGp ?_) | (go_at_call 10; refine (C'h.out _).mono ?_; rintro e w2 ⟨rfl, hb2⟩; have hO2 := hO'h.out.next hb2; have hO2'h := Lib.hid hO2; have hO3 := hO2.set 1 rfl (gpA gpZ); have d1 := blk_cell (i := 0) hO3.rows.1 rfl; have d2 := blk_free 0 hO3.rows.1; have hO3'h := Lib.hid hO3; clear hO2 hb2 hO3) | (refine wpList_store_row rfl _ _ _ rfl (w.heap.size + 3) (gpA gpZ) rfl rfl 25 _ hO2'h.out.rows.2.1 infoGp rfl (gpA_one _) ?_))
  have hO4 := hO3'h.out.put 0 rfl 0 (.int .i64 200)
  change bodyPostM _ _ _ _ _ _ _ ((w2.setRow (w.heap.size + 3) (gpA gpZ)).setCell ⟨w.heap.size + 4, 0, none⟩ (.int .i64 200))
  generalize World.setCell _ _ _ = W5 at hO4 ⊢
  exact post_marks (bs := []) (.inl rfl) List.nodup_nil (fun D hD => (by cases hD)) (results_row_cell rfl _ _ (w.heap.size + 3) (w.heap.size + 4) 25 (gpA gpZ) (0, 0) _ rfl rfl hO4.rows.2.1 Try.underlying25 rfl infoGp (set_end (g := g) (lane := lane) (x := x) (h := gpZ) hO4)) ⟨rfl, hO4.old⟩
theorem set_out (g : Gp) (lane : Int) (x : Nat) (w : World) (hg : GpOk g) (hr : rightG g = true) (hl : ¬ (0 ≤ lane ∧ lane < 8)) : Calls Try.prog 25 #[.agg (gpA g), .int .i64 lane, .int .u64 x] w fun e w' => e = .returned (.tuple #[.agg (gpA gpZ), .int .i64 110]) ∧ Below w.heap.size w w' := by
  have C := fun w => gcheck_any g w hg
  unfold gchkE at C
  rw [hr] at C
  simp only [if_true] at C
  have hO := SetL.start g lane x w
  obtain ⟨W, hW⟩ : ∃ W, W = ((((w.alloc (.cells (gpA g) 25)).alloc (.cells #[.int .i64 lane] 3)).alloc (.cells #[.int .u64 x] 22)).alloc (.cells (gpA gpZ) 25)).alloc (.cells #[.int .i64 0] 29) := ⟨_, rfl⟩
  rw [← hW] at hO
  have hdd : (decide (lane < 0) = true) ∨ (decide (lane < 0) = false ∧ decide (lane ≥ 8) = true) := by
    by_cases h0 : lane < 0
    · exact .inl (by simpa using h0)
    · exact .inr ⟨by simpa using h0, by simp; omega⟩
  clear hl
  have C'h := Lib.hid C
  have hO'h := Lib.hid hO
  have hr'h := Lib.hid hr
  have hg'h := Lib.hid hg
  clear C hO hr hg
  rcases hdd with hd | ⟨hd, hd2⟩
  all_goals
    refine (callsIn_wide (n := 0)).1 ?_
    refine callsIn_of_wp_marks Try.func25 rfl trivial ?_
    simp only [Try.ntmps25, List.size_toArray, List.length_cons, List.length_nil, Nat.reduceAdd, Nat.reduceSub, Array.replicate_succ, Array.replicate_zero, List.push_toArray, List.append_toArray, List.nil_append, List.cons_append]
    refine wpIn_wide.2 ?_
    go_upto_region 1 with fail
    simp only [Nat.add_assoc, Nat.reduceAdd]
    change Code.wp _ _ _ _ (((((w.alloc (.cells (gpA g) 25)).alloc (.cells #[.int .i64 lane] 3)).alloc (.cells #[.int .u64 x] 22)).alloc (.cells (gpA gpZ) 25)).alloc (.cells #[.int .i64 0] 29))
    rw [← hW]
    clear hW
    go_wp2_with (first | (refine wpList_load_row rfl _ _ rfl w.heap.size rfl 25 (gpA g) (0, 0) _ hO'h.out.rows.2.2.2.2.1 Try.underlying25 rfl infoGp ?_) | (go_at_call 10; refine (C'h.out _).mono ?_; rintro e w2 ⟨rfl, hb2⟩; have hO2 := hO'h.out.next hb2; have c2 := blk_cell (i := 0) hO2.rows.2.2.2.1 rfl; have hO2'h := Lib.hid hO2; have hO3 := hO2.set 1 rfl (gpA gpZ); have d1 := blk_cell (i := 0) hO3.rows.1 rfl; have d2 := blk_free 0 hO3.rows.1; have hO3'h := Lib.hid hO3; clear hO2 hb2 hO3) | (refine wpList_store_row rfl _ _ _ rfl (w.heap.size + 3) (gpA gpZ) rfl rfl 25 _ hO2'h.out.rows.2.1 infoGp rfl (gpA_one _) ?_))
    have hO4 := hO3'h.out.put 0 rfl 0 (.int .i64 110)
    change bodyPostM _ _ _ _ _ _ _ ((w2.setRow (w.heap.size + 3) (gpA gpZ)).setCell ⟨w.heap.size + 4, 0, none⟩ (.int .i64 110))
    generalize World.setCell _ _ _ = W5 at hO4 ⊢
    exact post_marks (bs := []) (.inl rfl) List.nodup_nil (fun D hD => (by cases hD)) (results_row_cell rfl _ _ (w.heap.size + 3) (w.heap.size + 4) 25 (gpA gpZ) (0, 0) _ rfl rfl hO4.rows.2.1 Try.underlying25 rfl infoGp (set_end (g := g) (lane := lane) (x := x) (h := gpZ) hO4)) ⟨rfl, hO4.old⟩
theorem Kept.setRow {S : Nat → Prop} (W : World) (b : Nat) (cs : Array Value) (h : ¬ S b) : Kept S W (W.setRow b cs) :=
  ⟨rfl, rfl, rfl, by simp, fun c _ hs => setRow_other _ _ _ _ (fun e => h (e ▸ hs))⟩
structure SetI (g : Gp) (lane x : Nat) (l : List Nat) (w : World) (k : Nat) (S : Nat → Prop) (W : World) : Prop where
  own : OwnL (SetL g gpZ lane x 0 w) S W
  old : Old w.heap.size w S W
  no : ∀ j, j < k → nthN l j ≠ lane
theorem SetI.stable (g : Gp) (lane x : Nat) (l : List Nat) (w : World) (k : Nat) : Stable (SetI g lane x l w k) := fun S S' W W' i f =>
  ⟨OwnL.stable _ _ _ _ _ i.own f, Old.stable _ _ _ _ _ _ i.old f, i.no⟩
def SetX (g : Gp) (lane x : Nat) (l : List Nat) (w : World) (c : Code) (k : Nat) (S : Nat → Prop) (W : World) : Prop :=
  (c = .ret ∧ nthN l k = lane) ∧ OwnL (SetL (setTo g lane x) (setTo g lane x) lane x 0 w) S W ∧ Old w.heap.size w S W
theorem SetX.stable (g : Gp) (lane x : Nat) (l : List Nat) (w : World) (c : Code) (k : Nat) : Stable (SetX g lane x l w c k) := (Stable.pure _).and ((OwnL.stable _).and (Old.stable _ _))
set_option maxHeartbeats 1000000 in
theorem set_lane (g : Gp) (lane x : Nat) (w : World) (hg : GpOk g) (hr : rightG g = true) (hl8 : lane < 8) : Calls Try.prog 25 #[.agg (gpA g), .int .i64 lane, .int .u64 x] w fun e w' => e = .returned (.tuple #[.agg (gpA (setRG g lane x)), .int .i64 (setE g lane)]) ∧ Below w.heap.size w w' := by
  have hrw := rightG_word hr
  obtain ⟨l, hl⟩ : ∃ l, l = fullL g.c := ⟨_, rfl⟩
  have hset : setM g.c 0 = belowM g.c 128 := by unfold setM; rw [if_pos hrw, if_pos rfl]
  have hlm : lanesOf (setM g.c 0) = l := by rw [hset, fullL_eq, hl]
  have hm8 : setM g.c 0 < 256 := by rw [hset]; exact belowM_lt' _ _
  have F := fun w => gfull_any g w hg
  have hmem : ∀ k, k < l.length → nthN l k < 8 := fun k hk => (fullL_mem.1 (by rw [← hl]; exact nthN_mem hk)).1
  have hyes : ∀ k, k < l.length → nthN l k = lane → setE g lane = 0 ∧ setRG g lane x = setTo g lane x := fun k hk h => by
    have hf : fullAt g.c lane = true := by rw [← h]; exact (fullL_mem.1 (by rw [← hl]; exact nthN_mem hk)).2
    have e : setE g lane = 0 := by unfold setE; rw [if_pos hr, if_pos (by omega), Int.toNat_natCast, if_pos hf]
    exact ⟨e, by unfold setRG; rw [if_pos e, Int.toNat_natCast]⟩
  have hno : (∀ k, k < l.length → nthN l k ≠ lane) → setE g lane = 4 ∧ setRG g lane x = gpZ := fun h => by
    have hf : ¬ fullAt g.c lane = true := fun hf => by
      obtain ⟨k, hk, h1⟩ := List.mem_iff_getElem.1 (fullL_mem.2 ⟨hl8, hf⟩)
      rw [nthN_eq hk] at h1
      exact h k (by rw [hl]; exact hk) (by rw [hl]; exact h1)
    have e : setE g lane = 4 := by unfold setE; rw [if_pos hr, if_pos (by omega), Int.toNat_natCast, if_neg hf]
    exact ⟨e, by unfold setRG; rw [if_neg (by rw [e]; decide)]⟩
  generalize hzE : setE g lane = zE at *
  generalize hzG : setRG g lane x = zG at *
  generalize setM g.c 0 = m at *
  have C := fun w => gcheck_any g w hg
  unfold gchkE at C
  rw [hr] at C
  simp only [if_true] at C
  have hO := SetL.start g (lane : Int) x w
  obtain ⟨W, hW⟩ : ∃ W, W = ((((w.alloc (.cells (gpA g) 25)).alloc (.cells #[.int .i64 (lane : Int)] 3)).alloc (.cells #[.int .u64 x] 22)).alloc (.cells (gpA gpZ) 25)).alloc (.cells #[.int .i64 0] 29) := ⟨_, rfl⟩
  rw [← hW] at hO
  have hd : decide ((lane : Int) < 0) = false := by simp
  have hd2 : decide ((lane : Int) ≥ 8) = false := by simp; omega
  have C'h := Lib.hid C
  have hO'h := Lib.hid hO
  have hr'h := Lib.hid hr
  have hg'h := Lib.hid hg
  have hrw'h := Lib.hid hrw
  have hl'h := Lib.hid hl
  have hset'h := Lib.hid hset
  have hlm'h := Lib.hid hlm
  have hm8'h := Lib.hid hm8
  have F'h := Lib.hid F
  have hmem'h := Lib.hid hmem
  have hyes'h := Lib.hid hyes
  have hno'h := Lib.hid hno
  have hl8'h := Lib.hid hl8
  have hzE'h := Lib.hid hzE
  have hzG'h := Lib.hid hzG
  clear C hO hr hg hrw hl hset hlm hm8 F hmem hyes hno hl8 hzE hzG
  refine (callsIn_wide (n := 0)).1 ?_
  refine callsIn_of_wp_marks Try.func25 rfl trivial ?_
  simp only [Try.ntmps25, List.size_toArray, List.length_cons, List.length_nil, Nat.reduceAdd, Nat.reduceSub, Array.replicate_succ, Array.replicate_zero, List.push_toArray, List.append_toArray, List.nil_append, List.cons_append]
  refine wpIn_wide.2 ?_
  go_upto_region 1 with fail
  simp only [Nat.add_assoc, Nat.reduceAdd]
  change Code.wp _ _ _ _ (((((w.alloc (.cells (gpA g) 25)).alloc (.cells #[.int .i64 lane] 3)).alloc (.cells #[.int .u64 x] 22)).alloc (.cells (gpA gpZ) 25)).alloc (.cells #[.int .i64 0] 29))
  rw [← hW]
  clear hW
  go_wp2_with (first | (go_at_call 10; refine (C'h.out _).mono ?_; rintro e w2 ⟨rfl, hb2⟩; have hO2 := hO'h.out.next hb2; have c2 := blk_cell (i := 0) hO2.rows.2.2.2.1 rfl; have hO2'h := Lib.hid hO2; clear hO2 hb2) | (refine wpList_load_row rfl _ _ rfl w.heap.size rfl 25 (gpA g) (0, 0) _ hO'h.out.rows.2.2.2.2.1 Try.underlying25 rfl infoGp ?_) | (refine wpList_load_row rfl _ _ rfl w.heap.size rfl 25 (gpA g) (0, 0) _ hO2'h.out.rows.2.2.2.2.1 Try.underlying25 rfl infoGp ?_) | (refine wpList_build_agg rfl 77 #[(0, .tmp 23)] (by rfl) (gpA g) [(0, .agg (gpA g))] (by rfl) (built_ss g) ?_) | (go_at_call 41; refine (F'h.out _).mono ?_; rintro e w3 ⟨b', hbb, rfl, hb3, hmb⟩))
  have hO3 := hO2'h.out.next hb3
  have hbb3 : w.heap.size + 5 ≤ b' := by
    have := hO2'h.out.lt (w.heap.size + 4, #[.int .i64 0], 29) (by simp [SetL])
    simp only at this
    omega
  have hI0 : SetI g lane x l w 0 (fun _ => False) w3 := ⟨⟨hO3.rows, fun x hx h => h⟩, ⟨hO3.old, Nat.le_refl _, fun _ _ h => h⟩, fun j hj => absurd hj (by omega)⟩
  have hit := geach_it m b' hm8'h.out w3 hmb
  rw [hlm'h.out] at hit
  have hbl := lt_of_heap hmb
  clear hbb hO3 hb3 c2
  have hI0'h := Lib.hid hI0
  have hit'h := Lib.hid hit
  have hbl'h := Lib.hid hbl
  have hbb3'h := Lib.hid hbb3
  have hmb'h := Lib.hid hmb
  clear hI0 hit hbl hbb3 hmb
  refine (wpIn_wide (n := 0)).1 ?_
  refine' wpIn_range rfl (fun h => by cases h) rfl trivial enters_geach hit'h.out (fun b hb => False.elim hb) (fun _ => rfl) (fun c hc => ⟨by rw [hc]; exact hbl'h.out, fun h => h⟩)
    (SetI g lane x l w) (SetX g lane x l w) (SetI.stable g lane x l w) (SetX.stable g lane x l w) hI0'h.out
    (AxOf _ (SetI g lane x l w)) (AxOf.stable (SetI.stable g lane x l w)) ?assign ?body ?done ?stop
  case assign =>
    intro l1 k S W hk hSl hr hSb hI
    rw [nthN_eq hk]
    clear hr
    gi_wp2
    exact ⟨⟨rfl, hI⟩, Kept.refl _ _⟩
  case body =>
    rintro l1 k S A W r hk hSl hlr hr hSb ⟨rfl, hI⟩
    have HW : Hs w (SetL g gpZ lane x 0 w) W := ⟨hI.own.rows, hI.old.below, hO'h.out.low, hO'h.out.desc⟩
    have e1 : W.cell? ⟨w.heap.size + 1, 0, none⟩ = some (.int .i64 lane) := blk_cell HW.rows.2.2.2.1 rfl
    by_cases hkl : nthN l k = lane
    · have hln := hl8'h.out
      have H1 := HW.put 4 rfl (9 + lane) (.int .u64 x)
      have H2 := H1.set 1 rfl (gpA (setTo g lane x))
      have hB1 : (W.setCell ⟨w.heap.size, 9 + lane, none⟩ (.int .u64 x)).heap[w.heap.size]? = some (.cells (gpA (setTo g lane x)) 25 (0, 0)) := by
        unfold setTo; rw [← gpA_setV g hln]; exact H1.rows.2.2.2.2.1
      have hB3 : (W.setCell ⟨w.heap.size, 9 + lane, none⟩ (.int .u64 x)).heap[w.heap.size + 3]? = some (.cells (gpA gpZ) 25 (0, 0)) := H1.rows.2.1
      have e2 : W.cell? ⟨w.heap.size + 2, 0, none⟩ = some (.int .u64 x) := blk_cell HW.rows.2.2.1 rfl
      have e3 : W.cell? ⟨w.heap.size, 9 + lane, none⟩ = some (.int .u64 (g.v lane)) := gp_val HW.rows.2.2.2.2.1 hln
      have e4 : W.frozen? ⟨w.heap.size, 9 + lane, none⟩ = false := blk_free _ HW.rows.2.2.2.2.1
      have e5 := blk_cell (i := 0) H2.rows.1 rfl
      have e6 := blk_free 0 H2.rows.1
      have h0n : (0 : Int) ≤ (lane : Int) := by omega
      have hn8 : (lane : Int) < 8 := by omega
      have hq : ((nthN l k : Int) == (lane : Int)) = true := by simp; omega
      clear hln
      have hI'h := Lib.hid hI
      have HW'h := Lib.hid HW
      have hr'h := Lib.hid hr
      have hSb'h := Lib.hid hSb
      have hSl'h := Lib.hid hSl
      have hlr'h := Lib.hid hlr
      have hkl'h := Lib.hid hkl
      have hk'h := Lib.hid hk
      have H1'h := Lib.hid H1
      have H2'h := Lib.hid H2
      have hB1'h := Lib.hid hB1
      have hB3'h := Lib.hid hB3
      clear hI HW hr hSb hSl hlr hkl hk H1 H2 hB1 hB3
      gi_wp2_with (first | (refine wpListIn_load_row rfl _ _ rfl w.heap.size rfl 25 (gpA (setTo g lane x)) (0, 0) _ hB1'h.out Try.underlying25 rfl infoGp ?_) | (refine wpListIn_store_row rfl _ _ _ rfl (w.heap.size + 3) (gpA (setTo g lane x)) rfl rfl 25 _ hB3'h.out infoGp rfl (gpA_one _) ?_))
      have H3 := H2'h.out.put 0 rfl 0 (.int .i64 0)
      have hI := hI'h.out
      have hb3 := hbb3'h.out
      refine ⟨((Kept.setCell _ W ⟨w.heap.size, 9 + lane, none⟩ (.int .u64 x) ?_).trans (Kept.setRow _ _ _ ?_)).trans (Kept.setCell _ _ ⟨w.heap.size + 4, 0, none⟩ (.int .i64 0) ?_), ⟨rfl, hkl'h.out⟩, ⟨⟨H3.rows.1, H3.rows.2.1, H3.rows.2.2.1, H3.rows.2.2.2.1, ?_, trivial⟩, ?_⟩, ⟨H3.old, Nat.le_refl _, hI.old.mine⟩⟩
      · rintro (h | h)
        · first | omega | (simp at h; omega)
        · exact hI.own.mine (w.heap.size, gpA g, 25) (by simp [SetL]) h
      · rintro (h | h)
        · first | omega | (simp at h; omega)
        · exact hI.own.mine (w.heap.size + 3, gpA gpZ, 25) (by simp [SetL]) h
      · rintro (h | h)
        · first | omega | (simp at h; omega)
        · exact hI.own.mine (w.heap.size + 4, #[.int .i64 0], 29) (by simp [SetL]) h
      · have h9 : (World.setCell _ _ _).heap[w.heap.size]? = some (.cells ((gpA g).setIfInBounds (9 + lane) (.int .u64 x)) 25 (0, 0)) := H3.rows.2.2.2.2.1
        rw [gpA_setV g hl8'h.out] at h9
        exact h9
      · intro y hy
        have h9 : y.1 ∈ (SetL g gpZ lane x 0 w).map (·.1) := by
          simp [SetL] at hy ⊢
          rcases hy with rfl | rfl | rfl | rfl | rfl <;> simp
        obtain ⟨z, hz, hzz⟩ := List.mem_map.1 h9
        rw [← hzz]; exact hI.own.mine z hz
    · have hne : ((nthN l k : Int) == (lane : Int)) = false := by simp; omega
      have hI'h := Lib.hid hI
      have HW'h := Lib.hid HW
      have hr'h := Lib.hid hr
      have hSb'h := Lib.hid hSb
      have hSl'h := Lib.hid hSl
      have hlr'h := Lib.hid hlr
      have hkl'h := Lib.hid hkl
      have hk'h := Lib.hid hk
      clear hI HW hr hSb hSl hlr hkl hk
      gi_wp2
      have hI := hI'h.out
      refine ⟨Kept.refl _ _, hI.own, hI.old, fun j hj => ?_⟩
      by_cases e : j = k
      · subst e; exact hkl'h.out
      · exact hI.no j (by omega)
  case done =>
    rintro D S W hD hSD hr hI hK
    obtain ⟨q1, q2⟩ := hno'h.out hI.no
    have HW : Hs w (SetL g gpZ lane x 0 w) W := ⟨hI.own.rows, hI.old.below, hO'h.out.low, hO'h.out.desc⟩
    have H1 := HW.set 1 rfl (gpA gpZ)
    have d1 := blk_cell (i := 0) H1.rows.1 rfl
    have d2 := blk_free 0 H1.rows.1
    have hDne : ∀ y ∈ SetL g gpZ lane x 0 w, y.1 ≠ D := fun y hy e => hI.own.mine y hy (e ▸ hSD)
    have hwD : w.heap.size ≤ D := by
      have h1 := hbb3'h.out
      have h2 := hbl'h.out
      omega
    clear hr
    have hI'h := Lib.hid hI
    have HW'h := Lib.hid HW
    have H1'h := Lib.hid H1
    have hK'h := Lib.hid hK
    have hD'h := Lib.hid hD
    have hSD'h := Lib.hid hSD
    have q1'h := Lib.hid q1
    have q2'h := Lib.hid q2
    have hDne'h := Lib.hid hDne
    have hwD'h := Lib.hid hwD
    clear hI HW H1 hK hD hSD q1 q2 hDne hwD
    go_wp2_with (first | (refine wpList_store_row rfl _ _ _ rfl (w.heap.size + 3) (gpA gpZ) rfl rfl 25 _ HW'h.out.rows.2.1 infoGp rfl (gpA_one _) ?_))
    have H2 := H1'h.out.put 0 rfl 0 (.int .i64 4)
    change bodyPostM _ _ _ _ _ _ _ ((W.setRow (w.heap.size + 3) (gpA gpZ)).setCell ⟨w.heap.size + 4, 0, none⟩ (.int .i64 4))
    have hn3 : D ≠ w.heap.size + 3 := fun e => hDne'h.out (w.heap.size + 3, gpA gpZ, 25) (by simp [SetL]) e.symm
    have hn4 : D ≠ w.heap.size + 4 := fun e => hDne'h.out (w.heap.size + 4, #[.int .i64 0], 29) (by simp [SetL]) e.symm
    have hK2 : ((W.setRow (w.heap.size + 3) (gpA gpZ)).setCell ⟨w.heap.size + 4, 0, none⟩ (.int .i64 4)).heap[D]? = some (.deferred (some [])) := (Below.heap_setCell _ _ _ _ hn4).trans ((setRow_other _ _ _ _ hn3).trans hK'h.out)
    generalize World.setCell _ _ _ = W5 at H2 hK2 ⊢
    have g3 := (World.putObj_heap_other (w := W5) (o := .deferred none) (fun e => hn3 e.symm)).trans H2.rows.2.1
    have g4 := (World.putObj_heap_other (w := W5) (o := .deferred none) (fun e => hn4 e.symm)).trans H2.rows.1
    have hlv : (loadVar 29 ⟨w.heap.size + 4, 0, none⟩).run Try.prog (W5.putObj D (.deferred none)) = .ok (.int .i64 4) (W5.putObj D (.deferred none)) := by
      have d := blk_cell (i := 0) g4 rfl
      simp [go_sem, d]
    exact post_mark (.inl rfl) hK2 (results_row_cell rfl _ _ (w.heap.size + 3) (w.heap.size + 4) 25 (gpA gpZ) (0, 0) _ rfl rfl g3 Try.underlying25 rfl infoGp hlv) ⟨by rw [q1'h.out, q2'h.out]; rfl, below_putObj H2.old hwD'h.out _⟩
  case stop =>
    rintro D c k S W hD hSD hr hk ⟨⟨rfl, hne⟩, hx, hold⟩ hK
    obtain ⟨q1, q2⟩ := hyes'h.out k hk hne
    have hwD : w.heap.size ≤ D := by
      have h1 := hbb3'h.out
      have h2 := hbl'h.out
      omega
    have hn3 : D ≠ w.heap.size + 3 := fun e => hx.mine (w.heap.size + 3, gpA (setTo g lane x), 25) (by simp [SetL]) (e ▸ hSD)
    have hn4 : D ≠ w.heap.size + 4 := fun e => hx.mine (w.heap.size + 4, #[.int .i64 0], 29) (by simp [SetL]) (e ▸ hSD)
    have g3 := (World.putObj_heap_other (w := W) (o := .deferred none) (fun e => hn3 e.symm)).trans hx.rows.2.1
    have g4 := (World.putObj_heap_other (w := W) (o := .deferred none) (fun e => hn4 e.symm)).trans hx.rows.1
    have hlv : (loadVar 29 ⟨w.heap.size + 4, 0, none⟩).run Try.prog (W.putObj D (.deferred none)) = .ok (.int .i64 0) (W.putObj D (.deferred none)) := by
      have d := blk_cell (i := 0) g4 rfl
      simp [go_sem, d]
    have hx'h := Lib.hid hx
    have hold'h := Lib.hid hold
    have hK'h := Lib.hid hK
    have hne'h := Lib.hid hne
    have hSD'h := Lib.hid hSD
    have hr'h := Lib.hid hr
    have hD'h := Lib.hid hD
    have hwD'h := Lib.hid hwD
    have hk'h := Lib.hid hk
    have g3'h := Lib.hid g3
    have g4'h := Lib.hid g4
    have hlv'h := Lib.hid hlv
    have q1'h := Lib.hid q1
    have q2'h := Lib.hid q2
    clear hx hold hK hne hSD hr hD hwD hk g3 g4 hlv q1 q2
    gi_wp2
    exact post_mark (.inl rfl) hK'h.out (results_row_cell rfl _ _ (w.heap.size + 3) (w.heap.size + 4) 25 (gpA (setTo g lane x)) (0, 0) _ rfl rfl g3'h.out Try.underlying25 rfl infoGp hlv'h.out) ⟨by rw [q1'h.out, q2'h.out]; rfl, below_putObj hold'h.out.below hwD'h.out _⟩
theorem set_any (g : Gp) (lane : Int) (x : Nat) (w : World) (hg : GpOk g) : Calls Try.prog 25 #[.agg (gpA g), .int .i64 lane, .int .u64 x] w fun e w' => e = .returned (.tuple #[.agg (gpA (setRG g lane x)), .int .i64 (setE g lane)]) ∧ Below w.heap.size w w' := by
  cases hr : rightG g with
  | false =>
    have e1 : setE g lane = 200 := by unfold setE; rw [hr]; rfl
    have e2 : setRG g lane x = gpZ := by unfold setRG; rw [e1]; rfl
    rw [e1, e2]; exact set_no g lane x w hg hr
  | true =>
    by_cases h : 0 ≤ lane ∧ lane < 8
    · obtain ⟨n, rfl⟩ := Int.eq_ofNat_of_zero_le h.1
      exact set_lane g n x w hg hr (by omega)
    · have e1 : setE g lane = 110 := by unfold setE; rw [hr, if_pos rfl, if_neg h]
      have e2 : setRG g lane x = gpZ := by unfold setRG; rw [e1]; rfl
      rw [e1, e2]; exact set_out g lane x w hg hr h
end Go.Proofs.Ytfoohdjgnphdgaa
