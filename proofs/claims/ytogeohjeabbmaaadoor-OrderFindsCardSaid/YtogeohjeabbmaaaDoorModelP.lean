/-
  Package model: a call, done on a table, of every Op; done on a map.
-/
import Derived.Test.YtogeohjeabbmaaaDoorModelO
import Derived.Test.YtogeohjeabbmaaaDoorModelStep
import Derived.Deep.RegionHeld3
set_option linter.unusedSimpArgs false
set_option linter.unusedVariables false
set_option maxRecDepth 100000
namespace Go.Proofs.YtogeohjeabbmaaaDoor
open Go.RowKit

theorem does_any (B tb : Nat) (sp : Option Addr) (n cap : Nat) (ps : Ps) (c : Cl) (w : World) (h : Tab w B tb sp n cap ps) (hup : upB ps = true) (hn : n ≤ 4096) (ho : isOp c = true) :
    Calls Tryd.prog 27 #[.pointer (some ⟨tb, 0, none⟩), .agg (clA c)] w (DoesEnd (decide (c.op = 6)) B tb sp (nextP c ps) (tellA c ps) (tellQ c ps) w) := by
  unfold isOp at ho
  have ho' : 1 ≤ c.op ∧ c.op ≤ 7 := by simpa using ho
  have hs : hasP ps c.key = true ↔ ∃ v, getS ps c.key = some v := by unfold hasP; exact Option.isSome_iff_exists
  have hc : c.op = 1 ∨ c.op = 2 ∨ c.op = 3 ∨ c.op = 4 ∨ c.op = 5 ∨ c.op = 6 ∨ c.op = 7 := by omega
  rcases hc with e | e | e | e | e | e | e
  · have hx : nextP c ps = ps ∧ tellA c ps = anK ps c.key ∧ tellQ c ps = [] ∧ decide (c.op = 6) = false := by unfold nextP tellA tellQ; simp [e]
    rw [hx.1, hx.2.1, hx.2.2.1, hx.2.2.2]
    exact does_1 B tb sp n cap ps _ _ _ _ c w h (fun W hT => (way_load B tb sp n cap ps c W hT hup hn).mono fun _ _ h => h.o) e
  · have hx : nextP c ps = insP ps c.key c.a ∧ tellA c ps = anK ps c.key ∧ tellQ c ps = [] ∧ decide (c.op = 6) = false := by unfold nextP tellA tellQ; simp [e]
    rw [hx.1, hx.2.1, hx.2.2.1, hx.2.2.2]
    exact does_2 B tb sp n cap ps _ _ _ _ c w h (fun W hT => (way_store B tb sp n cap ps c W hT hup hn).mono fun _ _ h => h.o) e
  · have hx : nextP c ps = delP ps c.key ∧ tellA c ps = anK ps c.key ∧ tellQ c ps = [] ∧ decide (c.op = 6) = false := by unfold nextP tellA tellQ; simp [e]
    rw [hx.1, hx.2.1, hx.2.2.1, hx.2.2.2]
    refine does_3 B tb sp n cap ps _ _ _ _ c w h (fun W hT => ?_) e
    cases hh : hasP ps c.key with
    | true => exact (way_drop_yes B tb sp n cap ps c W hT hup hn hh).mono fun _ _ h => h.o
    | false =>
      have hd := delP_pos ps c.key
      rw [hh, if_neg (by decide)] at hd
      rw [hd]
      exact (way_drop_no B tb sp n cap ps c W hT hup hn hh).mono fun _ _ h => h.o
  · have hx : tellQ c ps = [] ∧ decide (c.op = 6) = false ∧ nextP c ps = (if getS ps c.key = some c.a then insP ps c.key c.b else ps) ∧ tellA c ps = { anK ps c.key with done := decide (getS ps c.key = some c.a) } := by unfold nextP tellA tellQ; simp [e]
    rw [hx.1, hx.2.1, hx.2.2.1, hx.2.2.2]
    refine does_4 B tb sp n cap ps _ _ _ _ c w h (fun W hT => ?_) e
    cases hh : hasP ps c.key with
    | true =>
      obtain ⟨v, hv⟩ := hs.1 hh
      by_cases hva : v = c.a
      · rw [if_pos (by rw [hv, hva]), show decide (getS ps c.key = some c.a) = true by rw [hv, hva]; simp]
        exact (way_swap_yes B tb sp n cap ps c W hT hup hn hh (by unfold anK; rw [hv]; exact hva)).mono fun _ _ h => h.o
      · rw [if_neg (by rw [hv]; simpa using hva), show decide (getS ps c.key = some c.a) = false by rw [hv]; simpa using hva]
        exact (way_swap_other B tb sp n cap ps c W hT hup hn hh (by unfold anK; rw [hv]; exact hva)).mono fun _ _ h => h.o
    | false =>
      have hv : getS ps c.key = none := by unfold hasP at hh; simpa using hh
      rw [if_neg (by rw [hv]; simp), show decide (getS ps c.key = some c.a) = false by rw [hv]; simp]
      exact (way_swap_no B tb sp n cap ps c W hT hup hn hh trivial).mono fun _ _ h => h.o
  · have hx : tellQ c ps = [] ∧ decide (c.op = 6) = false ∧ nextP c ps = (if hasP ps c.key then ps else insP ps c.key c.a) ∧ tellA c ps = (if hasP ps c.key then anK ps c.key else ⟨0, c.a, false⟩) := by unfold nextP tellA tellQ; simp [e]
    rw [hx.1, hx.2.1, hx.2.2.1, hx.2.2.2]
    refine does_5 B tb sp n cap ps _ _ _ _ c w h (fun W hT => ?_) e
    cases hh : hasP ps c.key with
    | true =>
      rw [if_pos rfl, if_pos rfl]
      exact (way_first_has B tb sp n cap ps c W hT hup hn hh).mono fun _ _ h => h.o
    | false =>
      rw [if_neg (by decide), if_neg (by decide)]
      exact (way_first_no B tb sp n cap ps c W hT hup hn hh).mono fun _ _ h => h.o
  · have hx : nextP c ps = ps ∧ tellA c ps = ⟨0, 0, false⟩ ∧ tellQ c ps = ps ∧ decide (c.op = 6) = true := by unfold nextP tellA tellQ; simp [e]
    rw [hx.1, hx.2.1, hx.2.2.1, hx.2.2.2]
    exact does_6 B tb sp n cap ps _ _ _ _ c w h (fun W hT => (way_all B tb sp n cap ps c W hT hn).mono fun _ _ h => h.o) e
  · have hx : nextP c ps = ps ∧ tellA c ps = ⟨0, ps.length, false⟩ ∧ tellQ c ps = [] ∧ decide (c.op = 6) = false := by unfold nextP tellA tellQ; simp [e]
    rw [hx.1, hx.2.1, hx.2.2.1, hx.2.2.2]
    exact does_7 B tb sp n cap ps _ _ _ _ c w h (fun W hT => (way_size B tb sp n cap ps c W hT hn).mono fun _ _ h => h.o) e
/-- What a call that is done on a map leaves. -/
def DoEnd (six : Bool) (ps : Ps) (a : An) (qs : Ps) (w : World) (e : Ending) (w' : World) : Prop :=
  ∃ sp' n' cap' sq nq cq, e = .returned (.tuple #[.agg #[.slice sp' n' cap'], .agg (anA a sq nq cq), .int .i64 0]) ∧ Below w.heap.size w w' ∧ RowP w' w.heap.size sp' n' cap' ps ∧ SlK w' 2 sq nq (prs qs) ∧ (sq = none → cq = 0) ∧ nq ≤ cq ∧ (∀ b, sq.map (·.block) = some b → w.heap.size ≤ b) ∧ (six = false → sq = none ∧ nq = 0 ∧ cq = 0)
set_option maxHeartbeats 4000000 in
theorem mDo_yes (sp : Option Addr) (n cap : Nat) (ps : Ps) (c : Cl) (w : World) (h : SlK w 2 sp n (prs ps)) (hup : upB ps = true) (hn : n ≤ 4096) (ho : isOp c = true) :
    Calls Tryd.prog 8 #[.agg #[.slice sp n cap], .agg (clA c)] w (DoEnd (decide (c.op = 6)) (nextP c ps) (tellA c ps) (tellQ c ps) w) := by
  have H0 := (((Hs.nil w).new2 #[.slice sp n cap] (clA c) 28 31).new #[.slice none 0 0] 28).new (anA ⟨0, 0, false⟩ none 0 0) 34
  simp only [World.size_alloc] at H0
  obtain ⟨W0, hW0⟩ : ∃ W0, W0 = ((((w.alloc (.cells #[.slice sp n cap] 28)).alloc (.cells (clA c) 31)).alloc (.cells #[.slice none 0 0] 28)).alloc (.cells (anA ⟨0, 0, false⟩ none 0 0) 34)) := ⟨_, rfl⟩
  rw [← hW0] at H0
  have C := mcheck_yes sp n cap ps W0 (h.below H0.old) hup
  obtain ⟨ps', hpn⟩ : ∃ ps', ps' = nextP c ps := ⟨_, rfl⟩
  obtain ⟨a, ha⟩ : ∃ a, a = tellA c ps := ⟨_, rfl⟩
  obtain ⟨qs, hqs⟩ : ∃ qs, qs = tellQ c ps := ⟨_, rfl⟩
  obtain ⟨six, hsix⟩ : ∃ six, six = decide (c.op = 6) := ⟨_, rfl⟩
  rw [← hpn, ← ha, ← hqs, ← hsix]
  have h'h := Lib.hid h
  have hup'h := Lib.hid hup
  have H0'h := Lib.hid H0
  have hW0'h := Lib.hid hW0
  have C'h := Lib.hid C
  have ho'h := Lib.hid ho
  have hpn'h := Lib.hid hpn
  have ha'h := Lib.hid ha
  have hqs'h := Lib.hid hqs
  have hsix'h := Lib.hid hsix
  clear h hup H0 hW0 C ho hpn ha hqs hsix
  go_enter Tryd.func8, Tryd.ntmps8
  go_upto_region 1 with fail
  change Code.wp _ _ _ _ ((((w.alloc (.cells #[.slice sp n cap] 28)).alloc (.cells (clA c) 31)).alloc (.cells #[.slice none 0 0] 28)).alloc (.cells (anA ⟨0, 0, false⟩ none 0 0) 34))
  rw [← hW0'h.out]
  have x0 : W0.cell? ⟨w.heap.size, 0, none⟩ = some (.slice sp n cap) := blk_cell (i := 0) H0'h.out.rows.2.2.2.1 rfl
  go_upto_region 4 with (go_at_call 25; refine C'h.out.mono ?_; rintro e w2 ⟨rfl, hb2⟩)
  clear x0
  have H2 := H0'h.out.next hb2
  have O := mof_any sp n cap ps w2 (h'h.out.below H2.old) hn
  have x0 : w2.cell? ⟨w.heap.size, 0, none⟩ = some (.slice sp n cap) := blk_cell (i := 0) H2.rows.2.2.2.1 rfl
  have H2'h := Lib.hid H2
  have O'h := Lib.hid O
  have hb2'h := Lib.hid hb2
  clear H2 O hb2
  go_upto_region 5 with (go_at_call 26; refine O'h.out.mono ?_; rintro e w3 ⟨tb, g, rfl, hb3, hT3⟩)
  clear x0
  have H3 := H2'h.out.next hb3
  have D := does_any w2.heap.size tb _ n n ps c w3 hT3 hup'h.out hn ho'h.out
  rw [← hpn'h.out, ← ha'h.out, ← hqs'h.out, ← hsix'h.out] at D
  have H3'h := Lib.hid H3
  have D'h := Lib.hid D
  have hb3'h := Lib.hid hb3
  have hT3'h := Lib.hid hT3
  clear H3 D hb3 hT3
  go_upto_region 6 with (first | (refine wpList_load_row rfl _ _ rfl (w.heap.size + 1) rfl 31 _ (0, 0) _ H3'h.out.rows.2.2.1 Tryd.underlying31 rfl info_cl ?_) | (go_at_call 27; refine D'h.out.mono ?_; rintro e w4 ⟨sp', n', cap', sq, nq, cq, rfl, hT4, hK4, hN4, hS4, hc4, hle4, hlo4, hx4⟩; have hT4'h := Lib.hid hT4; have hK4'h := Lib.hid hK4; have hN4'h := Lib.hid hN4; have hS4'h := Lib.hid hS4; have hc4'h := Lib.hid hc4; have hle4'h := Lib.hid hle4; have hlo4'h := Lib.hid hlo4; have hx4'h := Lib.hid hx4; clear hT4 hK4 hN4 hS4 hc4 hle4 hlo4 hx4) | (refine wpList_store_row rfl _ _ _ rfl w4.heap.size (anA a sq nq cq) rfl rfl 34 _ (World.alloc_heap_new _ _) info_an rfl (anA_one _ _ _ _) ?_))
  change Code.wp _ _ _ _ ((w4.alloc (.cells (anA ⟨0, 0, false⟩ none 0 0) 34)).setRow w4.heap.size (anA a sq nq cq))
  have hl3 := H2'h.out.lt
  have hT3 := hT3'h.out
  have hgl : w2.heap.size ≤ g := hT3.lowrow ⟨g, 0, none⟩ rfl
  have hL4 := H3'h.out.rows.keptT hK4'h.out (fun x hx => ⟨by have := hl3 x hx; have := hT3.low; omega, fun e => by have := hl3 x hx; simp at e; omega⟩)
  have hB4 : Below w.heap.size w w4 := KeptT.below (W0 := w) hK4'h.out H3'h.out.old (by have := hT3.low; have := H2'h.out.old.size; omega) (fun a e => by cases e; have := H2'h.out.old.size; simp only; omega)
  have H4 : Hs w _ w4 := ⟨hL4, hB4, H3'h.out.low, H3'h.out.desc⟩
  have H5 := (H4.new (anA ⟨0, 0, false⟩ none 0 0) 34).set 0 rfl (anA a sq nq cq)
  have hb5 : Below w4.heap.size w4 ((w4.alloc (.cells (anA ⟨0, 0, false⟩ none 0 0) 34)).setRow w4.heap.size (anA a sq nq cq)) := below_setRow' ((Below.refl _ _).alloc (Nat.le_refl _) _) (Nat.le_refl _) _
  have hT5 := hT4'h.out.below hb5
  have hS5 := hS4'h.out.below hb5
  generalize World.setRow _ _ _ = W5 at H5 hT5 hS5 ⊢
  have m0 := hT5.cell
  have hlw4 := H4.lt
  have hl0 := H2'h.out.lt (w.heap.size + 1 + 1 + 1, anA ⟨0, 0, false⟩ none 0 0, 34) (List.mem_cons_self ..)
  have hl1 := H4.lt (w.heap.size + 1 + 1 + 1, anA ⟨0, 0, false⟩ none 0 0, 34) (List.mem_cons_self ..)
  have htl3 := hT3.low
  have q1 : ∀ (W : World) (o o' : Nat) (v : Value), (W.setCell ⟨w.heap.size + 1 + 1, o, none⟩ v).cell? ⟨tb, o', none⟩ = W.cell? ⟨tb, o', none⟩ := fun W o o' v => World.cell?_of_block (Below.heap_setCell _ _ _ _ (by simp only at hl0 ⊢; omega))
  have q2 : ∀ (W : World) (o o' : Nat) (v : Value), (W.setCell ⟨w.heap.size + 1 + 1, o, none⟩ v).cell? ⟨w4.heap.size, o', none⟩ = W.cell? ⟨w4.heap.size, o', none⟩ := fun W o o' v => World.cell?_of_block (Below.heap_setCell _ _ _ _ (by simp only at hl1 ⊢; omega))
  have q3 : ∀ (W : World) (o o' : Nat) (v : Value), (W.setCell ⟨w.heap.size + 1 + 1 + 1, o, none⟩ v).cell? ⟨tb, o', none⟩ = W.cell? ⟨tb, o', none⟩ := fun W o o' v => World.cell?_of_block (Below.heap_setCell _ _ _ _ (by simp only at hl0 ⊢; omega))
  have q4 : ∀ (W : World) (o o' : Nat) (v : Value), (W.setCell ⟨w.heap.size + 1 + 1 + 1, o, none⟩ v).cell? ⟨w4.heap.size, o', none⟩ = W.cell? ⟨w4.heap.size, o', none⟩ := fun W o o' v => World.cell?_of_block (Below.heap_setCell _ _ _ _ (by simp only at hl1 ⊢; omega))
  have y0 : W5.cell? ⟨w4.heap.size, 0, none⟩ = some (.int .i64 a.err) := blk_cell (i := 0) H5.rows.1 rfl
  have y1 : W5.cell? ⟨w4.heap.size, 1, none⟩ = some (.int .u64 (a.val : Int)) := blk_cell (i := 1) H5.rows.1 rfl
  have y2 : W5.cell? ⟨w4.heap.size, 2, none⟩ = some (.bool a.done) := blk_cell (i := 2) H5.rows.1 rfl
  have y3 : W5.cell? ⟨w4.heap.size, 3, none⟩ = some (.slice sq nq cq) := blk_cell (i := 3) H5.rows.1 rfl
  have z0 : W5.cell? ⟨w.heap.size + 1 + 1 + 1, 0, none⟩ = some (.int .i64 0) := blk_cell (i := 0) H5.rows.2.1 rfl
  have z1 : W5.cell? ⟨w.heap.size + 1 + 1 + 1, 1, none⟩ = some (.int .u64 0) := blk_cell (i := 1) H5.rows.2.1 rfl
  have z2 : W5.cell? ⟨w.heap.size + 1 + 1 + 1, 2, none⟩ = some (.bool false) := blk_cell (i := 2) H5.rows.2.1 rfl
  have z3 : W5.cell? ⟨w.heap.size + 1 + 1 + 1, 3, none⟩ = some (.slice none 0 0) := blk_cell (i := 3) H5.rows.2.1 rfl
  have u0 : W5.cell? ⟨w.heap.size + 1 + 1, 0, none⟩ = some (.slice none 0 0) := blk_cell (i := 0) H5.rows.2.2.1 rfl
  have f0 := blk_free 0 H5.rows.2.1
  have f1 := blk_free 1 H5.rows.2.1
  have f2 := blk_free 2 H5.rows.2.1
  have f3 := blk_free 3 H5.rows.2.1
  have g0 := blk_free 0 H5.rows.2.2.1
  have H5'h := Lib.hid H5
  have hT5'h := Lib.hid hT5
  have hS5'h := Lib.hid hS5
  have hT3'h := Lib.hid hT3
  have hL4'h := Lib.hid hL4
  have hB4'h := Lib.hid hB4
  have H4'h := Lib.hid H4
  have hb5'h := Lib.hid hb5
  clear H5 hT5 hS5 hT3 hL4 hB4 H4 hb5
  clear hl3 hgl hlw4 hl0 hl1 htl3
  go_upto_region 8 with fail
  go_region_held3 (fun w' => w'.cell? ⟨tb, 0, none⟩ = some (.slice sp' n' cap') ∧ w'.cell? ⟨w4.heap.size, 0, none⟩ = some (.int .i64 a.err) ∧ w'.cell? ⟨w4.heap.size, 1, none⟩ = some (.int .u64 (a.val : Int)) ∧ w'.cell? ⟨w4.heap.size, 2, none⟩ = some (.bool a.done) ∧ w'.cell? ⟨w4.heap.size, 3, none⟩ = some (.slice sq nq cq)) (go_keep) (fail)
  all_goals
    have H6 := (((((H5'h.out.put 2 rfl 0 (.slice sp' n' cap')).put 1 rfl 0 (.int .i64 a.err)).put 1 rfl 1 (.int .u64 (a.val : Int))).put 1 rfl 2 (.bool a.done)).put 1 rfl 3 (.slice sq nq cq)).drew
    have hK6 : Kept (fun b => b ≠ w.heap.size + 1 + 1 ∧ b ≠ w.heap.size + 1 + 1 + 1) W5 _ := (((((Kept.setCell _ W5 ⟨w.heap.size + 1 + 1, 0, none⟩ (.slice sp' n' cap') (fun h => h.1 rfl)).trans (Kept.setCell _ _ ⟨w.heap.size + 1 + 1 + 1, 0, none⟩ (.int .i64 a.err) (fun h => h.2 rfl))).trans (Kept.setCell _ _ ⟨w.heap.size + 1 + 1 + 1, 1, none⟩ (.int .u64 (a.val : Int)) (fun h => h.2 rfl))).trans (Kept.setCell _ _ ⟨w.heap.size + 1 + 1 + 1, 2, none⟩ (.bool a.done) (fun h => h.2 rfl))).trans (Kept.setCell _ _ ⟨w.heap.size + 1 + 1 + 1, 3, none⟩ (.slice sq nq cq) (fun h => h.2 rfl))).trans (Kept.drew _ _)
    clear m0 q1 q2 q3 q4 y0 y1 y2 y3 z0 z1 z2 z3 u0 f0 f1 f2 f3 g0
    generalize World.drew _ = W7 at H6 hK6 ⊢
    have e0 : W7.cell? ⟨w.heap.size + 1 + 1 + 1, 0, none⟩ = some (.int .i64 a.err) := blk_cell (i := 0) H6.rows.2.1 rfl
    have e1 : W7.cell? ⟨w.heap.size + 1 + 1 + 1, 1, none⟩ = some (.int .u64 (a.val : Int)) := blk_cell (i := 1) H6.rows.2.1 rfl
    have e2 : W7.cell? ⟨w.heap.size + 1 + 1 + 1, 2, none⟩ = some (.bool a.done) := blk_cell (i := 2) H6.rows.2.1 rfl
    have e3 : W7.cell? ⟨w.heap.size + 1 + 1 + 1, 3, none⟩ = some (.slice sq nq cq) := blk_cell (i := 3) H6.rows.2.1 rfl
    have e4 : W7.cell? ⟨w.heap.size + 1 + 1, 0, none⟩ = some (.slice sp' n' cap') := blk_cell (i := 0) H6.rows.2.2.1 rfl
    have hs2 := H2'h.out.lt (w.heap.size + 1 + 1 + 1, anA ⟨0, 0, false⟩ none 0 0, 34) (List.mem_cons_self ..)
    have hs3 := H3'h.out.lt (w.heap.size + 1 + 1 + 1, anA ⟨0, 0, false⟩ none 0 0, 34) (List.mem_cons_self ..)
    have hgl : w2.heap.size ≤ g := hT3'h.out.lowrow ⟨g, 0, none⟩ rfl
    simp only at hs2 hs3
    have hR7 : RowP W7 w.heap.size sp' n' cap' ps' := by
      refine (hT5'h.out.row.keep fun g' e _ => hK6.block g' (hT5'h.out.spot g' (by rw [e]; rfl)) ?_).low H2'h.out.old.size
      rcases hN4'h.out with e1 | e1
      · rw [e1] at e; cases e; constructor <;> omega
      · have := e1 _ e; simp only at this; constructor <;> omega
    have hS7 : SlK W7 2 sq nq (prs qs) := hS5'h.out.keep fun b o hb e ho => (hK6.block b hb (by have := hlo4'h.out b e; constructor <;> omega)).trans ho
    go_wp2
    refine bodyPost_ret (v := .tuple #[.agg #[.slice sp' n' cap'], .agg (anA a sq nq cq), .int .i64 0]) ?_ rfl ⟨sp', n', cap', sq, nq, cq, rfl, H6.old, hR7, hS7, hc4'h.out, hle4'h.out, fun b e => by have := hlo4'h.out b e; omega, hx4'h.out⟩
    simp [results, Tryd.results8, go_sem, e0, e1, e2, e3, e4, anA]
end Go.Proofs.YtogeohjeabbmaaaDoor
