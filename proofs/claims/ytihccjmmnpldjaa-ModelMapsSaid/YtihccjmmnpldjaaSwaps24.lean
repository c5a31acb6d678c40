/-
  ModelSwaps: a call, made by the law's own function.
-/
import Derived.Test.YtihccjmmnpldjaaLawTurns24
set_option linter.unusedSimpArgs false
set_option linter.unusedVariables false
set_option maxRecDepth 100000
namespace Go.Proofs.Ytihccjmmnpldjaa
open Go.RowKit

def SwEnd (v : Nat) (D : Bool) (ps : Ps) (w : World) (e : Ending) (w' : World) : Prop :=
  ∃ sp' n' cap', e = .returned (.tuple #[.agg #[.slice sp' n' cap'], .agg #[.int .i64 0, .int .u64 (v : Int), .bool D, .slice none 0 0], .bool true]) ∧ Below w.heap.size w w' ∧ SlK w' 2 sp' n' (prs ps)
set_option maxHeartbeats 4000000 in
theorem sw1_any (sp : Option Addr) (n cap : Nat) (ps : Ps) (op : Int) (key a b bk : Nat) (v : Nat) (D : Bool) (w : World) (h : SlK w 2 sp n (prs ps)) (hup : upB ps = true) (hn : n ≤ 4096) (ho : 1 ≤ op ∧ op ≤ 5) (hbk : w.heap[bk]? = some (.cells #[.int .u64 (key : Int)] 31 (0, 0)))
    (ht : tellA ⟨op, key, a, b⟩ ps = ⟨0, v, D⟩) :
    Calls Try.prog 22 #[.agg #[.slice sp n cap], .int .i64 op, .int .u64 (a : Int), .int .u64 (b : Int), .pointer (some ⟨bk, 0, none⟩)] w (SwEnd v D (nextP ⟨op, key, a, b⟩ ps) w) := by
  have H0 := ((Hs.nil w).new2 #[.slice sp n cap] #[.slice none 0 0] 24 24).new (anA ⟨0, 0, false⟩ none 0 0) 35
  simp only [World.size_alloc] at H0
  obtain ⟨W0, hW0⟩ : ∃ W0, W0 = (((w.alloc (.cells #[.slice sp n cap] 24)).alloc (.cells #[.slice none 0 0] 24)).alloc (.cells (anA ⟨0, 0, false⟩ none 0 0) 35)) := ⟨_, rfl⟩
  rw [← hW0] at H0
  have hoo : isOp ⟨op, key, a, b⟩ = true := by unfold isOp; simp only [decide_eq_true_eq]; omega
  have hD := mDo_yes sp n cap ps ⟨op, key, a, b⟩ W0 (h.below H0.old) hup hn hoo
  rw [ht] at hD
  have hsix : decide ((⟨op, key, a, b⟩ : Cl).op = 6) = false := by simp only [decide_eq_false_iff_not]; omega
  rw [hsix] at hD
  obtain ⟨ps', hpn⟩ : ∃ ps', ps' = nextP ⟨op, key, a, b⟩ ps := ⟨_, rfl⟩
  obtain ⟨qs, hqs⟩ : ∃ qs, qs = tellQ ⟨op, key, a, b⟩ ps := ⟨_, rfl⟩
  rw [← hpn, ← hqs] at hD
  rw [← hpn]
  have hD : Calls Try.prog 11 #[.agg #[.slice sp n cap], .agg #[.int .i64 op, .int .u64 (key : Int), .int .u64 (a : Int), .int .u64 (b : Int)]] W0 fun e w' => ∃ sp' n' cap', e = .returned (.tuple #[.agg #[.slice sp' n' cap'], .agg #[.int .i64 0, .int .u64 (v : Int), .bool D, .slice none 0 0], .int .i64 0]) ∧ Below W0.heap.size W0 w' ∧ RowP w' W0.heap.size sp' n' cap' ps' := hD.mono (by
    rintro e w' ⟨sp', n', cap', sq, nq, cq, rfl, h2, h3, _, _, _, _, hx⟩
    obtain ⟨rfl, rfl, rfl⟩ := hx rfl
    exact ⟨sp', n', cap', rfl, h2, h3⟩)
  have hkl := lt_of_heap hbk
  have kk : W0.cell? ⟨bk, 0, none⟩ = some (.int .u64 (key : Int)) := blk_cell (i := 0) (heap_below H0.old hbk hkl) rfl
  have x0 : W0.cell? ⟨w.heap.size, 0, none⟩ = some (.slice sp n cap) := blk_cell (i := 0) H0.rows.2.2.1 rfl
  clear hoo hsix ht
  have h'h := Lib.hid h
  have hup'h := Lib.hid hup
  have H0'h := Lib.hid H0
  have hW0'h := Lib.hid hW0
  have hD'h := Lib.hid hD
  have hpn'h := Lib.hid hpn
  have hqs'h := Lib.hid hqs
  have hbk'h := Lib.hid hbk
  clear h hup H0 hW0 hD hpn hqs hbk
  go_enter Try.func22, Try.ntmps22
  go_upto_region 1 with fail
  change Code.wp _ _ _ _ (((w.alloc (.cells #[.slice sp n cap] 24)).alloc (.cells #[.slice none 0 0] 24)).alloc (.cells (anA ⟨0, 0, false⟩ none 0 0) 35))
  rw [← hW0'h.out]
  go_upto_region 2 with (go_at_call 11; refine hD'h.out.mono ?_; rintro e w2 ⟨sp', n', cap', rfl, hb2, hR2⟩; have hb2'h := Lib.hid hb2; have hR2'h := Lib.hid hR2; clear hb2 hR2)
  clear x0 kk
  change Code.wp _ _ _ _ ((w2.alloc (.cells #[.slice sp' n' cap'] 24)).alloc (.cells (anA ⟨0, v, D⟩ none 0 0) 35))
  have H3 := (H0'h.out.next hb2'h.out).new2 #[.slice sp' n' cap'] (anA ⟨0, v, D⟩ none 0 0) 24 35
  have hS3 := hR2'h.out.sl.below (w' := (w2.alloc (.cells #[.slice sp' n' cap'] 24)).alloc (.cells (anA ⟨0, v, D⟩ none 0 0) 35)) (((Below.refl _ _).alloc (Nat.le_refl _) _).alloc (by simp) _)
  generalize (w2.alloc (.cells #[.slice sp' n' cap'] 24)).alloc (.cells (anA ⟨0, v, D⟩ none 0 0) 35) = W5 at H3 hS3 ⊢
  have hl2 := (H0'h.out.next hb2'h.out).lt (w.heap.size + 1 + 1, anA ⟨0, 0, false⟩ none 0 0, 35) (List.mem_cons_self ..)
  simp only at hl2
  have m0 : W5.cell? ⟨w2.heap.size, 0, none⟩ = some (.slice sp' n' cap') := blk_cell (i := 0) H3.rows.2.1 rfl
  have y0 : W5.cell? ⟨w2.heap.size + 1, 0, none⟩ = some (.int .i64 0) := blk_cell (i := 0) H3.rows.1 rfl
  have y1 : W5.cell? ⟨w2.heap.size + 1, 1, none⟩ = some (.int .u64 (v : Int)) := blk_cell (i := 1) H3.rows.1 rfl
  have y2 : W5.cell? ⟨w2.heap.size + 1, 2, none⟩ = some (.bool D) := blk_cell (i := 2) H3.rows.1 rfl
  have y3 : W5.cell? ⟨w2.heap.size + 1, 3, none⟩ = some (.slice none 0 0) := blk_cell (i := 3) H3.rows.1 rfl
  have z0 : W5.cell? ⟨w.heap.size + 1 + 1, 0, none⟩ = some (.int .i64 0) := blk_cell (i := 0) H3.rows.2.2.1 rfl
  have z1 : W5.cell? ⟨w.heap.size + 1 + 1, 1, none⟩ = some (.int .u64 0) := blk_cell (i := 1) H3.rows.2.2.1 rfl
  have z2 : W5.cell? ⟨w.heap.size + 1 + 1, 2, none⟩ = some (.bool false) := blk_cell (i := 2) H3.rows.2.2.1 rfl
  have z3 : W5.cell? ⟨w.heap.size + 1 + 1, 3, none⟩ = some (.slice none 0 0) := blk_cell (i := 3) H3.rows.2.2.1 rfl
  have u0 : W5.cell? ⟨w.heap.size + 1, 0, none⟩ = some (.slice none 0 0) := blk_cell (i := 0) H3.rows.2.2.2.1 rfl
  have f0 := blk_free 0 H3.rows.2.2.1
  have f1 := blk_free 1 H3.rows.2.2.1
  have f2 := blk_free 2 H3.rows.2.2.1
  have f3 := blk_free 3 H3.rows.2.2.1
  have g0 := blk_free 0 H3.rows.2.2.2.1
  have q1 : ∀ (W : World) (o o' : Nat) (v : Value), (W.setCell ⟨w.heap.size + 1, o, none⟩ v).cell? ⟨w2.heap.size, o', none⟩ = W.cell? ⟨w2.heap.size, o', none⟩ := fun W o o' v => World.cell?_of_block (Below.heap_setCell _ _ _ _ (by simp only; omega))
  have q2 : ∀ (W : World) (o o' : Nat) (v : Value), (W.setCell ⟨w.heap.size + 1, o, none⟩ v).cell? ⟨w2.heap.size + 1, o', none⟩ = W.cell? ⟨w2.heap.size + 1, o', none⟩ := fun W o o' v => World.cell?_of_block (Below.heap_setCell _ _ _ _ (by simp only; omega))
  have q3 : ∀ (W : World) (o o' : Nat) (v : Value), (W.setCell ⟨w.heap.size + 1 + 1, o, none⟩ v).cell? ⟨w2.heap.size, o', none⟩ = W.cell? ⟨w2.heap.size, o', none⟩ := fun W o o' v => World.cell?_of_block (Below.heap_setCell _ _ _ _ (by simp only; omega))
  have q4 : ∀ (W : World) (o o' : Nat) (v : Value), (W.setCell ⟨w.heap.size + 1 + 1, o, none⟩ v).cell? ⟨w2.heap.size + 1, o', none⟩ = W.cell? ⟨w2.heap.size + 1, o', none⟩ := fun W o o' v => World.cell?_of_block (Below.heap_setCell _ _ _ _ (by simp only; omega))
  have H3'h := Lib.hid H3
  have hS3'h := Lib.hid hS3
  clear H3 hS3
  go_region_held3 (fun w' => w'.cell? ⟨w2.heap.size, 0, none⟩ = some (.slice sp' n' cap') ∧ w'.cell? ⟨w2.heap.size + 1, 0, none⟩ = some (.int .i64 0) ∧ w'.cell? ⟨w2.heap.size + 1, 1, none⟩ = some (.int .u64 (v : Int)) ∧ w'.cell? ⟨w2.heap.size + 1, 2, none⟩ = some (.bool D) ∧ w'.cell? ⟨w2.heap.size + 1, 3, none⟩ = some (.slice none 0 0)) (go_keep) (fail)
  all_goals
    have H6 := (((((H3'h.out.put 3 rfl 0 (.slice sp' n' cap')).put 2 rfl 0 (.int .i64 0)).put 2 rfl 1 (.int .u64 (v : Int))).put 2 rfl 2 (.bool D)).put 2 rfl 3 (.slice none 0 0)).drew
    have hK6 : Kept (fun b => b ≠ w.heap.size + 1 ∧ b ≠ w.heap.size + 1 + 1) W5 _ := (((((Kept.setCell _ W5 ⟨w.heap.size + 1, 0, none⟩ (.slice sp' n' cap') (fun h => h.1 rfl)).trans (Kept.setCell _ _ ⟨w.heap.size + 1 + 1, 0, none⟩ (.int .i64 0) (fun h => h.2 rfl))).trans (Kept.setCell _ _ ⟨w.heap.size + 1 + 1, 1, none⟩ (.int .u64 (v : Int)) (fun h => h.2 rfl))).trans (Kept.setCell _ _ ⟨w.heap.size + 1 + 1, 2, none⟩ (.bool D) (fun h => h.2 rfl))).trans (Kept.setCell _ _ ⟨w.heap.size + 1 + 1, 3, none⟩ (.slice none 0 0) (fun h => h.2 rfl))).trans (Kept.drew _ _)
    clear m0 q1 q2 q3 q4 y0 y1 y2 y3 z0 z1 z2 z3 u0 f0 f1 f2 f3 g0
    generalize World.drew _ = W7 at H6 hK6 ⊢
    have e0 : W7.cell? ⟨w.heap.size + 1 + 1, 0, none⟩ = some (.int .i64 0) := blk_cell (i := 0) H6.rows.2.2.1 rfl
    have e1 : W7.cell? ⟨w.heap.size + 1 + 1, 1, none⟩ = some (.int .u64 (v : Int)) := blk_cell (i := 1) H6.rows.2.2.1 rfl
    have e2 : W7.cell? ⟨w.heap.size + 1 + 1, 2, none⟩ = some (.bool D) := blk_cell (i := 2) H6.rows.2.2.1 rfl
    have e3 : W7.cell? ⟨w.heap.size + 1 + 1, 3, none⟩ = some (.slice none 0 0) := blk_cell (i := 3) H6.rows.2.2.1 rfl
    have e4 : W7.cell? ⟨w.heap.size + 1, 0, none⟩ = some (.slice sp' n' cap') := blk_cell (i := 0) H6.rows.2.2.2.1 rfl
    have hz0 : W0.heap.size = w.heap.size + 3 := by rw [hW0'h.out]; simp
    have hlow : ∀ b, sp'.map (·.block) = some b → W0.heap.size ≤ b := fun b e => by
      rcases hR2'h.out.row with ⟨e', _⟩ | ⟨g, cur, e', hg, _⟩
      · rw [e'] at e; cases e
      · rw [e'] at e; cases e; exact hg
    have hS7 : SlK W7 2 sp' n' (prs ps') := hS3'h.out.keep fun b o hb e ho => (hK6.block b hb (by have := hlow b e; constructor <;> omega)).trans ho
    go_wp2
    refine bodyPost_ret (v := .tuple #[.agg #[.slice sp' n' cap'], .agg #[.int .i64 0, .int .u64 (v : Int), .bool D, .slice none 0 0], .bool true]) ?_ rfl ⟨sp', n', cap', rfl, H6.old, hS7⟩
    simp [results, Try.results22, go_sem, e0, e1, e2, e3, e4]
end Go.Proofs.Ytihccjmmnpldjaa
