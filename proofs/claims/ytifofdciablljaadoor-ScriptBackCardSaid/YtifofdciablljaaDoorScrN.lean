/-
  Layer 3 (script): Decode, whole.
-/
import Derived.Test.YtifofdciablljaaDoorScrM
import Derived.Deep.RegionHeld3
set_option linter.unusedSimpArgs false
set_option linter.unusedVariables false
set_option maxRecDepth 100000
namespace Go.Proofs.YtifofdciablljaaDoor
open Go.RowKit

theorem SmOwn.keep {B : Nat} {sm : Sm} {w w' : World} (h : SmOwn B sm w) (hh : Kept (fun b => B ≤ b) w w') : SmOwn B sm w' := by
  have hne : ∀ {e : TypeId} {k : Nat} {v : Value} {n : Nat} {xs : List Value}, w.ownsRow B e k v n xs → w'.ownsRow B e k v n xs := fun hr => by
    refine ⟨hr.1, hr.2.imp id ?_⟩
    rintro ⟨g, cap, cur, h1, hb, hg, hr⟩
    exact ⟨g, cap, cur, h1, hb, (hh.block g (lt_of_heap hg) hb).trans hg, hr⟩
  exact ⟨hne h.outer, fun r hr => hne (h.inner r hr), hne h.picks⟩
theorem SmIn.own {B : Nat} {sm : Sm} {w w' : World} (h : SmIn w sm) (ho : SmOwn B sm w') : SmIn w' sm := by
  have hrow : ∀ r ∈ sm.rows, r.len ≤ maxLen := fun r hr => by
    have h1 := h.rows.short r hr
    have h2 := h.rows.rlen hr
    unfold maxLen; omega
  have m1 : sm.ln ≤ maxLen := by have := h.rows.few; unfold maxLen; omega
  have m2 : sm.pn ≤ maxLen := by have := h.many; unfold maxLen; omega
  exact ⟨⟨SlK.of_row ho.outer m1, fun r hr => SlK.of_row (ho.inner r hr) (hrow r hr), h.rows.nil, h.rows.le, h.rows.ok, h.rows.few, h.rows.short⟩, (SlK.of_row ho.picks m2).sl, h.w64, h.seed, h.g, h.sl, h.lnil, h.lle, h.pnil, h.ple, h.many⟩
theorem Hs.grownTop {w0 : World} {x : Blk3} {l : List Blk3} {W W' : World} (h : Hs w0 (x :: l) W) (hg : W.grownBy W' (some x.1)) : Hs w0 l W' := by
  refine ⟨HasL.of fun y hy => ?_, h.old.grown hg h.old.size (fun k hk => by injection hk with hk; subst hk; exact h.low x (List.mem_cons_self ..)), h.tail.low, h.desc.tail⟩
  have hlt := (List.pairwise_cons.1 h.desc).1 y hy
  exact (hg.block y.1 (h.lt y (List.mem_cons_of_mem _ hy)) (fun e => by injection e with e; omega)).trans (h.rows.2.mem y hy)
/-- What Decode comes to. -/
def DecP (w : World) (bn : Nat) (R : Option (Scr × List Nat)) (e : Ending) (w' : World) : Prop := Below w.heap.size w w' ∧ match R with
  | some (s, rest) => ∃ sm : Sm, e = .returned (.tuple #[.agg (smA sm), .int .i64 ((bn - rest.length : Nat) : Int), .int .i64 0]) ∧ SmIn w' sm ∧ sm.scr = s ∧ rest.length ≤ bn
  | none => e = .returned (.tuple #[.agg zeroSm, .int .i64 0, .int .i64 131])
theorem decode_any (bp : Option Addr) (bn bc : Nat) (bytes : List Nat) (w : World) (hT : Tks w) (hsl : Sl w bp bn (u8s bytes)) (hby : ∀ b ∈ bytes, b < 256) (hbn : bn ≤ 100000) :
    Calls Tryd.prog 26 #[.slice bp bn bc] w fun e w' => DecP w bn (scriptR bytes) e w' := by
  have hmf : ∀ (fn : Fn) (first cap : Array Value) (w : World), (Instr.makeFunc fn first cap).run Tryd.prog w = .ok (.func fn first cap) w := fun _ _ _ _ => rfl
  have H0 := ((((Hs.nil w).new zeroSm 26).new #[.int .i64 0] 3).new #[.int .i64 0] 31).new (rdC (.int .i64 0) (.int .i64 0) (.int .u64 0) (.slice none 0 0) (.slice none 0 0) bp bn bc 0) 83
  simp only [World.size_alloc] at H0
  obtain ⟨W0, hW0⟩ : ∃ W0, W0 = ((((w.alloc (.cells zeroSm 26)).alloc (.cells #[.int .i64 0] 3)).alloc (.cells #[.int .i64 0] 31)).alloc (.cells (rdC (.int .i64 0) (.int .i64 0) (.int .u64 0) (.slice none 0 0) (.slice none 0 0) bp bn bc 0) 83)) := ⟨_, rfl⟩
  rw [← hW0] at H0
  have hne : 0 < bn → bp.map (·.block) ≠ some (w.heap.size + 1 + 1 + 1) := fun h0 e => by
    obtain ⟨b, o, rfl, hc⟩ := (SlK.of_sl hsl).some' (by omega)
    have hl : 0 < (u8s bytes).length := by have := hsl.1; omega
    have := lt_of_cell (hc 0 _ (List.getElem?_eq_getElem hl))
    injection e with e
    simp only at e this
    omega
  have hRd : RdI W0 (w.heap.size + 1 + 1 + 1) (.int .i64 0) (.int .i64 0) (.int .u64 0) (.slice none 0 0) (.slice none 0 0) bp bn bc bytes 0 W0 := ⟨H0.rows.1, World.grownBy.refl _ _, hsl.below H0.old, hne⟩
  have S := script_reads (w.heap.size + 1 + 1 + 1) bp bn bc bytes W0 (hT.next H0.old) (by omega) hRd hby hbn
  obtain ⟨R, hR⟩ : ∃ R, R = scriptR bytes := ⟨_, rfl⟩
  rw [← hR] at S ⊢
  have hR'h := Lib.hid hR
  have hby'h := Lib.hid hby
  have hbn'h := Lib.hid hbn
  have hsl'h := Lib.hid hsl
  have hT'h := Lib.hid hT
  have S'h := Lib.hid S
  have H0'h := Lib.hid H0
  have hRd'h := Lib.hid hRd
  clear hR hby hbn hsl hT S H0 hRd
  go_enter_defers Tryd.func26, Tryd.ntmps26
  go_wp2_with fail
  change Calls _ _ _ ((((w.alloc (.cells zeroSm 26)).alloc (.cells #[.int .i64 0] 3)).alloc (.cells #[.int .i64 0] 31)).alloc (.cells (rdC (.int .i64 0) (.int .i64 0) (.int .u64 0) (.slice none 0 0) (.slice none 0 0) bp bn bc 0) 83)) _
  rw [← hW0]
  refine S'h.out.mono ?_
  rintro e W1 ⟨hg, hP⟩
  have H1 := H0'h.out.grownTop hg
  clear hg
  cases R with
  | none =>
    simp only at hP
    subst hP
    have H1'h := Lib.hid H1
    clear H1
    go_wp2
    refine leaves_cons (f := 46) (args := #[.pointer (some ⟨w.heap.size, 0, none⟩), .pointer (some ⟨w.heap.size + 1, 0, none⟩), .pointer (some ⟨w.heap.size + 1 + 1, 0, none⟩)]) (by simp) (by simp [go_sem]) ?_
    refine (boomDec _ _ _ W1 H1'h.out.rows.2.2.1 H1'h.out.rows.2.1 H1'h.out.rows.1 (by omega) (by omega) (by omega)).mono ?_
    rintro e u' w'' ⟨rfl, rfl, rfl⟩
    have H2 := ((((H1'h.out.new #[] 79).set 3 rfl zeroSm).put 2 rfl 0 (.int .i64 0)).put 1 rfl 0 (.int .i64 131))
    unfold boomW
    generalize World.setCell _ _ _ = W2 at H2 ⊢
    have d0 : W2.cell? ⟨w.heap.size, 0, none⟩ = some (.int .i64 0) := blk_cell (i := 0) H2.rows.2.2.2.1 rfl
    have d1 : W2.cell? ⟨w.heap.size, 1, none⟩ = some (.int .i64 0) := blk_cell (i := 1) H2.rows.2.2.2.1 rfl
    have d2 : W2.cell? ⟨w.heap.size, 2, none⟩ = some (.int .u64 0) := blk_cell (i := 2) H2.rows.2.2.2.1 rfl
    have d3 : W2.cell? ⟨w.heap.size, 3, none⟩ = some (.slice none 0 0) := blk_cell (i := 3) H2.rows.2.2.2.1 rfl
    have d4 : W2.cell? ⟨w.heap.size, 4, none⟩ = some (.slice none 0 0) := blk_cell (i := 4) H2.rows.2.2.2.1 rfl
    have d5 : W2.cell? ⟨w.heap.size + 1, 0, none⟩ = some (.int .i64 0) := blk_cell (i := 0) H2.rows.2.2.1 rfl
    have d6 : W2.cell? ⟨w.heap.size + 1 + 1, 0, none⟩ = some (.int .i64 131) := blk_cell (i := 0) H2.rows.2.1 rfl
    have hD : DecP w bn none (.returned (.tuple #[.agg zeroSm, .int .i64 0, .int .i64 131])) W2 := ⟨H2.old, rfl⟩
    clear H2
    simp [Leaves, settle, results, Tryd.results26, go_sem, d0, d1, d2, d3, d4, d5, d6, hD]
  | some sr =>
    obtain ⟨s, rest⟩ := sr
    simp only at hP
    obtain ⟨rfl, sm, p', hRd1, hIn1, hOwn1, rfl, hp1, hp2⟩ := hP
    have hat : (p' : Int) = ((bn - rest.length : Nat) : Int) := by omega
    have hrl : rest.length ≤ bn := by omega
    have y0 : W1.cell? ⟨w.heap.size + 1 + 1 + 1, 0, none⟩ = some (.int .i64 sm.goers) := blk_cell (i := 0) hRd1.blk rfl
    have y1 : W1.cell? ⟨w.heap.size + 1 + 1 + 1, 1, none⟩ = some (.int .i64 sm.slabs) := blk_cell (i := 1) hRd1.blk rfl
    have y2 : W1.cell? ⟨w.heap.size + 1 + 1 + 1, 2, none⟩ = some (.int .u64 (sm.seed : Int)) := blk_cell (i := 2) hRd1.blk rfl
    have y3 : W1.cell? ⟨w.heap.size + 1 + 1 + 1, 3, none⟩ = some (.slice sm.lp sm.ln sm.lc) := blk_cell (i := 3) hRd1.blk rfl
    have y4 : W1.cell? ⟨w.heap.size + 1 + 1 + 1, 4, none⟩ = some (.slice sm.pp sm.pn sm.pc) := blk_cell (i := 4) hRd1.blk rfl
    have y6 : W1.cell? ⟨w.heap.size + 1 + 1 + 1, 6, none⟩ = some (.int .i64 (p' : Int)) := blk_cell (i := 6) hRd1.blk rfl
    have q1 : ∀ (W : World) (o o' : Nat) (v : Value), (W.setCell ⟨w.heap.size, o, none⟩ v).cell? ⟨w.heap.size + 1 + 1 + 1, o', none⟩ = W.cell? ⟨w.heap.size + 1 + 1 + 1, o', none⟩ := fun W o o' v => World.cell?_of_block (Below.heap_setCell _ _ _ _ (by simp only; omega))
    have q2 : ∀ (W : World) (o o' : Nat) (v : Value), (W.setCell ⟨w.heap.size + 1, o, none⟩ v).cell? ⟨w.heap.size + 1 + 1 + 1, o', none⟩ = W.cell? ⟨w.heap.size + 1 + 1 + 1, o', none⟩ := fun W o o' v => World.cell?_of_block (Below.heap_setCell _ _ _ _ (by simp only; omega))
    have q3 : ∀ (W : World) (o o' : Nat) (v : Value), (W.setCell ⟨w.heap.size + 1 + 1, o, none⟩ v).cell? ⟨w.heap.size + 1 + 1 + 1, o', none⟩ = W.cell? ⟨w.heap.size + 1 + 1 + 1, o', none⟩ := fun W o o' v => World.cell?_of_block (Below.heap_setCell _ _ _ _ (by simp only; omega))
    have z0 : W1.cell? ⟨w.heap.size, 0, none⟩ = some (.int .i64 0) := blk_cell (i := 0) H1.rows.2.2.1 rfl
    have z1 : W1.cell? ⟨w.heap.size, 1, none⟩ = some (.int .i64 0) := blk_cell (i := 1) H1.rows.2.2.1 rfl
    have z2 : W1.cell? ⟨w.heap.size, 2, none⟩ = some (.int .u64 0) := blk_cell (i := 2) H1.rows.2.2.1 rfl
    have z3 : W1.cell? ⟨w.heap.size, 3, none⟩ = some (.slice none 0 0) := blk_cell (i := 3) H1.rows.2.2.1 rfl
    have z4 : W1.cell? ⟨w.heap.size, 4, none⟩ = some (.slice none 0 0) := blk_cell (i := 4) H1.rows.2.2.1 rfl
    have z5 : W1.cell? ⟨w.heap.size + 1, 0, none⟩ = some (.int .i64 0) := blk_cell (i := 0) H1.rows.2.1 rfl
    have z6 : W1.cell? ⟨w.heap.size + 1 + 1, 0, none⟩ = some (.int .i64 0) := blk_cell (i := 0) H1.rows.1 rfl
    have f0 := blk_free 0 H1.rows.2.2.1
    have f1 := blk_free 1 H1.rows.2.2.1
    have f2 := blk_free 2 H1.rows.2.2.1
    have f3 := blk_free 3 H1.rows.2.2.1
    have f4 := blk_free 4 H1.rows.2.2.1
    have f5 := blk_free 0 H1.rows.2.1
    have f6 := blk_free 0 H1.rows.1
    have hs1 := hRd1.by'.size
    have hs0 := (H0'h.out.lt _ (List.mem_cons_self ..))
    have H1'h := Lib.hid H1
    have hRd1'h := Lib.hid hRd1
    have hIn1'h := Lib.hid hIn1
    have hOwn1'h := Lib.hid hOwn1
    have hat'h := Lib.hid hat
    have hrl'h := Lib.hid hrl
    have hs1'h := Lib.hid hs1
    have hs0'h := Lib.hid hs0
    clear H1 hRd1 hIn1 hOwn1 hat hrl hs1 hs0
    go_upto_region 1 with fail
    go_region_held3 (fun w' => w'.cell? ⟨w.heap.size + 1 + 1 + 1, 0, none⟩ = some (.int .i64 sm.goers) ∧ w'.cell? ⟨w.heap.size + 1 + 1 + 1, 1, none⟩ = some (.int .i64 sm.slabs) ∧ w'.cell? ⟨w.heap.size + 1 + 1 + 1, 2, none⟩ = some (.int .u64 (sm.seed : Int)) ∧ w'.cell? ⟨w.heap.size + 1 + 1 + 1, 3, none⟩ = some (.slice sm.lp sm.ln sm.lc) ∧ w'.cell? ⟨w.heap.size + 1 + 1 + 1, 4, none⟩ = some (.slice sm.pp sm.pn sm.pc) ∧ w'.cell? ⟨w.heap.size + 1 + 1 + 1, 6, none⟩ = some (.int .i64 (p' : Int))) (go_keep) (fail)
    have H2 := (((((((H1'h.out.put 2 rfl 0 (.int .i64 sm.goers)).put 2 rfl 1 (.int .i64 sm.slabs)).put 2 rfl 2 (.int .u64 (sm.seed : Int))).put 2 rfl 3 (.slice sm.lp sm.ln sm.lc)).put 2 rfl 4 (.slice sm.pp sm.pn sm.pc)).put 1 rfl 0 (.int .i64 (p' : Int))).put 0 rfl 0 (.int .i64 0)).drew
    have h0 : w.heap.size + 1 + 1 < W0.heap.size := by have := hs0'h.out; exact Nat.lt_of_succ_lt this
    have hOwn2 := hOwn1'h.out.keep ((((((((Kept.setCell _ W1 ⟨w.heap.size, 0, none⟩ (.int .i64 sm.goers) (by simp only; omega)).trans (Kept.setCell _ _ ⟨w.heap.size, 1, none⟩ (.int .i64 sm.slabs) (by simp only; omega))).trans (Kept.setCell _ _ ⟨w.heap.size, 2, none⟩ (.int .u64 (sm.seed : Int)) (by simp only; omega))).trans (Kept.setCell _ _ ⟨w.heap.size, 3, none⟩ (.slice sm.lp sm.ln sm.lc) (by simp only; omega))).trans (Kept.setCell _ _ ⟨w.heap.size, 4, none⟩ (.slice sm.pp sm.pn sm.pc) (by simp only; omega))).trans (Kept.setCell _ _ ⟨w.heap.size + 1, 0, none⟩ (.int .i64 (p' : Int)) (by simp only; omega))).trans (Kept.setCell _ _ ⟨w.heap.size + 1 + 1, 0, none⟩ (.int .i64 0) (by simp only; omega))).trans (Kept.drew _ _))
    clear y0 y1 y2 y3 y4 y6 q1 q2 q3 z0 z1 z2 z3 z4 z5 z6 f0 f1 f2 f3 f4 f5 f6
    generalize World.drew _ = W2 at H2 hOwn2 ⊢
    have hIn2 := hIn1'h.out.own hOwn2
    rw [hat'h.out] at H2
    have d0 : W2.cell? ⟨w.heap.size, 0, none⟩ = some (.int .i64 sm.goers) := blk_cell (i := 0) H2.rows.2.2.1 rfl
    have d1 : W2.cell? ⟨w.heap.size, 1, none⟩ = some (.int .i64 sm.slabs) := blk_cell (i := 1) H2.rows.2.2.1 rfl
    have d2 : W2.cell? ⟨w.heap.size, 2, none⟩ = some (.int .u64 (sm.seed : Int)) := blk_cell (i := 2) H2.rows.2.2.1 rfl
    have d3 : W2.cell? ⟨w.heap.size, 3, none⟩ = some (.slice sm.lp sm.ln sm.lc) := blk_cell (i := 3) H2.rows.2.2.1 rfl
    have d4 : W2.cell? ⟨w.heap.size, 4, none⟩ = some (.slice sm.pp sm.pn sm.pc) := blk_cell (i := 4) H2.rows.2.2.1 rfl
    have d5 : W2.cell? ⟨w.heap.size + 1, 0, none⟩ = some (.int .i64 ((bn - rest.length : Nat) : Int)) := blk_cell (i := 0) H2.rows.2.1 rfl
    have d6 : W2.cell? ⟨w.heap.size + 1 + 1, 0, none⟩ = some (.int .i64 0) := blk_cell (i := 0) H2.rows.1 rfl
    have hD : DecP w bn (some (sm.scr, rest)) (.returned (.tuple #[.agg (smA sm), .int .i64 ((bn - rest.length : Nat) : Int), .int .i64 0])) W2 := ⟨H2.old, sm, rfl, hIn2, rfl, hrl'h.out⟩
    unfold smA at hD
    clear H2 hOwn2 hIn2
    have hD'h := Lib.hid hD
    clear hD
    go_wp2
    refine leaves_cons (f := 46) (args := #[.pointer (some ⟨w.heap.size, 0, none⟩), .pointer (some ⟨w.heap.size + 1, 0, none⟩), .pointer (some ⟨w.heap.size + 1 + 1, 0, none⟩)]) (by simp) (by simp [go_sem]) ?_
    refine (idleDec _ _ _ W2).mono ?_
    rintro e u' w'' ⟨rfl, rfl, rfl⟩
    refine ⟨_, ?_, hD'h.out⟩
    simp [results, Tryd.results26, go_sem, d0, d1, d2, d3, d4, d5, d6]
end Go.Proofs.YtifofdciablljaaDoor
