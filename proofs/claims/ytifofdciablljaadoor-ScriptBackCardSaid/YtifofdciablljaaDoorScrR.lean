/-
  Layer 3 (script): own.
-/
import Derived.Test.YtifofdciablljaaDoorScrQ
import Derived.Deep.LoopGhost
set_option linter.unusedSimpArgs false
set_option linter.unusedVariables false
set_option maxRecDepth 100000
namespace Go.Proofs.YtifofdciablljaaDoor
open Go.RowKit

/-- A script as an argument lies in memory. -/
structure SmArg (w : World) (s : Sm) : Prop where
  rows : SlK w 1 s.lp s.ln (s.rows.map crV)
  each : ∀ r ∈ s.rows, SlK w 4 r.sp r.len (cals r.cs)
  nil : ∀ r ∈ s.rows, r.sp = none → r.cap = 0
  le : ∀ r ∈ s.rows, r.len ≤ r.cap
  ok : ∀ r ∈ s.rows, ∀ c ∈ r.cs, CalOk c
  picks : Sl w s.pp s.pn (u64s s.picks)
  w64 : W64 s.picks
  seed : s.seed < 2 ^ 64
  g : -9223372036854775808 ≤ s.goers ∧ s.goers ≤ 9223372036854775807
  sl : -9223372036854775808 ≤ s.slabs ∧ s.slabs ≤ 9223372036854775807
  lnil : s.lp = none → s.lc = 0
  lle : s.ln ≤ s.lc
  pnil : s.pp = none → s.pc = 0
  ple : s.pn ≤ s.pc
theorem SmArg.below {w w' : World} {s : Sm} (h : SmArg w s) (hb : Below w.heap.size w w') : SmArg w' s :=
  ⟨h.rows.below hb, fun r hr => (h.each r hr).below hb, h.nil, h.le, h.ok, h.picks.below hb, h.w64, h.seed, h.g, h.sl, h.lnil, h.lle, h.pnil, h.ple⟩
def ownS (s : Scr) : Scr := ⟨s.goers, s.slabs, s.seed, (s.lists.take 10).map (·.take 66), s.picks.take 4100⟩
theorem blk_apart {W : World} {b B : Nat} {e t : TypeId} {k n : Nat} {v : Value} {xs : List Value} {cs : Array Value} (h : W.ownsRow B e k v n xs) (hb : W.heap[b]? = some (.cells cs t (0, 0))) (hne : e ≠ t) : ∀ g, v.ownBlock = some g → some b ≠ some g := by
  intro g hg he
  injection he with he
  subst he
  rcases h.2 with ⟨rfl, -⟩ | ⟨b', cap, cur, rfl, -, hh, -⟩
  · cases hg
  · have e1 : b' = b := by injection hg
    rw [e1, hb] at hh
    injection hh with hh
    injection hh with _ hh _
    exact hne hh.symm
theorem ownsRow_kept {w w' : World} {B : Nat} {e : TypeId} {k n : Nat} {v : Value} {xs : List Value} (h : w.ownsRow B e k v n xs) (hh : Kept (fun b => B ≤ b) w w') : w'.ownsRow B e k v n xs := by
  refine ⟨h.1, h.2.imp id ?_⟩
  rintro ⟨g, cap, cur, h1, hb, hg, hr⟩
  exact ⟨g, cap, cur, h1, hb, (hh.block g (lt_of_heap hg) hb).trans hg, hr⟩
/-- While a script is laid together in a block of one's own. -/
structure OutI (W0 : World) (ob : Nat) (v0 v1 v2 lv pv : Value) (rows : List CRow) (ps : List Nat) (wr : World) : Prop where
  low : Below W0.heap.size W0 wr
  blk : wr.heap[ob]? = some (.cells #[v0, v1, v2, lv, pv] 26)
  hob : W0.heap.size ≤ ob
  outer : wr.ownsRow W0.heap.size 55 1 lv rows.length (rows.map crV)
  inner : ∀ r ∈ rows, wr.ownsRow W0.heap.size 57 4 (crV r) r.len (cals r.cs)
  len : ∀ r ∈ rows, r.len = r.cs.length ∧ r.cs.length ≤ 66 ∧ ∀ c ∈ r.cs, CalOk c
  picks : wr.ownsRow W0.heap.size 22 1 pv ps.length (u64s ps)
section
variable {W0 : World} {ob : Nat} {v0 v1 v2 lv pv : Value} {rows : List CRow} {ps : List Nat} {wr wr' : World}
theorem OutI.next (h : OutI W0 ob v0 v1 v2 lv pv rows ps wr) (hb : Below wr.heap.size wr wr') : OutI W0 ob v0 v1 v2 lv pv rows ps wr' :=
  ⟨below_next h.low hb, heap_below hb h.blk (lt_of_heap h.blk), h.hob, ownsRow_next h.outer hb, fun r hr => ownsRow_next (h.inner r hr) hb, h.len, ownsRow_next h.picks hb⟩
theorem OutI.c3 (h : OutI W0 ob v0 v1 v2 lv pv rows ps wr) : wr.cell? ⟨ob, 3, none⟩ = some lv := blk_cell (i := 3) h.blk rfl
theorem OutI.kept (h : OutI W0 ob v0 v1 v2 lv pv rows ps wr) (hg : wr.grownBy wr' lv.ownBlock) : wr'.heap[ob]? = some (.cells #[v0, v1, v2, lv, pv] 26) :=
  (hg.block ob (lt_of_heap h.blk) (blk_other' h.outer h.blk)).trans h.blk
where blk_other' {W : World} {b B : Nat} {n : Nat} {v : Value} {xs : List Value} {cs : Array Value} (h : W.ownsRow B 55 1 v n xs) (hb : W.heap[b]? = some (.cells cs 26 (0, 0))) : some b ≠ v.ownBlock := fun e => blk_apart h hb (by decide) b e.symm rfl
/-- A row more, and the store of the row of rows. -/
theorem OutI.push {r : CRow} {lv' : Value} (h : OutI W0 ob v0 v1 v2 lv pv rows ps wr) (hr : wr.ownsRow W0.heap.size 57 4 (crV r) r.len (cals r.cs)) (hl : r.len = r.cs.length ∧ r.cs.length ≤ 66 ∧ ∀ c ∈ r.cs, CalOk c)
    (ho : wr'.ownsRow W0.heap.size 55 1 lv' (rows.length + 1) (rows.map crV ++ [crV r])) (hg : wr.grownBy wr' lv.ownBlock) : OutI W0 ob v0 v1 v2 lv' pv (rows ++ [r]) ps (wr'.setCell ⟨ob, 3, none⟩ lv') := by
  have hne : ∀ (x : CRow), wr.ownsRow W0.heap.size 57 4 (crV x) x.len (cals x.cs) → ∀ g, (crV x).ownBlock = some g → lv.ownBlock ≠ some g := fun x hx => ownsRow_apart hx h.outer (by decide)
  have hb' := h.kept hg
  have z1 : ∀ x ∈ rows ++ [r], wr'.ownsRow W0.heap.size 57 4 (crV x) x.len (cals x.cs) := fun x hx => by
    rcases List.mem_append.1 hx with hx | hx
    · exact ownsRow_other (h.inner x hx) hg (hne x (h.inner x hx))
    · obtain rfl : x = r := by simpa using hx
      exact ownsRow_other hr hg (hne x hr)
  have z2 := ownsRow_other h.picks hg (ownsRow_apart h.picks h.outer (by decide))
  have hgT : wr'.grownBy (wr'.setCell ⟨ob, 3, none⟩ lv') (some ob) := ⟨rfl, rfl, rfl, by simp [World.setCell], fun k hk hne => Below.heap_setCell _ _ _ _ (fun e => hne (by rw [e]))⟩
  refine ⟨(h.low.grown hg h.low.size (fun k hk => (h.outer.lt k hk).1)).grown hgT ?_ (fun k hk => by injection hk with hk; subst hk; exact h.hob), ?_, h.hob, ?_, fun x hx => ?_, fun x hx => ?_, ?_⟩
  · exact Nat.le_trans h.low.size hg.size
  · exact blk_set (i := 3) _ hb'
  · have : wr'.ownsRow W0.heap.size 55 1 lv' (rows ++ [r]).length ((rows ++ [r]).map crV) := by simpa using ho
    exact ownsRow_other this hgT (blk_apart this hb' (by decide))
  · exact ownsRow_other (z1 x hx) hgT (blk_apart (z1 x hx) hb' (by decide))
  · rcases List.mem_append.1 hx with hx | hx
    · exact h.len x hx
    · obtain rfl : x = r := by simpa using hx
      exact hl
  · exact ownsRow_other z2 hgT (blk_apart z2 hb' (by decide))
/-- The script, as it lies. -/
theorem OutI.script {lp : Option Addr} {ln lc : Nat} {pp : Option Addr} {pn pc : Nat} {g sb : Int} {seed : Nat} (h : OutI W0 ob (.int .i64 g) (.int .i64 sb) (.int .u64 (seed : Int)) (.slice lp ln lc) (.slice pp pn pc) rows ps wr)
    (hg : -9223372036854775808 ≤ g ∧ g ≤ 9223372036854775807) (hsb : -9223372036854775808 ≤ sb ∧ sb ≤ 9223372036854775807) (hseed : seed < 2 ^ 64) (hn : rows.length ≤ 16) (hp : ps.length ≤ 4200) (h64 : W64 ps) :
    SmIn wr ⟨g, sb, seed, lp, ln, lc, rows, pp, pn, pc, ps⟩ ∧ SmOwn W0.heap.size ⟨g, sb, seed, lp, ln, lc, rows, pp, pn, pc, ps⟩ wr ∧ ln = rows.length ∧ pn = ps.length := by
  obtain ⟨s1, c1, e1, k1, k2, -⟩ := row_form h.outer
  obtain ⟨s2, c2, e2, k3, k4, -⟩ := row_form h.picks
  have hln : ln = rows.length := by injection e1
  have hpn : pn = ps.length := by injection e2
  have hlc : c1 = lc := by injection e1 with a b c; exact c.symm
  have hpc : c2 = pc := by injection e2 with a b c; exact c.symm
  have hls : s1 = lp := by injection e1 with a b c; exact a.symm
  have hps : s2 = pp := by injection e2 with a b c; exact a.symm
  subst hlc hpc hls hps hln hpn
  have m1 : rows.length ≤ maxLen := by unfold maxLen; omega
  have m2 : ps.length ≤ maxLen := by unfold maxLen; omega
  refine ⟨⟨⟨SlK.of_row h.outer m1, fun r hr => ?_, fun r hr => ?_, fun r hr => ?_, fun r hr => (h.len r hr).2.2, hn, fun r hr => (h.len r hr).2.1⟩,
    (SlK.of_row h.picks m2).sl, h64, hseed, hg, hsb, k2, k1, k4, k3, hp⟩, ⟨h.outer, h.inner, h.picks⟩, rfl, rfl⟩
  · exact SlK.of_row (h.inner r hr) (by have := h.len r hr; unfold maxLen; omega)
  · exact row_nil' (h.inner r hr)
  · obtain ⟨s3, c3, e3, k5, -, -⟩ := row_form (h.inner r hr)
    have hc : r.cap = c3 := by unfold crV at e3; injection e3
    rw [hc]; exact k5
end
set_option maxHeartbeats 4000000 in
theorem own_any (s : Sm) (w : World) (h : SmArg w s) :
    Calls Tryd.prog 10 #[.agg (smA s)] w fun e w' => SmAt w (ownS s.scr) e w' := by
  obtain ⟨g, sb, seed, lp, ln, lc, rows, pp, pn, pc, ps⟩ := s
  have hg := h.g
  have hsb := h.sl
  have hseed := h.seed
  have hlnm := h.rows.2.1
  have hrl : ln = rows.length := by have := h.rows.1; simpa using this.symm
  obtain ⟨m, hm⟩ : ∃ m : Nat, min (pn : Int) 4100 = (m : Int) := ⟨(min (pn : Int) 4100).toNat, by omega⟩
  have hmp : m ≤ pn := by omega
  have hpl : pn = ps.length := by have := h.picks.1; rw [u64s_length] at this; exact this
  have hpm : ps.take 4100 = ps.take m := List.take_eq_take_iff.2 (by omega)
  have hk64 : W64 (ps.take m) := fun k hk => h.w64 k (List.mem_of_mem_take hk)
  have hple := h.ple
  have hpnil := h.pnil
  simp only at hg hsb hseed hlnm hple hpnil
  have i1 : (m : Int) ≤ (pc : Int) := by omega
  have i2 : ¬ (m : Int) < 0 := by omega
  obtain ⟨W0, hW0⟩ : ∃ W0, W0 = (w.alloc (.cells #[.int .i64 g, .int .i64 sb, .int .u64 (seed : Int), .slice lp ln lc, .slice pp pn pc] 26)).alloc (.cells zeroSm 26) := ⟨_, rfl⟩
  have hB00 : Below w.heap.size w W0 := by rw [hW0]; exact ((Below.refl _ _).alloc (Nat.le_refl _) _).alloc (by simp) _
  have hbx : W0.heap[w.heap.size]? = some (.cells #[.int .i64 g, .int .i64 sb, .int .u64 (seed : Int), .slice lp ln lc, .slice pp pn pc] 26) := by rw [hW0]; exact (Below.heap_alloc _ _ _ (by simp)).trans (World.alloc_heap_new _ _)
  have hbr : W0.heap[w.heap.size + 1]? = some (.cells zeroSm 26) := by rw [hW0]; exact heap_alloc2_new w _ _
  have hW0s : W0.heap.size = w.heap.size + 2 := by rw [hW0]; simp
  have hA0 := h.below hB00
  have hP0 := hA0.picks.take m hmp
  rw [u64s_take] at hP0
  have hPn : pp = none → pc = 0 := hpnil
  obtain ⟨i0, hi, hz, hs, hby⟩ := info_parts info_lst
  unfold smA
  simp only
  have R := (Below.refl W0.heap.size W0).drew
  have hP1 := hP0.below R
  have x0 : W0.cell? ⟨w.heap.size, 0, none⟩ = some (.int .i64 g) := blk_cell (i := 0) hbx rfl
  have x1 : W0.cell? ⟨w.heap.size, 1, none⟩ = some (.int .i64 sb) := blk_cell (i := 1) hbx rfl
  have x2 : W0.cell? ⟨w.heap.size, 2, none⟩ = some (.int .u64 (seed : Int)) := blk_cell (i := 2) hbx rfl
  have x4 : W0.cell? ⟨w.heap.size, 4, none⟩ = some (.slice pp pn pc) := blk_cell (i := 4) hbx rfl
  have hxl := lt_of_heap hbx
  clear hple hpnil hP0
  have h'h := Lib.hid h
  have hg'h := Lib.hid hg
  have hsb'h := Lib.hid hsb
  have hseed'h := Lib.hid hseed
  have hlnm'h := Lib.hid hlnm
  have hrl'h := Lib.hid hrl
  have hmp'h := Lib.hid hmp
  have hpl'h := Lib.hid hpl
  have hpm'h := Lib.hid hpm
  have hk64'h := Lib.hid hk64
  have hB00'h := Lib.hid hB00
  have hbx'h := Lib.hid hbx
  have hbr'h := Lib.hid hbr
  have hW0s'h := Lib.hid hW0s
  have hA0'h := Lib.hid hA0
  have hPn'h := Lib.hid hPn
  have hP1'h := Lib.hid hP1
  have R'h := Lib.hid R
  clear h hg hsb hseed hlnm hrl hmp hpl hpm hk64 hB00 hbx hbr hW0s hA0 hPn hP1 R
  go_enter Tryd.func10, Tryd.ntmps10
  go_upto_region 1 with fail
  change Code.wp _ _ _ _ ((w.alloc (.cells #[.int .i64 g, .int .i64 sb, .int .u64 (seed : Int), .slice lp ln lc, .slice pp pn pc] 26)).alloc (.cells zeroSm 26))
  rw [← hW0]
  refine wp_region_heldF (fun w' => Below W0.heap.size W0 w') 99 (by kernel_rfl) ?_
  clear hW0
  have R := R'h.out
  clear R'h
  have hP1 := hP1'h.out
  clear hP1'h
  generalize W0.drew = V0 at R hP1 ⊢
  refine wpAnyF_take (i := 0) (v := .pointer (some ⟨w.heap.size, 0, none⟩)) rfl (by kernel_rfl) (by kernel_rfl) (by kernel_rfl) (by kernel_rfl) (fun _ _ _ h => h) (Or.inl ⟨by kernel_rfl, fun w hSw => by (try dsimp only at hSw); go_simp⟩) R ?_; try simp only [Act.put, List.getElem_toArray, List.getElem_cons_succ, List.getElem_cons_zero, List.setIfInBounds_toArray, List.set_cons_zero, List.set_cons_succ]
  refine wpAnyF_take (i := 1) (v := .int .i64 g) rfl (by kernel_rfl) (by kernel_rfl) (by kernel_rfl) (by kernel_rfl) (fun _ _ _ h => h) (Or.inl ⟨by kernel_rfl, fun w hSw => by have hcc := (hSw.cell hxl).trans x0; (try dsimp only at hSw); go_simp⟩) R ?_; try simp only [Act.put, List.getElem_toArray, List.getElem_cons_succ, List.getElem_cons_zero, List.setIfInBounds_toArray, List.set_cons_zero, List.set_cons_succ]
  refine wpAnyF_take (i := 2) (v := .pointer (some ⟨w.heap.size, 1, none⟩)) rfl (by kernel_rfl) (by kernel_rfl) (by kernel_rfl) (by kernel_rfl) (fun _ _ _ h => h) (Or.inl ⟨by kernel_rfl, fun w hSw => by (try dsimp only at hSw); go_simp⟩) R ?_; try simp only [Act.put, List.getElem_toArray, List.getElem_cons_succ, List.getElem_cons_zero, List.setIfInBounds_toArray, List.set_cons_zero, List.set_cons_succ]
  refine wpAnyF_take (i := 3) (v := .int .i64 sb) rfl (by kernel_rfl) (by kernel_rfl) (by kernel_rfl) (by kernel_rfl) (fun _ _ _ h => h) (Or.inl ⟨by kernel_rfl, fun w hSw => by have hcc := (hSw.cell hxl).trans x1; (try dsimp only at hSw); go_simp⟩) R ?_; try simp only [Act.put, List.getElem_toArray, List.getElem_cons_succ, List.getElem_cons_zero, List.setIfInBounds_toArray, List.set_cons_zero, List.set_cons_succ]
  refine wpAnyF_take (i := 4) (v := .pointer (some ⟨w.heap.size, 2, none⟩)) rfl (by kernel_rfl) (by kernel_rfl) (by kernel_rfl) (by kernel_rfl) (fun _ _ _ h => h) (Or.inl ⟨by kernel_rfl, fun w hSw => by (try dsimp only at hSw); go_simp⟩) R ?_; try simp only [Act.put, List.getElem_toArray, List.getElem_cons_succ, List.getElem_cons_zero, List.setIfInBounds_toArray, List.set_cons_zero, List.set_cons_succ]
  refine wpAnyF_take (i := 5) (v := .int .u64 (seed : Int)) rfl (by kernel_rfl) (by kernel_rfl) (by kernel_rfl) (by kernel_rfl) (fun _ _ _ h => h) (Or.inl ⟨by kernel_rfl, fun w hSw => by have hcc := (hSw.cell hxl).trans x2; (try dsimp only at hSw); go_simp⟩) R ?_; try simp only [Act.put, List.getElem_toArray, List.getElem_cons_succ, List.getElem_cons_zero, List.setIfInBounds_toArray, List.set_cons_zero, List.set_cons_succ]
  refine wpAnyF_take (i := 6) (v := .pointer (some ⟨w.heap.size, 4, none⟩)) rfl (by kernel_rfl) (by kernel_rfl) (by kernel_rfl) (by kernel_rfl) (fun _ _ _ h => h) (Or.inl ⟨by kernel_rfl, fun w hSw => by (try dsimp only at hSw); go_simp⟩) R ?_; try simp only [Act.put, List.getElem_toArray, List.getElem_cons_succ, List.getElem_cons_zero, List.setIfInBounds_toArray, List.set_cons_zero, List.set_cons_succ]
  refine wpAnyF_take (i := 7) (v := .slice pp pn pc) rfl (by kernel_rfl) (by kernel_rfl) (by kernel_rfl) (by kernel_rfl) (fun _ _ _ h => h) (Or.inl ⟨by kernel_rfl, fun w hSw => by have hcc := (hSw.cell hxl).trans x4; (try dsimp only at hSw); go_simp⟩) R ?_; try simp only [Act.put, List.getElem_toArray, List.getElem_cons_succ, List.getElem_cons_zero, List.setIfInBounds_toArray, List.set_cons_zero, List.set_cons_succ]
  refine wpAnyF_take (i := 8) (v := .pointer (some ⟨w.heap.size, 4, none⟩)) rfl (by kernel_rfl) (by kernel_rfl) (by kernel_rfl) (by kernel_rfl) (fun _ _ _ h => h) (Or.inl ⟨by kernel_rfl, fun w hSw => by (try dsimp only at hSw); go_simp⟩) R ?_; try simp only [Act.put, List.getElem_toArray, List.getElem_cons_succ, List.getElem_cons_zero, List.setIfInBounds_toArray, List.set_cons_zero, List.set_cons_succ]
  refine wpAnyF_take (i := 9) (v := .slice pp pn pc) rfl (by kernel_rfl) (by kernel_rfl) (by kernel_rfl) (by kernel_rfl) (fun _ _ _ h => h) (Or.inl ⟨by kernel_rfl, fun w hSw => by have hcc := (hSw.cell hxl).trans x4; (try dsimp only at hSw); go_simp⟩) R ?_; try simp only [Act.put, List.getElem_toArray, List.getElem_cons_succ, List.getElem_cons_zero, List.setIfInBounds_toArray, List.set_cons_zero, List.set_cons_succ]
  refine wpAnyF_take (i := 10) (v := .int .i64 (pn : Int)) rfl (by kernel_rfl) (by kernel_rfl) (by kernel_rfl) (by kernel_rfl) (fun _ _ _ h => h) (Or.inl ⟨by kernel_rfl, fun w hSw => by (try dsimp only at hSw); go_simp⟩) R ?_; try simp only [Act.put, List.getElem_toArray, List.getElem_cons_succ, List.getElem_cons_zero, List.setIfInBounds_toArray, List.set_cons_zero, List.set_cons_succ]
  refine wpAnyF_take (i := 11) (v := .int .i64 (m : Int)) rfl (by kernel_rfl) (by kernel_rfl) (by kernel_rfl) (by kernel_rfl) (fun _ _ _ h => h) (Or.inl ⟨by kernel_rfl, fun w hSw => by (try dsimp only at hSw); go_simp⟩) R ?_; try simp only [Act.put, List.getElem_toArray, List.getElem_cons_succ, List.getElem_cons_zero, List.setIfInBounds_toArray, List.set_cons_zero, List.set_cons_succ]
  refine wpAnyF_take (i := 12) (v := .slice pp m pc) rfl (by kernel_rfl) (by kernel_rfl) (by kernel_rfl) (by kernel_rfl) (fun _ _ _ h => h) (Or.inl ⟨by kernel_rfl, fun w hSw => by (try dsimp only at hSw); go_simp⟩) R ?_; try simp only [Act.put, List.getElem_toArray, List.getElem_cons_succ, List.getElem_cons_zero, List.setIfInBounds_toArray, List.set_cons_zero, List.set_cons_succ]
  clear x0 x1 x2 x4
  refine wpAnyF_two (i := 13) (j := 15) (by kernel_rfl) rfl rfl (fun K hK => ?_) (fun K hK => ?_)
  ·
    go_simp
    refine (clone64_any pp m pc (u64s (ps.take m)) V0 (by omega) (oneCell_u64s _) hPn'h.out hP1).mono ?_
    rintro e V1 ⟨cp, cc, rfl, hB1, hrow1⟩
    dsimp only
    have R1 := below_next R hB1
    have hrow1 := ownsRow_mono hrow1 R.size
    clear hB1 R hP1
    refine hK.out _ _ (fun _ => R1) ?_; clear hK K; try simp only [Act.put, List.getElem_toArray, List.getElem_cons_succ, List.getElem_cons_zero, List.setIfInBounds_toArray, List.set_cons_zero, List.set_cons_succ]
    refine wpAnyF_take (i := 14) (v := .agg #[.int .i64 g, .int .i64 sb, .int .u64 (seed : Int), .slice none 0 0, .slice cp m cc]) rfl (by kernel_rfl) (by kernel_rfl) (by kernel_rfl) (by kernel_rfl) (fun _ _ _ h => h) (Or.inl ⟨by kernel_rfl, fun w hSw => by (try dsimp only at hSw); go_simp⟩) R1 ?_; try simp only [Act.put, List.getElem_toArray, List.getElem_cons_succ, List.getElem_cons_zero, List.setIfInBounds_toArray, List.set_cons_zero, List.set_cons_succ]
    refine wpAnyF_one (i := 15) (by kernel_rfl) rfl (fun K hK => ?_); go_simp
    have R2 := below_next R1 ((Below.refl V1.heap.size V1).alloc (Nat.le_refl _) (.cells zeroSm 26))
    refine hK.out _ _ (fun _ => R2) ?_; clear hK K; try simp only [Act.put, List.getElem_toArray, List.getElem_cons_succ, List.getElem_cons_zero, List.setIfInBounds_toArray, List.set_cons_zero, List.set_cons_succ]
    refine wpAnyF_one (i := 16) (by kernel_rfl) rfl (fun K hK => ?_); go_simp
    have hlen : (ps.take m).length = m := by rw [List.length_take]; have := hmp'h.out; have := hpl'h.out; omega
    have hI0 : OutI W0 V1.heap.size (.int .i64 g) (.int .i64 sb) (.int .u64 (seed : Int)) (.slice none 0 0) (.slice cp m cc) [] (ps.take m) (V1.alloc (.cells #[.int .i64 g, .int .i64 sb, .int .u64 (seed : Int), .slice none 0 0, .slice cp m cc] 26)) :=
      ⟨below_next R1 ((Below.refl V1.heap.size V1).alloc (Nat.le_refl _) _), World.alloc_heap_new _ _, R1.size, ⟨rfl, .inl ⟨rfl, rfl⟩⟩, fun r hr => by simp at hr, fun r hr => by simp at hr, by rw [hlen]; exact ownsRow_next hrow1 ((Below.refl V1.heap.size V1).alloc (Nat.le_refl _) _)⟩
    refine hK.out _ _ (fun _ => hI0.low) ?_
    clear hK K R1 R2 hrow1 hlen
    try simp only [Act.put, List.getElem_toArray, List.getElem_cons_succ, List.getElem_cons_zero, List.setIfInBounds_toArray, List.set_cons_zero, List.set_cons_succ]
    refine wpAnyF_done (by kernel_rfl) ?_ _
    generalize hob : V1.heap.size = ob at hI0 ⊢
    generalize V1.alloc _ = W9 at hI0 ⊢
    clear hob
    have hI9 : OutI W0 ob (.int .i64 g) (.int .i64 sb) (.int .u64 (seed : Int)) (.slice none 0 0) (.slice cp m cc) [] (ps.take m) W9 := hI0
    have x3 : W9.cell? ⟨w.heap.size, 3, none⟩ = some (.slice lp ln lc) := blk_cell (i := 3) (heap_below hI9.low hbx'h.out (lt_of_heap hbx'h.out)) rfl
    have hI9'h := Lib.hid hI9
    clear hI9
    go_wp2
    go_loopg [24] ln (fun q ix wr => ∃ (j : Nat) (outs : List CRow) (lv : Value), j + q = ln ∧ ix = .int .i64 (j : Int) ∧ outs.length = min j 10 ∧ outs.map (·.cs) = ((rows.take j).take 10).map (fun r => r.cs.take 66) ∧ OutI W0 ob (.int .i64 g) (.int .i64 sb) (.int .u64 (seed : Int)) lv (.slice cp m cc) outs (ps.take m) wr)
    case atStart => exact ⟨0, [], _, by omega, rfl, rfl, rfl, hI9'h.out⟩
    case round =>
      obtain ⟨j, outs, lv, hj, rfl, hol, hom, hI⟩ := hrel
      clear hI9'h x3
      obtain ⟨op, oc, rfl⟩ := row_slice' hI.outer
      by_cases hlt : j < ln
      · have i1 : (j : Int) < (ln : Int) := by omega
        have i2 : (0 : Int) ≤ (j : Int) := by omega
        have i3 : (j : Int) < 9223372036854775807 := by have := hlnm'h.out; unfold maxLen at this; omega
        have hA := hA0'h.out.below hI.low
        obtain ⟨b, o, hsp, hc⟩ := hA.rows.some' (by simp only; omega)
        simp only at hsp
        have hjl : j < rows.length := by have := hrl'h.out; omega
        obtain ⟨r, hr⟩ : ∃ r, r = nthR rows j := ⟨_, rfl⟩
        have hmem : r ∈ rows := by rw [hr]; exact nthR_mem hjl
        have c1 : wr.cell? ⟨b, o + j, none⟩ = some (.slice r.sp r.len r.cap) := by
          have := hc j (crV r) (by rw [List.getElem?_map, nthR_at hjl, hr]; rfl)
          exact this
        have hE := hA.each r hmem
        have hN := hA.nil r hmem
        have hL := hA.le r hmem
        have hO := hA.ok r hmem
        have htk : rows.take (j + 1) = rows.take j ++ [r] := by
          rw [List.take_succ_eq_append_getElem hjl]
          have := nthR_at hjl
          rw [List.getElem?_eq_getElem hjl] at this
          injection this with this
          rw [this, hr]
        obtain ⟨rs, rl, rc, rws⟩ := r
        simp only at c1 hE hN hL hO
        have hrl4 : rl = rws.length := slk_len calL_len (by decide) hE
        clear hr hc hmem
        rw [hsp]
        by_cases h10 : j < 10
        · have i4 : (j : Int) < 10 := by omega
          obtain ⟨k, hk⟩ : ∃ k : Nat, min (rl : Int) 66 = (k : Int) := ⟨(min (rl : Int) 66).toNat, by omega⟩
          have hk66 : k ≤ 66 := by omega
          have hkr : k ≤ rl := by omega
          have hkn : k = min 66 rws.length := by omega
          have hEk : SlK wr 4 rs k (cals (rws.take k)) := by
            have := hE.take k hkr
            unfold cals at this ⊢
            rw [flat_take calL_len] at this
            exact this
          have i5 : (k : Int) ≤ (rc : Int) := by omega
          have i6 : ¬ (k : Int) < 0 := by omega
          obtain ⟨V0, hV0⟩ : ∃ V0, V0 = wr.drew := ⟨_, rfl⟩
          have hB0 : Below wr.heap.size wr V0 := by rw [hV0]; exact (Below.refl wr.heap.size wr).drew
          have hIV := hI.next hB0
          have hEV := hEk.below hB0
          have hoc : outs.length ≤ 10 := by omega
          have R4 := hIV.c3
          have hlz := hIV.low.size
          clear hE hI hB0 hL hEk
          have hj'h := Lib.hid hj
          have hol'h := Lib.hid hol
          have hom'h := Lib.hid hom
          have hIV'h := Lib.hid hIV
          have hEV'h := Lib.hid hEV
          have hkr'h := Lib.hid hkr
          have hkn'h := Lib.hid hkn
          have hO'h := Lib.hid hO
          have htk'h := Lib.hid htk
          have hrl4'h := Lib.hid hrl4
          have hN'h := Lib.hid hN
          have hoc'h := Lib.hid hoc
          have hlz'h := Lib.hid hlz
          clear hj hol hom hIV hEV hkr hkn hO htk hrl4 hN hoc hlz
          go_upto_region 6 with fail
          refine wp_region_heldF (fun w' => w'.cell? ⟨ob, 3, none⟩ = some (.slice op outs.length oc)) 11 (by kernel_rfl) ?_
          rw [← hV0]
          clear hV0
          refine wpAnyF_take (i := 0) (v := .pointer (some ⟨ob, 3, none⟩)) rfl (by kernel_rfl) (by kernel_rfl) (by kernel_rfl) (by kernel_rfl) (fun _ _ _ h => h) (Or.inl ⟨by kernel_rfl, fun w hSw => by (try dsimp only at hSw); go_simp⟩) R4 ?_; try simp only [Act.put, List.getElem_toArray, List.getElem_cons_succ, List.getElem_cons_zero, List.setIfInBounds_toArray, List.set_cons_zero, List.set_cons_succ]
          refine wpAnyF_take (i := 1) (v := .slice op outs.length oc) rfl (by kernel_rfl) (by kernel_rfl) (by kernel_rfl) (by kernel_rfl) (fun _ _ _ h => h) (Or.inl ⟨by kernel_rfl, fun w hSw => by (try dsimp only at hSw); go_simp⟩) R4 ?_; try simp only [Act.put, List.getElem_toArray, List.getElem_cons_succ, List.getElem_cons_zero, List.setIfInBounds_toArray, List.set_cons_zero, List.set_cons_succ]
          refine wpAnyF_take (i := 2) (v := .slice rs rl rc) rfl (by kernel_rfl) (by kernel_rfl) (by kernel_rfl) (by kernel_rfl) (fun _ _ _ h => h) (Or.inl ⟨by kernel_rfl, fun w hSw => by (try dsimp only at hSw); go_simp⟩) R4 ?_; try simp only [Act.put, List.getElem_toArray, List.getElem_cons_succ, List.getElem_cons_zero, List.setIfInBounds_toArray, List.set_cons_zero, List.set_cons_succ]
          refine wpAnyF_take (i := 3) (v := .slice rs rl rc) rfl (by kernel_rfl) (by kernel_rfl) (by kernel_rfl) (by kernel_rfl) (fun _ _ _ h => h) (Or.inl ⟨by kernel_rfl, fun w hSw => by (try dsimp only at hSw); go_simp⟩) R4 ?_; try simp only [Act.put, List.getElem_toArray, List.getElem_cons_succ, List.getElem_cons_zero, List.setIfInBounds_toArray, List.set_cons_zero, List.set_cons_succ]
          refine wpAnyF_take (i := 4) (v := .int .i64 (rl : Int)) rfl (by kernel_rfl) (by kernel_rfl) (by kernel_rfl) (by kernel_rfl) (fun _ _ _ h => h) (Or.inl ⟨by kernel_rfl, fun w hSw => by (try dsimp only at hSw); go_simp⟩) R4 ?_; try simp only [Act.put, List.getElem_toArray, List.getElem_cons_succ, List.getElem_cons_zero, List.setIfInBounds_toArray, List.set_cons_zero, List.set_cons_succ]
          refine wpAnyF_take (i := 5) (v := .int .i64 (k : Int)) rfl (by kernel_rfl) (by kernel_rfl) (by kernel_rfl) (by kernel_rfl) (fun _ _ _ h => h) (Or.inl ⟨by kernel_rfl, fun w hSw => by (try dsimp only at hSw); go_simp⟩) R4 ?_; try simp only [Act.put, List.getElem_toArray, List.getElem_cons_succ, List.getElem_cons_zero, List.setIfInBounds_toArray, List.set_cons_zero, List.set_cons_succ]
          refine wpAnyF_take (i := 6) (v := .slice rs k rc) rfl (by kernel_rfl) (by kernel_rfl) (by kernel_rfl) (by kernel_rfl) (fun _ _ _ h => h) (Or.inl ⟨by kernel_rfl, fun w hSw => by (try dsimp only at hSw); go_simp⟩) R4 ?_; try simp only [Act.put, List.getElem_toArray, List.getElem_cons_succ, List.getElem_cons_zero, List.setIfInBounds_toArray, List.set_cons_zero, List.set_cons_succ]
          refine wpAnyF_one (i := 7) (by kernel_rfl) rfl (fun K hK => ?_); go_simp
          refine (cloneCal_any rs k rc (cals (rws.take k)) V0 (by omega) (cals_one _) hN'h.out hEV'h.out).mono ?_
          rintro e V1 ⟨ks, kc, rfl, hB1, hrow1⟩
          dsimp only
          have hI1 := hIV'h.out.next hB1
          have hrow1 := ownsRow_mono hrow1 hlz'h.out
          clear R4 hB1 hIV'h hEV'h
          have R4 := hI1.c3
          refine hK.out _ _ (fun _ => R4) ?_; clear hK K; try simp only [Act.put, List.getElem_toArray, List.getElem_cons_succ, List.getElem_cons_zero, List.setIfInBounds_toArray, List.set_cons_zero, List.set_cons_succ]
          refine wpAnyF_one (i := 8) (by kernel_rfl) rfl (fun K hK => ?_); go_simp
          have hB2 := (Below.refl V1.heap.size V1).alloc (Nat.le_refl _) (.cells #[.slice ks k kc] 55)
          have hI2 := hI1.next hB2
          have hrow2 := ownsRow_next hrow1 hB2
          have hsl : SlK (V1.alloc (.cells #[.slice ks k kc] 55)) 1 (some ⟨V1.heap.size, 0, none⟩) 1 [crV ⟨ks, k, kc, rws.take k⟩] := SlK.of_blk (World.alloc_heap_new _ _) rfl (by decide)
          clear R4 hI1 hrow1 hB2
          have R4 := hI2.c3
          refine hK.out _ _ (fun _ => R4) ?_; clear hK K; try simp only [Act.put, List.getElem_toArray, List.getElem_cons_succ, List.getElem_cons_zero, List.setIfInBounds_toArray, List.set_cons_zero, List.set_cons_succ]
          generalize V1.alloc _ = V2 at R4 hI2 hrow2 hsl ⊢
          refine wpAnyF_one (i := 9) (by kernel_rfl) rfl (fun K hK => ?_)
          refine step_append_slk _ rfl (.tmp 32) (.tmp 39) 23 rfl W0.heap.size 55 i0 (.slice none 0 0) 1 24 Tryd.underlying23 hi hz hs hby rfl (by decide) (.slice op outs.length oc) outs.length (outs.map crV) rfl hI2.outer _ 1 1 _ rfl hsl (by intro v hv; simp at hv; subst hv; rfl) (by have := hoc'h.out; unfold maxLen; omega) (by have := hoc'h.out; omega) hI2.low.size ?_
          intro v' V3 hown3 hgrow3 hwh3
          have hI4 := hI2.push (r := ⟨ks, k, kc, rws.take k⟩) hrow2 ⟨by show k = (rws.take k).length; rw [List.length_take]; have := hkr'h.out; have := hrl4'h.out; omega, by show (rws.take k).length ≤ 66; rw [List.length_take]; omega, fun c hc => hO'h.out c (List.mem_of_mem_take hc)⟩ hown3 hgrow3
          have hb3 := hI2.kept hgrow3
          obtain ⟨sp', cp', hv', -, -, -⟩ := row_form hown3
          subst hv'
          have y9 : V3.cell? ⟨ob, 3, none⟩ = some (.slice op outs.length oc) := blk_cell (i := 3) hb3 rfl
          have f9 := blk_free 3 hb3
          clear hgrow3 hwh3 hown3 R4 hI2 hsl hb3 hrow2
          refine hK.out _ _ (fun _ => y9) ?_; clear hK K; try simp only [Act.put, List.getElem_toArray, List.getElem_cons_succ, List.getElem_cons_zero, List.setIfInBounds_toArray, List.set_cons_zero, List.set_cons_succ]
          refine wpAnyF_one (i := 10) (by kernel_rfl) rfl (fun K hK => ?_); go_simp
          refine hK.out _ _ (fun _ => y9) ?_; clear hK K; try simp only [Act.put, List.getElem_toArray, List.getElem_cons_succ, List.getElem_cons_zero, List.setIfInBounds_toArray, List.set_cons_zero, List.set_cons_succ]
          refine wpAnyF_one (i := 11) (by kernel_rfl) rfl (fun K hK => ?_); go_simp
          refine hK.out _ _ (fun h => absurd rfl h) ?_
          clear hK K y9 f9
          try simp only [Act.put, List.getElem_toArray, List.getElem_cons_succ, List.getElem_cons_zero, List.setIfInBounds_toArray, List.set_cons_zero, List.set_cons_succ]
          refine wpAnyF_done (by kernel_rfl) ?_ _
          have hI4'h := Lib.hid hI4
          clear hI4
          go_wp2
          rw [← hsp]
          go_roundg (gk - 1)
          case measure => have := hj'h.out; omega
          case rel => exact ⟨j + 1, outs ++ [⟨ks, k, kc, rws.take k⟩], _, by have := hj'h.out; omega, by go_num, by rw [List.length_append, hol'h.out]; show min j 10 + 1 = _; omega, by
            have hjl' : (rows.take j).length = j := by rw [List.length_take]; omega
            have e66 : rws.take k = rws.take 66 := by rw [hkn'h.out]; exact List.take_eq_take_iff.2 (by omega)
            rw [htk'h.out, List.map_append, hom'h.out, List.take_of_length_le (l := rows.take j ++ _) (by rw [List.length_append, hjl', List.length_singleton]; omega), List.take_of_length_le (l := rows.take j) (by rw [hjl']; omega), List.map_append]
            rw [e66]; rfl, hI4'h.out⟩
        · have i4 : ¬ (j : Int) < 10 := by omega
          have hj'h := Lib.hid hj
          have hol'h := Lib.hid hol
          have hom'h := Lib.hid hom
          have hI'h := Lib.hid hI
          have htk'h := Lib.hid htk
          clear hj hol hom hI htk
          clear hE hL hO hN hrl4
          go_wp2
          rw [← hsp]
          go_roundg (gk - 1)
          case measure => have := hj'h.out; omega
          case rel => exact ⟨j + 1, outs, _, by have := hj'h.out; omega, by go_num, by rw [hol'h.out]; omega, by
            have hjl' : (rows.take j).length = j := by rw [List.length_take]; omega
            rw [htk'h.out, List.take_append_of_le_length (by rw [hjl']; omega)]; exact hom'h.out, hI'h.out⟩
      · have i1 : ¬ (j : Int) < (ln : Int) := by omega
        have hjn : j = rows.length := by have := hrl'h.out; omega
        rw [hjn, List.take_length] at hom
        obtain ⟨hIn, hOwn, -, -⟩ := hI.script hg'h.out hsb'h.out hseed'h.out (by omega) (by rw [List.length_take]; omega) hk64'h.out
        have hb0 := hI.blk
        have y0 : wr.cell? ⟨ob, 0, none⟩ = some (.int .i64 g) := blk_cell (i := 0) hb0 rfl
        have y1 : wr.cell? ⟨ob, 1, none⟩ = some (.int .i64 sb) := blk_cell (i := 1) hb0 rfl
        have y2 : wr.cell? ⟨ob, 2, none⟩ = some (.int .u64 (seed : Int)) := blk_cell (i := 2) hb0 rfl
        have y3 : wr.cell? ⟨ob, 3, none⟩ = some (.slice op outs.length oc) := blk_cell (i := 3) hb0 rfl
        have y4 : wr.cell? ⟨ob, 4, none⟩ = some (.slice cp m cc) := blk_cell (i := 4) hb0 rfl
        have hbr := heap_below hI.low hbr'h.out (lt_of_heap hbr'h.out)
        have z0 : wr.cell? ⟨w.heap.size + 1, 0, none⟩ = some (.int .i64 0) := blk_cell (i := 0) hbr rfl
        have z1 : wr.cell? ⟨w.heap.size + 1, 1, none⟩ = some (.int .i64 0) := blk_cell (i := 1) hbr rfl
        have z2 : wr.cell? ⟨w.heap.size + 1, 2, none⟩ = some (.int .u64 0) := blk_cell (i := 2) hbr rfl
        have z3 : wr.cell? ⟨w.heap.size + 1, 3, none⟩ = some (.slice none 0 0) := blk_cell (i := 3) hbr rfl
        have z4 : wr.cell? ⟨w.heap.size + 1, 4, none⟩ = some (.slice none 0 0) := blk_cell (i := 4) hbr rfl
        have f0 := blk_free 0 hbr
        have f1 := blk_free 1 hbr
        have f2 := blk_free 2 hbr
        have f3 := blk_free 3 hbr
        have f4 := blk_free 4 hbr
        have hlow := hB00'h.out.trans (hI.low.mono (by rw [hW0s'h.out]; omega))
        clear hI hb0 hj
        rw [hjn]
        rw [hjn] at i1
        have hom'h := Lib.hid hom
        have hIn'h := Lib.hid hIn
        have hOwn'h := Lib.hid hOwn
        have hbr'h := Lib.hid hbr
        have hlow'h := Lib.hid hlow
        have hol'h := Lib.hid hol
        clear hom hIn hOwn hbr hlow hol
        go_wp2
        have hK5 := ((((Kept.setCell (fun b => W0.heap.size ≤ b) wr ⟨w.heap.size + 1, 0, none⟩ (.int .i64 g) (by simp only; rw [hW0s'h.out]; omega)).trans (Kept.setCell _ _ ⟨w.heap.size + 1, 1, none⟩ (.int .i64 sb) (by simp only; rw [hW0s'h.out]; omega))).trans (Kept.setCell _ _ ⟨w.heap.size + 1, 2, none⟩ (.int .u64 (seed : Int)) (by simp only; rw [hW0s'h.out]; omega))).trans (Kept.setCell _ _ ⟨w.heap.size + 1, 3, none⟩ (.slice op outs.length oc) (by simp only; rw [hW0s'h.out]; omega))).trans (Kept.setCell _ _ ⟨w.heap.size + 1, 4, none⟩ (.slice cp m cc) (by simp only; rw [hW0s'h.out]; omega))
        have hOwn2 := hOwn'h.out.keep hK5
        have hIn2 := hIn'h.out.own hOwn2
        have hlow2 := ((((hlow'h.out.setCell (p := ⟨w.heap.size + 1, 0, none⟩) (by simp) (.int .i64 g)).setCell (p := ⟨w.heap.size + 1, 1, none⟩) (by simp) (.int .i64 sb)).setCell (p := ⟨w.heap.size + 1, 2, none⟩) (by simp) (.int .u64 (seed : Int))).setCell (p := ⟨w.heap.size + 1, 3, none⟩) (by simp) (.slice op outs.length oc)).setCell (p := ⟨w.heap.size + 1, 4, none⟩) (by simp) (.slice cp m cc)
        have hbr2 := blk_set (i := 4) (.slice cp m cc) (blk_set (i := 3) (.slice op outs.length oc) (blk_set (i := 2) (.int .u64 (seed : Int)) (blk_set (i := 1) (.int .i64 sb) (blk_set (i := 0) (.int .i64 g) hbr'h.out))))
        clear y0 y1 y2 y3 y4 z0 z1 z2 z3 z4 f0 f1 f2 f3 f4 hK5
        generalize World.setCell _ _ _ = W2 at hIn2 hlow2 hbr2 hOwn2 ⊢
        have d0 : W2.cell? ⟨w.heap.size + 1, 0, none⟩ = some (.int .i64 g) := blk_cell (i := 0) hbr2 rfl
        have d1 : W2.cell? ⟨w.heap.size + 1, 1, none⟩ = some (.int .i64 sb) := blk_cell (i := 1) hbr2 rfl
        have d2 : W2.cell? ⟨w.heap.size + 1, 2, none⟩ = some (.int .u64 (seed : Int)) := blk_cell (i := 2) hbr2 rfl
        have d3 : W2.cell? ⟨w.heap.size + 1, 3, none⟩ = some (.slice op outs.length oc) := blk_cell (i := 3) hbr2 rfl
        have d4 : W2.cell? ⟨w.heap.size + 1, 4, none⟩ = some (.slice cp m cc) := blk_cell (i := 4) hbr2 rfl
        have hfin : SmAt w (ownS (Sm.scr ⟨g, sb, seed, lp, ln, lc, rows, pp, pn, pc, ps⟩)) (.returned (.agg (smA ⟨g, sb, seed, op, outs.length, oc, outs, cp, m, cc, ps.take m⟩))) W2 := by
          refine ⟨_, rfl, hlow2, hIn2, ?_⟩
          unfold ownS Sm.scr
          simp only
          rw [hom'h.out, ← List.map_take, List.map_map, hpm'h.out]
          rfl
        unfold smA at hfin
        clear hIn2 hbr2 hlow2 hOwn2
        refine bodyPost_ret (v := .agg #[.int .i64 g, .int .i64 sb, .int .u64 (seed : Int), .slice op outs.length oc, .slice cp m cc]) ?_ rfl hfin
        simp [results, Tryd.results10, go_sem, d0, d1, d2, d3, d4]
  ·
    go_simp
    have R1 := below_next R ((Below.refl V0.heap.size V0).alloc (Nat.le_refl _) (.cells zeroSm 26))
    have hob0 : W0.heap.size ≤ V0.heap.size := R.size
    have hb1 : (V0.alloc (.cells zeroSm 26)).heap[V0.heap.size]? = some (.cells zeroSm 26) := World.alloc_heap_new _ _
    have hP2 := hP1.below ((Below.refl V0.heap.size V0).alloc (Nat.le_refl _) (.cells zeroSm 26))
    refine hK.out _ _ (fun _ => R1) ?_; clear hK K; try simp only [Act.put, List.getElem_toArray, List.getElem_cons_succ, List.getElem_cons_zero, List.setIfInBounds_toArray, List.set_cons_zero, List.set_cons_succ]
    clear R hP1
    generalize V0.heap.size = ob at hob0 hb1 ⊢
    generalize V0.alloc _ = V1 at R1 hb1 hP2 ⊢
    refine wpAnyF_one (i := 13) (by kernel_rfl) rfl (fun K hK => ?_); go_simp
    refine (clone64_any pp m pc (u64s (ps.take m)) V1 (by omega) (oneCell_u64s _) hPn'h.out hP2).mono ?_
    rintro e V2 ⟨cp, cc, rfl, hB2, hrow2⟩
    dsimp only
    have R2 := below_next R1 hB2
    have hb2 := heap_below hB2 hb1 (lt_of_heap hb1)
    have hlo := lt_of_heap hb1
    have hw1 := R1.size
    clear hB2 R1 hP2 hb1
    refine hK.out _ _ (fun _ => R2) ?_; clear hK K; try simp only [Act.put, List.getElem_toArray, List.getElem_cons_succ, List.getElem_cons_zero, List.setIfInBounds_toArray, List.set_cons_zero, List.set_cons_succ]
    refine wpAnyF_take (i := 14) (v := .agg #[.int .i64 g, .int .i64 sb, .int .u64 (seed : Int), .slice none 0 0, .slice cp m cc]) rfl (by kernel_rfl) (by kernel_rfl) (by kernel_rfl) (by kernel_rfl) (fun _ _ _ h => h) (Or.inl ⟨by kernel_rfl, fun w hSw => by (try dsimp only at hSw); go_simp⟩) R2 ?_; try simp only [Act.put, List.getElem_toArray, List.getElem_cons_succ, List.getElem_cons_zero, List.setIfInBounds_toArray, List.set_cons_zero, List.set_cons_succ]
    have z0 : V2.cell? ⟨ob, 0, none⟩ = some (.int .i64 0) := blk_cell (i := 0) hb2 rfl
    have z1 : V2.cell? ⟨ob, 1, none⟩ = some (.int .i64 0) := blk_cell (i := 1) hb2 rfl
    have z2 : V2.cell? ⟨ob, 2, none⟩ = some (.int .u64 0) := blk_cell (i := 2) hb2 rfl
    have z3 : V2.cell? ⟨ob, 3, none⟩ = some (.slice none 0 0) := blk_cell (i := 3) hb2 rfl
    have z4 : V2.cell? ⟨ob, 4, none⟩ = some (.slice none 0 0) := blk_cell (i := 4) hb2 rfl
    have f0 := blk_free 0 hb2
    have f1 := blk_free 1 hb2
    have f2 := blk_free 2 hb2
    have f3 := blk_free 3 hb2
    have f4 := blk_free 4 hb2
    refine wpAnyF_one (i := 16) (by kernel_rfl) rfl (fun K hK => ?_); go_simp
    have hlen : (ps.take m).length = m := by rw [List.length_take]; have := hmp'h.out; have := hpl'h.out; omega
    have hK5 := ((((Kept.setCell (fun b => V1.heap.size ≤ b) V2 ⟨ob, 0, none⟩ (.int .i64 g) (by simp only; omega)).trans (Kept.setCell _ _ ⟨ob, 1, none⟩ (.int .i64 sb) (by simp only; omega))).trans (Kept.setCell _ _ ⟨ob, 2, none⟩ (.int .u64 (seed : Int)) (by simp only; omega))).trans (Kept.setCell _ _ ⟨ob, 3, none⟩ (.slice none 0 0) (by simp only; omega))).trans (Kept.setCell _ _ ⟨ob, 4, none⟩ (.slice cp m cc) (by simp only; omega))
    have hrow3 := ownsRow_mono (ownsRow_kept hrow2 hK5) hw1
    have hb3 := blk_set (i := 4) (.slice cp m cc) (blk_set (i := 3) (.slice none 0 0) (blk_set (i := 2) (.int .u64 (seed : Int)) (blk_set (i := 1) (.int .i64 sb) (blk_set (i := 0) (.int .i64 g) hb2))))
    have R3 := ((((R2.setCell (p := ⟨ob, 0, none⟩) hob0 (.int .i64 g)).setCell (p := ⟨ob, 1, none⟩) hob0 (.int .i64 sb)).setCell (p := ⟨ob, 2, none⟩) hob0 (.int .u64 (seed : Int))).setCell (p := ⟨ob, 3, none⟩) hob0 (.slice none 0 0)).setCell (p := ⟨ob, 4, none⟩) hob0 (.slice cp m cc)
    refine hK.out _ _ (fun _ => R3) ?_
    clear hK K R2 hrow2 hK5 z0 z1 z2 z3 z4 f0 f1 f2 f3 f4 hb2
    generalize World.setCell _ _ _ = W9 at hrow3 hb3 R3 ⊢
    have hI0 : OutI W0 ob (.int .i64 g) (.int .i64 sb) (.int .u64 (seed : Int)) (.slice none 0 0) (.slice cp m cc) [] (ps.take m) W9 :=
      ⟨R3, hb3, hob0, ⟨rfl, .inl ⟨rfl, rfl⟩⟩, fun r hr => by simp at hr, fun r hr => by simp at hr, by rw [hlen]; exact hrow3⟩
    clear hrow3 hb3 R3 hlen hlo hw1 hob0
    try simp only [Act.put, List.getElem_toArray, List.getElem_cons_succ, List.getElem_cons_zero, List.setIfInBounds_toArray, List.set_cons_zero, List.set_cons_succ]
    refine wpAnyF_done (by kernel_rfl) ?_ _
    have hI9 : OutI W0 ob (.int .i64 g) (.int .i64 sb) (.int .u64 (seed : Int)) (.slice none 0 0) (.slice cp m cc) [] (ps.take m) W9 := hI0
    have x3 : W9.cell? ⟨w.heap.size, 3, none⟩ = some (.slice lp ln lc) := blk_cell (i := 3) (heap_below hI9.low hbx'h.out (lt_of_heap hbx'h.out)) rfl
    have hI9'h := Lib.hid hI9
    clear hI9
    go_wp2
    go_loopg [24] ln (fun q ix wr => ∃ (j : Nat) (outs : List CRow) (lv : Value), j + q = ln ∧ ix = .int .i64 (j : Int) ∧ outs.length = min j 10 ∧ outs.map (·.cs) = ((rows.take j).take 10).map (fun r => r.cs.take 66) ∧ OutI W0 ob (.int .i64 g) (.int .i64 sb) (.int .u64 (seed : Int)) lv (.slice cp m cc) outs (ps.take m) wr)
    case atStart => exact ⟨0, [], _, by omega, rfl, rfl, rfl, hI9'h.out⟩
    case round =>
      obtain ⟨j, outs, lv, hj, rfl, hol, hom, hI⟩ := hrel
      clear hI9'h x3
      obtain ⟨op, oc, rfl⟩ := row_slice' hI.outer
      by_cases hlt : j < ln
      · have i1 : (j : Int) < (ln : Int) := by omega
        have i2 : (0 : Int) ≤ (j : Int) := by omega
        have i3 : (j : Int) < 9223372036854775807 := by have := hlnm'h.out; unfold maxLen at this; omega
        have hA := hA0'h.out.below hI.low
        obtain ⟨b, o, hsp, hc⟩ := hA.rows.some' (by simp only; omega)
        simp only at hsp
        have hjl : j < rows.length := by have := hrl'h.out; omega
        obtain ⟨r, hr⟩ : ∃ r, r = nthR rows j := ⟨_, rfl⟩
        have hmem : r ∈ rows := by rw [hr]; exact nthR_mem hjl
        have c1 : wr.cell? ⟨b, o + j, none⟩ = some (.slice r.sp r.len r.cap) := by
          have := hc j (crV r) (by rw [List.getElem?_map, nthR_at hjl, hr]; rfl)
          exact this
        have hE := hA.each r hmem
        have hN := hA.nil r hmem
        have hL := hA.le r hmem
        have hO := hA.ok r hmem
        have htk : rows.take (j + 1) = rows.take j ++ [r] := by
          rw [List.take_succ_eq_append_getElem hjl]
          have := nthR_at hjl
          rw [List.getElem?_eq_getElem hjl] at this
          injection this with this
          rw [this, hr]
        obtain ⟨rs, rl, rc, rws⟩ := r
        simp only at c1 hE hN hL hO
        have hrl4 : rl = rws.length := slk_len calL_len (by decide) hE
        clear hr hc hmem
        rw [hsp]
        by_cases h10 : j < 10
        · have i4 : (j : Int) < 10 := by omega
          obtain ⟨k, hk⟩ : ∃ k : Nat, min (rl : Int) 66 = (k : Int) := ⟨(min (rl : Int) 66).toNat, by omega⟩
          have hk66 : k ≤ 66 := by omega
          have hkr : k ≤ rl := by omega
          have hkn : k = min 66 rws.length := by omega
          have hEk : SlK wr 4 rs k (cals (rws.take k)) := by
            have := hE.take k hkr
            unfold cals at this ⊢
            rw [flat_take calL_len] at this
            exact this
          have i5 : (k : Int) ≤ (rc : Int) := by omega
          have i6 : ¬ (k : Int) < 0 := by omega
          obtain ⟨V0, hV0⟩ : ∃ V0, V0 = wr.drew := ⟨_, rfl⟩
          have hB0 : Below wr.heap.size wr V0 := by rw [hV0]; exact (Below.refl wr.heap.size wr).drew
          have hIV := hI.next hB0
          have hEV := hEk.below hB0
          have hoc : outs.length ≤ 10 := by omega
          have R4 := hIV.c3
          have hlz := hIV.low.size
          clear hE hI hB0 hL hEk
          have hj'h := Lib.hid hj
          have hol'h := Lib.hid hol
          have hom'h := Lib.hid hom
          have hIV'h := Lib.hid hIV
          have hEV'h := Lib.hid hEV
          have hkr'h := Lib.hid hkr
          have hkn'h := Lib.hid hkn
          have hO'h := Lib.hid hO
          have htk'h := Lib.hid htk
          have hrl4'h := Lib.hid hrl4
          have hN'h := Lib.hid hN
          have hoc'h := Lib.hid hoc
          have hlz'h := Lib.hid hlz
          clear hj hol hom hIV hEV hkr hkn hO htk hrl4 hN hoc hlz
          go_upto_region 6 with fail
          refine wp_region_heldF (fun w' => w'.cell? ⟨ob, 3, none⟩ = some (.slice op outs.length oc)) 11 (by kernel_rfl) ?_
          rw [← hV0]
          clear hV0
          refine wpAnyF_take (i := 0) (v := .pointer (some ⟨ob, 3, none⟩)) rfl (by kernel_rfl) (by kernel_rfl) (by kernel_rfl) (by kernel_rfl) (fun _ _ _ h => h) (Or.inl ⟨by kernel_rfl, fun w hSw => by (try dsimp only at hSw); go_simp⟩) R4 ?_; try simp only [Act.put, List.getElem_toArray, List.getElem_cons_succ, List.getElem_cons_zero, List.setIfInBounds_toArray, List.set_cons_zero, List.set_cons_succ]
          refine wpAnyF_take (i := 1) (v := .slice op outs.length oc) rfl (by kernel_rfl) (by kernel_rfl) (by kernel_rfl) (by kernel_rfl) (fun _ _ _ h => h) (Or.inl ⟨by kernel_rfl, fun w hSw => by (try dsimp only at hSw); go_simp⟩) R4 ?_; try simp only [Act.put, List.getElem_toArray, List.getElem_cons_succ, List.getElem_cons_zero, List.setIfInBounds_toArray, List.set_cons_zero, List.set_cons_succ]
          refine wpAnyF_take (i := 2) (v := .slice rs rl rc) rfl (by kernel_rfl) (by kernel_rfl) (by kernel_rfl) (by kernel_rfl) (fun _ _ _ h => h) (Or.inl ⟨by kernel_rfl, fun w hSw => by (try dsimp only at hSw); go_simp⟩) R4 ?_; try simp only [Act.put, List.getElem_toArray, List.getElem_cons_succ, List.getElem_cons_zero, List.setIfInBounds_toArray, List.set_cons_zero, List.set_cons_succ]
          refine wpAnyF_take (i := 3) (v := .slice rs rl rc) rfl (by kernel_rfl) (by kernel_rfl) (by kernel_rfl) (by kernel_rfl) (fun _ _ _ h => h) (Or.inl ⟨by kernel_rfl, fun w hSw => by (try dsimp only at hSw); go_simp⟩) R4 ?_; try simp only [Act.put, List.getElem_toArray, List.getElem_cons_succ, List.getElem_cons_zero, List.setIfInBounds_toArray, List.set_cons_zero, List.set_cons_succ]
          refine wpAnyF_take (i := 4) (v := .int .i64 (rl : Int)) rfl (by kernel_rfl) (by kernel_rfl) (by kernel_rfl) (by kernel_rfl) (fun _ _ _ h => h) (Or.inl ⟨by kernel_rfl, fun w hSw => by (try dsimp only at hSw); go_simp⟩) R4 ?_; try simp only [Act.put, List.getElem_toArray, List.getElem_cons_succ, List.getElem_cons_zero, List.setIfInBounds_toArray, List.set_cons_zero, List.set_cons_succ]
          refine wpAnyF_take (i := 5) (v := .int .i64 (k : Int)) rfl (by kernel_rfl) (by kernel_rfl) (by kernel_rfl) (by kernel_rfl) (fun _ _ _ h => h) (Or.inl ⟨by kernel_rfl, fun w hSw => by (try dsimp only at hSw); go_simp⟩) R4 ?_; try simp only [Act.put, List.getElem_toArray, List.getElem_cons_succ, List.getElem_cons_zero, List.setIfInBounds_toArray, List.set_cons_zero, List.set_cons_succ]
          refine wpAnyF_take (i := 6) (v := .slice rs k rc) rfl (by kernel_rfl) (by kernel_rfl) (by kernel_rfl) (by kernel_rfl) (fun _ _ _ h => h) (Or.inl ⟨by kernel_rfl, fun w hSw => by (try dsimp only at hSw); go_simp⟩) R4 ?_; try simp only [Act.put, List.getElem_toArray, List.getElem_cons_succ, List.getElem_cons_zero, List.setIfInBounds_toArray, List.set_cons_zero, List.set_cons_succ]
          refine wpAnyF_one (i := 7) (by kernel_rfl) rfl (fun K hK => ?_); go_simp
          refine (cloneCal_any rs k rc (cals (rws.take k)) V0 (by omega) (cals_one _) hN'h.out hEV'h.out).mono ?_
          rintro e V1 ⟨ks, kc, rfl, hB1, hrow1⟩
          dsimp only
          have hI1 := hIV'h.out.next hB1
          have hrow1 := ownsRow_mono hrow1 hlz'h.out
          clear R4 hB1 hIV'h hEV'h
          have R4 := hI1.c3
          refine hK.out _ _ (fun _ => R4) ?_; clear hK K; try simp only [Act.put, List.getElem_toArray, List.getElem_cons_succ, List.getElem_cons_zero, List.setIfInBounds_toArray, List.set_cons_zero, List.set_cons_succ]
          refine wpAnyF_one (i := 8) (by kernel_rfl) rfl (fun K hK => ?_); go_simp
          have hB2 := (Below.refl V1.heap.size V1).alloc (Nat.le_refl _) (.cells #[.slice ks k kc] 55)
          have hI2 := hI1.next hB2
          have hrow2 := ownsRow_next hrow1 hB2
          have hsl : SlK (V1.alloc (.cells #[.slice ks k kc] 55)) 1 (some ⟨V1.heap.size, 0, none⟩) 1 [crV ⟨ks, k, kc, rws.take k⟩] := SlK.of_blk (World.alloc_heap_new _ _) rfl (by decide)
          clear R4 hI1 hrow1 hB2
          have R4 := hI2.c3
          refine hK.out _ _ (fun _ => R4) ?_; clear hK K; try simp only [Act.put, List.getElem_toArray, List.getElem_cons_succ, List.getElem_cons_zero, List.setIfInBounds_toArray, List.set_cons_zero, List.set_cons_succ]
          generalize V1.alloc _ = V2 at R4 hI2 hrow2 hsl ⊢
          refine wpAnyF_one (i := 9) (by kernel_rfl) rfl (fun K hK => ?_)
          refine step_append_slk _ rfl (.tmp 32) (.tmp 39) 23 rfl W0.heap.size 55 i0 (.slice none 0 0) 1 24 Tryd.underlying23 hi hz hs hby rfl (by decide) (.slice op outs.length oc) outs.length (outs.map crV) rfl hI2.outer _ 1 1 _ rfl hsl (by intro v hv; simp at hv; subst hv; rfl) (by have := hoc'h.out; unfold maxLen; omega) (by have := hoc'h.out; omega) hI2.low.size ?_
          intro v' V3 hown3 hgrow3 hwh3
          have hI4 := hI2.push (r := ⟨ks, k, kc, rws.take k⟩) hrow2 ⟨by show k = (rws.take k).length; rw [List.length_take]; have := hkr'h.out; have := hrl4'h.out; omega, by show (rws.take k).length ≤ 66; rw [List.length_take]; omega, fun c hc => hO'h.out c (List.mem_of_mem_take hc)⟩ hown3 hgrow3
          have hb3 := hI2.kept hgrow3
          obtain ⟨sp', cp', hv', -, -, -⟩ := row_form hown3
          subst hv'
          have y9 : V3.cell? ⟨ob, 3, none⟩ = some (.slice op outs.length oc) := blk_cell (i := 3) hb3 rfl
          have f9 := blk_free 3 hb3
          clear hgrow3 hwh3 hown3 R4 hI2 hsl hb3 hrow2
          refine hK.out _ _ (fun _ => y9) ?_; clear hK K; try simp only [Act.put, List.getElem_toArray, List.getElem_cons_succ, List.getElem_cons_zero, List.setIfInBounds_toArray, List.set_cons_zero, List.set_cons_succ]
          refine wpAnyF_one (i := 10) (by kernel_rfl) rfl (fun K hK => ?_); go_simp
          refine hK.out _ _ (fun _ => y9) ?_; clear hK K; try simp only [Act.put, List.getElem_toArray, List.getElem_cons_succ, List.getElem_cons_zero, List.setIfInBounds_toArray, List.set_cons_zero, List.set_cons_succ]
          refine wpAnyF_one (i := 11) (by kernel_rfl) rfl (fun K hK => ?_); go_simp
          refine hK.out _ _ (fun h => absurd rfl h) ?_
          clear hK K y9 f9
          try simp only [Act.put, List.getElem_toArray, List.getElem_cons_succ, List.getElem_cons_zero, List.setIfInBounds_toArray, List.set_cons_zero, List.set_cons_succ]
          refine wpAnyF_done (by kernel_rfl) ?_ _
          have hI4'h := Lib.hid hI4
          clear hI4
          go_wp2
          rw [← hsp]
          go_roundg (gk - 1)
          case measure => have := hj'h.out; omega
          case rel => exact ⟨j + 1, outs ++ [⟨ks, k, kc, rws.take k⟩], _, by have := hj'h.out; omega, by go_num, by rw [List.length_append, hol'h.out]; show min j 10 + 1 = _; omega, by
            have hjl' : (rows.take j).length = j := by rw [List.length_take]; omega
            have e66 : rws.take k = rws.take 66 := by rw [hkn'h.out]; exact List.take_eq_take_iff.2 (by omega)
            rw [htk'h.out, List.map_append, hom'h.out, List.take_of_length_le (l := rows.take j ++ _) (by rw [List.length_append, hjl', List.length_singleton]; omega), List.take_of_length_le (l := rows.take j) (by rw [hjl']; omega), List.map_append]
            rw [e66]; rfl, hI4'h.out⟩
        · have i4 : ¬ (j : Int) < 10 := by omega
          have hj'h := Lib.hid hj
          have hol'h := Lib.hid hol
          have hom'h := Lib.hid hom
          have hI'h := Lib.hid hI
          have htk'h := Lib.hid htk
          clear hj hol hom hI htk
          clear hE hL hO hN hrl4
          go_wp2
          rw [← hsp]
          go_roundg (gk - 1)
          case measure => have := hj'h.out; omega
          case rel => exact ⟨j + 1, outs, _, by have := hj'h.out; omega, by go_num, by rw [hol'h.out]; omega, by
            have hjl' : (rows.take j).length = j := by rw [List.length_take]; omega
            rw [htk'h.out, List.take_append_of_le_length (by rw [hjl']; omega)]; exact hom'h.out, hI'h.out⟩
      · have i1 : ¬ (j : Int) < (ln : Int) := by omega
        have hjn : j = rows.length := by have := hrl'h.out; omega
        rw [hjn, List.take_length] at hom
        obtain ⟨hIn, hOwn, -, -⟩ := hI.script hg'h.out hsb'h.out hseed'h.out (by omega) (by rw [List.length_take]; omega) hk64'h.out
        have hb0 := hI.blk
        have y0 : wr.cell? ⟨ob, 0, none⟩ = some (.int .i64 g) := blk_cell (i := 0) hb0 rfl
        have y1 : wr.cell? ⟨ob, 1, none⟩ = some (.int .i64 sb) := blk_cell (i := 1) hb0 rfl
        have y2 : wr.cell? ⟨ob, 2, none⟩ = some (.int .u64 (seed : Int)) := blk_cell (i := 2) hb0 rfl
        have y3 : wr.cell? ⟨ob, 3, none⟩ = some (.slice op outs.length oc) := blk_cell (i := 3) hb0 rfl
        have y4 : wr.cell? ⟨ob, 4, none⟩ = some (.slice cp m cc) := blk_cell (i := 4) hb0 rfl
        have hbr := heap_below hI.low hbr'h.out (lt_of_heap hbr'h.out)
        have z0 : wr.cell? ⟨w.heap.size + 1, 0, none⟩ = some (.int .i64 0) := blk_cell (i := 0) hbr rfl
        have z1 : wr.cell? ⟨w.heap.size + 1, 1, none⟩ = some (.int .i64 0) := blk_cell (i := 1) hbr rfl
        have z2 : wr.cell? ⟨w.heap.size + 1, 2, none⟩ = some (.int .u64 0) := blk_cell (i := 2) hbr rfl
        have z3 : wr.cell? ⟨w.heap.size + 1, 3, none⟩ = some (.slice none 0 0) := blk_cell (i := 3) hbr rfl
        have z4 : wr.cell? ⟨w.heap.size + 1, 4, none⟩ = some (.slice none 0 0) := blk_cell (i := 4) hbr rfl
        have f0 := blk_free 0 hbr
        have f1 := blk_free 1 hbr
        have f2 := blk_free 2 hbr
        have f3 := blk_free 3 hbr
        have f4 := blk_free 4 hbr
        have hlow := hB00'h.out.trans (hI.low.mono (by rw [hW0s'h.out]; omega))
        clear hI hb0 hj
        rw [hjn]
        rw [hjn] at i1
        have hom'h := Lib.hid hom
        have hIn'h := Lib.hid hIn
        have hOwn'h := Lib.hid hOwn
        have hbr'h := Lib.hid hbr
        have hlow'h := Lib.hid hlow
        have hol'h := Lib.hid hol
        clear hom hIn hOwn hbr hlow hol
        go_wp2
        have hK5 := ((((Kept.setCell (fun b => W0.heap.size ≤ b) wr ⟨w.heap.size + 1, 0, none⟩ (.int .i64 g) (by simp only; rw [hW0s'h.out]; omega)).trans (Kept.setCell _ _ ⟨w.heap.size + 1, 1, none⟩ (.int .i64 sb) (by simp only; rw [hW0s'h.out]; omega))).trans (Kept.setCell _ _ ⟨w.heap.size + 1, 2, none⟩ (.int .u64 (seed : Int)) (by simp only; rw [hW0s'h.out]; omega))).trans (Kept.setCell _ _ ⟨w.heap.size + 1, 3, none⟩ (.slice op outs.length oc) (by simp only; rw [hW0s'h.out]; omega))).trans (Kept.setCell _ _ ⟨w.heap.size + 1, 4, none⟩ (.slice cp m cc) (by simp only; rw [hW0s'h.out]; omega))
        have hOwn2 := hOwn'h.out.keep hK5
        have hIn2 := hIn'h.out.own hOwn2
        have hlow2 := ((((hlow'h.out.setCell (p := ⟨w.heap.size + 1, 0, none⟩) (by simp) (.int .i64 g)).setCell (p := ⟨w.heap.size + 1, 1, none⟩) (by simp) (.int .i64 sb)).setCell (p := ⟨w.heap.size + 1, 2, none⟩) (by simp) (.int .u64 (seed : Int))).setCell (p := ⟨w.heap.size + 1, 3, none⟩) (by simp) (.slice op outs.length oc)).setCell (p := ⟨w.heap.size + 1, 4, none⟩) (by simp) (.slice cp m cc)
        have hbr2 := blk_set (i := 4) (.slice cp m cc) (blk_set (i := 3) (.slice op outs.length oc) (blk_set (i := 2) (.int .u64 (seed : Int)) (blk_set (i := 1) (.int .i64 sb) (blk_set (i := 0) (.int .i64 g) hbr'h.out))))
        clear y0 y1 y2 y3 y4 z0 z1 z2 z3 z4 f0 f1 f2 f3 f4 hK5
        generalize World.setCell _ _ _ = W2 at hIn2 hlow2 hbr2 hOwn2 ⊢
        have d0 : W2.cell? ⟨w.heap.size + 1, 0, none⟩ = some (.int .i64 g) := blk_cell (i := 0) hbr2 rfl
        have d1 : W2.cell? ⟨w.heap.size + 1, 1, none⟩ = some (.int .i64 sb) := blk_cell (i := 1) hbr2 rfl
        have d2 : W2.cell? ⟨w.heap.size + 1, 2, none⟩ = some (.int .u64 (seed : Int)) := blk_cell (i := 2) hbr2 rfl
        have d3 : W2.cell? ⟨w.heap.size + 1, 3, none⟩ = some (.slice op outs.length oc) := blk_cell (i := 3) hbr2 rfl
        have d4 : W2.cell? ⟨w.heap.size + 1, 4, none⟩ = some (.slice cp m cc) := blk_cell (i := 4) hbr2 rfl
        have hfin : SmAt w (ownS (Sm.scr ⟨g, sb, seed, lp, ln, lc, rows, pp, pn, pc, ps⟩)) (.returned (.agg (smA ⟨g, sb, seed, op, outs.length, oc, outs, cp, m, cc, ps.take m⟩))) W2 := by
          refine ⟨_, rfl, hlow2, hIn2, ?_⟩
          unfold ownS Sm.scr
          simp only
          rw [hom'h.out, ← List.map_take, List.map_map, hpm'h.out]
          rfl
        unfold smA at hfin
        clear hIn2 hbr2 hlow2 hOwn2
        refine bodyPost_ret (v := .agg #[.int .i64 g, .int .i64 sb, .int .u64 (seed : Int), .slice op outs.length oc, .slice cp m cc]) ?_ rfl hfin
        simp [results, Tryd.results10, go_sem, d0, d1, d2, d3, d4]
end Go.Proofs.YtifofdciablljaaDoor
