/-
  ModelMaps: what its walk rests on.
-/
import Derived.Test.YtihccjmmnpldjaaLawOthers24
import Derived.Test.YtihccjmmnpldjaaLawSwaps24
import Derived.Deep.CutRange
set_option linter.unusedSimpArgs false
set_option linter.unusedVariables false
set_option maxRecDepth 100000
namespace Go.Proofs.Ytihccjmmnpldjaa
open Go.RowKit

def RowLikeF (sp : Option Addr) (m : Nat) (ps : Ps) (w : World) (e : Ending) (w' : World) : Prop :=
  ∃ sp' cap', e = .returned (.agg #[.slice sp' m cap']) ∧ Below w.heap.size w w' ∧ SlK w' 2 sp' m (prs ps) ∧ (∀ b, sp'.map (·.block) = some b → w.heap.size ≤ b) ∧ (sp' = none → cap' = 0)
theorem own_fresh (sp : Option Addr) (n cap : Nat) (ps : Ps) (w : World) (h : SlK w 2 sp n (prs ps)) (hc : sp = none → cap = 0) (hn : n ≤ cap) :
    Calls Try.prog 8 #[.agg #[.slice sp n cap]] w (RowLikeF sp (min n 40) (ps.take 40) w) := by
  have hmax := h.2.1
  unfold maxLen at hmax
  have H0 := (Hs.nil w).new2 #[.slice sp n cap] #[.slice none 0 0] 24 24
  obtain ⟨W0, hW0⟩ : ∃ W0, W0 = (w.alloc (.cells #[.slice sp n cap] 24)).alloc (.cells #[.slice none 0 0] 24) := ⟨_, rfl⟩
  rw [← hW0] at H0
  have hs := h.below H0.old
  obtain ⟨m, hm⟩ : ∃ m, m = min n 40 := ⟨_, rfl⟩
  have hmv : (if (40 : Int) < (n : Int) then (40 : Int) else (n : Int)) = (m : Int) := by split <;> omega
  have hsl : SlK W0 2 sp m (prs (ps.take 40)) := by
    have h1 := hs.take m (by omega)
    rw [prs_take] at h1
    have hl := prs_len h
    have : ps.take m = ps.take 40 := by
      by_cases hx : n ≤ 40
      · rw [List.take_of_length_le (by omega), List.take_of_length_le (by omega)]
      · rw [show m = 40 by omega]
    rwa [this] at h1
  rw [← hm]
  have hmn : (m : Int) ≤ (cap : Int) := by omega
  have hm0 : (0 : Int) ≤ (m : Int) := by omega
  have C := cloneP_any sp m cap (prs (ps.take 40)) W0 (by omega) (prs_one _) hc hsl
  have x0 : W0.cell? ⟨w.heap.size, 0, none⟩ = some (.slice sp n cap) := blk_cell (i := 0) H0.rows.2.1 rfl
  have x1 : W0.cell? ⟨w.heap.size + 1, 0, none⟩ = some (.slice none 0 0) := blk_cell (i := 0) H0.rows.1 rfl
  have h'h := Lib.hid h
  have H0'h := Lib.hid H0
  have hs'h := Lib.hid hs
  have hm'h := Lib.hid hm
  have hsl'h := Lib.hid hsl
  have C'h := Lib.hid C
  have hW0'h := Lib.hid hW0
  have hc'h := Lib.hid hc
  clear h H0 hs hm hsl C hW0 hc
  go_enter Try.func8, Try.ntmps8
  go_upto_region 1 with fail
  rw [← hW0'h.out]
  go_wp2_with (go_at_call 16; refine C'h.out.mono ?_)
  rintro e w2 ⟨sp', cap', rfl, hb2, hrow⟩
  have H2 := H0'h.out.next hb2
  have y1 : w2.cell? ⟨w.heap.size + 1, 0, none⟩ = some (.slice none 0 0) := blk_cell (i := 0) H2.rows.1 rfl
  have f1 := blk_free 0 H2.rows.1
  have H3 := H2.put 0 rfl 0 (.slice sp' m cap')
  have hr3 := SlK.of_row hrow (by unfold maxLen; omega)
  have hne : sp'.map (·.block) ≠ some (w.heap.size + 1) := fun e => by
    have h1 := (hrow.lt _ (own_slice e)).1
    have h2 := H0'h.out.lt _ (List.mem_cons_self ..)
    simp only at h2
    omega
  have hnl := row_nil' hrow
  have hlow : ∀ b, sp'.map (·.block) = some b → w.heap.size ≤ b := fun b e => by
    have h1 := (hrow.lt _ (own_slice e)).1
    have h2 := H0'h.out.old.size
    omega
  have hS3 : SlK (w2.setCell ⟨w.heap.size + 1, 0, none⟩ (.slice sp' m cap')) 2 sp' m (prs (ps.take 40)) := hr3.keep fun b o _ e ho => (Below.heap_setCell w2 ⟨w.heap.size + 1, 0, none⟩ (.slice sp' m cap') b (fun e2 => hne (e.trans (congrArg some e2)))).trans ho
  have H2'h := Lib.hid H2
  have H3'h := Lib.hid H3
  have hr3'h := Lib.hid hr3
  have hS3'h := Lib.hid hS3
  have hb2'h := Lib.hid hb2
  have hrow'h := Lib.hid hrow
  have hne'h := Lib.hid hne
  have hlow'h := Lib.hid hlow
  have hnl'h := Lib.hid hnl
  clear H2 H3 hr3 hS3 hb2 hrow hne hlow hnl
  go_wp2
  have H3 := H3'h.out
  have hS3 := hS3'h.out
  clear H3'h hS3'h
  generalize World.setCell _ _ _ = W3 at H3 hS3 ⊢
  have e0 : W3.cell? ⟨w.heap.size + 1, 0, none⟩ = some (.slice sp' m cap') := blk_cell (i := 0) H3.rows.1 rfl
  refine bodyPost_ret (v := .agg #[.slice sp' m cap']) ?_ rfl ⟨sp', cap', rfl, H3.old, hS3, hlow'h.out, hnl'h.out⟩
  simp [results, Try.results8, go_sem, e0]
theorem bcell {W w1 : World} (hb : Below W.heap.size W w1) : (∀ b o, b < W.heap.size → w1.cell? ⟨b, o, none⟩ = W.cell? ⟨b, o, none⟩) ∧ (∀ b o, b < W.heap.size → w1.frozen? ⟨b, o, none⟩ = W.frozen? ⟨b, o, none⟩) :=
  ⟨fun b o h => hb.cell (p := ⟨b, o, none⟩) h, fun b o h => hb.frozen (p := ⟨b, o, none⟩) h⟩
theorem alloc_set_new (W : World) (p : Addr) (v : Value) (o : Obj) : ((W.setCell p v).alloc o).heap[W.heap.size]? = some o := by
  have := World.alloc_heap_new (W.setCell p v) o
  rwa [World.size_setCell] at this
theorem below_alloc' {w1 W : World} (h : Below w1.heap.size w1 W) (o : Obj) : Below w1.heap.size w1 (W.alloc o) := h.alloc h.size o
theorem below_set' {w1 W : World} (h : Below w1.heap.size w1 W) {p : Addr} (hp : w1.heap.size ≤ p.block) (v : Value) : Below w1.heap.size w1 (W.setCell p v) := h.setCell hp v
def twoA (X Y : An) (a : Option Addr) (la ca : Nat) (b : Option Addr) (lb cb : Nat) : Array Value := #[.int .i64 X.err, .int .u64 (X.val : Int), .bool X.done, .slice a la ca, .int .i64 Y.err, .int .u64 (Y.val : Int), .bool Y.done, .slice b lb cb]
/-- Two boxed answers. -/
structure TwoAns (w : World) (X Y : An) (b1 b2 : Nat) (sa : Option Addr) (ma ka : Nat) (sb : Option Addr) (mb kb : Nat) (W : World) : Prop where
  one : W.heap[b1]? = some (.cells (anA X sa ma ka) 35 (0, 0))
  two : W.heap[b2]? = some (.cells (anA Y sb mb kb) 35 (0, 0))
  old : Below w.heap.size w W
def Cut18 (w1 : World) (X Y : An) (a : Option Addr) (la ca : Nat) (b : Option Addr) (lb cb : Nat) (t u : Value) (W : World) : Prop := ∃ (b1 b2 : Nat), t = .pointer (some ⟨b1, 0, none⟩) ∧ u = .pointer (some ⟨b2, 0, none⟩) ∧ TwoAns w1 X Y b1 b2 a la ca b lb cb W
/-- Two boxed maps. -/
structure TwoBox (w : World) (b1 b2 : Nat) (sa : Option Addr) (ma ka : Nat) (fs : Ps) (sb : Option Addr) (mb kb : Nat) (gs : Ps) (W : World) : Prop where
  one : W.heap[b1]? = some (.cells #[.slice sa ma ka] 24 (0, 0))
  two : W.heap[b2]? = some (.cells #[.slice sb mb kb] 24 (0, 0))
  sl1 : SlK W 2 sa ma (prs fs)
  sl2 : SlK W 2 sb mb (prs gs)
  nil : sa = none → ka = 0
  old : Below w.heap.size w W
def Cut3 (w1 : World) (m1 m2 : Nat) (xs ys : Ps) (t u : Value) (W : World) : Prop := ∃ (b1 b2 : Nat) (sa : Option Addr) (ka : Nat) (sb : Option Addr) (kb : Nat), t = .pointer (some ⟨b1, 0, none⟩) ∧ u = .pointer (some ⟨b2, 0, none⟩) ∧ TwoBox w1 b1 b2 sa m1 ka xs sb m2 kb ys W
theorem blk_set4 {W : World} {b : Nat} {c0 c1 c2 c3 : Value} {t : TypeId} {fz : Nat × Nat} (x0 x1 x2 x3 : Value) (h : W.heap[b]? = some (.cells #[c0, c1, c2, c3] t fz)) :
    ((((W.setCell ⟨b, 0, none⟩ x0).setCell ⟨b, 1, none⟩ x1).setCell ⟨b, 2, none⟩ x2).setCell ⟨b, 3, none⟩ x3).heap[b]? = some (.cells #[x0, x1, x2, x3] t fz) :=
  blk_set (i := 3) (cs := #[x0, x1, x2, c3]) x3 (blk_set (i := 2) (cs := #[x0, x1, c2, c3]) x2 (blk_set (i := 1) (cs := #[x0, c1, c2, c3]) x1 (blk_set (i := 0) (cs := #[c0, c1, c2, c3]) x0 h)))
theorem drew_heap' (W : World) (b : Nat) : W.drew.heap[b]? = W.heap[b]? := rfl
theorem alloc_set4_new (W : World) (p0 p1 p2 p3 : Addr) (v0 v1 v2 v3 : Value) (o : Obj) : (((((W.setCell p0 v0).setCell p1 v1).setCell p2 v2).setCell p3 v3).alloc o).heap[W.heap.size]? = some o := by
  have := World.alloc_heap_new ((((W.setCell p0 v0).setCell p1 v1).setCell p2 v2).setCell p3 v3) o
  rwa [World.size_setCell, World.size_setCell, World.size_setCell, World.size_setCell] at this
set_option maxHeartbeats 2000000 in
theorem ownA_any (X : An) (a : Option Addr) (la ca : Nat) (w : World) (hle : la ≤ ca) (hmax : la ≤ 9223372036854775807) :
    Calls Try.prog 18 #[.agg #[.int .i64 X.err, .int .u64 (X.val : Int), .bool X.done, .slice a la ca]] w fun e w' => e = .returned (.agg #[.int .i64 X.err, .int .u64 (X.val : Int), .bool X.done, .slice a (min la 40) ca]) ∧ Below w.heap.size w w' := by
  have H0 := (Hs.nil w).new2 (anA X a la ca) (anA ⟨0, 0, false⟩ none 0 0) 35 35
  obtain ⟨W0, hW0⟩ : ∃ W0, W0 = (w.alloc (.cells (anA X a la ca) 35)).alloc (.cells (anA ⟨0, 0, false⟩ none 0 0) 35) := ⟨_, rfl⟩
  rw [← hW0] at H0
  obtain ⟨m, hm⟩ : ∃ m, m = min la 40 := ⟨_, rfl⟩
  have hmv : (if (40 : Int) < (la : Int) then (40 : Int) else (la : Int)) = (m : Int) := by split <;> omega
  rw [← hm]
  have hmn : (m : Int) ≤ (ca : Int) := by omega
  have hm0 : (0 : Int) ≤ (m : Int) := by omega
  have x3 : W0.cell? ⟨w.heap.size, 3, none⟩ = some (.slice a la ca) := blk_cell (i := 3) H0.rows.2.1 rfl
  have f3 : W0.frozen? ⟨w.heap.size, 3, none⟩ = false := blk_free 3 H0.rows.2.1
  have H0'h := Lib.hid H0
  have hW0'h := Lib.hid hW0
  have hm'h := Lib.hid hm
  clear H0 hW0 hm
  go_enter Try.func18, Try.ntmps18
  go_upto_region 1 with fail
  change Code.wp _ _ _ _ ((w.alloc (.cells (anA X a la ca) 35)).alloc (.cells (anA ⟨0, 0, false⟩ none 0 0) 35))
  rw [← hW0'h.out]
  go_upto_region 2 with fail
  clear x3 f3
  have H2 : Hs w [(w.heap.size + 1, anA ⟨0, 0, false⟩ none 0 0, 35), (w.heap.size, anA X a m ca, 35)] (W0.setCell ⟨w.heap.size, 3, none⟩ (.slice a m ca)) := H0'h.out.put 1 rfl 3 (.slice a m ca)
  generalize World.setCell _ _ _ = W2 at H2 ⊢
  have H2'h := Lib.hid H2
  clear H2
  go_wp2_with (first | (refine wpList_load_row rfl _ _ rfl w.heap.size rfl 35 _ (0, 0) _ H2'h.out.rows.2.1 Try.underlying35 rfl info_an ?_) | (refine wpList_store_row rfl _ _ _ rfl (w.heap.size + 1) (anA X a m ca) rfl rfl 35 _ H2'h.out.rows.1 info_an rfl (anA_one _ _ _ _) ?_))
  have H3 := H2'h.out.set 0 rfl (anA X a m ca)
  generalize World.setRow _ _ _ = W3 at H3 ⊢
  have z0 := blk_cell (i := 0) H3.rows.1 rfl
  have z1 := blk_cell (i := 1) H3.rows.1 rfl
  have z2 := blk_cell (i := 2) H3.rows.1 rfl
  have z3 := blk_cell (i := 3) H3.rows.1 rfl
  refine bodyPost_ret (v := .agg #[.int .i64 X.err, .int .u64 (X.val : Int), .bool X.done, .slice a m ca]) ?_ rfl ⟨rfl, H3.old⟩
  simp [results, Try.results18, go_sem, z0, z1, z2, z3, anA]
end Go.Proofs.Ytihccjmmnpldjaa
