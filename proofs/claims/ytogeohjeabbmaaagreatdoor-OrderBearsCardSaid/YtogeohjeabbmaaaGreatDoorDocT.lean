/-
 The document's answer for layer 24, for layer 27: Do, of a call of a key.
-/
import Derived.Test.YtogeohjeabbmaaaGreatDoorDocS
set_option linter.unusedSimpArgs false
set_option linter.unusedVariables false
set_option maxRecDepth 100000
namespace Go.Proofs.YtogeohjeabbmaaaGreatDoor
open Go.RowKit

/-- What Do leaves. -/
def RDoP (w : World) (ps : Ps) (a : An) (e : Ending) (w' : World) : Prop :=
 ∃ s n c, e = .returned (.tuple #[.agg #[.slice s n c], .agg #[.int .i64 a.err, .int .u64 (a.val : Int), .bool a.done, .slice none 0 0]]) ∧ Below w.heap.size w w' ∧ SlK w' 2 s n (prs ps)
theorem SlK.setRow {W : World} {k : Nat} {sp : Option Addr} {n : Nat} {vals : List Value} (h : SlK W k sp n vals) (b : Nat) (new : Array Value) (hne : ∀ g, sp.map (·.block) = some g → g ≠ b) : SlK (W.setRow b new) k sp n vals :=
 h.keep fun g o _ hg ho => (setRow_other _ _ _ _ (hne g hg)).trans ho
theorem an_none (a : Int) (b : Int) (c : Bool) : (#[.int .i64 a, .int .u64 b, .bool c, .slice none 0 0] : Array Value).all (·.oneCell') = true := by kernel_rfl
set_option maxHeartbeats 8000000 in
theorem rDo_any (sp : Option Addr) (n cap : Nat) (ps : Ps) (c : Cal) (w : World) (h : SlK w 2 sp n (prs ps)) (hup : upB ps = true) (hn : n ≤ 4096) (ho : isOp (clOf c) = true) (h6 : c.op ≠ 6) :
  Calls Tryz.prog 52 #[.agg #[.slice sp n cap], .agg #[.int .i64 c.op, .int .u64 (c.key : Int), .int .u64 (c.a : Int), .int .u64 (c.b : Int)]] w (RDoP w (nextP (clOf c) ps) (tellA (clOf c) ps)) := by
 obtain ⟨op, key, a, b⟩ := c
 have hlen := prs_len h
 have hopc : op = 1 ∨ op = 2 ∨ op = 3 ∨ op = 4 ∨ op = 5 ∨ op = 7 := by
  have h1 : 1 ≤ op ∧ op ≤ 7 := of_decide_eq_true ho
  have h2 : op ≠ 6 := h6
  omega
 obtain ⟨ps', hpq⟩ : ∃ ps', ps' = nextP (clOf ⟨op, key, a, b⟩) ps := ⟨_, rfl⟩
 obtain ⟨an, han⟩ : ∃ an, an = tellA (clOf ⟨op, key, a, b⟩) ps := ⟨_, rfl⟩
 rw [← hpq, ← han]
 have hnx := hpq
 unfold nextP clOf at hpq
 unfold tellA clOf anK at han
 have H0 := ((((Hs.nil w).new #[.slice sp n cap] 29).new #[.int .i64 op, .int .u64 (key : Int), .int .u64 (a : Int), .int .u64 (b : Int)] 51).new #[.slice none 0 0] 29).new #[.int .i64 0, .int .u64 0, .bool false, .slice none 0 0] 53
 simp only [World.size_alloc, Nat.add_assoc, Nat.reduceAdd] at H0
 obtain ⟨W0, hW0⟩ : ∃ W0, W0 = (((w.alloc (.cells #[.slice sp n cap] 29)).alloc (.cells #[.int .i64 op, .int .u64 (key : Int), .int .u64 (a : Int), .int .u64 (b : Int)] 51)).alloc (.cells #[.slice none 0 0] 29)).alloc (.cells #[.int .i64 0, .int .u64 0, .bool false, .slice none 0 0] 53) := ⟨_, rfl⟩
 rw [← hW0] at H0
 have G := fun W hW => rget_any sp n cap ps key W hW
 rw [findP_up hup] at G
 have hh : (getS ps key).isSome = hasP ps key := rfl
 rw [hh] at G
 have q0 : W0.cell? ⟨w.heap.size, 0, none⟩ = some (.slice sp n cap) := blk_cell H0.rows.2.2.2.1 rfl
 have q1 : W0.cell? ⟨w.heap.size + 1, 1, none⟩ = some (.int .u64 (key : Int)) := blk_cell H0.rows.2.2.1 rfl
 have WI := fun v W hW => rWith_any sp n cap ps key v W hW hup hn
 have WO := fun W hW => rWithout_any sp n cap ps key W hW hup hn
 have hgs : getS ps key = if hasP ps key then some ((getS ps key).getD 0) else none := by
  unfold hasP
  cases getS ps key <;> rfl
 obtain ⟨gs, hgs0⟩ : ∃ gs, gs = getS ps key := ⟨_, rfl⟩
 obtain ⟨hs, hhs⟩ : ∃ hs, hs = hasP ps key := ⟨_, rfl⟩
 simp only at han hpq
 rw [← hgs0, ← hhs] at hgs G han
 rw [← hgs0, ← hhs] at hpq
 obtain ⟨gv, hgv⟩ : ∃ gv, gv = gs.getD 0 := ⟨_, rfl⟩
 rw [← hgv] at hgs G han
 have hlp : ps'.length ≤ 4097 := by
  have := len_next_le (clOf ⟨op, key, a, b⟩) ps
  rw [← hnx] at this
  omega
 clear hh hgs0 hhs hgv h6 ho hnx
 have H0'h := Lib.hid H0
 have G'h := Lib.hid G
 have WI'h := Lib.hid WI
 have WO'h := Lib.hid WO
 have h'h := Lib.hid h
 have hup'h := Lib.hid hup
 have hpq'h := Lib.hid hpq
 have han'h := Lib.hid han
 have hgs'h := Lib.hid hgs
 have hlen'h := Lib.hid hlen
 have hlp'h := Lib.hid hlp
 clear H0 G WI WO h hup hpq han hgs hlen hlp
 go_enter Tryz.func52, Tryz.ntmps52
 go_upto_region 1 with fail
 simp only [Nat.add_assoc, Nat.reduceAdd]
 rw [← hW0]
 clear hW0
 go_upto_region 2 with (first | (go_at_call 67; refine (G'h.out _ (h'h.out.below H0'h.out.old)).mono ?_; rintro e w2 ⟨rfl, hb2⟩))
 have H2 := H0'h.out.next hb2
 clear q0 q1 hb2 H0'h G'h
 go_upto_region 3 with (first | (refine wpList_store_row rfl _ _ _ rfl w2.heap.size #[.int .i64 0, .int .u64 (gv : Int), .bool hs, .slice none 0 0] rfl rfl 53 _ (World.alloc_heap_new _ _) info_an rfl (an_none _ _ _) ?_))
 have H3 := (H2.new #[.int .i64 0, .int .u64 0, .bool false, .slice none 0 0] 53).set 0 rfl #[.int .i64 0, .int .u64 (gv : Int), .bool hs, .slice none 0 0]
 have htb : w.heap.size + 4 ≤ w2.heap.size := by have := H2.lt _ (List.mem_cons_self ..); simp only at this; omega
 clear H2
 generalize hW3 : World.setRow _ _ _ = W3 at H3 ⊢
 clear hW3
 generalize w2.heap.size = tb at H3 htb ⊢
 have p0 : W3.cell? ⟨w.heap.size + 1, 0, none⟩ = some (.int .i64 op) := blk_cell H3.rows.2.2.2.1 rfl
 have H3'h := Lib.hid H3
 have htb'h := Lib.hid htb
 clear H3 htb
 rcases hopc with rfl | rfl | rfl | rfl | rfl | rfl
 ·
  have hps2 : ps' = ps := by rw [hpq'h.out]; rfl
  have han2 : an = ⟨0, gv, hs⟩ := by rw [han'h.out]; rfl
  subst hps2 han2
  clear han'h hpq'h
  go_upto_region 5 with fail
  have H4 := H3'h.out.drew
  refine wp_region_heldF (fun W => W.cell? ⟨w.heap.size, 0, none⟩ = some (.slice sp n cap) ∧ W.cell? ⟨w.heap.size + 1, 1, none⟩ = some (.int .u64 (key : Int)) ∧ W.cell? ⟨w.heap.size + 1, 2, none⟩ = some (.int .u64 (a : Int)) ∧ W.cell? ⟨w.heap.size + 1, 3, none⟩ = some (.int .u64 (b : Int)) ∧ W.heap[tb]? = some (.cells #[.int .i64 0, .int .u64 (gv : Int), .bool hs, .slice none 0 0] 53 (0, 0))) 99 (by kernel_rfl) ?_
  try clear p0
  clear H3'h
  generalize W3.drew = V at H4 ⊢
  refine wpAnyF_take (i := 0) (v := .agg #[.slice sp n cap]) rfl (by kernel_rfl) (by kernel_rfl) (by kernel_rfl) (by kernel_rfl) (fun _ _ _ h => h) (Or.inl ⟨by kernel_rfl, fun w hSw => by (try dsimp only at hSw); go_simp⟩) ⟨blk_cell H4.rows.2.2.2.2.1 rfl, blk_cell (i := 1) H4.rows.2.2.2.1 rfl, blk_cell (i := 2) H4.rows.2.2.2.1 rfl, blk_cell (i := 3) H4.rows.2.2.2.1 rfl, H4.rows.1⟩ ?_; try simp only [Act.put, List.getElem_toArray, List.getElem_cons_succ, List.getElem_cons_zero, List.setIfInBounds_toArray, List.set_cons_zero, List.set_cons_succ]
  refine wpAnyF_take (i := 1) (v := .agg #[.int .i64 0, .int .u64 (gv : Int), .bool hs, .slice none 0 0]) rfl (by kernel_rfl) (by kernel_rfl) (by kernel_rfl) (by kernel_rfl) (fun _ _ _ h => h) (Or.inl ⟨by kernel_rfl, fun w hSw => run_load_agg (by rfl) (by rfl) hSw.2.2.2.2 Tryz.underlying53 rfl info_an⟩) ⟨blk_cell H4.rows.2.2.2.2.1 rfl, blk_cell (i := 1) H4.rows.2.2.2.1 rfl, blk_cell (i := 2) H4.rows.2.2.2.1 rfl, blk_cell (i := 3) H4.rows.2.2.2.1 rfl, H4.rows.1⟩ ?_; try simp only [Act.put, List.getElem_toArray, List.getElem_cons_succ, List.getElem_cons_zero, List.setIfInBounds_toArray, List.set_cons_zero, List.set_cons_succ]
  refine wpAnyF_one (i := 2) (by kernel_rfl) rfl (fun K hK => ?_)
  refine step_store_row rfl _ _ _ rfl (w.heap.size + 2) #[.slice sp n cap] rfl rfl 29 _ H4.rows.2.2.1 info_map rfl (map_one _ _ _) ?_
  have H5 := H4.set 2 rfl #[.slice sp n cap]
  refine hK.out _ _ (fun _ => ⟨blk_cell H5.rows.2.2.2.2.1 rfl, blk_cell (i := 1) H5.rows.2.2.2.1 rfl, blk_cell (i := 2) H5.rows.2.2.2.1 rfl, blk_cell (i := 3) H5.rows.2.2.2.1 rfl, H5.rows.1⟩) ?_; clear hK K; try simp only [Act.put, List.getElem_toArray, List.getElem_cons_succ, List.getElem_cons_zero, List.setIfInBounds_toArray, List.set_cons_zero, List.set_cons_succ]
  refine wpAnyF_one (i := 3) (by kernel_rfl) rfl (fun K hK => ?_)
  refine step_store_row rfl _ _ _ rfl (w.heap.size + 3) #[.int .i64 0, .int .u64 (gv : Int), .bool hs, .slice none 0 0] rfl rfl 53 _ H5.rows.2.1 info_an rfl (an_none _ _ _) ?_
  have H6 := H5.set 1 rfl #[.int .i64 0, .int .u64 (gv : Int), .bool hs, .slice none 0 0]
  refine hK.out _ _ (fun _ => ⟨blk_cell H6.rows.2.2.2.2.1 rfl, blk_cell (i := 1) H6.rows.2.2.2.1 rfl, blk_cell (i := 2) H6.rows.2.2.2.1 rfl, blk_cell (i := 3) H6.rows.2.2.2.1 rfl, H6.rows.1⟩) ?_; clear hK K; try simp only [Act.put, List.getElem_toArray, List.getElem_cons_succ, List.getElem_cons_zero, List.setIfInBounds_toArray, List.set_cons_zero, List.set_cons_succ]
  refine wpAnyF_done (by kernel_rfl) ?_ _
  have hSf := (h'h.out.below H6.old)
  clear H4 H5
  generalize World.setRow _ _ _ = V6 at H6 hSf ⊢
  have e0 : V6.cell? ⟨w.heap.size + 2, 0, none⟩ = some (.slice sp n cap) := blk_cell (i := 0) H6.rows.2.2.1 rfl
  have e1 : V6.cell? ⟨w.heap.size + 3, 0, none⟩ = some (.int .i64 0) := blk_cell (i := 0) H6.rows.2.1 rfl
  have e2 : V6.cell? ⟨w.heap.size + 3, 1, none⟩ = some (.int .u64 (gv : Int)) := blk_cell (i := 1) H6.rows.2.1 rfl
  have e3 : V6.cell? ⟨w.heap.size + 3, 2, none⟩ = some (.bool hs) := blk_cell (i := 2) H6.rows.2.1 rfl
  have e4 : V6.cell? ⟨w.heap.size + 3, 3, none⟩ = some (.slice none 0 0) := blk_cell (i := 3) H6.rows.2.1 rfl
  have H6'h := Lib.hid H6
  have hSf'h := Lib.hid hSf
  clear H6 hSf
  go_wp2
  refine bodyPost_ret (v := .tuple #[.agg #[.slice sp n cap], .agg #[.int .i64 0, .int .u64 (gv : Int), .bool hs, .slice none 0 0]]) ?_ rfl ⟨_, _, _, rfl, H6'h.out.old, hSf'h.out⟩
  simp [results, Tryz.results52, go_sem, e0, e1, e2, e3, e4]
 ·
  have hps2 : ps' = insP ps key a := by rw [hpq'h.out]; rfl
  have han2 : an = ⟨0, gv, hs⟩ := by rw [han'h.out]; rfl
  subst han2
  clear han'h hpq'h
  have hps2'h := Lib.hid hps2
  clear hps2
  go_upto_region 7 with fail
  have H4 := H3'h.out.drew
  refine wp_region_heldF (fun W => W.cell? ⟨w.heap.size, 0, none⟩ = some (.slice sp n cap) ∧ W.cell? ⟨w.heap.size + 1, 1, none⟩ = some (.int .u64 (key : Int)) ∧ W.cell? ⟨w.heap.size + 1, 2, none⟩ = some (.int .u64 (a : Int)) ∧ W.cell? ⟨w.heap.size + 1, 3, none⟩ = some (.int .u64 (b : Int)) ∧ W.heap[tb]? = some (.cells #[.int .i64 0, .int .u64 (gv : Int), .bool hs, .slice none 0 0] 53 (0, 0))) 99 (by kernel_rfl) ?_
  try clear p0
  clear H3'h
  generalize W3.drew = V at H4 ⊢
  refine wpAnyF_take (i := 0) (v := .agg #[.slice sp n cap]) rfl (by kernel_rfl) (by kernel_rfl) (by kernel_rfl) (by kernel_rfl) (fun _ _ _ h => h) (Or.inl ⟨by kernel_rfl, fun w hSw => by (try dsimp only at hSw); go_simp⟩) ⟨blk_cell H4.rows.2.2.2.2.1 rfl, blk_cell (i := 1) H4.rows.2.2.2.1 rfl, blk_cell (i := 2) H4.rows.2.2.2.1 rfl, blk_cell (i := 3) H4.rows.2.2.2.1 rfl, H4.rows.1⟩ ?_; try simp only [Act.put, List.getElem_toArray, List.getElem_cons_succ, List.getElem_cons_zero, List.setIfInBounds_toArray, List.set_cons_zero, List.set_cons_succ]
  refine wpAnyF_take (i := 1) (v := .pointer (some ⟨w.heap.size + 1, 1, none⟩)) rfl (by kernel_rfl) (by kernel_rfl) (by kernel_rfl) (by kernel_rfl) (fun _ _ _ h => h) (Or.inl ⟨by kernel_rfl, fun w hSw => by (try dsimp only at hSw); go_simp⟩) ⟨blk_cell H4.rows.2.2.2.2.1 rfl, blk_cell (i := 1) H4.rows.2.2.2.1 rfl, blk_cell (i := 2) H4.rows.2.2.2.1 rfl, blk_cell (i := 3) H4.rows.2.2.2.1 rfl, H4.rows.1⟩ ?_; try simp only [Act.put, List.getElem_toArray, List.getElem_cons_succ, List.getElem_cons_zero, List.setIfInBounds_toArray, List.set_cons_zero, List.set_cons_succ]
  refine wpAnyF_take (i := 2) (v := .int .u64 (key : Int)) rfl (by kernel_rfl) (by kernel_rfl) (by kernel_rfl) (by kernel_rfl) (fun _ _ _ h => h) (Or.inl ⟨by kernel_rfl, fun w hSw => by have hcc := hSw.2.1; (try dsimp only at hSw); go_simp⟩) ⟨blk_cell H4.rows.2.2.2.2.1 rfl, blk_cell (i := 1) H4.rows.2.2.2.1 rfl, blk_cell (i := 2) H4.rows.2.2.2.1 rfl, blk_cell (i := 3) H4.rows.2.2.2.1 rfl, H4.rows.1⟩ ?_; try simp only [Act.put, List.getElem_toArray, List.getElem_cons_succ, List.getElem_cons_zero, List.setIfInBounds_toArray, List.set_cons_zero, List.set_cons_succ]
  refine wpAnyF_take (i := 3) (v := .pointer (some ⟨w.heap.size + 1, 2, none⟩)) rfl (by kernel_rfl) (by kernel_rfl) (by kernel_rfl) (by kernel_rfl) (fun _ _ _ h => h) (Or.inl ⟨by kernel_rfl, fun w hSw => by (try dsimp only at hSw); go_simp⟩) ⟨blk_cell H4.rows.2.2.2.2.1 rfl, blk_cell (i := 1) H4.rows.2.2.2.1 rfl, blk_cell (i := 2) H4.rows.2.2.2.1 rfl, blk_cell (i := 3) H4.rows.2.2.2.1 rfl, H4.rows.1⟩ ?_; try simp only [Act.put, List.getElem_toArray, List.getElem_cons_succ, List.getElem_cons_zero, List.setIfInBounds_toArray, List.set_cons_zero, List.set_cons_succ]
  refine wpAnyF_take (i := 4) (v := .int .u64 (a : Int)) rfl (by kernel_rfl) (by kernel_rfl) (by kernel_rfl) (by kernel_rfl) (fun _ _ _ h => h) (Or.inl ⟨by kernel_rfl, fun w hSw => by have hcc := hSw.2.2.1; (try dsimp only at hSw); go_simp⟩) ⟨blk_cell H4.rows.2.2.2.2.1 rfl, blk_cell (i := 1) H4.rows.2.2.2.1 rfl, blk_cell (i := 2) H4.rows.2.2.2.1 rfl, blk_cell (i := 3) H4.rows.2.2.2.1 rfl, H4.rows.1⟩ ?_; try simp only [Act.put, List.getElem_toArray, List.getElem_cons_succ, List.getElem_cons_zero, List.setIfInBounds_toArray, List.set_cons_zero, List.set_cons_succ]
  refine wpAnyF_take (i := 6) (v := .agg #[.int .i64 0, .int .u64 (gv : Int), .bool hs, .slice none 0 0]) rfl (by kernel_rfl) (by kernel_rfl) (by kernel_rfl) (by kernel_rfl) (fun _ _ _ h => h) (Or.inl ⟨by kernel_rfl, fun w hSw => run_load_agg (by rfl) (by rfl) hSw.2.2.2.2 Tryz.underlying53 rfl info_an⟩) ⟨blk_cell H4.rows.2.2.2.2.1 rfl, blk_cell (i := 1) H4.rows.2.2.2.1 rfl, blk_cell (i := 2) H4.rows.2.2.2.1 rfl, blk_cell (i := 3) H4.rows.2.2.2.1 rfl, H4.rows.1⟩ ?_; try simp only [Act.put, List.getElem_toArray, List.getElem_cons_succ, List.getElem_cons_zero, List.setIfInBounds_toArray, List.set_cons_zero, List.set_cons_succ]
  refine wpAnyF_one (i := 5) (by kernel_rfl) rfl (fun K hK => ?_); go_simp
  refine (WI'h.out a V (h'h.out.below H4.old)).mono ?_
  rintro e V2 ⟨s2, n2, c2, rfl, hb2, hrow2⟩
  rw [← hps2'h.out] at hrow2
  obtain ⟨s2', c2', e', q1, q2, q3⟩ := row_form hrow2
  cases e'
  have hS2 := SlK.of_row hrow2 (by have := hlp'h.out; unfold maxLen; omega)
  have hlow2 : ∀ g, s2.map (·.block) = some g → w.heap.size + 4 ≤ g := fun g hg => by
   obtain ⟨x, rfl, rfl⟩ := Option.map_eq_some_iff.1 hg
   have h1 := (q3 x rfl).1
   have h2 := H4.lt _ (List.mem_cons_of_mem _ (List.mem_cons_self ..))
   simp only at h2
   omega
  have H4 := H4.next hb2
  clear hrow2 q1 q2 q3
  refine hK.out _ _ (fun _ => ⟨blk_cell H4.rows.2.2.2.2.1 rfl, blk_cell (i := 1) H4.rows.2.2.2.1 rfl, blk_cell (i := 2) H4.rows.2.2.2.1 rfl, blk_cell (i := 3) H4.rows.2.2.2.1 rfl, H4.rows.1⟩) ?_; clear hK K; try simp only [Act.put, List.getElem_toArray, List.getElem_cons_succ, List.getElem_cons_zero, List.setIfInBounds_toArray, List.set_cons_zero, List.set_cons_succ]
  refine wpAnyF_one (i := 7) (by kernel_rfl) rfl (fun K hK => ?_)
  refine step_store_row rfl _ _ _ rfl (w.heap.size + 2) #[.slice s2 ps'.length c2] rfl rfl 29 _ H4.rows.2.2.1 info_map rfl (map_one _ _ _) ?_
  have H5 := H4.set 2 rfl #[.slice s2 ps'.length c2]
  refine hK.out _ _ (fun _ => ⟨blk_cell H5.rows.2.2.2.2.1 rfl, blk_cell (i := 1) H5.rows.2.2.2.1 rfl, blk_cell (i := 2) H5.rows.2.2.2.1 rfl, blk_cell (i := 3) H5.rows.2.2.2.1 rfl, H5.rows.1⟩) ?_; clear hK K; try simp only [Act.put, List.getElem_toArray, List.getElem_cons_succ, List.getElem_cons_zero, List.setIfInBounds_toArray, List.set_cons_zero, List.set_cons_succ]
  refine wpAnyF_one (i := 8) (by kernel_rfl) rfl (fun K hK => ?_)
  refine step_store_row rfl _ _ _ rfl (w.heap.size + 3) #[.int .i64 0, .int .u64 (gv : Int), .bool hs, .slice none 0 0] rfl rfl 53 _ H5.rows.2.1 info_an rfl (an_none _ _ _) ?_
  have H6 := H5.set 1 rfl #[.int .i64 0, .int .u64 (gv : Int), .bool hs, .slice none 0 0]
  refine hK.out _ _ (fun _ => ⟨blk_cell H6.rows.2.2.2.2.1 rfl, blk_cell (i := 1) H6.rows.2.2.2.1 rfl, blk_cell (i := 2) H6.rows.2.2.2.1 rfl, blk_cell (i := 3) H6.rows.2.2.2.1 rfl, H6.rows.1⟩) ?_; clear hK K; try simp only [Act.put, List.getElem_toArray, List.getElem_cons_succ, List.getElem_cons_zero, List.setIfInBounds_toArray, List.set_cons_zero, List.set_cons_succ]
  refine wpAnyF_done (by kernel_rfl) ?_ _
  have hSf := ((hS2.setRow (w.heap.size + 2) #[.slice s2 ps'.length c2] (fun g hg => by have := hlow2 g hg; omega)).setRow (w.heap.size + 3) #[.int .i64 0, .int .u64 (gv : Int), .bool hs, .slice none 0 0] (fun g hg => by have := hlow2 g hg; omega))
  clear H4 H5
  generalize World.setRow _ _ _ = V6 at H6 hSf ⊢
  have e0 : V6.cell? ⟨w.heap.size + 2, 0, none⟩ = some (.slice s2 ps'.length c2) := blk_cell (i := 0) H6.rows.2.2.1 rfl
  have e1 : V6.cell? ⟨w.heap.size + 3, 0, none⟩ = some (.int .i64 0) := blk_cell (i := 0) H6.rows.2.1 rfl
  have e2 : V6.cell? ⟨w.heap.size + 3, 1, none⟩ = some (.int .u64 (gv : Int)) := blk_cell (i := 1) H6.rows.2.1 rfl
  have e3 : V6.cell? ⟨w.heap.size + 3, 2, none⟩ = some (.bool hs) := blk_cell (i := 2) H6.rows.2.1 rfl
  have e4 : V6.cell? ⟨w.heap.size + 3, 3, none⟩ = some (.slice none 0 0) := blk_cell (i := 3) H6.rows.2.1 rfl
  have H6'h := Lib.hid H6
  have hSf'h := Lib.hid hSf
  clear H6 hSf
  go_wp2
  refine bodyPost_ret (v := .tuple #[.agg #[.slice s2 ps'.length c2], .agg #[.int .i64 0, .int .u64 (gv : Int), .bool hs, .slice none 0 0]]) ?_ rfl ⟨_, _, _, rfl, H6'h.out.old, hSf'h.out⟩
  simp [results, Tryz.results52, go_sem, e0, e1, e2, e3, e4]
 ·
  have hps2 : ps' = delP ps key := by rw [hpq'h.out]; rfl
  have han2 : an = ⟨0, gv, hs⟩ := by rw [han'h.out]; rfl
  subst han2
  clear han'h hpq'h
  have hps2'h := Lib.hid hps2
  clear hps2
  go_upto_region 9 with fail
  have H4 := H3'h.out.drew
  refine wp_region_heldF (fun W => W.cell? ⟨w.heap.size, 0, none⟩ = some (.slice sp n cap) ∧ W.cell? ⟨w.heap.size + 1, 1, none⟩ = some (.int .u64 (key : Int)) ∧ W.cell? ⟨w.heap.size + 1, 2, none⟩ = some (.int .u64 (a : Int)) ∧ W.cell? ⟨w.heap.size + 1, 3, none⟩ = some (.int .u64 (b : Int)) ∧ W.heap[tb]? = some (.cells #[.int .i64 0, .int .u64 (gv : Int), .bool hs, .slice none 0 0] 53 (0, 0))) 99 (by kernel_rfl) ?_
  try clear p0
  clear H3'h
  generalize W3.drew = V at H4 ⊢
  refine wpAnyF_take (i := 0) (v := .agg #[.slice sp n cap]) rfl (by kernel_rfl) (by kernel_rfl) (by kernel_rfl) (by kernel_rfl) (fun _ _ _ h => h) (Or.inl ⟨by kernel_rfl, fun w hSw => by (try dsimp only at hSw); go_simp⟩) ⟨blk_cell H4.rows.2.2.2.2.1 rfl, blk_cell (i := 1) H4.rows.2.2.2.1 rfl, blk_cell (i := 2) H4.rows.2.2.2.1 rfl, blk_cell (i := 3) H4.rows.2.2.2.1 rfl, H4.rows.1⟩ ?_; try simp only [Act.put, List.getElem_toArray, List.getElem_cons_succ, List.getElem_cons_zero, List.setIfInBounds_toArray, List.set_cons_zero, List.set_cons_succ]
  refine wpAnyF_take (i := 1) (v := .pointer (some ⟨w.heap.size + 1, 1, none⟩)) rfl (by kernel_rfl) (by kernel_rfl) (by kernel_rfl) (by kernel_rfl) (fun _ _ _ h => h) (Or.inl ⟨by kernel_rfl, fun w hSw => by (try dsimp only at hSw); go_simp⟩) ⟨blk_cell H4.rows.2.2.2.2.1 rfl, blk_cell (i := 1) H4.rows.2.2.2.1 rfl, blk_cell (i := 2) H4.rows.2.2.2.1 rfl, blk_cell (i := 3) H4.rows.2.2.2.1 rfl, H4.rows.1⟩ ?_; try simp only [Act.put, List.getElem_toArray, List.getElem_cons_succ, List.getElem_cons_zero, List.setIfInBounds_toArray, List.set_cons_zero, List.set_cons_succ]
  refine wpAnyF_take (i := 2) (v := .int .u64 (key : Int)) rfl (by kernel_rfl) (by kernel_rfl) (by kernel_rfl) (by kernel_rfl) (fun _ _ _ h => h) (Or.inl ⟨by kernel_rfl, fun w hSw => by have hcc := hSw.2.1; (try dsimp only at hSw); go_simp⟩) ⟨blk_cell H4.rows.2.2.2.2.1 rfl, blk_cell (i := 1) H4.rows.2.2.2.1 rfl, blk_cell (i := 2) H4.rows.2.2.2.1 rfl, blk_cell (i := 3) H4.rows.2.2.2.1 rfl, H4.rows.1⟩ ?_; try simp only [Act.put, List.getElem_toArray, List.getElem_cons_succ, List.getElem_cons_zero, List.setIfInBounds_toArray, List.set_cons_zero, List.set_cons_succ]
  refine wpAnyF_take (i := 4) (v := .agg #[.int .i64 0, .int .u64 (gv : Int), .bool hs, .slice none 0 0]) rfl (by kernel_rfl) (by kernel_rfl) (by kernel_rfl) (by kernel_rfl) (fun _ _ _ h => h) (Or.inl ⟨by kernel_rfl, fun w hSw => run_load_agg (by rfl) (by rfl) hSw.2.2.2.2 Tryz.underlying53 rfl info_an⟩) ⟨blk_cell H4.rows.2.2.2.2.1 rfl, blk_cell (i := 1) H4.rows.2.2.2.1 rfl, blk_cell (i := 2) H4.rows.2.2.2.1 rfl, blk_cell (i := 3) H4.rows.2.2.2.1 rfl, H4.rows.1⟩ ?_; try simp only [Act.put, List.getElem_toArray, List.getElem_cons_succ, List.getElem_cons_zero, List.setIfInBounds_toArray, List.set_cons_zero, List.set_cons_succ]
  refine wpAnyF_one (i := 3) (by kernel_rfl) rfl (fun K hK => ?_); go_simp
  refine (WO'h.out V (h'h.out.below H4.old)).mono ?_
  rintro e V2 ⟨s2, n2, c2, rfl, hb2, hrow2⟩
  rw [← hps2'h.out] at hrow2
  obtain ⟨s2', c2', e', q1, q2, q3⟩ := row_form hrow2
  cases e'
  have hS2 := SlK.of_row hrow2 (by have := hlp'h.out; unfold maxLen; omega)
  have hlow2 : ∀ g, s2.map (·.block) = some g → w.heap.size + 4 ≤ g := fun g hg => by
   obtain ⟨x, rfl, rfl⟩ := Option.map_eq_some_iff.1 hg
   have h1 := (q3 x rfl).1
   have h2 := H4.lt _ (List.mem_cons_of_mem _ (List.mem_cons_self ..))
   simp only at h2
   omega
  have H4 := H4.next hb2
  clear hrow2 q1 q2 q3
  refine hK.out _ _ (fun _ => ⟨blk_cell H4.rows.2.2.2.2.1 rfl, blk_cell (i := 1) H4.rows.2.2.2.1 rfl, blk_cell (i := 2) H4.rows.2.2.2.1 rfl, blk_cell (i := 3) H4.rows.2.2.2.1 rfl, H4.rows.1⟩) ?_; clear hK K; try simp only [Act.put, List.getElem_toArray, List.getElem_cons_succ, List.getElem_cons_zero, List.setIfInBounds_toArray, List.set_cons_zero, List.set_cons_succ]
  refine wpAnyF_one (i := 5) (by kernel_rfl) rfl (fun K hK => ?_)
  refine step_store_row rfl _ _ _ rfl (w.heap.size + 2) #[.slice s2 ps'.length c2] rfl rfl 29 _ H4.rows.2.2.1 info_map rfl (map_one _ _ _) ?_
  have H5 := H4.set 2 rfl #[.slice s2 ps'.length c2]
  refine hK.out _ _ (fun _ => ⟨blk_cell H5.rows.2.2.2.2.1 rfl, blk_cell (i := 1) H5.rows.2.2.2.1 rfl, blk_cell (i := 2) H5.rows.2.2.2.1 rfl, blk_cell (i := 3) H5.rows.2.2.2.1 rfl, H5.rows.1⟩) ?_; clear hK K; try simp only [Act.put, List.getElem_toArray, List.getElem_cons_succ, List.getElem_cons_zero, List.setIfInBounds_toArray, List.set_cons_zero, List.set_cons_succ]
  refine wpAnyF_one (i := 6) (by kernel_rfl) rfl (fun K hK => ?_)
  refine step_store_row rfl _ _ _ rfl (w.heap.size + 3) #[.int .i64 0, .int .u64 (gv : Int), .bool hs, .slice none 0 0] rfl rfl 53 _ H5.rows.2.1 info_an rfl (an_none _ _ _) ?_
  have H6 := H5.set 1 rfl #[.int .i64 0, .int .u64 (gv : Int), .bool hs, .slice none 0 0]
  refine hK.out _ _ (fun _ => ⟨blk_cell H6.rows.2.2.2.2.1 rfl, blk_cell (i := 1) H6.rows.2.2.2.1 rfl, blk_cell (i := 2) H6.rows.2.2.2.1 rfl, blk_cell (i := 3) H6.rows.2.2.2.1 rfl, H6.rows.1⟩) ?_; clear hK K; try simp only [Act.put, List.getElem_toArray, List.getElem_cons_succ, List.getElem_cons_zero, List.setIfInBounds_toArray, List.set_cons_zero, List.set_cons_succ]
  refine wpAnyF_done (by kernel_rfl) ?_ _
  have hSf := ((hS2.setRow (w.heap.size + 2) #[.slice s2 ps'.length c2] (fun g hg => by have := hlow2 g hg; omega)).setRow (w.heap.size + 3) #[.int .i64 0, .int .u64 (gv : Int), .bool hs, .slice none 0 0] (fun g hg => by have := hlow2 g hg; omega))
  clear H4 H5
  generalize World.setRow _ _ _ = V6 at H6 hSf ⊢
  have e0 : V6.cell? ⟨w.heap.size + 2, 0, none⟩ = some (.slice s2 ps'.length c2) := blk_cell (i := 0) H6.rows.2.2.1 rfl
  have e1 : V6.cell? ⟨w.heap.size + 3, 0, none⟩ = some (.int .i64 0) := blk_cell (i := 0) H6.rows.2.1 rfl
  have e2 : V6.cell? ⟨w.heap.size + 3, 1, none⟩ = some (.int .u64 (gv : Int)) := blk_cell (i := 1) H6.rows.2.1 rfl
  have e3 : V6.cell? ⟨w.heap.size + 3, 2, none⟩ = some (.bool hs) := blk_cell (i := 2) H6.rows.2.1 rfl
  have e4 : V6.cell? ⟨w.heap.size + 3, 3, none⟩ = some (.slice none 0 0) := blk_cell (i := 3) H6.rows.2.1 rfl
  have H6'h := Lib.hid H6
  have hSf'h := Lib.hid hSf
  clear H6 hSf
  go_wp2
  refine bodyPost_ret (v := .tuple #[.agg #[.slice s2 ps'.length c2], .agg #[.int .i64 0, .int .u64 (gv : Int), .bool hs, .slice none 0 0]]) ?_ rfl ⟨_, _, _, rfl, H6'h.out.old, hSf'h.out⟩
  simp [results, Tryz.results52, go_sem, e0, e1, e2, e3, e4]
 ·
  by_cases hc : hs = true ∧ gv = a
  ·
   obtain ⟨hh1, hh2⟩ := hc
   have hg2 : gs = some a := by rw [hgs'h.out, hh1, hh2]; rfl
   have hps2 : ps' = insP ps key b := by rw [hpq'h.out, hg2]; simp
   have han2 : an = ⟨0, gv, true⟩ := by rw [han'h.out, hg2]; simp
   have c1 : ((gv : Int) == (a : Int)) = true := by simp [hh2]
   subst han2
   subst hh1
   have p2 : W3.cell? ⟨w.heap.size + 1, 2, none⟩ = some (.int .u64 (a : Int)) := blk_cell (i := 2) H3'h.out.rows.2.2.2.1 rfl
   clear han'h hpq'h hg2 hgs'h hh2
   have hps2'h := Lib.hid hps2
   clear hps2
   go_upto_region 12 with fail
   clear p2 c1
   have H4 := H3'h.out.drew
   refine wp_region_heldF (fun W => W.cell? ⟨w.heap.size, 0, none⟩ = some (.slice sp n cap) ∧ W.cell? ⟨w.heap.size + 1, 1, none⟩ = some (.int .u64 (key : Int)) ∧ W.cell? ⟨w.heap.size + 1, 2, none⟩ = some (.int .u64 (a : Int)) ∧ W.cell? ⟨w.heap.size + 1, 3, none⟩ = some (.int .u64 (b : Int)) ∧ W.heap[tb]? = some (.cells #[.int .i64 0, .int .u64 (gv : Int), .bool true, .slice none 0 0] 53 (0, 0))) 99 (by kernel_rfl) ?_
   try clear p0
   clear H3'h
   generalize W3.drew = V at H4 ⊢
   refine wpAnyF_take (i := 0) (v := .agg #[.slice sp n cap]) rfl (by kernel_rfl) (by kernel_rfl) (by kernel_rfl) (by kernel_rfl) (fun _ _ _ h => h) (Or.inl ⟨by kernel_rfl, fun w hSw => by (try dsimp only at hSw); go_simp⟩) ⟨blk_cell H4.rows.2.2.2.2.1 rfl, blk_cell (i := 1) H4.rows.2.2.2.1 rfl, blk_cell (i := 2) H4.rows.2.2.2.1 rfl, blk_cell (i := 3) H4.rows.2.2.2.1 rfl, H4.rows.1⟩ ?_; try simp only [Act.put, List.getElem_toArray, List.getElem_cons_succ, List.getElem_cons_zero, List.setIfInBounds_toArray, List.set_cons_zero, List.set_cons_succ]
   refine wpAnyF_take (i := 1) (v := .pointer (some ⟨w.heap.size + 1, 1, none⟩)) rfl (by kernel_rfl) (by kernel_rfl) (by kernel_rfl) (by kernel_rfl) (fun _ _ _ h => h) (Or.inl ⟨by kernel_rfl, fun w hSw => by (try dsimp only at hSw); go_simp⟩) ⟨blk_cell H4.rows.2.2.2.2.1 rfl, blk_cell (i := 1) H4.rows.2.2.2.1 rfl, blk_cell (i := 2) H4.rows.2.2.2.1 rfl, blk_cell (i := 3) H4.rows.2.2.2.1 rfl, H4.rows.1⟩ ?_; try simp only [Act.put, List.getElem_toArray, List.getElem_cons_succ, List.getElem_cons_zero, List.setIfInBounds_toArray, List.set_cons_zero, List.set_cons_succ]
   refine wpAnyF_take (i := 2) (v := .int .u64 (key : Int)) rfl (by kernel_rfl) (by kernel_rfl) (by kernel_rfl) (by kernel_rfl) (fun _ _ _ h => h) (Or.inl ⟨by kernel_rfl, fun w hSw => by have hcc := hSw.2.1; (try dsimp only at hSw); go_simp⟩) ⟨blk_cell H4.rows.2.2.2.2.1 rfl, blk_cell (i := 1) H4.rows.2.2.2.1 rfl, blk_cell (i := 2) H4.rows.2.2.2.1 rfl, blk_cell (i := 3) H4.rows.2.2.2.1 rfl, H4.rows.1⟩ ?_; try simp only [Act.put, List.getElem_toArray, List.getElem_cons_succ, List.getElem_cons_zero, List.setIfInBounds_toArray, List.set_cons_zero, List.set_cons_succ]
   refine wpAnyF_take (i := 3) (v := .pointer (some ⟨w.heap.size + 1, 3, none⟩)) rfl (by kernel_rfl) (by kernel_rfl) (by kernel_rfl) (by kernel_rfl) (fun _ _ _ h => h) (Or.inl ⟨by kernel_rfl, fun w hSw => by (try dsimp only at hSw); go_simp⟩) ⟨blk_cell H4.rows.2.2.2.2.1 rfl, blk_cell (i := 1) H4.rows.2.2.2.1 rfl, blk_cell (i := 2) H4.rows.2.2.2.1 rfl, blk_cell (i := 3) H4.rows.2.2.2.1 rfl, H4.rows.1⟩ ?_; try simp only [Act.put, List.getElem_toArray, List.getElem_cons_succ, List.getElem_cons_zero, List.setIfInBounds_toArray, List.set_cons_zero, List.set_cons_succ]
   refine wpAnyF_take (i := 4) (v := .int .u64 (b : Int)) rfl (by kernel_rfl) (by kernel_rfl) (by kernel_rfl) (by kernel_rfl) (fun _ _ _ h => h) (Or.inl ⟨by kernel_rfl, fun w hSw => by have hcc := hSw.2.2.2.1; (try dsimp only at hSw); go_simp⟩) ⟨blk_cell H4.rows.2.2.2.2.1 rfl, blk_cell (i := 1) H4.rows.2.2.2.1 rfl, blk_cell (i := 2) H4.rows.2.2.2.1 rfl, blk_cell (i := 3) H4.rows.2.2.2.1 rfl, H4.rows.1⟩ ?_; try simp only [Act.put, List.getElem_toArray, List.getElem_cons_succ, List.getElem_cons_zero, List.setIfInBounds_toArray, List.set_cons_zero, List.set_cons_succ]
   refine wpAnyF_take (i := 6) (v := .agg #[.int .i64 0, .int .u64 (gv : Int), .bool true, .slice none 0 0]) rfl (by kernel_rfl) (by kernel_rfl) (by kernel_rfl) (by kernel_rfl) (fun _ _ _ h => h) (Or.inl ⟨by kernel_rfl, fun w hSw => run_load_agg (by rfl) (by rfl) hSw.2.2.2.2 Tryz.underlying53 rfl info_an⟩) ⟨blk_cell H4.rows.2.2.2.2.1 rfl, blk_cell (i := 1) H4.rows.2.2.2.1 rfl, blk_cell (i := 2) H4.rows.2.2.2.1 rfl, blk_cell (i := 3) H4.rows.2.2.2.1 rfl, H4.rows.1⟩ ?_; try simp only [Act.put, List.getElem_toArray, List.getElem_cons_succ, List.getElem_cons_zero, List.setIfInBounds_toArray, List.set_cons_zero, List.set_cons_succ]
   refine wpAnyF_one (i := 5) (by kernel_rfl) rfl (fun K hK => ?_); go_simp
   refine (WI'h.out b V (h'h.out.below H4.old)).mono ?_
   rintro e V2 ⟨s2, n2, c2, rfl, hb2, hrow2⟩
   rw [← hps2'h.out] at hrow2
   obtain ⟨s2', c2', e', q1, q2, q3⟩ := row_form hrow2
   cases e'
   have hS2 := SlK.of_row hrow2 (by have := hlp'h.out; unfold maxLen; omega)
   have hlow2 : ∀ g, s2.map (·.block) = some g → w.heap.size + 4 ≤ g := fun g hg => by
    obtain ⟨x, rfl, rfl⟩ := Option.map_eq_some_iff.1 hg
    have h1 := (q3 x rfl).1
    have h2 := H4.lt _ (List.mem_cons_of_mem _ (List.mem_cons_self ..))
    simp only at h2
    omega
   have H4 := H4.next hb2
   clear hrow2 q1 q2 q3
   refine hK.out _ _ (fun _ => ⟨blk_cell H4.rows.2.2.2.2.1 rfl, blk_cell (i := 1) H4.rows.2.2.2.1 rfl, blk_cell (i := 2) H4.rows.2.2.2.1 rfl, blk_cell (i := 3) H4.rows.2.2.2.1 rfl, H4.rows.1⟩) ?_; clear hK K; try simp only [Act.put, List.getElem_toArray, List.getElem_cons_succ, List.getElem_cons_zero, List.setIfInBounds_toArray, List.set_cons_zero, List.set_cons_succ]
   refine wpAnyF_one (i := 7) (by kernel_rfl) rfl (fun K hK => ?_)
   refine step_store_row rfl _ _ _ rfl (w.heap.size + 2) #[.slice s2 ps'.length c2] rfl rfl 29 _ H4.rows.2.2.1 info_map rfl (map_one _ _ _) ?_
   have H5 := H4.set 2 rfl #[.slice s2 ps'.length c2]
   refine hK.out _ _ (fun _ => ⟨blk_cell H5.rows.2.2.2.2.1 rfl, blk_cell (i := 1) H5.rows.2.2.2.1 rfl, blk_cell (i := 2) H5.rows.2.2.2.1 rfl, blk_cell (i := 3) H5.rows.2.2.2.1 rfl, H5.rows.1⟩) ?_; clear hK K; try simp only [Act.put, List.getElem_toArray, List.getElem_cons_succ, List.getElem_cons_zero, List.setIfInBounds_toArray, List.set_cons_zero, List.set_cons_succ]
   refine wpAnyF_one (i := 8) (by kernel_rfl) rfl (fun K hK => ?_)
   refine step_store_row rfl _ _ _ rfl (w.heap.size + 3) #[.int .i64 0, .int .u64 (gv : Int), .bool true, .slice none 0 0] rfl rfl 53 _ H5.rows.2.1 info_an rfl (an_none _ _ _) ?_
   have H6 := H5.set 1 rfl #[.int .i64 0, .int .u64 (gv : Int), .bool true, .slice none 0 0]
   refine hK.out _ _ (fun _ => ⟨blk_cell H6.rows.2.2.2.2.1 rfl, blk_cell (i := 1) H6.rows.2.2.2.1 rfl, blk_cell (i := 2) H6.rows.2.2.2.1 rfl, blk_cell (i := 3) H6.rows.2.2.2.1 rfl, H6.rows.1⟩) ?_; clear hK K; try simp only [Act.put, List.getElem_toArray, List.getElem_cons_succ, List.getElem_cons_zero, List.setIfInBounds_toArray, List.set_cons_zero, List.set_cons_succ]
   refine wpAnyF_done (by kernel_rfl) ?_ _
   have hSf := ((hS2.setRow (w.heap.size + 2) #[.slice s2 ps'.length c2] (fun g hg => by have := hlow2 g hg; omega)).setRow (w.heap.size + 3) #[.int .i64 0, .int .u64 (gv : Int), .bool true, .slice none 0 0] (fun g hg => by have := hlow2 g hg; omega))
   clear H4 H5
   generalize World.setRow _ _ _ = V6 at H6 hSf ⊢
   have e0 : V6.cell? ⟨w.heap.size + 2, 0, none⟩ = some (.slice s2 ps'.length c2) := blk_cell (i := 0) H6.rows.2.2.1 rfl
   have e1 : V6.cell? ⟨w.heap.size + 3, 0, none⟩ = some (.int .i64 0) := blk_cell (i := 0) H6.rows.2.1 rfl
   have e2 : V6.cell? ⟨w.heap.size + 3, 1, none⟩ = some (.int .u64 (gv : Int)) := blk_cell (i := 1) H6.rows.2.1 rfl
   have e3 : V6.cell? ⟨w.heap.size + 3, 2, none⟩ = some (.bool true) := blk_cell (i := 2) H6.rows.2.1 rfl
   have e4 : V6.cell? ⟨w.heap.size + 3, 3, none⟩ = some (.slice none 0 0) := blk_cell (i := 3) H6.rows.2.1 rfl
   have H6'h := Lib.hid H6
   have hSf'h := Lib.hid hSf
   clear H6 hSf
   go_wp2
   refine bodyPost_ret (v := .tuple #[.agg #[.slice s2 ps'.length c2], .agg #[.int .i64 0, .int .u64 (gv : Int), .bool true, .slice none 0 0]]) ?_ rfl ⟨_, _, _, rfl, H6'h.out.old, hSf'h.out⟩
   simp [results, Tryz.results52, go_sem, e0, e1, e2, e3, e4]
  ·
   have hps2 : ps' = ps := by
    rw [hpq'h.out]
    have : gs ≠ some a := fun e => by
     rw [hgs'h.out] at e
     cases hs with
     | true => exact hc ⟨rfl, by simpa using e⟩
     | false => simp at e
    simp [this]
   have han2 : an = ⟨0, gv, false⟩ := by
    rw [han'h.out]
    have : gs ≠ some a := fun e => by
     rw [hgs'h.out] at e
     cases hs with
     | true => exact hc ⟨rfl, by simpa using e⟩
     | false => simp at e
    simp [this]
   subst hps2 han2
   clear han'h hpq'h hgs'h
   have p2 : W3.cell? ⟨w.heap.size + 1, 2, none⟩ = some (.int .u64 (a : Int)) := blk_cell (i := 2) H3'h.out.rows.2.2.2.1 rfl
   have p3 : W3.cell? ⟨tb, 2, none⟩ = some (.bool hs) := blk_cell (i := 2) H3'h.out.rows.1 rfl
   have p3f := blk_free 2 H3'h.out.rows.1
   have H4 := H3'h.out.put 0 rfl 2 (.bool false)
   clear H3'h
   cases hs with
   | true =>
    have c1 : ((gv : Int) == (a : Int)) = false := by have : ¬ gv = a := fun e => hc ⟨rfl, e⟩; simp; omega
    clear hc
    have H4'h := Lib.hid H4
    clear H4
    go_upto_region 14 with fail
    clear p2 p3 p3f c1 p0
    have H3'h := H4'h
    clear H4'h
    generalize World.setCell _ _ _ = W3 at H3'h ⊢
    have H4 := H3'h.out.drew
    refine wp_region_heldF (fun W => W.cell? ⟨w.heap.size, 0, none⟩ = some (.slice sp n cap) ∧ W.cell? ⟨w.heap.size + 1, 1, none⟩ = some (.int .u64 (key : Int)) ∧ W.cell? ⟨w.heap.size + 1, 2, none⟩ = some (.int .u64 (a : Int)) ∧ W.cell? ⟨w.heap.size + 1, 3, none⟩ = some (.int .u64 (b : Int)) ∧ W.heap[tb]? = some (.cells #[.int .i64 0, .int .u64 (gv : Int), .bool false, .slice none 0 0] 53 (0, 0))) 99 (by kernel_rfl) ?_
    try clear p0
    clear H3'h
    generalize W3.drew = V at H4 ⊢
    refine wpAnyF_take (i := 0) (v := .agg #[.slice sp n cap]) rfl (by kernel_rfl) (by kernel_rfl) (by kernel_rfl) (by kernel_rfl) (fun _ _ _ h => h) (Or.inl ⟨by kernel_rfl, fun w hSw => by (try dsimp only at hSw); go_simp⟩) ⟨blk_cell H4.rows.2.2.2.2.1 rfl, blk_cell (i := 1) H4.rows.2.2.2.1 rfl, blk_cell (i := 2) H4.rows.2.2.2.1 rfl, blk_cell (i := 3) H4.rows.2.2.2.1 rfl, H4.rows.1⟩ ?_; try simp only [Act.put, List.getElem_toArray, List.getElem_cons_succ, List.getElem_cons_zero, List.setIfInBounds_toArray, List.set_cons_zero, List.set_cons_succ]
    refine wpAnyF_take (i := 1) (v := .agg #[.int .i64 0, .int .u64 (gv : Int), .bool false, .slice none 0 0]) rfl (by kernel_rfl) (by kernel_rfl) (by kernel_rfl) (by kernel_rfl) (fun _ _ _ h => h) (Or.inl ⟨by kernel_rfl, fun w hSw => run_load_agg (by rfl) (by rfl) hSw.2.2.2.2 Tryz.underlying53 rfl info_an⟩) ⟨blk_cell H4.rows.2.2.2.2.1 rfl, blk_cell (i := 1) H4.rows.2.2.2.1 rfl, blk_cell (i := 2) H4.rows.2.2.2.1 rfl, blk_cell (i := 3) H4.rows.2.2.2.1 rfl, H4.rows.1⟩ ?_; try simp only [Act.put, List.getElem_toArray, List.getElem_cons_succ, List.getElem_cons_zero, List.setIfInBounds_toArray, List.set_cons_zero, List.set_cons_succ]
    refine wpAnyF_one (i := 2) (by kernel_rfl) rfl (fun K hK => ?_)
    refine step_store_row rfl _ _ _ rfl (w.heap.size + 2) #[.slice sp n cap] rfl rfl 29 _ H4.rows.2.2.1 info_map rfl (map_one _ _ _) ?_
    have H5 := H4.set 2 rfl #[.slice sp n cap]
    refine hK.out _ _ (fun _ => ⟨blk_cell H5.rows.2.2.2.2.1 rfl, blk_cell (i := 1) H5.rows.2.2.2.1 rfl, blk_cell (i := 2) H5.rows.2.2.2.1 rfl, blk_cell (i := 3) H5.rows.2.2.2.1 rfl, H5.rows.1⟩) ?_; clear hK K; try simp only [Act.put, List.getElem_toArray, List.getElem_cons_succ, List.getElem_cons_zero, List.setIfInBounds_toArray, List.set_cons_zero, List.set_cons_succ]
    refine wpAnyF_one (i := 3) (by kernel_rfl) rfl (fun K hK => ?_)
    refine step_store_row rfl _ _ _ rfl (w.heap.size + 3) #[.int .i64 0, .int .u64 (gv : Int), .bool false, .slice none 0 0] rfl rfl 53 _ H5.rows.2.1 info_an rfl (an_none _ _ _) ?_
    have H6 := H5.set 1 rfl #[.int .i64 0, .int .u64 (gv : Int), .bool false, .slice none 0 0]
    refine hK.out _ _ (fun _ => ⟨blk_cell H6.rows.2.2.2.2.1 rfl, blk_cell (i := 1) H6.rows.2.2.2.1 rfl, blk_cell (i := 2) H6.rows.2.2.2.1 rfl, blk_cell (i := 3) H6.rows.2.2.2.1 rfl, H6.rows.1⟩) ?_; clear hK K; try simp only [Act.put, List.getElem_toArray, List.getElem_cons_succ, List.getElem_cons_zero, List.setIfInBounds_toArray, List.set_cons_zero, List.set_cons_succ]
    refine wpAnyF_done (by kernel_rfl) ?_ _
    have hSf := (h'h.out.below H6.old)
    clear H4 H5
    generalize World.setRow _ _ _ = V6 at H6 hSf ⊢
    have e0 : V6.cell? ⟨w.heap.size + 2, 0, none⟩ = some (.slice sp n cap) := blk_cell (i := 0) H6.rows.2.2.1 rfl
    have e1 : V6.cell? ⟨w.heap.size + 3, 0, none⟩ = some (.int .i64 0) := blk_cell (i := 0) H6.rows.2.1 rfl
    have e2 : V6.cell? ⟨w.heap.size + 3, 1, none⟩ = some (.int .u64 (gv : Int)) := blk_cell (i := 1) H6.rows.2.1 rfl
    have e3 : V6.cell? ⟨w.heap.size + 3, 2, none⟩ = some (.bool false) := blk_cell (i := 2) H6.rows.2.1 rfl
    have e4 : V6.cell? ⟨w.heap.size + 3, 3, none⟩ = some (.slice none 0 0) := blk_cell (i := 3) H6.rows.2.1 rfl
    have H6'h := Lib.hid H6
    have hSf'h := Lib.hid hSf
    clear H6 hSf
    go_wp2
    refine bodyPost_ret (v := .tuple #[.agg #[.slice sp n cap], .agg #[.int .i64 0, .int .u64 (gv : Int), .bool false, .slice none 0 0]]) ?_ rfl ⟨_, _, _, rfl, H6'h.out.old, hSf'h.out⟩
    simp [results, Tryz.results52, go_sem, e0, e1, e2, e3, e4]
   | false =>
    clear hc
    have H4'h := Lib.hid H4
    clear H4
    go_upto_region 14 with fail
    clear p2 p3 p3f p0
    have H3'h := H4'h
    clear H4'h
    generalize World.setCell _ _ _ = W3 at H3'h ⊢
    have H4 := H3'h.out.drew
    refine wp_region_heldF (fun W => W.cell? ⟨w.heap.size, 0, none⟩ = some (.slice sp n cap) ∧ W.cell? ⟨w.heap.size + 1, 1, none⟩ = some (.int .u64 (key : Int)) ∧ W.cell? ⟨w.heap.size + 1, 2, none⟩ = some (.int .u64 (a : Int)) ∧ W.cell? ⟨w.heap.size + 1, 3, none⟩ = some (.int .u64 (b : Int)) ∧ W.heap[tb]? = some (.cells #[.int .i64 0, .int .u64 (gv : Int), .bool false, .slice none 0 0] 53 (0, 0))) 99 (by kernel_rfl) ?_
    try clear p0
    clear H3'h
    generalize W3.drew = V at H4 ⊢
    refine wpAnyF_take (i := 0) (v := .agg #[.slice sp n cap]) rfl (by kernel_rfl) (by kernel_rfl) (by kernel_rfl) (by kernel_rfl) (fun _ _ _ h => h) (Or.inl ⟨by kernel_rfl, fun w hSw => by (try dsimp only at hSw); go_simp⟩) ⟨blk_cell H4.rows.2.2.2.2.1 rfl, blk_cell (i := 1) H4.rows.2.2.2.1 rfl, blk_cell (i := 2) H4.rows.2.2.2.1 rfl, blk_cell (i := 3) H4.rows.2.2.2.1 rfl, H4.rows.1⟩ ?_; try simp only [Act.put, List.getElem_toArray, List.getElem_cons_succ, List.getElem_cons_zero, List.setIfInBounds_toArray, List.set_cons_zero, List.set_cons_succ]
    refine wpAnyF_take (i := 1) (v := .agg #[.int .i64 0, .int .u64 (gv : Int), .bool false, .slice none 0 0]) rfl (by kernel_rfl) (by kernel_rfl) (by kernel_rfl) (by kernel_rfl) (fun _ _ _ h => h) (Or.inl ⟨by kernel_rfl, fun w hSw => run_load_agg (by rfl) (by rfl) hSw.2.2.2.2 Tryz.underlying53 rfl info_an⟩) ⟨blk_cell H4.rows.2.2.2.2.1 rfl, blk_cell (i := 1) H4.rows.2.2.2.1 rfl, blk_cell (i := 2) H4.rows.2.2.2.1 rfl, blk_cell (i := 3) H4.rows.2.2.2.1 rfl, H4.rows.1⟩ ?_; try simp only [Act.put, List.getElem_toArray, List.getElem_cons_succ, List.getElem_cons_zero, List.setIfInBounds_toArray, List.set_cons_zero, List.set_cons_succ]
    refine wpAnyF_one (i := 2) (by kernel_rfl) rfl (fun K hK => ?_)
    refine step_store_row rfl _ _ _ rfl (w.heap.size + 2) #[.slice sp n cap] rfl rfl 29 _ H4.rows.2.2.1 info_map rfl (map_one _ _ _) ?_
    have H5 := H4.set 2 rfl #[.slice sp n cap]
    refine hK.out _ _ (fun _ => ⟨blk_cell H5.rows.2.2.2.2.1 rfl, blk_cell (i := 1) H5.rows.2.2.2.1 rfl, blk_cell (i := 2) H5.rows.2.2.2.1 rfl, blk_cell (i := 3) H5.rows.2.2.2.1 rfl, H5.rows.1⟩) ?_; clear hK K; try simp only [Act.put, List.getElem_toArray, List.getElem_cons_succ, List.getElem_cons_zero, List.setIfInBounds_toArray, List.set_cons_zero, List.set_cons_succ]
    refine wpAnyF_one (i := 3) (by kernel_rfl) rfl (fun K hK => ?_)
    refine step_store_row rfl _ _ _ rfl (w.heap.size + 3) #[.int .i64 0, .int .u64 (gv : Int), .bool false, .slice none 0 0] rfl rfl 53 _ H5.rows.2.1 info_an rfl (an_none _ _ _) ?_
    have H6 := H5.set 1 rfl #[.int .i64 0, .int .u64 (gv : Int), .bool false, .slice none 0 0]
    refine hK.out _ _ (fun _ => ⟨blk_cell H6.rows.2.2.2.2.1 rfl, blk_cell (i := 1) H6.rows.2.2.2.1 rfl, blk_cell (i := 2) H6.rows.2.2.2.1 rfl, blk_cell (i := 3) H6.rows.2.2.2.1 rfl, H6.rows.1⟩) ?_; clear hK K; try simp only [Act.put, List.getElem_toArray, List.getElem_cons_succ, List.getElem_cons_zero, List.setIfInBounds_toArray, List.set_cons_zero, List.set_cons_succ]
    refine wpAnyF_done (by kernel_rfl) ?_ _
    have hSf := (h'h.out.below H6.old)
    clear H4 H5
    generalize World.setRow _ _ _ = V6 at H6 hSf ⊢
    have e0 : V6.cell? ⟨w.heap.size + 2, 0, none⟩ = some (.slice sp n cap) := blk_cell (i := 0) H6.rows.2.2.1 rfl
    have e1 : V6.cell? ⟨w.heap.size + 3, 0, none⟩ = some (.int .i64 0) := blk_cell (i := 0) H6.rows.2.1 rfl
    have e2 : V6.cell? ⟨w.heap.size + 3, 1, none⟩ = some (.int .u64 (gv : Int)) := blk_cell (i := 1) H6.rows.2.1 rfl
    have e3 : V6.cell? ⟨w.heap.size + 3, 2, none⟩ = some (.bool false) := blk_cell (i := 2) H6.rows.2.1 rfl
    have e4 : V6.cell? ⟨w.heap.size + 3, 3, none⟩ = some (.slice none 0 0) := blk_cell (i := 3) H6.rows.2.1 rfl
    have H6'h := Lib.hid H6
    have hSf'h := Lib.hid hSf
    clear H6 hSf
    go_wp2
    refine bodyPost_ret (v := .tuple #[.agg #[.slice sp n cap], .agg #[.int .i64 0, .int .u64 (gv : Int), .bool false, .slice none 0 0]]) ?_ rfl ⟨_, _, _, rfl, H6'h.out.old, hSf'h.out⟩
    simp [results, Tryz.results52, go_sem, e0, e1, e2, e3, e4]
 ·
  cases hs with
  | true =>
   have hps2 : ps' = ps := by rw [hpq'h.out, hgs'h.out]; simp
   have han2 : an = ⟨0, gv, true⟩ := by rw [han'h.out]; rfl
   subst hps2 han2
   clear han'h hpq'h hgs'h
   go_upto_region 17 with fail
   have H4 := H3'h.out.drew
   refine wp_region_heldF (fun W => W.cell? ⟨w.heap.size, 0, none⟩ = some (.slice sp n cap) ∧ W.cell? ⟨w.heap.size + 1, 1, none⟩ = some (.int .u64 (key : Int)) ∧ W.cell? ⟨w.heap.size + 1, 2, none⟩ = some (.int .u64 (a : Int)) ∧ W.cell? ⟨w.heap.size + 1, 3, none⟩ = some (.int .u64 (b : Int)) ∧ W.heap[tb]? = some (.cells #[.int .i64 0, .int .u64 (gv : Int), .bool true, .slice none 0 0] 53 (0, 0))) 99 (by kernel_rfl) ?_
   try clear p0
   clear H3'h
   generalize W3.drew = V at H4 ⊢
   refine wpAnyF_take (i := 0) (v := .agg #[.slice sp n cap]) rfl (by kernel_rfl) (by kernel_rfl) (by kernel_rfl) (by kernel_rfl) (fun _ _ _ h => h) (Or.inl ⟨by kernel_rfl, fun w hSw => by (try dsimp only at hSw); go_simp⟩) ⟨blk_cell H4.rows.2.2.2.2.1 rfl, blk_cell (i := 1) H4.rows.2.2.2.1 rfl, blk_cell (i := 2) H4.rows.2.2.2.1 rfl, blk_cell (i := 3) H4.rows.2.2.2.1 rfl, H4.rows.1⟩ ?_; try simp only [Act.put, List.getElem_toArray, List.getElem_cons_succ, List.getElem_cons_zero, List.setIfInBounds_toArray, List.set_cons_zero, List.set_cons_succ]
   refine wpAnyF_take (i := 1) (v := .agg #[.int .i64 0, .int .u64 (gv : Int), .bool true, .slice none 0 0]) rfl (by kernel_rfl) (by kernel_rfl) (by kernel_rfl) (by kernel_rfl) (fun _ _ _ h => h) (Or.inl ⟨by kernel_rfl, fun w hSw => run_load_agg (by rfl) (by rfl) hSw.2.2.2.2 Tryz.underlying53 rfl info_an⟩) ⟨blk_cell H4.rows.2.2.2.2.1 rfl, blk_cell (i := 1) H4.rows.2.2.2.1 rfl, blk_cell (i := 2) H4.rows.2.2.2.1 rfl, blk_cell (i := 3) H4.rows.2.2.2.1 rfl, H4.rows.1⟩ ?_; try simp only [Act.put, List.getElem_toArray, List.getElem_cons_succ, List.getElem_cons_zero, List.setIfInBounds_toArray, List.set_cons_zero, List.set_cons_succ]
   refine wpAnyF_one (i := 2) (by kernel_rfl) rfl (fun K hK => ?_)
   refine step_store_row rfl _ _ _ rfl (w.heap.size + 2) #[.slice sp n cap] rfl rfl 29 _ H4.rows.2.2.1 info_map rfl (map_one _ _ _) ?_
   have H5 := H4.set 2 rfl #[.slice sp n cap]
   refine hK.out _ _ (fun _ => ⟨blk_cell H5.rows.2.2.2.2.1 rfl, blk_cell (i := 1) H5.rows.2.2.2.1 rfl, blk_cell (i := 2) H5.rows.2.2.2.1 rfl, blk_cell (i := 3) H5.rows.2.2.2.1 rfl, H5.rows.1⟩) ?_; clear hK K; try simp only [Act.put, List.getElem_toArray, List.getElem_cons_succ, List.getElem_cons_zero, List.setIfInBounds_toArray, List.set_cons_zero, List.set_cons_succ]
   refine wpAnyF_one (i := 3) (by kernel_rfl) rfl (fun K hK => ?_)
   refine step_store_row rfl _ _ _ rfl (w.heap.size + 3) #[.int .i64 0, .int .u64 (gv : Int), .bool true, .slice none 0 0] rfl rfl 53 _ H5.rows.2.1 info_an rfl (an_none _ _ _) ?_
   have H6 := H5.set 1 rfl #[.int .i64 0, .int .u64 (gv : Int), .bool true, .slice none 0 0]
   refine hK.out _ _ (fun _ => ⟨blk_cell H6.rows.2.2.2.2.1 rfl, blk_cell (i := 1) H6.rows.2.2.2.1 rfl, blk_cell (i := 2) H6.rows.2.2.2.1 rfl, blk_cell (i := 3) H6.rows.2.2.2.1 rfl, H6.rows.1⟩) ?_; clear hK K; try simp only [Act.put, List.getElem_toArray, List.getElem_cons_succ, List.getElem_cons_zero, List.setIfInBounds_toArray, List.set_cons_zero, List.set_cons_succ]
   refine wpAnyF_done (by kernel_rfl) ?_ _
   have hSf := (h'h.out.below H6.old)
   clear H4 H5
   generalize World.setRow _ _ _ = V6 at H6 hSf ⊢
   have e0 : V6.cell? ⟨w.heap.size + 2, 0, none⟩ = some (.slice sp n cap) := blk_cell (i := 0) H6.rows.2.2.1 rfl
   have e1 : V6.cell? ⟨w.heap.size + 3, 0, none⟩ = some (.int .i64 0) := blk_cell (i := 0) H6.rows.2.1 rfl
   have e2 : V6.cell? ⟨w.heap.size + 3, 1, none⟩ = some (.int .u64 (gv : Int)) := blk_cell (i := 1) H6.rows.2.1 rfl
   have e3 : V6.cell? ⟨w.heap.size + 3, 2, none⟩ = some (.bool true) := blk_cell (i := 2) H6.rows.2.1 rfl
   have e4 : V6.cell? ⟨w.heap.size + 3, 3, none⟩ = some (.slice none 0 0) := blk_cell (i := 3) H6.rows.2.1 rfl
   have H6'h := Lib.hid H6
   have hSf'h := Lib.hid hSf
   clear H6 hSf
   go_wp2
   refine bodyPost_ret (v := .tuple #[.agg #[.slice sp n cap], .agg #[.int .i64 0, .int .u64 (gv : Int), .bool true, .slice none 0 0]]) ?_ rfl ⟨_, _, _, rfl, H6'h.out.old, hSf'h.out⟩
   simp [results, Tryz.results52, go_sem, e0, e1, e2, e3, e4]
  | false =>
   have hps2 : ps' = insP ps key a := by rw [hpq'h.out]; rfl
   have han2 : an = ⟨0, a, false⟩ := by rw [han'h.out]; rfl
   subst han2
   clear han'h hpq'h hgs'h
   have hps2'h := Lib.hid hps2
   clear hps2
   go_upto_region 18 with fail
   have H4 := H3'h.out.drew
   refine wp_region_heldF (fun W => W.cell? ⟨w.heap.size, 0, none⟩ = some (.slice sp n cap) ∧ W.cell? ⟨w.heap.size + 1, 1, none⟩ = some (.int .u64 (key : Int)) ∧ W.cell? ⟨w.heap.size + 1, 2, none⟩ = some (.int .u64 (a : Int)) ∧ W.cell? ⟨w.heap.size + 1, 3, none⟩ = some (.int .u64 (b : Int)) ∧ W.heap[tb]? = some (.cells #[.int .i64 0, .int .u64 (gv : Int), .bool false, .slice none 0 0] 53 (0, 0))) 99 (by kernel_rfl) ?_
   try clear p0
   clear H3'h
   generalize W3.drew = V at H4 ⊢
   refine wpAnyF_take (i := 0) (v := .agg #[.slice sp n cap]) rfl (by kernel_rfl) (by kernel_rfl) (by kernel_rfl) (by kernel_rfl) (fun _ _ _ h => h) (Or.inl ⟨by kernel_rfl, fun w hSw => by (try dsimp only at hSw); go_simp⟩) ⟨blk_cell H4.rows.2.2.2.2.1 rfl, blk_cell (i := 1) H4.rows.2.2.2.1 rfl, blk_cell (i := 2) H4.rows.2.2.2.1 rfl, blk_cell (i := 3) H4.rows.2.2.2.1 rfl, H4.rows.1⟩ ?_; try simp only [Act.put, List.getElem_toArray, List.getElem_cons_succ, List.getElem_cons_zero, List.setIfInBounds_toArray, List.set_cons_zero, List.set_cons_succ]
   refine wpAnyF_take (i := 1) (v := .pointer (some ⟨w.heap.size + 1, 1, none⟩)) rfl (by kernel_rfl) (by kernel_rfl) (by kernel_rfl) (by kernel_rfl) (fun _ _ _ h => h) (Or.inl ⟨by kernel_rfl, fun w hSw => by (try dsimp only at hSw); go_simp⟩) ⟨blk_cell H4.rows.2.2.2.2.1 rfl, blk_cell (i := 1) H4.rows.2.2.2.1 rfl, blk_cell (i := 2) H4.rows.2.2.2.1 rfl, blk_cell (i := 3) H4.rows.2.2.2.1 rfl, H4.rows.1⟩ ?_; try simp only [Act.put, List.getElem_toArray, List.getElem_cons_succ, List.getElem_cons_zero, List.setIfInBounds_toArray, List.set_cons_zero, List.set_cons_succ]
   refine wpAnyF_take (i := 2) (v := .int .u64 (key : Int)) rfl (by kernel_rfl) (by kernel_rfl) (by kernel_rfl) (by kernel_rfl) (fun _ _ _ h => h) (Or.inl ⟨by kernel_rfl, fun w hSw => by have hcc := hSw.2.1; (try dsimp only at hSw); go_simp⟩) ⟨blk_cell H4.rows.2.2.2.2.1 rfl, blk_cell (i := 1) H4.rows.2.2.2.1 rfl, blk_cell (i := 2) H4.rows.2.2.2.1 rfl, blk_cell (i := 3) H4.rows.2.2.2.1 rfl, H4.rows.1⟩ ?_; try simp only [Act.put, List.getElem_toArray, List.getElem_cons_succ, List.getElem_cons_zero, List.setIfInBounds_toArray, List.set_cons_zero, List.set_cons_succ]
   refine wpAnyF_take (i := 3) (v := .pointer (some ⟨w.heap.size + 1, 2, none⟩)) rfl (by kernel_rfl) (by kernel_rfl) (by kernel_rfl) (by kernel_rfl) (fun _ _ _ h => h) (Or.inl ⟨by kernel_rfl, fun w hSw => by (try dsimp only at hSw); go_simp⟩) ⟨blk_cell H4.rows.2.2.2.2.1 rfl, blk_cell (i := 1) H4.rows.2.2.2.1 rfl, blk_cell (i := 2) H4.rows.2.2.2.1 rfl, blk_cell (i := 3) H4.rows.2.2.2.1 rfl, H4.rows.1⟩ ?_; try simp only [Act.put, List.getElem_toArray, List.getElem_cons_succ, List.getElem_cons_zero, List.setIfInBounds_toArray, List.set_cons_zero, List.set_cons_succ]
   refine wpAnyF_take (i := 4) (v := .int .u64 (a : Int)) rfl (by kernel_rfl) (by kernel_rfl) (by kernel_rfl) (by kernel_rfl) (fun _ _ _ h => h) (Or.inl ⟨by kernel_rfl, fun w hSw => by have hcc := hSw.2.2.1; (try dsimp only at hSw); go_simp⟩) ⟨blk_cell H4.rows.2.2.2.2.1 rfl, blk_cell (i := 1) H4.rows.2.2.2.1 rfl, blk_cell (i := 2) H4.rows.2.2.2.1 rfl, blk_cell (i := 3) H4.rows.2.2.2.1 rfl, H4.rows.1⟩ ?_; try simp only [Act.put, List.getElem_toArray, List.getElem_cons_succ, List.getElem_cons_zero, List.setIfInBounds_toArray, List.set_cons_zero, List.set_cons_succ]
   refine wpAnyF_take (i := 6) (v := .pointer (some ⟨w.heap.size + 1, 2, none⟩)) rfl (by kernel_rfl) (by kernel_rfl) (by kernel_rfl) (by kernel_rfl) (fun _ _ _ h => h) (Or.inl ⟨by kernel_rfl, fun w hSw => by (try dsimp only at hSw); go_simp⟩) ⟨blk_cell H4.rows.2.2.2.2.1 rfl, blk_cell (i := 1) H4.rows.2.2.2.1 rfl, blk_cell (i := 2) H4.rows.2.2.2.1 rfl, blk_cell (i := 3) H4.rows.2.2.2.1 rfl, H4.rows.1⟩ ?_; try simp only [Act.put, List.getElem_toArray, List.getElem_cons_succ, List.getElem_cons_zero, List.setIfInBounds_toArray, List.set_cons_zero, List.set_cons_succ]
   refine wpAnyF_take (i := 7) (v := .int .u64 (a : Int)) rfl (by kernel_rfl) (by kernel_rfl) (by kernel_rfl) (by kernel_rfl) (fun _ _ _ h => h) (Or.inl ⟨by kernel_rfl, fun w hSw => by have hcc := hSw.2.2.1; (try dsimp only at hSw); go_simp⟩) ⟨blk_cell H4.rows.2.2.2.2.1 rfl, blk_cell (i := 1) H4.rows.2.2.2.1 rfl, blk_cell (i := 2) H4.rows.2.2.2.1 rfl, blk_cell (i := 3) H4.rows.2.2.2.1 rfl, H4.rows.1⟩ ?_; try simp only [Act.put, List.getElem_toArray, List.getElem_cons_succ, List.getElem_cons_zero, List.setIfInBounds_toArray, List.set_cons_zero, List.set_cons_succ]
   refine wpAnyF_take (i := 8) (v := .agg #[.int .i64 0, .int .u64 (a : Int), .bool false, .slice none 0 0]) rfl (by kernel_rfl) (by kernel_rfl) (by kernel_rfl) (by kernel_rfl) (fun _ _ _ h => h) (Or.inl ⟨by kernel_rfl, fun w hSw => by (try dsimp only at hSw); go_simp⟩) ⟨blk_cell H4.rows.2.2.2.2.1 rfl, blk_cell (i := 1) H4.rows.2.2.2.1 rfl, blk_cell (i := 2) H4.rows.2.2.2.1 rfl, blk_cell (i := 3) H4.rows.2.2.2.1 rfl, H4.rows.1⟩ ?_; try simp only [Act.put, List.getElem_toArray, List.getElem_cons_succ, List.getElem_cons_zero, List.setIfInBounds_toArray, List.set_cons_zero, List.set_cons_succ]
   refine wpAnyF_one (i := 5) (by kernel_rfl) rfl (fun K hK => ?_); go_simp
   refine (WI'h.out a V (h'h.out.below H4.old)).mono ?_
   rintro e V2 ⟨s2, n2, c2, rfl, hb2, hrow2⟩
   rw [← hps2'h.out] at hrow2
   obtain ⟨s2', c2', e', q1, q2, q3⟩ := row_form hrow2
   cases e'
   have hS2 := SlK.of_row hrow2 (by have := hlp'h.out; unfold maxLen; omega)
   have hlow2 : ∀ g, s2.map (·.block) = some g → w.heap.size + 4 ≤ g := fun g hg => by
    obtain ⟨x, rfl, rfl⟩ := Option.map_eq_some_iff.1 hg
    have h1 := (q3 x rfl).1
    have h2 := H4.lt _ (List.mem_cons_of_mem _ (List.mem_cons_self ..))
    simp only at h2
    omega
   have H4 := H4.next hb2
   clear hrow2 q1 q2 q3
   refine hK.out _ _ (fun _ => ⟨blk_cell H4.rows.2.2.2.2.1 rfl, blk_cell (i := 1) H4.rows.2.2.2.1 rfl, blk_cell (i := 2) H4.rows.2.2.2.1 rfl, blk_cell (i := 3) H4.rows.2.2.2.1 rfl, H4.rows.1⟩) ?_; clear hK K; try simp only [Act.put, List.getElem_toArray, List.getElem_cons_succ, List.getElem_cons_zero, List.setIfInBounds_toArray, List.set_cons_zero, List.set_cons_succ]
   refine wpAnyF_one (i := 9) (by kernel_rfl) rfl (fun K hK => ?_)
   refine step_store_row rfl _ _ _ rfl (w.heap.size + 2) #[.slice s2 ps'.length c2] rfl rfl 29 _ H4.rows.2.2.1 info_map rfl (map_one _ _ _) ?_
   have H5 := H4.set 2 rfl #[.slice s2 ps'.length c2]
   refine hK.out _ _ (fun _ => ⟨blk_cell H5.rows.2.2.2.2.1 rfl, blk_cell (i := 1) H5.rows.2.2.2.1 rfl, blk_cell (i := 2) H5.rows.2.2.2.1 rfl, blk_cell (i := 3) H5.rows.2.2.2.1 rfl, H5.rows.1⟩) ?_; clear hK K; try simp only [Act.put, List.getElem_toArray, List.getElem_cons_succ, List.getElem_cons_zero, List.setIfInBounds_toArray, List.set_cons_zero, List.set_cons_succ]
   refine wpAnyF_one (i := 10) (by kernel_rfl) rfl (fun K hK => ?_)
   refine step_store_row rfl _ _ _ rfl (w.heap.size + 3) #[.int .i64 0, .int .u64 (a : Int), .bool false, .slice none 0 0] rfl rfl 53 _ H5.rows.2.1 info_an rfl (an_none _ _ _) ?_
   have H6 := H5.set 1 rfl #[.int .i64 0, .int .u64 (a : Int), .bool false, .slice none 0 0]
   refine hK.out _ _ (fun _ => ⟨blk_cell H6.rows.2.2.2.2.1 rfl, blk_cell (i := 1) H6.rows.2.2.2.1 rfl, blk_cell (i := 2) H6.rows.2.2.2.1 rfl, blk_cell (i := 3) H6.rows.2.2.2.1 rfl, H6.rows.1⟩) ?_; clear hK K; try simp only [Act.put, List.getElem_toArray, List.getElem_cons_succ, List.getElem_cons_zero, List.setIfInBounds_toArray, List.set_cons_zero, List.set_cons_succ]
   refine wpAnyF_done (by kernel_rfl) ?_ _
   have hSf := ((hS2.setRow (w.heap.size + 2) #[.slice s2 ps'.length c2] (fun g hg => by have := hlow2 g hg; omega)).setRow (w.heap.size + 3) #[.int .i64 0, .int .u64 (a : Int), .bool false, .slice none 0 0] (fun g hg => by have := hlow2 g hg; omega))
   clear H4 H5
   generalize World.setRow _ _ _ = V6 at H6 hSf ⊢
   have e0 : V6.cell? ⟨w.heap.size + 2, 0, none⟩ = some (.slice s2 ps'.length c2) := blk_cell (i := 0) H6.rows.2.2.1 rfl
   have e1 : V6.cell? ⟨w.heap.size + 3, 0, none⟩ = some (.int .i64 0) := blk_cell (i := 0) H6.rows.2.1 rfl
   have e2 : V6.cell? ⟨w.heap.size + 3, 1, none⟩ = some (.int .u64 (a : Int)) := blk_cell (i := 1) H6.rows.2.1 rfl
   have e3 : V6.cell? ⟨w.heap.size + 3, 2, none⟩ = some (.bool false) := blk_cell (i := 2) H6.rows.2.1 rfl
   have e4 : V6.cell? ⟨w.heap.size + 3, 3, none⟩ = some (.slice none 0 0) := blk_cell (i := 3) H6.rows.2.1 rfl
   have H6'h := Lib.hid H6
   have hSf'h := Lib.hid hSf
   clear H6 hSf
   go_wp2
   refine bodyPost_ret (v := .tuple #[.agg #[.slice s2 ps'.length c2], .agg #[.int .i64 0, .int .u64 (a : Int), .bool false, .slice none 0 0]]) ?_ rfl ⟨_, _, _, rfl, H6'h.out.old, hSf'h.out⟩
   simp [results, Tryz.results52, go_sem, e0, e1, e2, e3, e4]
 ·
  have hps2 : ps' = ps := by rw [hpq'h.out]; rfl
  have han2 : an = ⟨0, n, false⟩ := by rw [han'h.out, hlen'h.out]; rfl
  subst hps2 han2
  clear han'h hpq'h hgs'h
  go_upto_region 21 with fail
  have H4 := H3'h.out.drew
  refine wp_region_heldF (fun W => W.cell? ⟨w.heap.size, 0, none⟩ = some (.slice sp n cap) ∧ W.cell? ⟨w.heap.size + 1, 1, none⟩ = some (.int .u64 (key : Int)) ∧ W.cell? ⟨w.heap.size + 1, 2, none⟩ = some (.int .u64 (a : Int)) ∧ W.cell? ⟨w.heap.size + 1, 3, none⟩ = some (.int .u64 (b : Int)) ∧ W.heap[tb]? = some (.cells #[.int .i64 0, .int .u64 (gv : Int), .bool hs, .slice none 0 0] 53 (0, 0))) 99 (by kernel_rfl) ?_
  try clear p0
  clear H3'h
  generalize W3.drew = V at H4 ⊢
  refine wpAnyF_take (i := 0) (v := .agg #[.slice sp n cap]) rfl (by kernel_rfl) (by kernel_rfl) (by kernel_rfl) (by kernel_rfl) (fun _ _ _ h => h) (Or.inl ⟨by kernel_rfl, fun w hSw => by (try dsimp only at hSw); go_simp⟩) ⟨blk_cell H4.rows.2.2.2.2.1 rfl, blk_cell (i := 1) H4.rows.2.2.2.1 rfl, blk_cell (i := 2) H4.rows.2.2.2.1 rfl, blk_cell (i := 3) H4.rows.2.2.2.1 rfl, H4.rows.1⟩ ?_; try simp only [Act.put, List.getElem_toArray, List.getElem_cons_succ, List.getElem_cons_zero, List.setIfInBounds_toArray, List.set_cons_zero, List.set_cons_succ]
  have i1 : (0 : Int) ≤ (n : Int) := by omega
  have i3 : IntKind.u64.wrap (n : Int) = (n : Int) := by rw [IntKind.wrap_u64]; omega
  refine wpAnyF_take (i := 1) (v := .pointer (some ⟨w.heap.size, 0, none⟩)) rfl (by kernel_rfl) (by kernel_rfl) (by kernel_rfl) (by kernel_rfl) (fun _ _ _ h => h) (Or.inl ⟨by kernel_rfl, fun w hSw => by (try dsimp only at hSw); go_simp⟩) ⟨blk_cell H4.rows.2.2.2.2.1 rfl, blk_cell (i := 1) H4.rows.2.2.2.1 rfl, blk_cell (i := 2) H4.rows.2.2.2.1 rfl, blk_cell (i := 3) H4.rows.2.2.2.1 rfl, H4.rows.1⟩ ?_; try simp only [Act.put, List.getElem_toArray, List.getElem_cons_succ, List.getElem_cons_zero, List.setIfInBounds_toArray, List.set_cons_zero, List.set_cons_succ]
  refine wpAnyF_take (i := 2) (v := .slice sp n cap) rfl (by kernel_rfl) (by kernel_rfl) (by kernel_rfl) (by kernel_rfl) (fun _ _ _ h => h) (Or.inl ⟨by kernel_rfl, fun w hSw => by have hcc := hSw.1; (try dsimp only at hSw); go_simp⟩) ⟨blk_cell H4.rows.2.2.2.2.1 rfl, blk_cell (i := 1) H4.rows.2.2.2.1 rfl, blk_cell (i := 2) H4.rows.2.2.2.1 rfl, blk_cell (i := 3) H4.rows.2.2.2.1 rfl, H4.rows.1⟩ ?_; try simp only [Act.put, List.getElem_toArray, List.getElem_cons_succ, List.getElem_cons_zero, List.setIfInBounds_toArray, List.set_cons_zero, List.set_cons_succ]
  refine wpAnyF_take (i := 3) (v := .int .i64 (n : Int)) rfl (by kernel_rfl) (by kernel_rfl) (by kernel_rfl) (by kernel_rfl) (fun _ _ _ h => h) (Or.inl ⟨by kernel_rfl, fun w hSw => by (try dsimp only at hSw); go_simp⟩) ⟨blk_cell H4.rows.2.2.2.2.1 rfl, blk_cell (i := 1) H4.rows.2.2.2.1 rfl, blk_cell (i := 2) H4.rows.2.2.2.1 rfl, blk_cell (i := 3) H4.rows.2.2.2.1 rfl, H4.rows.1⟩ ?_; try simp only [Act.put, List.getElem_toArray, List.getElem_cons_succ, List.getElem_cons_zero, List.setIfInBounds_toArray, List.set_cons_zero, List.set_cons_succ]
  refine wpAnyF_take (i := 4) (v := .int .u64 (n : Int)) rfl (by kernel_rfl) (by kernel_rfl) (by kernel_rfl) (by kernel_rfl) (fun _ _ _ h => h) (Or.inl ⟨by kernel_rfl, fun w hSw => by (try dsimp only at hSw); go_simp⟩) ⟨blk_cell H4.rows.2.2.2.2.1 rfl, blk_cell (i := 1) H4.rows.2.2.2.1 rfl, blk_cell (i := 2) H4.rows.2.2.2.1 rfl, blk_cell (i := 3) H4.rows.2.2.2.1 rfl, H4.rows.1⟩ ?_; try simp only [Act.put, List.getElem_toArray, List.getElem_cons_succ, List.getElem_cons_zero, List.setIfInBounds_toArray, List.set_cons_zero, List.set_cons_succ]
  refine wpAnyF_take (i := 5) (v := .agg #[.int .i64 0, .int .u64 (n : Int), .bool false, .slice none 0 0]) rfl (by kernel_rfl) (by kernel_rfl) (by kernel_rfl) (by kernel_rfl) (fun _ _ _ h => h) (Or.inl ⟨by kernel_rfl, fun w hSw => by (try dsimp only at hSw); go_simp⟩) ⟨blk_cell H4.rows.2.2.2.2.1 rfl, blk_cell (i := 1) H4.rows.2.2.2.1 rfl, blk_cell (i := 2) H4.rows.2.2.2.1 rfl, blk_cell (i := 3) H4.rows.2.2.2.1 rfl, H4.rows.1⟩ ?_; try simp only [Act.put, List.getElem_toArray, List.getElem_cons_succ, List.getElem_cons_zero, List.setIfInBounds_toArray, List.set_cons_zero, List.set_cons_succ]
  refine wpAnyF_one (i := 6) (by kernel_rfl) rfl (fun K hK => ?_)
  refine step_store_row rfl _ _ _ rfl (w.heap.size + 2) #[.slice sp n cap] rfl rfl 29 _ H4.rows.2.2.1 info_map rfl (map_one _ _ _) ?_
  have H5 := H4.set 2 rfl #[.slice sp n cap]
  refine hK.out _ _ (fun _ => ⟨blk_cell H5.rows.2.2.2.2.1 rfl, blk_cell (i := 1) H5.rows.2.2.2.1 rfl, blk_cell (i := 2) H5.rows.2.2.2.1 rfl, blk_cell (i := 3) H5.rows.2.2.2.1 rfl, H5.rows.1⟩) ?_; clear hK K; try simp only [Act.put, List.getElem_toArray, List.getElem_cons_succ, List.getElem_cons_zero, List.setIfInBounds_toArray, List.set_cons_zero, List.set_cons_succ]
  refine wpAnyF_one (i := 7) (by kernel_rfl) rfl (fun K hK => ?_)
  refine step_store_row rfl _ _ _ rfl (w.heap.size + 3) #[.int .i64 0, .int .u64 (n : Int), .bool false, .slice none 0 0] rfl rfl 53 _ H5.rows.2.1 info_an rfl (an_none _ _ _) ?_
  have H6 := H5.set 1 rfl #[.int .i64 0, .int .u64 (n : Int), .bool false, .slice none 0 0]
  refine hK.out _ _ (fun _ => ⟨blk_cell H6.rows.2.2.2.2.1 rfl, blk_cell (i := 1) H6.rows.2.2.2.1 rfl, blk_cell (i := 2) H6.rows.2.2.2.1 rfl, blk_cell (i := 3) H6.rows.2.2.2.1 rfl, H6.rows.1⟩) ?_; clear hK K; try simp only [Act.put, List.getElem_toArray, List.getElem_cons_succ, List.getElem_cons_zero, List.setIfInBounds_toArray, List.set_cons_zero, List.set_cons_succ]
  refine wpAnyF_done (by kernel_rfl) ?_ _
  have hSf := (h'h.out.below H6.old)
  clear H4 H5
  generalize World.setRow _ _ _ = V6 at H6 hSf ⊢
  have e0 : V6.cell? ⟨w.heap.size + 2, 0, none⟩ = some (.slice sp n cap) := blk_cell (i := 0) H6.rows.2.2.1 rfl
  have e1 : V6.cell? ⟨w.heap.size + 3, 0, none⟩ = some (.int .i64 0) := blk_cell (i := 0) H6.rows.2.1 rfl
  have e2 : V6.cell? ⟨w.heap.size + 3, 1, none⟩ = some (.int .u64 (n : Int)) := blk_cell (i := 1) H6.rows.2.1 rfl
  have e3 : V6.cell? ⟨w.heap.size + 3, 2, none⟩ = some (.bool false) := blk_cell (i := 2) H6.rows.2.1 rfl
  have e4 : V6.cell? ⟨w.heap.size + 3, 3, none⟩ = some (.slice none 0 0) := blk_cell (i := 3) H6.rows.2.1 rfl
  have H6'h := Lib.hid H6
  have hSf'h := Lib.hid hSf
  clear H6 hSf
  go_wp2
  refine bodyPost_ret (v := .tuple #[.agg #[.slice sp n cap], .agg #[.int .i64 0, .int .u64 (n : Int), .bool false, .slice none 0 0]]) ?_ rfl ⟨_, _, _, rfl, H6'h.out.old, hSf'h.out⟩
  simp [results, Tryz.results52, go_sem, e0, e1, e2, e3, e4]
end Go.Proofs.YtogeohjeabbmaaaGreatDoor
