/-
 The document's answer for layer 27: Step, the map behind a call.
-/
import Derived.Test.YtogeohjeabbmaaaGreatDoorDocT
import Derived.Test.YtogeohjeabbmaaaGreatDoorDocU
set_option linter.unusedSimpArgs false
set_option linter.unusedVariables false
set_option maxRecDepth 100000
namespace Go.Proofs.YtogeohjeabbmaaaGreatDoor
open Go.RowKit

theorem cells4o {W : World} {b : Nat} {v0 v1 v2 v3 : Value} {t : TypeId} (h : W.heap[b]? = some (.cells #[v0, v1, v2, v3] t (0, 0))) :
  W.cell? ⟨b, 0, none⟩ = some v0 ∧ W.cell? ⟨b, 1, none⟩ = some v1 ∧ W.cell? ⟨b, 2, none⟩ = some v2 ∧ W.cell? ⟨b, 3, none⟩ = some v3 :=
 ⟨blk_cell (i := 0) h rfl, blk_cell (i := 1) h rfl, blk_cell (i := 2) h rfl, blk_cell (i := 3) h rfl⟩
/-- What Step leaves. -/
def StepP (w : World) (g : Bool) (ps : Ps) (e : Ending) (w' : World) : Prop :=
 ∃ s n c, e = .returned (.tuple #[.agg #[.slice s n c], .bool g]) ∧ Below w.heap.size w w' ∧ SlK w' 2 s n (prs ps)
theorem SlK.keep0 {w w' : World} {k : Nat} {sp : Option Addr} {n : Nat} {vals : List Value} (h : SlK w k sp n vals) (hk : 0 < n → ∀ b, b < w.heap.size → sp.map (·.block) = some b → w'.heap[b]? = w.heap[b]?) : SlK w' k sp n vals := by
 obtain ⟨h1, h2, h3⟩ := h
 refine ⟨h1, h2, ?_⟩
 rcases Nat.eq_zero_or_pos n with h0 | h0
 ·
  exact .inl h0
 ·
  obtain ⟨b, off, rfl, hc⟩ := h3.resolve_left (by omega)
  refine .inr ⟨b, off, rfl, fun j u hu => ?_⟩
  have hcj := hc j u hu
  exact cell_of_heap (hk h0 b (lt_of_cell hcj) rfl) hcj
/-- A map's row does not lie where the map does. -/
theorem slk_apart {W : World} {b m c : Nat} {a : Option Addr} {t : TypeId} {sp : Option Addr} {n : Nat} {ps : Ps} (h : SlK W 2 sp n (prs ps)) (hb : W.heap[b]? = some (.cells #[.slice a m c] t (0, 0))) : 0 < n → ∀ g, sp.map (·.block) = some g → g ≠ b := by
 intro hn g hg e
 subst e
 obtain ⟨g0, off, rfl⟩ := prs_some h hn
 injection hg with hg
 simp only at hg
 subst hg
 have hl : 0 < ps.length := by have := prs_len h; omega
 obtain ⟨c0, -⟩ := prs_cells h hl
 unfold World.cell? at c0
 rw [hb] at c0
 simp at c0
 rcases off with _ | off
 ·
  simp at c0
 ·
  simp at c0
theorem slk_put {W : World} {b m c : Nat} {a : Option Addr} {t : TypeId} {sp : Option Addr} {n : Nat} {ps : Ps} (h : SlK W 2 sp n (prs ps)) (hb : W.heap[b]? = some (.cells #[.slice a m c] t (0, 0))) (v : Value) : SlK (W.setCell ⟨b, 0, none⟩ v) 2 sp n (prs ps) :=
 h.keep0 fun hn g _ hg => Below.heap_setCell _ _ _ _ (slk_apart h hb hn g hg)
set_option maxHeartbeats 8000000 in
theorem dstep_any (sp : Option Addr) (n cap : Nat) (ps : Ps) (x : Mm) (w : World) (h : SlK w 2 sp n (prs ps)) (hup : upB ps = true) (hn : n ≤ 4096) (hx : MmIn w x) (ho : isOp (clOf x.md.call) = true) (h6 : x.md.call.op ≠ 6) :
  Calls Tryz.prog 33 #[.agg #[.slice sp n cap], .agg (mmA x)] w (StepP w (goesB x.md ps) (stepP x.md ps)) := by
 obtain ⟨G, hG⟩ : ∃ G, G = goesB x.md ps := ⟨_, rfl⟩
 obtain ⟨ps', hps⟩ : ∃ ps', ps' = stepP x.md ps := ⟨_, rfl⟩
 rw [← hG, ← hps]
 obtain ⟨wa, hwa⟩ : ∃ wa, wa = tellA (clOf x.md.call) ps := ⟨_, rfl⟩
 obtain ⟨ps1, hps1⟩ : ∃ ps1, ps1 = nextP (clOf x.md.call) ps := ⟨_, rfl⟩
 have DO := fun W (hb : Below w.heap.size w W) => rDo_any sp n cap ps x.md.call W (h.below hb) hup hn ho h6
 rw [← hwa, ← hps1] at DO
 obtain ⟨al, hal⟩ : ∃ al, al = alikeB x.md.ans wa x.md.prs [] := ⟨_, rfl⟩
 have AL := fun W (hb : Below w.heap.size w W) => ralike_any x.md.ans wa x.pp none x.pn 0 x.pc 0 x.md.prs [] W (hx.prs.below hb) (SlK.nil _ _ _)
 rw [← hal] at AL
 obtain ⟨hs, hhs⟩ : ∃ hs, hs = hasP ps x.md.call.key := ⟨_, rfl⟩
 have HS := fun W (hb : Below w.heap.size w W) => dhas_any sp n cap ps x.md.call.key W (h.below hb) hup
 rw [← hhs] at HS
 have hpn := hx.pn
 obtain ⟨ee, hee⟩ : ∃ ee, ee = ((decide (x.md.ans.err = 6) || decide (x.md.ans.err = 342)) && (decide (x.md.ans.val = 0) && !x.md.ans.done && decide (x.md.prs.length = 0))) := ⟨_, rfl⟩
 have htk : takesB x.md ps = (decide (x.md.over = 0) || al) := by unfold takesB; rw [← hwa, show tellQ (clOf x.md.call) ps = [] from if_neg h6, ← hal]
 replace hG : G = ((decide (x.md.over = 0) || al) || (ee && !hs && (decide (x.md.call.op = 2) || decide (x.md.call.op = 5)))) := by rw [hG, goesB, htk, passB, ← hhs, hee]
 replace hps : ps' = if (decide (x.md.over = 0) || al) = true then ps1 else ps := by rw [hps, stepP, htk, ← hps1]
 rw [← hpn] at hee
 obtain ⟨er, va, dn⟩ := wa
 have H0 := (((Hs.nil w).new #[.slice sp n cap] 29).new (mmA x) 55).new #[.slice none 0 0] 29
 simp only [World.size_alloc, Nat.add_assoc, Nat.reduceAdd] at H0
 obtain ⟨W0, hW0⟩ : ∃ W0, W0 = ((w.alloc (.cells #[.slice sp n cap] 29)).alloc (.cells (mmA x) 55)).alloc (.cells #[.slice none 0 0] 29) := ⟨_, rfl⟩
 rw [← hW0] at H0
 clear htk hhs hal hwa hps1 hx ho h6 hpn
 obtain ⟨⟨goerx, ⟨opx, kyx, cax, cbx⟩, ⟨errx, valx, donex⟩, prsx, beganx, atx, overx, toldx⟩, ppx, pnx, pcx, tpx, tnx, tcx⟩ := x
 simp only [mmA, anA] at *
 have q0 : W0.cell? ⟨w.heap.size, 0, none⟩ = some (.slice sp n cap) := blk_cell H0.rows.2.2.1 rfl
 obtain ⟨a0, a1, a2, a3, a4, a5, a6, a7, a8, a9, aa, ab, ac⟩ := cells13 H0.rows.2.1
 have DO'h := Lib.hid DO
 have AL'h := Lib.hid AL
 have HS'h := Lib.hid HS
 have hG'h := Lib.hid hG
 have hps'h := Lib.hid hps
 have hee'h := Lib.hid hee
 have h'h := Lib.hid h
 have H0'h := Lib.hid H0
 have hup'h := Lib.hid hup
 have hn'h := Lib.hid hn
 clear DO AL HS hG hps hee h H0 hup hn
 go_enter Tryz.func33, Tryz.ntmps33
 go_upto_region 1 with fail
 simp only [Nat.add_assoc, Nat.reduceAdd]
 rw [← hW0]
 clear hW0
 go_upto_region 2 with (first | (go_at_call 52; refine (DO'h.out _ H0'h.out.old).mono ?_; rintro e w2 ⟨s2, n2, c2, rfl, hb2, hS2⟩; have hS2'h := Lib.hid hS2; have hb2'h := Lib.hid hb2; clear hS2 hb2))
 have hb3 := ((Below.refl w2.heap.size w2).alloc (Nat.le_refl _) (.cells #[.slice s2 n2 c2] 29)).alloc (Nat.le_trans (Nat.le_refl _) (by simp)) (.cells #[.int .i64 er, .int .u64 (va : Int), .bool dn, .slice none 0 0] 53)
 have hS3 := hS2'h.out.below hb3
 have H3 := ((H0'h.out.next hb2'h.out).new #[.slice s2 n2 c2] 29).new #[.int .i64 er, .int .u64 (va : Int), .bool dn, .slice none 0 0] 53
 simp only [World.size_alloc] at H3
 clear hS2'h hb2'h H0'h hb3 q0 a0 a1 a2 a3 a4 a5 a6 a7 a8 a9 aa ab ac DO'h
 generalize World.alloc _ _ = W3 at H3 hS3 ⊢
 generalize w2.heap.size = tb at H3 ⊢
 obtain ⟨a0, a1, a2, a3, a4, a5, a6, a7, a8, a9, aa, ab, ac⟩ := cells13 H3.rows.2.2.2.1
 rcases int_zero_or overx with ⟨h0, h1, h2⟩ | ⟨h0, h1, h2⟩
 ·
  obtain rfl : G = true := by rw [hG'h.out]; simp [h0]
  have hps2 : ps' = ps1 := by rw [hps'h.out]; simp [h0]
  subst hps2
  clear hG'h hps'h h0
  have u0 : World.cell? W3 ⟨tb, 0, none⟩ = some (.slice s2 n2 c2) := blk_cell (i := 0) (Hs.rows H3).2.1 rfl
  have y0 : World.cell? W3 ⟨w.heap.size + 2, 0, none⟩ = some (.slice none 0 0) := blk_cell (i := 0) (Hs.rows H3).2.2.1 rfl
  have y0f := blk_free 0 (Hs.rows H3).2.2.1
  have HF := Hs.put H3 2 rfl 0 (.slice s2 n2 c2)
  have hMF := slk_put hS3 (Hs.rows H3).2.2.1 (.slice s2 n2 c2)
  clear H3 hS3
  have HF'h := Lib.hid HF
  have hMF'h := Lib.hid hMF
  clear HF hMF
  go_wp2
  clear u0 y0 y0f
  generalize World.setCell _ _ _ = V9 at HF'h hMF'h ⊢
  have e9 : V9.cell? ⟨w.heap.size + 2, 0, none⟩ = some (.slice s2 n2 c2) := blk_cell (i := 0) HF'h.out.rows.2.2.1 rfl
  refine bodyPost_ret (v := .tuple #[.agg #[.slice s2 n2 c2], .bool true]) ?_ rfl ⟨s2, n2, c2, rfl, HF'h.out.old, hMF'h.out⟩
  simp [results, Tryz.results33, go_sem, e9]
 ·
  have hG2 : G = (al || (ee && !hs && (decide (opx = 2) || decide (opx = 5)))) := by rw [hG'h.out]; simp [h0]
  have hps3 : ps' = if al = true then ps1 else ps := by rw [hps'h.out]; simp [h0]
  clear hG'h hps'h
  have hG'h := Lib.hid hG2
  have hps'h := Lib.hid hps3
  clear hG2 hps3
  obtain ⟨v0, v1, v2, v3⟩ := cells4o H3.rows.1
  clear h0
  have H3'h := Lib.hid H3
  have hS3'h := Lib.hid hS3
  clear H3 hS3
  go_wp2_with fail
  refine (AL'h.out W3 H3'h.out.old).mono ?_
  rintro e w4 ⟨rfl, hb4⟩
  have H4 := H3'h.out.next hb4
  have hS4 := hS3'h.out.below hb4
  clear H3'h hS3'h hb4 a0 a1 a2 a3 a4 a5 a6 a7 a8 a9 aa ab ac v0 v1 v2 v3 AL'h h1 h2
  cases al with
  | true =>
   obtain rfl : G = true := hG'h.out
   have hps2 : ps' = ps1 := hps'h.out
   subst hps2
   clear hG'h hps'h
   have u0 : World.cell? w4 ⟨tb, 0, none⟩ = some (.slice s2 n2 c2) := blk_cell (i := 0) (Hs.rows H4).2.1 rfl
   have y0 : World.cell? w4 ⟨w.heap.size + 2, 0, none⟩ = some (.slice none 0 0) := blk_cell (i := 0) (Hs.rows H4).2.2.1 rfl
   have y0f := blk_free 0 (Hs.rows H4).2.2.1
   have HF := Hs.put H4 2 rfl 0 (.slice s2 n2 c2)
   have hMF := slk_put hS4 (Hs.rows H4).2.2.1 (.slice s2 n2 c2)
   clear H4 hS4
   have HF'h := Lib.hid HF
   have hMF'h := Lib.hid hMF
   clear HF hMF
   go_wp2
   clear u0 y0 y0f
   generalize World.setCell _ _ _ = V9 at HF'h hMF'h ⊢
   have e9 : V9.cell? ⟨w.heap.size + 2, 0, none⟩ = some (.slice s2 n2 c2) := blk_cell (i := 0) HF'h.out.rows.2.2.1 rfl
   refine bodyPost_ret (v := .tuple #[.agg #[.slice s2 n2 c2], .bool true]) ?_ rfl ⟨s2, n2, c2, rfl, HF'h.out.old, hMF'h.out⟩
   simp [results, Tryz.results33, go_sem, e9]
  | false =>
   have hG2 : G = (ee && !hs && (decide (opx = 2) || decide (opx = 5))) := by rw [hG'h.out, Bool.false_or]
   clear hG'h
   have hG'h := Lib.hid hG2
   clear hG2
   have hps2 : ps' = ps := hps'h.out
   subst hps2
   clear hps'h hS4
   obtain ⟨a0, a1, a2, a3, a4, a5, a6, a7, a8, a9, aa, ab, ac⟩ := cells13 H4.rows.2.2.2.1
   have H5 := H4.new #[.int .i64 errx, .int .u64 (valx : Int), .bool donex, .slice ppx pnx pcx] 53
   have H5'h := Lib.hid H5
   clear H5
   clear H4
   go_upto_region 5 with fail
   clear a0 a1 a2 a3 a4 a5 a6 a7 a8 a9 aa ab ac
   generalize w4.alloc _ = W5 at H5'h ⊢
   generalize w4.heap.size = fb at H5'h ⊢
   obtain ⟨v0, v1, v2, v3⟩ := cells4o H5'h.out.rows.1
   go_cut [9] from 29 (fun v9 wr => v9 = .bool ee ∧ wr = W5)
   case first =>
    by_cases p6 : errx = 6
    ·
     have j6 : (errx == 6) = true := by simp [p6]
     have hee2 : ee = (decide (valx = 0) && !donex && decide (pnx = 0)) := by rw [hee'h.out]; simp [p6]
     clear p6
     have hee2'h := Lib.hid hee2
     clear hee2
     rcases zero_or valx with rfl | ⟨k1, k2, k3⟩
     ·
      cases donex with
      | true =>
       obtain rfl : ee = false := by rw [hee2'h.out]; simp
       go_wp2
       go_meet
       exact ⟨rfl, rfl⟩
      | false =>
       rcases zero_or pnx with rfl | ⟨k1, k2, k3⟩
       ·
        obtain rfl : ee = true := by rw [hee2'h.out]; simp
        go_wp2
        go_meet
        exact ⟨rfl, rfl⟩
       ·
        obtain rfl : ee = false := by rw [hee2'h.out]; simp [k3]
        clear k3
        go_wp2
        go_meet
        exact ⟨rfl, rfl⟩
     ·
      obtain rfl : ee = false := by rw [hee2'h.out]; simp [k3]
      clear k3
      go_wp2
      go_meet
      exact ⟨rfl, rfl⟩
    ·
     have j6 : (errx == 6) = false := by simp [p6]
     by_cases p7 : errx = 342
     ·
      have j7 : (errx == 342) = true := by simp [p7]
      have hee2 : ee = (decide (valx = 0) && !donex && decide (pnx = 0)) := by rw [hee'h.out]; simp [p7]
      clear p6 p7
      have hee2'h := Lib.hid hee2
      clear hee2
      rcases zero_or valx with rfl | ⟨k1, k2, k3⟩
      ·
       cases donex with
       | true =>
        obtain rfl : ee = false := by rw [hee2'h.out]; simp
        go_wp2
        go_meet
        exact ⟨rfl, rfl⟩
       | false =>
        rcases zero_or pnx with rfl | ⟨k1, k2, k3⟩
        ·
         obtain rfl : ee = true := by rw [hee2'h.out]; simp
         go_wp2
         go_meet
         exact ⟨rfl, rfl⟩
        ·
         obtain rfl : ee = false := by rw [hee2'h.out]; simp [k3]
         clear k3
         go_wp2
         go_meet
         exact ⟨rfl, rfl⟩
      ·
       obtain rfl : ee = false := by rw [hee2'h.out]; simp [k3]
       clear k3
       go_wp2
       go_meet
       exact ⟨rfl, rfl⟩
     ·
      have j7 : (errx == 342) = false := by simp [p7]
      obtain rfl : ee = false := by rw [hee'h.out]; simp [p6, p7]
      clear p6 p7
      go_wp2
      go_meet
      exact ⟨rfl, rfl⟩
   case rest =>
    obtain ⟨rfl, rfl⟩ := hcut
    clear v0 v1 v2 v3 hee'h
    have H6 := H5'h.out.drew
    go_upto_region 6 with fail
    refine wp_region_heldF (fun W => W.cell? ⟨w.heap.size, 0, none⟩ = some (.slice sp n cap) ∧ W.cell? ⟨w.heap.size + 1, 1, none⟩ = some (.int .i64 opx) ∧ W.cell? ⟨w.heap.size + 1, 2, none⟩ = some (.int .u64 (kyx : Int))) 99 (by kernel_rfl) ?_
    clear H5'h
    generalize wc.drew = V at H6 ⊢
    refine wpAnyF_take (i := 0) (v := .agg #[.slice sp n cap]) rfl (by kernel_rfl) (by kernel_rfl) (by kernel_rfl) (by kernel_rfl) (fun _ _ _ h => h) (Or.inl ⟨by kernel_rfl, fun w hSw => by (try dsimp only at hSw); go_simp⟩) ⟨blk_cell H6.rows.2.2.2.2.2.1 rfl, blk_cell (i := 1) H6.rows.2.2.2.2.1 rfl, blk_cell (i := 2) H6.rows.2.2.2.2.1 rfl⟩ ?_; try simp only [Act.put, List.getElem_toArray, List.getElem_cons_succ, List.getElem_cons_zero, List.setIfInBounds_toArray, List.set_cons_zero, List.set_cons_succ]
    cases ee with
    | false =>
     obtain rfl : G = false := by rw [hG'h.out]; rfl
     refine wpAnyF_take (i := 1) (v := .bool false) rfl (by kernel_rfl) (by kernel_rfl) (by kernel_rfl) (by kernel_rfl) (fun _ _ _ h => h) (Or.inl ⟨by kernel_rfl, fun w hSw => by (try dsimp only at hSw); go_simp⟩) ⟨blk_cell H6.rows.2.2.2.2.2.1 rfl, blk_cell (i := 1) H6.rows.2.2.2.2.1 rfl, blk_cell (i := 2) H6.rows.2.2.2.2.1 rfl⟩ ?_; try simp only [Act.put, List.getElem_toArray, List.getElem_cons_succ, List.getElem_cons_zero, List.setIfInBounds_toArray, List.set_cons_zero, List.set_cons_succ]
     refine wpAnyF_take (i := 2) (v := .bool false) rfl (by kernel_rfl) (by kernel_rfl) (by kernel_rfl) (by kernel_rfl) (fun _ _ _ h => h) (Or.inl ⟨by kernel_rfl, fun w hSw => by (try dsimp only at hSw); go_simp⟩) ⟨blk_cell H6.rows.2.2.2.2.2.1 rfl, blk_cell (i := 1) H6.rows.2.2.2.2.1 rfl, blk_cell (i := 2) H6.rows.2.2.2.2.1 rfl⟩ ?_; try simp only [Act.put, List.getElem_toArray, List.getElem_cons_succ, List.getElem_cons_zero, List.setIfInBounds_toArray, List.set_cons_zero, List.set_cons_succ]
     refine wpAnyF_take (i := 3) (v := undef) rfl (by kernel_rfl) (by kernel_rfl) (by kernel_rfl) (by kernel_rfl) (fun _ _ _ h => h) (Or.inr ⟨by kernel_rfl, rfl⟩) ⟨blk_cell H6.rows.2.2.2.2.2.1 rfl, blk_cell (i := 1) H6.rows.2.2.2.2.1 rfl, blk_cell (i := 2) H6.rows.2.2.2.2.1 rfl⟩ ?_; try simp only [Act.put, List.getElem_toArray, List.getElem_cons_succ, List.getElem_cons_zero, List.setIfInBounds_toArray, List.set_cons_zero, List.set_cons_succ]
     refine wpAnyF_take (i := 4) (v := undef) rfl (by kernel_rfl) (by kernel_rfl) (by kernel_rfl) (by kernel_rfl) (fun _ _ _ h => h) (Or.inr ⟨by kernel_rfl, rfl⟩) ⟨blk_cell H6.rows.2.2.2.2.2.1 rfl, blk_cell (i := 1) H6.rows.2.2.2.2.1 rfl, blk_cell (i := 2) H6.rows.2.2.2.2.1 rfl⟩ ?_; try simp only [Act.put, List.getElem_toArray, List.getElem_cons_succ, List.getElem_cons_zero, List.setIfInBounds_toArray, List.set_cons_zero, List.set_cons_succ]
     refine wpAnyF_take (i := 5) (v := undef) rfl (by kernel_rfl) (by kernel_rfl) (by kernel_rfl) (by kernel_rfl) (fun _ _ _ h => h) (Or.inr ⟨by kernel_rfl, rfl⟩) ⟨blk_cell H6.rows.2.2.2.2.2.1 rfl, blk_cell (i := 1) H6.rows.2.2.2.2.1 rfl, blk_cell (i := 2) H6.rows.2.2.2.2.1 rfl⟩ ?_; try simp only [Act.put, List.getElem_toArray, List.getElem_cons_succ, List.getElem_cons_zero, List.setIfInBounds_toArray, List.set_cons_zero, List.set_cons_succ]
     refine wpAnyF_take (i := 6) (v := undef) rfl (by kernel_rfl) (by kernel_rfl) (by kernel_rfl) (by kernel_rfl) (fun _ _ _ h => h) (Or.inr ⟨by kernel_rfl, rfl⟩) ⟨blk_cell H6.rows.2.2.2.2.2.1 rfl, blk_cell (i := 1) H6.rows.2.2.2.2.1 rfl, blk_cell (i := 2) H6.rows.2.2.2.2.1 rfl⟩ ?_; try simp only [Act.put, List.getElem_toArray, List.getElem_cons_succ, List.getElem_cons_zero, List.setIfInBounds_toArray, List.set_cons_zero, List.set_cons_succ]
     refine wpAnyF_take (i := 7) (v := undef) rfl (by kernel_rfl) (by kernel_rfl) (by kernel_rfl) (by kernel_rfl) (fun _ _ _ h => h) (Or.inr ⟨by kernel_rfl, rfl⟩) ⟨blk_cell H6.rows.2.2.2.2.2.1 rfl, blk_cell (i := 1) H6.rows.2.2.2.2.1 rfl, blk_cell (i := 2) H6.rows.2.2.2.2.1 rfl⟩ ?_; try simp only [Act.put, List.getElem_toArray, List.getElem_cons_succ, List.getElem_cons_zero, List.setIfInBounds_toArray, List.set_cons_zero, List.set_cons_succ]
     refine wpAnyF_take (i := 8) (v := undef) rfl (by kernel_rfl) (by kernel_rfl) (by kernel_rfl) (by kernel_rfl) (fun _ _ _ h => h) (Or.inr ⟨by kernel_rfl, rfl⟩) ⟨blk_cell H6.rows.2.2.2.2.2.1 rfl, blk_cell (i := 1) H6.rows.2.2.2.2.1 rfl, blk_cell (i := 2) H6.rows.2.2.2.2.1 rfl⟩ ?_; try simp only [Act.put, List.getElem_toArray, List.getElem_cons_succ, List.getElem_cons_zero, List.setIfInBounds_toArray, List.set_cons_zero, List.set_cons_succ]
     refine wpAnyF_take (i := 9) (v := undef) rfl (by kernel_rfl) (by kernel_rfl) (by kernel_rfl) (by kernel_rfl) (fun _ _ _ h => h) (Or.inr ⟨by kernel_rfl, rfl⟩) ⟨blk_cell H6.rows.2.2.2.2.2.1 rfl, blk_cell (i := 1) H6.rows.2.2.2.2.1 rfl, blk_cell (i := 2) H6.rows.2.2.2.2.1 rfl⟩ ?_; try simp only [Act.put, List.getElem_toArray, List.getElem_cons_succ, List.getElem_cons_zero, List.setIfInBounds_toArray, List.set_cons_zero, List.set_cons_succ]
     refine wpAnyF_take (i := 10) (v := undef) rfl (by kernel_rfl) (by kernel_rfl) (by kernel_rfl) (by kernel_rfl) (fun _ _ _ h => h) (Or.inr ⟨by kernel_rfl, rfl⟩) ⟨blk_cell H6.rows.2.2.2.2.2.1 rfl, blk_cell (i := 1) H6.rows.2.2.2.2.1 rfl, blk_cell (i := 2) H6.rows.2.2.2.2.1 rfl⟩ ?_; try simp only [Act.put, List.getElem_toArray, List.getElem_cons_succ, List.getElem_cons_zero, List.setIfInBounds_toArray, List.set_cons_zero, List.set_cons_succ]
     refine wpAnyF_take (i := 11) (v := undef) rfl (by kernel_rfl) (by kernel_rfl) (by kernel_rfl) (by kernel_rfl) (fun _ _ _ h => h) (Or.inr ⟨by kernel_rfl, rfl⟩) ⟨blk_cell H6.rows.2.2.2.2.2.1 rfl, blk_cell (i := 1) H6.rows.2.2.2.2.1 rfl, blk_cell (i := 2) H6.rows.2.2.2.2.1 rfl⟩ ?_; try simp only [Act.put, List.getElem_toArray, List.getElem_cons_succ, List.getElem_cons_zero, List.setIfInBounds_toArray, List.set_cons_zero, List.set_cons_succ]
     refine wpAnyF_take (i := 12) (v := undef) rfl (by kernel_rfl) (by kernel_rfl) (by kernel_rfl) (by kernel_rfl) (fun _ _ _ h => h) (Or.inr ⟨by kernel_rfl, rfl⟩) ⟨blk_cell H6.rows.2.2.2.2.2.1 rfl, blk_cell (i := 1) H6.rows.2.2.2.2.1 rfl, blk_cell (i := 2) H6.rows.2.2.2.2.1 rfl⟩ ?_; try simp only [Act.put, List.getElem_toArray, List.getElem_cons_succ, List.getElem_cons_zero, List.setIfInBounds_toArray, List.set_cons_zero, List.set_cons_succ]
     refine wpAnyF_take (i := 13) (v := .bool false) rfl (by kernel_rfl) (by kernel_rfl) (by kernel_rfl) (by kernel_rfl) (fun _ _ _ h => h) (Or.inl ⟨by kernel_rfl, fun w hSw => by (try dsimp only at hSw); go_simp⟩) ⟨blk_cell H6.rows.2.2.2.2.2.1 rfl, blk_cell (i := 1) H6.rows.2.2.2.2.1 rfl, blk_cell (i := 2) H6.rows.2.2.2.2.1 rfl⟩ ?_; try simp only [Act.put, List.getElem_toArray, List.getElem_cons_succ, List.getElem_cons_zero, List.setIfInBounds_toArray, List.set_cons_zero, List.set_cons_succ]
     refine wpAnyF_take (i := 14) (v := .bool false) rfl (by kernel_rfl) (by kernel_rfl) (by kernel_rfl) (by kernel_rfl) (fun _ _ _ h => h) (Or.inl ⟨by kernel_rfl, fun w hSw => by (try dsimp only at hSw); go_simp⟩) ⟨blk_cell H6.rows.2.2.2.2.2.1 rfl, blk_cell (i := 1) H6.rows.2.2.2.2.1 rfl, blk_cell (i := 2) H6.rows.2.2.2.2.1 rfl⟩ ?_; try simp only [Act.put, List.getElem_toArray, List.getElem_cons_succ, List.getElem_cons_zero, List.setIfInBounds_toArray, List.set_cons_zero, List.set_cons_succ]
     refine wpAnyF_take (i := 15) (v := undef) rfl (by kernel_rfl) (by kernel_rfl) (by kernel_rfl) (by kernel_rfl) (fun _ _ _ h => h) (Or.inr ⟨by kernel_rfl, rfl⟩) ⟨blk_cell H6.rows.2.2.2.2.2.1 rfl, blk_cell (i := 1) H6.rows.2.2.2.2.1 rfl, blk_cell (i := 2) H6.rows.2.2.2.2.1 rfl⟩ ?_; try simp only [Act.put, List.getElem_toArray, List.getElem_cons_succ, List.getElem_cons_zero, List.setIfInBounds_toArray, List.set_cons_zero, List.set_cons_succ]
     refine wpAnyF_take (i := 16) (v := undef) rfl (by kernel_rfl) (by kernel_rfl) (by kernel_rfl) (by kernel_rfl) (fun _ _ _ h => h) (Or.inr ⟨by kernel_rfl, rfl⟩) ⟨blk_cell H6.rows.2.2.2.2.2.1 rfl, blk_cell (i := 1) H6.rows.2.2.2.2.1 rfl, blk_cell (i := 2) H6.rows.2.2.2.2.1 rfl⟩ ?_; try simp only [Act.put, List.getElem_toArray, List.getElem_cons_succ, List.getElem_cons_zero, List.setIfInBounds_toArray, List.set_cons_zero, List.set_cons_succ]
     refine wpAnyF_take (i := 17) (v := undef) rfl (by kernel_rfl) (by kernel_rfl) (by kernel_rfl) (by kernel_rfl) (fun _ _ _ h => h) (Or.inr ⟨by kernel_rfl, rfl⟩) ⟨blk_cell H6.rows.2.2.2.2.2.1 rfl, blk_cell (i := 1) H6.rows.2.2.2.2.1 rfl, blk_cell (i := 2) H6.rows.2.2.2.2.1 rfl⟩ ?_; try simp only [Act.put, List.getElem_toArray, List.getElem_cons_succ, List.getElem_cons_zero, List.setIfInBounds_toArray, List.set_cons_zero, List.set_cons_succ]
     refine wpAnyF_take (i := 18) (v := undef) rfl (by kernel_rfl) (by kernel_rfl) (by kernel_rfl) (by kernel_rfl) (fun _ _ _ h => h) (Or.inr ⟨by kernel_rfl, rfl⟩) ⟨blk_cell H6.rows.2.2.2.2.2.1 rfl, blk_cell (i := 1) H6.rows.2.2.2.2.1 rfl, blk_cell (i := 2) H6.rows.2.2.2.2.1 rfl⟩ ?_; try simp only [Act.put, List.getElem_toArray, List.getElem_cons_succ, List.getElem_cons_zero, List.setIfInBounds_toArray, List.set_cons_zero, List.set_cons_succ]
     refine wpAnyF_take (i := 19) (v := undef) rfl (by kernel_rfl) (by kernel_rfl) (by kernel_rfl) (by kernel_rfl) (fun _ _ _ h => h) (Or.inr ⟨by kernel_rfl, rfl⟩) ⟨blk_cell H6.rows.2.2.2.2.2.1 rfl, blk_cell (i := 1) H6.rows.2.2.2.2.1 rfl, blk_cell (i := 2) H6.rows.2.2.2.2.1 rfl⟩ ?_; try simp only [Act.put, List.getElem_toArray, List.getElem_cons_succ, List.getElem_cons_zero, List.setIfInBounds_toArray, List.set_cons_zero, List.set_cons_succ]
     refine wpAnyF_take (i := 20) (v := undef) rfl (by kernel_rfl) (by kernel_rfl) (by kernel_rfl) (by kernel_rfl) (fun _ _ _ h => h) (Or.inr ⟨by kernel_rfl, rfl⟩) ⟨blk_cell H6.rows.2.2.2.2.2.1 rfl, blk_cell (i := 1) H6.rows.2.2.2.2.1 rfl, blk_cell (i := 2) H6.rows.2.2.2.2.1 rfl⟩ ?_; try simp only [Act.put, List.getElem_toArray, List.getElem_cons_succ, List.getElem_cons_zero, List.setIfInBounds_toArray, List.set_cons_zero, List.set_cons_succ]
     refine wpAnyF_take (i := 21) (v := .bool false) rfl (by kernel_rfl) (by kernel_rfl) (by kernel_rfl) (by kernel_rfl) (fun _ _ _ h => h) (Or.inl ⟨by kernel_rfl, fun w hSw => by (try dsimp only at hSw); go_simp⟩) ⟨blk_cell H6.rows.2.2.2.2.2.1 rfl, blk_cell (i := 1) H6.rows.2.2.2.2.1 rfl, blk_cell (i := 2) H6.rows.2.2.2.2.1 rfl⟩ ?_; try simp only [Act.put, List.getElem_toArray, List.getElem_cons_succ, List.getElem_cons_zero, List.setIfInBounds_toArray, List.set_cons_zero, List.set_cons_succ]
     have y0 := blk_cell (i := 0) H6.rows.2.2.2.1 rfl
     have y0f := blk_free 0 H6.rows.2.2.2.1
     have HF := H6.put 3 rfl 0 (.slice sp n cap)
     have hMF := h'h.out.below HF.old
     refine wpAnyF_one (i := 22) (by kernel_rfl) rfl (fun K hK => ?_); go_simp
     refine hK.out _ _ (fun _ => ⟨blk_cell HF.rows.2.2.2.2.2.1 rfl, blk_cell (i := 1) HF.rows.2.2.2.2.1 rfl, blk_cell (i := 2) HF.rows.2.2.2.2.1 rfl⟩) ?_
     clear hK K y0 y0f H6
     try simp only [Act.put, List.getElem_toArray, List.getElem_cons_succ, List.getElem_cons_zero, List.setIfInBounds_toArray, List.set_cons_zero, List.set_cons_succ]
     refine wpAnyF_take (i := 23) (v := .bool false) rfl (by kernel_rfl) (by kernel_rfl) (by kernel_rfl) (by kernel_rfl) (fun _ _ _ h => h) (Or.inl ⟨by kernel_rfl, fun w hSw => by (try dsimp only at hSw); go_simp⟩) ⟨blk_cell HF.rows.2.2.2.2.2.1 rfl, blk_cell (i := 1) HF.rows.2.2.2.2.1 rfl, blk_cell (i := 2) HF.rows.2.2.2.2.1 rfl⟩ ?_; try simp only [Act.put, List.getElem_toArray, List.getElem_cons_succ, List.getElem_cons_zero, List.setIfInBounds_toArray, List.set_cons_zero, List.set_cons_succ]
     refine wpAnyF_done (by kernel_rfl) ?_ _
     generalize World.setCell _ _ _ = V9 at HF hMF ⊢
     have e9 : V9.cell? ⟨w.heap.size + 2, 0, none⟩ = some (.slice sp n cap) := blk_cell (i := 0) HF.rows.2.2.2.1 rfl
     have HF'h := Lib.hid HF
     have hMF'h := Lib.hid hMF
     clear HF hMF
     go_wp2
     refine bodyPost_ret (v := .tuple #[.agg #[.slice sp n cap], .bool false]) ?_ rfl ⟨sp, n, cap, rfl, HF'h.out.old, hMF'h.out⟩
     simp [results, Tryz.results33, go_sem, e9]
    | true =>
     refine wpAnyF_take (i := 1) (v := .bool true) rfl (by kernel_rfl) (by kernel_rfl) (by kernel_rfl) (by kernel_rfl) (fun _ _ _ h => h) (Or.inl ⟨by kernel_rfl, fun w hSw => by (try dsimp only at hSw); go_simp⟩) ⟨blk_cell H6.rows.2.2.2.2.2.1 rfl, blk_cell (i := 1) H6.rows.2.2.2.2.1 rfl, blk_cell (i := 2) H6.rows.2.2.2.2.1 rfl⟩ ?_; try simp only [Act.put, List.getElem_toArray, List.getElem_cons_succ, List.getElem_cons_zero, List.setIfInBounds_toArray, List.set_cons_zero, List.set_cons_succ]
     refine wpAnyF_take (i := 2) (v := .bool true) rfl (by kernel_rfl) (by kernel_rfl) (by kernel_rfl) (by kernel_rfl) (fun _ _ _ h => h) (Or.inl ⟨by kernel_rfl, fun w hSw => by (try dsimp only at hSw); go_simp⟩) ⟨blk_cell H6.rows.2.2.2.2.2.1 rfl, blk_cell (i := 1) H6.rows.2.2.2.2.1 rfl, blk_cell (i := 2) H6.rows.2.2.2.2.1 rfl⟩ ?_; try simp only [Act.put, List.getElem_toArray, List.getElem_cons_succ, List.getElem_cons_zero, List.setIfInBounds_toArray, List.set_cons_zero, List.set_cons_succ]
     refine wpAnyF_take (i := 3) (v := .pointer (some ⟨w.heap.size + 1, 1, none⟩)) rfl (by kernel_rfl) (by kernel_rfl) (by kernel_rfl) (by kernel_rfl) (fun _ _ _ h => h) (Or.inl ⟨by kernel_rfl, fun w hSw => by (try dsimp only at hSw); go_simp⟩) ⟨blk_cell H6.rows.2.2.2.2.2.1 rfl, blk_cell (i := 1) H6.rows.2.2.2.2.1 rfl, blk_cell (i := 2) H6.rows.2.2.2.2.1 rfl⟩ ?_; try simp only [Act.put, List.getElem_toArray, List.getElem_cons_succ, List.getElem_cons_zero, List.setIfInBounds_toArray, List.set_cons_zero, List.set_cons_succ]
     refine wpAnyF_take (i := 4) (v := .pointer (some ⟨w.heap.size + 1, 1, none⟩)) rfl (by kernel_rfl) (by kernel_rfl) (by kernel_rfl) (by kernel_rfl) (fun _ _ _ h => h) (Or.inl ⟨by kernel_rfl, fun w hSw => by (try dsimp only at hSw); go_simp⟩) ⟨blk_cell H6.rows.2.2.2.2.2.1 rfl, blk_cell (i := 1) H6.rows.2.2.2.2.1 rfl, blk_cell (i := 2) H6.rows.2.2.2.2.1 rfl⟩ ?_; try simp only [Act.put, List.getElem_toArray, List.getElem_cons_succ, List.getElem_cons_zero, List.setIfInBounds_toArray, List.set_cons_zero, List.set_cons_succ]
     refine wpAnyF_take (i := 5) (v := .int .i64 opx) rfl (by kernel_rfl) (by kernel_rfl) (by kernel_rfl) (by kernel_rfl) (fun _ _ _ h => h) (Or.inl ⟨by kernel_rfl, fun w hSw => by have hcc := hSw.2.1; (try dsimp only at hSw); go_simp⟩) ⟨blk_cell H6.rows.2.2.2.2.2.1 rfl, blk_cell (i := 1) H6.rows.2.2.2.2.1 rfl, blk_cell (i := 2) H6.rows.2.2.2.2.1 rfl⟩ ?_; try simp only [Act.put, List.getElem_toArray, List.getElem_cons_succ, List.getElem_cons_zero, List.setIfInBounds_toArray, List.set_cons_zero, List.set_cons_succ]
     by_cases p2 : opx = 2
     ·
      have hGh : G = !hs := by rw [hG'h.out]; simp [p2]
      have j2 : (opx == 2) = true := by simp [p2]
      clear p2
      refine wpAnyF_take (i := 6) (v := .bool true) rfl (by kernel_rfl) (by kernel_rfl) (by kernel_rfl) (by kernel_rfl) (fun _ _ _ h => h) (Or.inl ⟨by kernel_rfl, fun w hSw => by (try dsimp only at hSw); go_simp⟩) ⟨blk_cell H6.rows.2.2.2.2.2.1 rfl, blk_cell (i := 1) H6.rows.2.2.2.2.1 rfl, blk_cell (i := 2) H6.rows.2.2.2.2.1 rfl⟩ ?_; try simp only [Act.put, List.getElem_toArray, List.getElem_cons_succ, List.getElem_cons_zero, List.setIfInBounds_toArray, List.set_cons_zero, List.set_cons_succ]
      refine wpAnyF_take (i := 7) (v := .bool true) rfl (by kernel_rfl) (by kernel_rfl) (by kernel_rfl) (by kernel_rfl) (fun _ _ _ h => h) (Or.inl ⟨by kernel_rfl, fun w hSw => by (try dsimp only at hSw); go_simp⟩) ⟨blk_cell H6.rows.2.2.2.2.2.1 rfl, blk_cell (i := 1) H6.rows.2.2.2.2.1 rfl, blk_cell (i := 2) H6.rows.2.2.2.2.1 rfl⟩ ?_; try simp only [Act.put, List.getElem_toArray, List.getElem_cons_succ, List.getElem_cons_zero, List.setIfInBounds_toArray, List.set_cons_zero, List.set_cons_succ]
      refine wpAnyF_take (i := 8) (v := undef) rfl (by kernel_rfl) (by kernel_rfl) (by kernel_rfl) (by kernel_rfl) (fun _ _ _ h => h) (Or.inr ⟨by kernel_rfl, rfl⟩) ⟨blk_cell H6.rows.2.2.2.2.2.1 rfl, blk_cell (i := 1) H6.rows.2.2.2.2.1 rfl, blk_cell (i := 2) H6.rows.2.2.2.2.1 rfl⟩ ?_; try simp only [Act.put, List.getElem_toArray, List.getElem_cons_succ, List.getElem_cons_zero, List.setIfInBounds_toArray, List.set_cons_zero, List.set_cons_succ]
      refine wpAnyF_take (i := 9) (v := undef) rfl (by kernel_rfl) (by kernel_rfl) (by kernel_rfl) (by kernel_rfl) (fun _ _ _ h => h) (Or.inr ⟨by kernel_rfl, rfl⟩) ⟨blk_cell H6.rows.2.2.2.2.2.1 rfl, blk_cell (i := 1) H6.rows.2.2.2.2.1 rfl, blk_cell (i := 2) H6.rows.2.2.2.2.1 rfl⟩ ?_; try simp only [Act.put, List.getElem_toArray, List.getElem_cons_succ, List.getElem_cons_zero, List.setIfInBounds_toArray, List.set_cons_zero, List.set_cons_succ]
      refine wpAnyF_take (i := 10) (v := undef) rfl (by kernel_rfl) (by kernel_rfl) (by kernel_rfl) (by kernel_rfl) (fun _ _ _ h => h) (Or.inr ⟨by kernel_rfl, rfl⟩) ⟨blk_cell H6.rows.2.2.2.2.2.1 rfl, blk_cell (i := 1) H6.rows.2.2.2.2.1 rfl, blk_cell (i := 2) H6.rows.2.2.2.2.1 rfl⟩ ?_; try simp only [Act.put, List.getElem_toArray, List.getElem_cons_succ, List.getElem_cons_zero, List.setIfInBounds_toArray, List.set_cons_zero, List.set_cons_succ]
      refine wpAnyF_take (i := 11) (v := undef) rfl (by kernel_rfl) (by kernel_rfl) (by kernel_rfl) (by kernel_rfl) (fun _ _ _ h => h) (Or.inr ⟨by kernel_rfl, rfl⟩) ⟨blk_cell H6.rows.2.2.2.2.2.1 rfl, blk_cell (i := 1) H6.rows.2.2.2.2.1 rfl, blk_cell (i := 2) H6.rows.2.2.2.2.1 rfl⟩ ?_; try simp only [Act.put, List.getElem_toArray, List.getElem_cons_succ, List.getElem_cons_zero, List.setIfInBounds_toArray, List.set_cons_zero, List.set_cons_succ]
      clear j2
      refine wpAnyF_take (i := 12) (v := .bool true) rfl (by kernel_rfl) (by kernel_rfl) (by kernel_rfl) (by kernel_rfl) (fun _ _ _ h => h) (Or.inl ⟨by kernel_rfl, fun w hSw => by (try dsimp only at hSw); go_simp⟩) ⟨blk_cell H6.rows.2.2.2.2.2.1 rfl, blk_cell (i := 1) H6.rows.2.2.2.2.1 rfl, blk_cell (i := 2) H6.rows.2.2.2.2.1 rfl⟩ ?_; try simp only [Act.put, List.getElem_toArray, List.getElem_cons_succ, List.getElem_cons_zero, List.setIfInBounds_toArray, List.set_cons_zero, List.set_cons_succ]
      refine wpAnyF_take (i := 13) (v := .bool true) rfl (by kernel_rfl) (by kernel_rfl) (by kernel_rfl) (by kernel_rfl) (fun _ _ _ h => h) (Or.inl ⟨by kernel_rfl, fun w hSw => by (try dsimp only at hSw); go_simp⟩) ⟨blk_cell H6.rows.2.2.2.2.2.1 rfl, blk_cell (i := 1) H6.rows.2.2.2.2.1 rfl, blk_cell (i := 2) H6.rows.2.2.2.2.1 rfl⟩ ?_; try simp only [Act.put, List.getElem_toArray, List.getElem_cons_succ, List.getElem_cons_zero, List.setIfInBounds_toArray, List.set_cons_zero, List.set_cons_succ]
      refine wpAnyF_take (i := 14) (v := .bool true) rfl (by kernel_rfl) (by kernel_rfl) (by kernel_rfl) (by kernel_rfl) (fun _ _ _ h => h) (Or.inl ⟨by kernel_rfl, fun w hSw => by (try dsimp only at hSw); go_simp⟩) ⟨blk_cell H6.rows.2.2.2.2.2.1 rfl, blk_cell (i := 1) H6.rows.2.2.2.2.1 rfl, blk_cell (i := 2) H6.rows.2.2.2.2.1 rfl⟩ ?_; try simp only [Act.put, List.getElem_toArray, List.getElem_cons_succ, List.getElem_cons_zero, List.setIfInBounds_toArray, List.set_cons_zero, List.set_cons_succ]
      refine wpAnyF_take (i := 15) (v := .agg #[.slice sp n cap]) rfl (by kernel_rfl) (by kernel_rfl) (by kernel_rfl) (by kernel_rfl) (fun _ _ _ h => h) (Or.inl ⟨by kernel_rfl, fun w hSw => by (try dsimp only at hSw); go_simp⟩) ⟨blk_cell H6.rows.2.2.2.2.2.1 rfl, blk_cell (i := 1) H6.rows.2.2.2.2.1 rfl, blk_cell (i := 2) H6.rows.2.2.2.2.1 rfl⟩ ?_; try simp only [Act.put, List.getElem_toArray, List.getElem_cons_succ, List.getElem_cons_zero, List.setIfInBounds_toArray, List.set_cons_zero, List.set_cons_succ]
      refine wpAnyF_take (i := 16) (v := .pointer (some ⟨w.heap.size + 1, 1, none⟩)) rfl (by kernel_rfl) (by kernel_rfl) (by kernel_rfl) (by kernel_rfl) (fun _ _ _ h => h) (Or.inl ⟨by kernel_rfl, fun w hSw => by (try dsimp only at hSw); go_simp⟩) ⟨blk_cell H6.rows.2.2.2.2.2.1 rfl, blk_cell (i := 1) H6.rows.2.2.2.2.1 rfl, blk_cell (i := 2) H6.rows.2.2.2.2.1 rfl⟩ ?_; try simp only [Act.put, List.getElem_toArray, List.getElem_cons_succ, List.getElem_cons_zero, List.setIfInBounds_toArray, List.set_cons_zero, List.set_cons_succ]
      refine wpAnyF_take (i := 17) (v := .pointer (some ⟨w.heap.size + 1, 2, none⟩)) rfl (by kernel_rfl) (by kernel_rfl) (by kernel_rfl) (by kernel_rfl) (fun _ _ _ h => h) (Or.inl ⟨by kernel_rfl, fun w hSw => by (try dsimp only at hSw); go_simp⟩) ⟨blk_cell H6.rows.2.2.2.2.2.1 rfl, blk_cell (i := 1) H6.rows.2.2.2.2.1 rfl, blk_cell (i := 2) H6.rows.2.2.2.2.1 rfl⟩ ?_; try simp only [Act.put, List.getElem_toArray, List.getElem_cons_succ, List.getElem_cons_zero, List.setIfInBounds_toArray, List.set_cons_zero, List.set_cons_succ]
      refine wpAnyF_take (i := 18) (v := .int .u64 (kyx : Int)) rfl (by kernel_rfl) (by kernel_rfl) (by kernel_rfl) (by kernel_rfl) (fun _ _ _ h => h) (Or.inl ⟨by kernel_rfl, fun w hSw => by have hcc := hSw.2.2; (try dsimp only at hSw); go_simp⟩) ⟨blk_cell H6.rows.2.2.2.2.2.1 rfl, blk_cell (i := 1) H6.rows.2.2.2.2.1 rfl, blk_cell (i := 2) H6.rows.2.2.2.2.1 rfl⟩ ?_; try simp only [Act.put, List.getElem_toArray, List.getElem_cons_succ, List.getElem_cons_zero, List.setIfInBounds_toArray, List.set_cons_zero, List.set_cons_succ]
      refine wpAnyF_one (i := 19) (by kernel_rfl) rfl (fun K hK => ?_); go_simp
      refine (HS'h.out V H6.old).mono ?_
      rintro e V2 ⟨rfl, hb2⟩
      replace H6 := H6.next hb2
      clear hb2
      refine hK.out _ _ (fun _ => ⟨blk_cell H6.rows.2.2.2.2.2.1 rfl, blk_cell (i := 1) H6.rows.2.2.2.2.1 rfl, blk_cell (i := 2) H6.rows.2.2.2.2.1 rfl⟩) ?_; clear hK K; try simp only [Act.put, List.getElem_toArray, List.getElem_cons_succ, List.getElem_cons_zero, List.setIfInBounds_toArray, List.set_cons_zero, List.set_cons_succ]
      refine wpAnyF_take (i := 20) (v := .bool (!hs)) rfl (by kernel_rfl) (by kernel_rfl) (by kernel_rfl) (by kernel_rfl) (fun _ _ _ h => h) (Or.inl ⟨by kernel_rfl, fun w hSw => by (try dsimp only at hSw); go_simp⟩) ⟨blk_cell H6.rows.2.2.2.2.2.1 rfl, blk_cell (i := 1) H6.rows.2.2.2.2.1 rfl, blk_cell (i := 2) H6.rows.2.2.2.2.1 rfl⟩ ?_; try simp only [Act.put, List.getElem_toArray, List.getElem_cons_succ, List.getElem_cons_zero, List.setIfInBounds_toArray, List.set_cons_zero, List.set_cons_succ]
      refine wpAnyF_take (i := 21) (v := .bool (!hs)) rfl (by kernel_rfl) (by kernel_rfl) (by kernel_rfl) (by kernel_rfl) (fun _ _ _ h => h) (Or.inl ⟨by kernel_rfl, fun w hSw => by (try dsimp only at hSw); go_simp⟩) ⟨blk_cell H6.rows.2.2.2.2.2.1 rfl, blk_cell (i := 1) H6.rows.2.2.2.2.1 rfl, blk_cell (i := 2) H6.rows.2.2.2.2.1 rfl⟩ ?_; try simp only [Act.put, List.getElem_toArray, List.getElem_cons_succ, List.getElem_cons_zero, List.setIfInBounds_toArray, List.set_cons_zero, List.set_cons_succ]
      subst hGh
      have y0 := blk_cell (i := 0) H6.rows.2.2.2.1 rfl
      have y0f := blk_free 0 H6.rows.2.2.2.1
      have HF := H6.put 3 rfl 0 (.slice sp n cap)
      have hMF := h'h.out.below HF.old
      refine wpAnyF_one (i := 22) (by kernel_rfl) rfl (fun K hK => ?_); go_simp
      refine hK.out _ _ (fun _ => ⟨blk_cell HF.rows.2.2.2.2.2.1 rfl, blk_cell (i := 1) HF.rows.2.2.2.2.1 rfl, blk_cell (i := 2) HF.rows.2.2.2.2.1 rfl⟩) ?_
      clear hK K y0 y0f H6
      try simp only [Act.put, List.getElem_toArray, List.getElem_cons_succ, List.getElem_cons_zero, List.setIfInBounds_toArray, List.set_cons_zero, List.set_cons_succ]
      refine wpAnyF_take (i := 23) (v := .bool (!hs)) rfl (by kernel_rfl) (by kernel_rfl) (by kernel_rfl) (by kernel_rfl) (fun _ _ _ h => h) (Or.inl ⟨by kernel_rfl, fun w hSw => by (try dsimp only at hSw); go_simp⟩) ⟨blk_cell HF.rows.2.2.2.2.2.1 rfl, blk_cell (i := 1) HF.rows.2.2.2.2.1 rfl, blk_cell (i := 2) HF.rows.2.2.2.2.1 rfl⟩ ?_; try simp only [Act.put, List.getElem_toArray, List.getElem_cons_succ, List.getElem_cons_zero, List.setIfInBounds_toArray, List.set_cons_zero, List.set_cons_succ]
      refine wpAnyF_done (by kernel_rfl) ?_ _
      generalize World.setCell _ _ _ = V9 at HF hMF ⊢
      have e9 : V9.cell? ⟨w.heap.size + 2, 0, none⟩ = some (.slice sp n cap) := blk_cell (i := 0) HF.rows.2.2.2.1 rfl
      have HF'h := Lib.hid HF
      have hMF'h := Lib.hid hMF
      clear HF hMF
      go_wp2
      refine bodyPost_ret (v := .tuple #[.agg #[.slice sp n cap], .bool (!hs)]) ?_ rfl ⟨sp, n, cap, rfl, HF'h.out.old, hMF'h.out⟩
      simp [results, Tryz.results33, go_sem, e9]
     ·
      have j2 : (opx == 2) = false := by simp [p2]
      refine wpAnyF_take (i := 6) (v := .bool false) rfl (by kernel_rfl) (by kernel_rfl) (by kernel_rfl) (by kernel_rfl) (fun _ _ _ h => h) (Or.inl ⟨by kernel_rfl, fun w hSw => by (try dsimp only at hSw); go_simp⟩) ⟨blk_cell H6.rows.2.2.2.2.2.1 rfl, blk_cell (i := 1) H6.rows.2.2.2.2.1 rfl, blk_cell (i := 2) H6.rows.2.2.2.2.1 rfl⟩ ?_; try simp only [Act.put, List.getElem_toArray, List.getElem_cons_succ, List.getElem_cons_zero, List.setIfInBounds_toArray, List.set_cons_zero, List.set_cons_succ]
      refine wpAnyF_take (i := 7) (v := .bool false) rfl (by kernel_rfl) (by kernel_rfl) (by kernel_rfl) (by kernel_rfl) (fun _ _ _ h => h) (Or.inl ⟨by kernel_rfl, fun w hSw => by (try dsimp only at hSw); go_simp⟩) ⟨blk_cell H6.rows.2.2.2.2.2.1 rfl, blk_cell (i := 1) H6.rows.2.2.2.2.1 rfl, blk_cell (i := 2) H6.rows.2.2.2.2.1 rfl⟩ ?_; try simp only [Act.put, List.getElem_toArray, List.getElem_cons_succ, List.getElem_cons_zero, List.setIfInBounds_toArray, List.set_cons_zero, List.set_cons_succ]
      clear j2
      refine wpAnyF_take (i := 8) (v := .pointer (some ⟨w.heap.size + 1, 1, none⟩)) rfl (by kernel_rfl) (by kernel_rfl) (by kernel_rfl) (by kernel_rfl) (fun _ _ _ h => h) (Or.inl ⟨by kernel_rfl, fun w hSw => by (try dsimp only at hSw); go_simp⟩) ⟨blk_cell H6.rows.2.2.2.2.2.1 rfl, blk_cell (i := 1) H6.rows.2.2.2.2.1 rfl, blk_cell (i := 2) H6.rows.2.2.2.2.1 rfl⟩ ?_; try simp only [Act.put, List.getElem_toArray, List.getElem_cons_succ, List.getElem_cons_zero, List.setIfInBounds_toArray, List.set_cons_zero, List.set_cons_succ]
      refine wpAnyF_take (i := 9) (v := .pointer (some ⟨w.heap.size + 1, 1, none⟩)) rfl (by kernel_rfl) (by kernel_rfl) (by kernel_rfl) (by kernel_rfl) (fun _ _ _ h => h) (Or.inl ⟨by kernel_rfl, fun w hSw => by (try dsimp only at hSw); go_simp⟩) ⟨blk_cell H6.rows.2.2.2.2.2.1 rfl, blk_cell (i := 1) H6.rows.2.2.2.2.1 rfl, blk_cell (i := 2) H6.rows.2.2.2.2.1 rfl⟩ ?_; try simp only [Act.put, List.getElem_toArray, List.getElem_cons_succ, List.getElem_cons_zero, List.setIfInBounds_toArray, List.set_cons_zero, List.set_cons_succ]
      refine wpAnyF_take (i := 10) (v := .int .i64 opx) rfl (by kernel_rfl) (by kernel_rfl) (by kernel_rfl) (by kernel_rfl) (fun _ _ _ h => h) (Or.inl ⟨by kernel_rfl, fun w hSw => by have hcc := hSw.2.1; (try dsimp only at hSw); go_simp⟩) ⟨blk_cell H6.rows.2.2.2.2.2.1 rfl, blk_cell (i := 1) H6.rows.2.2.2.2.1 rfl, blk_cell (i := 2) H6.rows.2.2.2.2.1 rfl⟩ ?_; try simp only [Act.put, List.getElem_toArray, List.getElem_cons_succ, List.getElem_cons_zero, List.setIfInBounds_toArray, List.set_cons_zero, List.set_cons_succ]
      by_cases p5 : opx = 5
      ·
       have hGh : G = !hs := by rw [hG'h.out]; simp [p5]
       have j5 : (opx == 5) = true := by simp [p5]
       clear p5 p2
       refine wpAnyF_take (i := 11) (v := .bool true) rfl (by kernel_rfl) (by kernel_rfl) (by kernel_rfl) (by kernel_rfl) (fun _ _ _ h => h) (Or.inl ⟨by kernel_rfl, fun w hSw => by (try dsimp only at hSw); go_simp⟩) ⟨blk_cell H6.rows.2.2.2.2.2.1 rfl, blk_cell (i := 1) H6.rows.2.2.2.2.1 rfl, blk_cell (i := 2) H6.rows.2.2.2.2.1 rfl⟩ ?_; try simp only [Act.put, List.getElem_toArray, List.getElem_cons_succ, List.getElem_cons_zero, List.setIfInBounds_toArray, List.set_cons_zero, List.set_cons_succ]
       clear j5
       refine wpAnyF_take (i := 12) (v := .bool true) rfl (by kernel_rfl) (by kernel_rfl) (by kernel_rfl) (by kernel_rfl) (fun _ _ _ h => h) (Or.inl ⟨by kernel_rfl, fun w hSw => by (try dsimp only at hSw); go_simp⟩) ⟨blk_cell H6.rows.2.2.2.2.2.1 rfl, blk_cell (i := 1) H6.rows.2.2.2.2.1 rfl, blk_cell (i := 2) H6.rows.2.2.2.2.1 rfl⟩ ?_; try simp only [Act.put, List.getElem_toArray, List.getElem_cons_succ, List.getElem_cons_zero, List.setIfInBounds_toArray, List.set_cons_zero, List.set_cons_succ]
       refine wpAnyF_take (i := 13) (v := .bool true) rfl (by kernel_rfl) (by kernel_rfl) (by kernel_rfl) (by kernel_rfl) (fun _ _ _ h => h) (Or.inl ⟨by kernel_rfl, fun w hSw => by (try dsimp only at hSw); go_simp⟩) ⟨blk_cell H6.rows.2.2.2.2.2.1 rfl, blk_cell (i := 1) H6.rows.2.2.2.2.1 rfl, blk_cell (i := 2) H6.rows.2.2.2.2.1 rfl⟩ ?_; try simp only [Act.put, List.getElem_toArray, List.getElem_cons_succ, List.getElem_cons_zero, List.setIfInBounds_toArray, List.set_cons_zero, List.set_cons_succ]
       refine wpAnyF_take (i := 14) (v := .bool true) rfl (by kernel_rfl) (by kernel_rfl) (by kernel_rfl) (by kernel_rfl) (fun _ _ _ h => h) (Or.inl ⟨by kernel_rfl, fun w hSw => by (try dsimp only at hSw); go_simp⟩) ⟨blk_cell H6.rows.2.2.2.2.2.1 rfl, blk_cell (i := 1) H6.rows.2.2.2.2.1 rfl, blk_cell (i := 2) H6.rows.2.2.2.2.1 rfl⟩ ?_; try simp only [Act.put, List.getElem_toArray, List.getElem_cons_succ, List.getElem_cons_zero, List.setIfInBounds_toArray, List.set_cons_zero, List.set_cons_succ]
       refine wpAnyF_take (i := 15) (v := .agg #[.slice sp n cap]) rfl (by kernel_rfl) (by kernel_rfl) (by kernel_rfl) (by kernel_rfl) (fun _ _ _ h => h) (Or.inl ⟨by kernel_rfl, fun w hSw => by (try dsimp only at hSw); go_simp⟩) ⟨blk_cell H6.rows.2.2.2.2.2.1 rfl, blk_cell (i := 1) H6.rows.2.2.2.2.1 rfl, blk_cell (i := 2) H6.rows.2.2.2.2.1 rfl⟩ ?_; try simp only [Act.put, List.getElem_toArray, List.getElem_cons_succ, List.getElem_cons_zero, List.setIfInBounds_toArray, List.set_cons_zero, List.set_cons_succ]
       refine wpAnyF_take (i := 16) (v := .pointer (some ⟨w.heap.size + 1, 1, none⟩)) rfl (by kernel_rfl) (by kernel_rfl) (by kernel_rfl) (by kernel_rfl) (fun _ _ _ h => h) (Or.inl ⟨by kernel_rfl, fun w hSw => by (try dsimp only at hSw); go_simp⟩) ⟨blk_cell H6.rows.2.2.2.2.2.1 rfl, blk_cell (i := 1) H6.rows.2.2.2.2.1 rfl, blk_cell (i := 2) H6.rows.2.2.2.2.1 rfl⟩ ?_; try simp only [Act.put, List.getElem_toArray, List.getElem_cons_succ, List.getElem_cons_zero, List.setIfInBounds_toArray, List.set_cons_zero, List.set_cons_succ]
       refine wpAnyF_take (i := 17) (v := .pointer (some ⟨w.heap.size + 1, 2, none⟩)) rfl (by kernel_rfl) (by kernel_rfl) (by kernel_rfl) (by kernel_rfl) (fun _ _ _ h => h) (Or.inl ⟨by kernel_rfl, fun w hSw => by (try dsimp only at hSw); go_simp⟩) ⟨blk_cell H6.rows.2.2.2.2.2.1 rfl, blk_cell (i := 1) H6.rows.2.2.2.2.1 rfl, blk_cell (i := 2) H6.rows.2.2.2.2.1 rfl⟩ ?_; try simp only [Act.put, List.getElem_toArray, List.getElem_cons_succ, List.getElem_cons_zero, List.setIfInBounds_toArray, List.set_cons_zero, List.set_cons_succ]
       refine wpAnyF_take (i := 18) (v := .int .u64 (kyx : Int)) rfl (by kernel_rfl) (by kernel_rfl) (by kernel_rfl) (by kernel_rfl) (fun _ _ _ h => h) (Or.inl ⟨by kernel_rfl, fun w hSw => by have hcc := hSw.2.2; (try dsimp only at hSw); go_simp⟩) ⟨blk_cell H6.rows.2.2.2.2.2.1 rfl, blk_cell (i := 1) H6.rows.2.2.2.2.1 rfl, blk_cell (i := 2) H6.rows.2.2.2.2.1 rfl⟩ ?_; try simp only [Act.put, List.getElem_toArray, List.getElem_cons_succ, List.getElem_cons_zero, List.setIfInBounds_toArray, List.set_cons_zero, List.set_cons_succ]
       refine wpAnyF_one (i := 19) (by kernel_rfl) rfl (fun K hK => ?_); go_simp
       refine (HS'h.out V H6.old).mono ?_
       rintro e V2 ⟨rfl, hb2⟩
       replace H6 := H6.next hb2
       clear hb2
       refine hK.out _ _ (fun _ => ⟨blk_cell H6.rows.2.2.2.2.2.1 rfl, blk_cell (i := 1) H6.rows.2.2.2.2.1 rfl, blk_cell (i := 2) H6.rows.2.2.2.2.1 rfl⟩) ?_; clear hK K; try simp only [Act.put, List.getElem_toArray, List.getElem_cons_succ, List.getElem_cons_zero, List.setIfInBounds_toArray, List.set_cons_zero, List.set_cons_succ]
       refine wpAnyF_take (i := 20) (v := .bool (!hs)) rfl (by kernel_rfl) (by kernel_rfl) (by kernel_rfl) (by kernel_rfl) (fun _ _ _ h => h) (Or.inl ⟨by kernel_rfl, fun w hSw => by (try dsimp only at hSw); go_simp⟩) ⟨blk_cell H6.rows.2.2.2.2.2.1 rfl, blk_cell (i := 1) H6.rows.2.2.2.2.1 rfl, blk_cell (i := 2) H6.rows.2.2.2.2.1 rfl⟩ ?_; try simp only [Act.put, List.getElem_toArray, List.getElem_cons_succ, List.getElem_cons_zero, List.setIfInBounds_toArray, List.set_cons_zero, List.set_cons_succ]
       refine wpAnyF_take (i := 21) (v := .bool (!hs)) rfl (by kernel_rfl) (by kernel_rfl) (by kernel_rfl) (by kernel_rfl) (fun _ _ _ h => h) (Or.inl ⟨by kernel_rfl, fun w hSw => by (try dsimp only at hSw); go_simp⟩) ⟨blk_cell H6.rows.2.2.2.2.2.1 rfl, blk_cell (i := 1) H6.rows.2.2.2.2.1 rfl, blk_cell (i := 2) H6.rows.2.2.2.2.1 rfl⟩ ?_; try simp only [Act.put, List.getElem_toArray, List.getElem_cons_succ, List.getElem_cons_zero, List.setIfInBounds_toArray, List.set_cons_zero, List.set_cons_succ]
       subst hGh
       have y0 := blk_cell (i := 0) H6.rows.2.2.2.1 rfl
       have y0f := blk_free 0 H6.rows.2.2.2.1
       have HF := H6.put 3 rfl 0 (.slice sp n cap)
       have hMF := h'h.out.below HF.old
       refine wpAnyF_one (i := 22) (by kernel_rfl) rfl (fun K hK => ?_); go_simp
       refine hK.out _ _ (fun _ => ⟨blk_cell HF.rows.2.2.2.2.2.1 rfl, blk_cell (i := 1) HF.rows.2.2.2.2.1 rfl, blk_cell (i := 2) HF.rows.2.2.2.2.1 rfl⟩) ?_
       clear hK K y0 y0f H6
       try simp only [Act.put, List.getElem_toArray, List.getElem_cons_succ, List.getElem_cons_zero, List.setIfInBounds_toArray, List.set_cons_zero, List.set_cons_succ]
       refine wpAnyF_take (i := 23) (v := .bool (!hs)) rfl (by kernel_rfl) (by kernel_rfl) (by kernel_rfl) (by kernel_rfl) (fun _ _ _ h => h) (Or.inl ⟨by kernel_rfl, fun w hSw => by (try dsimp only at hSw); go_simp⟩) ⟨blk_cell HF.rows.2.2.2.2.2.1 rfl, blk_cell (i := 1) HF.rows.2.2.2.2.1 rfl, blk_cell (i := 2) HF.rows.2.2.2.2.1 rfl⟩ ?_; try simp only [Act.put, List.getElem_toArray, List.getElem_cons_succ, List.getElem_cons_zero, List.setIfInBounds_toArray, List.set_cons_zero, List.set_cons_succ]
       refine wpAnyF_done (by kernel_rfl) ?_ _
       generalize World.setCell _ _ _ = V9 at HF hMF ⊢
       have e9 : V9.cell? ⟨w.heap.size + 2, 0, none⟩ = some (.slice sp n cap) := blk_cell (i := 0) HF.rows.2.2.2.1 rfl
       have HF'h := Lib.hid HF
       have hMF'h := Lib.hid hMF
       clear HF hMF
       go_wp2
       refine bodyPost_ret (v := .tuple #[.agg #[.slice sp n cap], .bool (!hs)]) ?_ rfl ⟨sp, n, cap, rfl, HF'h.out.old, hMF'h.out⟩
       simp [results, Tryz.results33, go_sem, e9]
      ·
       have j5 : (opx == 5) = false := by simp [p5]
       obtain rfl : G = false := by rw [hG'h.out]; simp [p2, p5]
       clear p5 p2
       refine wpAnyF_take (i := 11) (v := .bool false) rfl (by kernel_rfl) (by kernel_rfl) (by kernel_rfl) (by kernel_rfl) (fun _ _ _ h => h) (Or.inl ⟨by kernel_rfl, fun w hSw => by (try dsimp only at hSw); go_simp⟩) ⟨blk_cell H6.rows.2.2.2.2.2.1 rfl, blk_cell (i := 1) H6.rows.2.2.2.2.1 rfl, blk_cell (i := 2) H6.rows.2.2.2.2.1 rfl⟩ ?_; try simp only [Act.put, List.getElem_toArray, List.getElem_cons_succ, List.getElem_cons_zero, List.setIfInBounds_toArray, List.set_cons_zero, List.set_cons_succ]
       clear j5
       refine wpAnyF_take (i := 12) (v := .bool false) rfl (by kernel_rfl) (by kernel_rfl) (by kernel_rfl) (by kernel_rfl) (fun _ _ _ h => h) (Or.inl ⟨by kernel_rfl, fun w hSw => by (try dsimp only at hSw); go_simp⟩) ⟨blk_cell H6.rows.2.2.2.2.2.1 rfl, blk_cell (i := 1) H6.rows.2.2.2.2.1 rfl, blk_cell (i := 2) H6.rows.2.2.2.2.1 rfl⟩ ?_; try simp only [Act.put, List.getElem_toArray, List.getElem_cons_succ, List.getElem_cons_zero, List.setIfInBounds_toArray, List.set_cons_zero, List.set_cons_succ]
       refine wpAnyF_take (i := 13) (v := .bool false) rfl (by kernel_rfl) (by kernel_rfl) (by kernel_rfl) (by kernel_rfl) (fun _ _ _ h => h) (Or.inl ⟨by kernel_rfl, fun w hSw => by (try dsimp only at hSw); go_simp⟩) ⟨blk_cell H6.rows.2.2.2.2.2.1 rfl, blk_cell (i := 1) H6.rows.2.2.2.2.1 rfl, blk_cell (i := 2) H6.rows.2.2.2.2.1 rfl⟩ ?_; try simp only [Act.put, List.getElem_toArray, List.getElem_cons_succ, List.getElem_cons_zero, List.setIfInBounds_toArray, List.set_cons_zero, List.set_cons_succ]
       refine wpAnyF_take (i := 14) (v := .bool false) rfl (by kernel_rfl) (by kernel_rfl) (by kernel_rfl) (by kernel_rfl) (fun _ _ _ h => h) (Or.inl ⟨by kernel_rfl, fun w hSw => by (try dsimp only at hSw); go_simp⟩) ⟨blk_cell H6.rows.2.2.2.2.2.1 rfl, blk_cell (i := 1) H6.rows.2.2.2.2.1 rfl, blk_cell (i := 2) H6.rows.2.2.2.2.1 rfl⟩ ?_; try simp only [Act.put, List.getElem_toArray, List.getElem_cons_succ, List.getElem_cons_zero, List.setIfInBounds_toArray, List.set_cons_zero, List.set_cons_succ]
       refine wpAnyF_take (i := 15) (v := undef) rfl (by kernel_rfl) (by kernel_rfl) (by kernel_rfl) (by kernel_rfl) (fun _ _ _ h => h) (Or.inr ⟨by kernel_rfl, rfl⟩) ⟨blk_cell H6.rows.2.2.2.2.2.1 rfl, blk_cell (i := 1) H6.rows.2.2.2.2.1 rfl, blk_cell (i := 2) H6.rows.2.2.2.2.1 rfl⟩ ?_; try simp only [Act.put, List.getElem_toArray, List.getElem_cons_succ, List.getElem_cons_zero, List.setIfInBounds_toArray, List.set_cons_zero, List.set_cons_succ]
       refine wpAnyF_take (i := 16) (v := undef) rfl (by kernel_rfl) (by kernel_rfl) (by kernel_rfl) (by kernel_rfl) (fun _ _ _ h => h) (Or.inr ⟨by kernel_rfl, rfl⟩) ⟨blk_cell H6.rows.2.2.2.2.2.1 rfl, blk_cell (i := 1) H6.rows.2.2.2.2.1 rfl, blk_cell (i := 2) H6.rows.2.2.2.2.1 rfl⟩ ?_; try simp only [Act.put, List.getElem_toArray, List.getElem_cons_succ, List.getElem_cons_zero, List.setIfInBounds_toArray, List.set_cons_zero, List.set_cons_succ]
       refine wpAnyF_take (i := 17) (v := undef) rfl (by kernel_rfl) (by kernel_rfl) (by kernel_rfl) (by kernel_rfl) (fun _ _ _ h => h) (Or.inr ⟨by kernel_rfl, rfl⟩) ⟨blk_cell H6.rows.2.2.2.2.2.1 rfl, blk_cell (i := 1) H6.rows.2.2.2.2.1 rfl, blk_cell (i := 2) H6.rows.2.2.2.2.1 rfl⟩ ?_; try simp only [Act.put, List.getElem_toArray, List.getElem_cons_succ, List.getElem_cons_zero, List.setIfInBounds_toArray, List.set_cons_zero, List.set_cons_succ]
       refine wpAnyF_take (i := 18) (v := undef) rfl (by kernel_rfl) (by kernel_rfl) (by kernel_rfl) (by kernel_rfl) (fun _ _ _ h => h) (Or.inr ⟨by kernel_rfl, rfl⟩) ⟨blk_cell H6.rows.2.2.2.2.2.1 rfl, blk_cell (i := 1) H6.rows.2.2.2.2.1 rfl, blk_cell (i := 2) H6.rows.2.2.2.2.1 rfl⟩ ?_; try simp only [Act.put, List.getElem_toArray, List.getElem_cons_succ, List.getElem_cons_zero, List.setIfInBounds_toArray, List.set_cons_zero, List.set_cons_succ]
       refine wpAnyF_take (i := 19) (v := undef) rfl (by kernel_rfl) (by kernel_rfl) (by kernel_rfl) (by kernel_rfl) (fun _ _ _ h => h) (Or.inr ⟨by kernel_rfl, rfl⟩) ⟨blk_cell H6.rows.2.2.2.2.2.1 rfl, blk_cell (i := 1) H6.rows.2.2.2.2.1 rfl, blk_cell (i := 2) H6.rows.2.2.2.2.1 rfl⟩ ?_; try simp only [Act.put, List.getElem_toArray, List.getElem_cons_succ, List.getElem_cons_zero, List.setIfInBounds_toArray, List.set_cons_zero, List.set_cons_succ]
       refine wpAnyF_take (i := 20) (v := undef) rfl (by kernel_rfl) (by kernel_rfl) (by kernel_rfl) (by kernel_rfl) (fun _ _ _ h => h) (Or.inr ⟨by kernel_rfl, rfl⟩) ⟨blk_cell H6.rows.2.2.2.2.2.1 rfl, blk_cell (i := 1) H6.rows.2.2.2.2.1 rfl, blk_cell (i := 2) H6.rows.2.2.2.2.1 rfl⟩ ?_; try simp only [Act.put, List.getElem_toArray, List.getElem_cons_succ, List.getElem_cons_zero, List.setIfInBounds_toArray, List.set_cons_zero, List.set_cons_succ]
       refine wpAnyF_take (i := 21) (v := .bool false) rfl (by kernel_rfl) (by kernel_rfl) (by kernel_rfl) (by kernel_rfl) (fun _ _ _ h => h) (Or.inl ⟨by kernel_rfl, fun w hSw => by (try dsimp only at hSw); go_simp⟩) ⟨blk_cell H6.rows.2.2.2.2.2.1 rfl, blk_cell (i := 1) H6.rows.2.2.2.2.1 rfl, blk_cell (i := 2) H6.rows.2.2.2.2.1 rfl⟩ ?_; try simp only [Act.put, List.getElem_toArray, List.getElem_cons_succ, List.getElem_cons_zero, List.setIfInBounds_toArray, List.set_cons_zero, List.set_cons_succ]
       have y0 := blk_cell (i := 0) H6.rows.2.2.2.1 rfl
       have y0f := blk_free 0 H6.rows.2.2.2.1
       have HF := H6.put 3 rfl 0 (.slice sp n cap)
       have hMF := h'h.out.below HF.old
       refine wpAnyF_one (i := 22) (by kernel_rfl) rfl (fun K hK => ?_); go_simp
       refine hK.out _ _ (fun _ => ⟨blk_cell HF.rows.2.2.2.2.2.1 rfl, blk_cell (i := 1) HF.rows.2.2.2.2.1 rfl, blk_cell (i := 2) HF.rows.2.2.2.2.1 rfl⟩) ?_
       clear hK K y0 y0f H6
       try simp only [Act.put, List.getElem_toArray, List.getElem_cons_succ, List.getElem_cons_zero, List.setIfInBounds_toArray, List.set_cons_zero, List.set_cons_succ]
       refine wpAnyF_take (i := 23) (v := .bool false) rfl (by kernel_rfl) (by kernel_rfl) (by kernel_rfl) (by kernel_rfl) (fun _ _ _ h => h) (Or.inl ⟨by kernel_rfl, fun w hSw => by (try dsimp only at hSw); go_simp⟩) ⟨blk_cell HF.rows.2.2.2.2.2.1 rfl, blk_cell (i := 1) HF.rows.2.2.2.2.1 rfl, blk_cell (i := 2) HF.rows.2.2.2.2.1 rfl⟩ ?_; try simp only [Act.put, List.getElem_toArray, List.getElem_cons_succ, List.getElem_cons_zero, List.setIfInBounds_toArray, List.set_cons_zero, List.set_cons_succ]
       refine wpAnyF_done (by kernel_rfl) ?_ _
       generalize World.setCell _ _ _ = V9 at HF hMF ⊢
       have e9 : V9.cell? ⟨w.heap.size + 2, 0, none⟩ = some (.slice sp n cap) := blk_cell (i := 0) HF.rows.2.2.2.1 rfl
       have HF'h := Lib.hid HF
       have hMF'h := Lib.hid hMF
       clear HF hMF
       go_wp2
       refine bodyPost_ret (v := .tuple #[.agg #[.slice sp n cap], .bool false]) ?_ rfl ⟨sp, n, cap, rfl, HF'h.out.old, hMF'h.out⟩
       simp [results, Tryz.results33, go_sem, e9]
end Go.Proofs.YtogeohjeabbmaaaGreatDoor
