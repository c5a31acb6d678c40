/-
  Layer 27 (order): to go along a call.
-/
import Derived.Test.YtogeohjeabbmaaaDoorZa
import Derived.Test.YtogeohjeabbmaaaDoorY8
import Derived.Test.YtogeohjeabbmaaaDoorY1
set_option linter.unusedSimpArgs false
set_option linter.unusedVariables false
set_option maxRecDepth 100000
namespace Go.Proofs.YtogeohjeabbmaaaDoor
open Go.RowKit

def clOf (c : Cal) : Cl := ⟨c.op, c.key, c.a, c.b⟩
def takesB (m : Md) (ps : Ps) : Bool := decide (m.over = 0) || alikeB m.ans (tellA (clOf m.call) ps) m.prs (tellQ (clOf m.call) ps)
def passB (m : Md) (ps : Ps) : Bool := (decide (m.ans.err = 6) || decide (m.ans.err = 342)) && (decide (m.ans.val = 0) && !m.ans.done && decide (m.prs.length = 0)) && !hasP ps m.call.key && (decide (m.call.op = 2) || decide (m.call.op = 5))
def goesB (m : Md) (ps : Ps) : Bool := takesB m ps || passB m ps
def stepP (m : Md) (ps : Ps) : Ps := if takesB m ps then nextP (clOf m.call) ps else ps
def GoEnd (B0 lb : Nat) (sp : Option Addr) (n cap : Nat) (met : Nat → Bool) (k : Nat) (g : Bool) (ps' : Ps) (w : World) (e : Ending) (w' : World) : Prop :=
  ∃ mp mn mc, e = .returned (.bool g) ∧ Kept (fun b => b ≠ lb) w w' ∧ LnAt w' lb mp mn mc sp n cap (fun i => met i || (g && decide (i = k))) ∧ SlK w' 2 mp mn (prs ps') ∧ (∀ b, mp.map (·.block) = some b → B0 ≤ b ∧ b ≠ lb ∧ b < w'.heap.size)
/-- What stands behind the call of Do: two new boxes, the map and the answer. -/
structure DoneAt (W1 : World) (p q : Nat) (sp : Option Addr) (n cap : Nat) (a : An) (ps : Ps) (V : World) : Prop where
  old : Below W1.heap.size W1 V
  pl : W1.heap.size ≤ p
  ql : W1.heap.size ≤ q
  ne : q ≠ p
  map : V.heap[p]? = some (.cells #[.slice sp n cap] 28 (0, 0))
  ans : V.heap[q]? = some (.cells #[.int .i64 a.err, .int .u64 (a.val : Int), .bool a.done, .slice none 0 0] 34 (0, 0))
  row : RowP V W1.heap.size sp n cap ps
theorem RowP.set {V : World} {B : Nat} {sp : Option Addr} {n cap : Nat} {ps : Ps} (h : RowP V B sp n cap ps) {b : Nat} {cs : Array Value} {t : TypeId} (hb : V.heap[b]? = some (.cells cs t (0, 0))) (ht : t ≠ 72) (new : Array Value) : RowP (V.setRow b new) B sp n cap ps := by
  refine h.keep fun g e hg => setRow_other _ _ _ _ ?_
  rcases h.row with ⟨h0, _⟩ | ⟨g', cur, e', _, hg', _, _⟩
  · rw [h0] at e; cases e
  · rintro rfl
    rw [e'] at e
    cases e
    rw [hb] at hg'
    simp at hg'
    exact ht hg'.2
section
variable {P : Program} {ops : Array Oper} {Q : Exit → Act → World → Prop} {md : Region.Mode} {S : World → Prop} {L : Nat}
/-- Three are ready: each may be first. -/
theorem wpAnyF_three {i j m : Nat} {o o' o2 : Oper} {fuel : Nat} {listed : Array Bool} {a : Act} {w : World} (hr : Region.ready md ops listed = [i, j, m]) (ho : ops[i]? = some o) (ho' : ops[j]? = some o') (ho2 : ops[m]? = some o2)
    (h : ∀ K' : Act → World → Prop, Shut (∀ a w, (i ≠ L → S w) → wpAnyF P md ops Q S L fuel (listed.setIfInBounds i true) a w → K' a w) → if Region.wanted o (yielded ops a.tmps) = true then Oper.wp P o a w K' Q else K' (a.put o.dst undef) w)
    (h' : ∀ K' : Act → World → Prop, Shut (∀ a w, (j ≠ L → S w) → wpAnyF P md ops Q S L fuel (listed.setIfInBounds j true) a w → K' a w) → if Region.wanted o' (yielded ops a.tmps) = true then Oper.wp P o' a w K' Q else K' (a.put o'.dst undef) w)
    (h2 : ∀ K' : Act → World → Prop, Shut (∀ a w, (m ≠ L → S w) → wpAnyF P md ops Q S L fuel (listed.setIfInBounds m true) a w → K' a w) → if Region.wanted o2 (yielded ops a.tmps) = true then Oper.wp P o2 a w K' Q else K' (a.put o2.dst undef) w) :
    wpAnyF P md ops Q S L (fuel + 1) listed a w :=
  ⟨fun h0 => absurd (hr ▸ h0) (by simp), fun k hk => by
    rw [hr] at hk
    rcases List.mem_cons.1 hk with rfl | hk
    · exact wpOp_step ho (fun K' hK => h K' (fun a w hS hW => hK a w ⟨hS, hW⟩))
    · rcases List.mem_cons.1 hk with rfl | hk
      · exact wpOp_step ho' (fun K' hK => h' K' (fun a w hS hW => hK a w ⟨hS, hW⟩))
      · have : k = m := by simpa using hk
        subst this
        exact wpOp_step ho2 (fun K' hK => h2 K' (fun a w hS hW => hK a w ⟨hS, hW⟩))⟩
end
theorem SlK.off {W : World} {lb k : Nat} {sp : Option Addr} {n : Nat} {vals : List Value} (h : SlK W k sp n vals) (hne : ∀ b, sp.map (·.block) = some b → b ≠ lb) (i : Nat) (v : Value) : SlK (W.setCell ⟨lb, i, none⟩ v) k sp n vals :=
  h.keep fun b o _ hb ho => (Below.heap_setCell _ _ _ _ (hne b hb)).trans ho
theorem RowP.spot {V : World} {B : Nat} {sp : Option Addr} {n cap : Nat} {ps : Ps} (h : RowP V B sp n cap ps) : ∀ g, sp.map (·.block) = some g → g < V.heap.size := by
  intro g e
  rcases h.row with ⟨h0, _⟩ | ⟨g', cur, e', _, hg, _, _⟩
  · rw [h0] at e; cases e
  · rw [e'] at e
    cases e
    exact lt_of_heap hg
theorem RowP.start {V : World} {B : Nat} {sp : Option Addr} {n cap : Nat} {ps : Ps} (h : RowP V B sp n cap ps) : ∀ g, sp.map (·.block) = some g → B ≤ g := by
  intro g e
  rcases h.row with ⟨h0, _⟩ | ⟨g', cur, e', hb, _⟩
  · rw [h0] at e; cases e
  · rw [e'] at e; cases e; exact hb
theorem DoneAt.next {W1 : World} {p q : Nat} {sp : Option Addr} {n cap : Nat} {a : An} {ps : Ps} {V V' : World} (h : DoneAt W1 p q sp n cap a ps V) (hb : Below V.heap.size V V') : DoneAt W1 p q sp n cap a ps V' :=
  ⟨below_next h.old hb, h.pl, h.ql, h.ne, heap_below hb h.map (lt_of_heap h.map), heap_below hb h.ans (lt_of_heap h.ans), h.row.below hb⟩
section
variable {W W' : World} {lb : Nat} {mp : Option Addr} {mn mc : Nat} {sp : Option Addr} {n cap : Nat} {met : Nat → Bool}
theorem LnAt.put0 (h : LnAt W lb mp mn mc sp n cap met) (a : Option Addr) (b c : Nat) : LnAt (W.setCell ⟨lb, 0, none⟩ (.slice a b c)) lb a b c sp n cap met := blk_set _ h
theorem lnL_set (k : Nat) (hk : k < 80) : (lnL mp mn mc sp n cap met).toArray.setIfInBounds (2 + k) (.bool true) = (lnL mp mn mc sp n cap (fun i => met i || decide (i = k))).toArray := by
  rw [List.setIfInBounds_toArray, Nat.add_comm]
  congr 1
  unfold lnL
  rw [List.set_cons_succ, List.set_cons_succ]
  congr 2
  apply List.ext_getElem?
  intro i
  rw [List.getElem?_set]
  by_cases hi : i < 80
  · by_cases e : k = i
    · subst e; simp [hi]
    · have e' : ¬ i = k := fun h => e h.symm
      simp [hi, e, e']
  · have : k ≠ i := by omega
    simp [hi, this]
theorem LnAt.meet (h : LnAt W lb mp mn mc sp n cap met) {k : Nat} (hk : k < 80) : LnAt (W.setCell ⟨lb, 2 + k, none⟩ (.bool true)) lb mp mn mc sp n cap (fun i => met i || decide (i = k)) := by
  have := blk_set (i := 2 + k) (.bool true) h
  rw [lnL_set k hk] at this
  exact this
end
set_option maxHeartbeats 8000000 in
theorem goes_any (B0 lb : Nat) (mp : Option Addr) (mn mc : Nat) (ps : Ps) (sp : Option Addr) (n cap : Nat) (l : List Mm) (met : Nat → Bool) (k : Nat) (w : World) (hL : LnAt w lb mp mn mc sp n cap met) (h : MsIn w sp n l) (hk : k < n) (h80 : n ≤ 80)
    (hM : SlK w 2 mp mn (prs ps)) (hup : upB ps = true) (hn : mn ≤ 4096) (ho : isOp (clOf (nthM l k).md.call) = true) (ho6 : (nthM l k).md.call.op ≠ 6) (hB0 : B0 ≤ w.heap.size) (hne : ∀ b, mp.map (·.block) = some b → B0 ≤ b ∧ b ≠ lb ∧ b < w.heap.size) :
    Calls Tryd.prog 61 #[.pointer (some ⟨lb, 0, none⟩), .int .i64 (k : Int)] w (GoEnd B0 lb sp n cap met k (goesB (nthM l k).md ps) (stepP (nthM l k).md ps) w) := by
  have hlen := h.len
  have hkl : k < l.length := by omega
  obtain ⟨b, off, rfl⟩ := slk_some h.sl (by omega)
  obtain ⟨m, hm⟩ : ∃ m, m = nthM l k := ⟨_, rfl⟩
  have hIn := h.each _ (nthM_mem hkl)
  rw [← hm] at ho ho6 hIn ⊢
  have hcl := fun (i : Nat) (v : Value) (hi : i < 13) (hv : (mmL m)[i]? = some v) => h.cells hkl (i := i) (v := v) hi (by rw [← hm]; exact hv)
  have hB1 := (Below.refl w.heap.size w).alloc (Nat.le_refl _) (.cells (mmA m) 39)
  have H1 := (Hs.nil w).new (mmA m) 39
  clear hm
  obtain ⟨G, hG⟩ : ∃ G, G = goesB m.md ps := ⟨_, rfl⟩
  obtain ⟨ps', hps⟩ : ∃ ps', ps' = stepP m.md ps := ⟨_, rfl⟩
  rw [← hG, ← hps]
  obtain ⟨wa, hwa⟩ : ∃ wa, wa = tellA (clOf m.md.call) ps := ⟨_, rfl⟩
  obtain ⟨ps1, hps1⟩ : ∃ ps1, ps1 = nextP (clOf m.md.call) ps := ⟨_, rfl⟩
  have DO := fun W (hb : Below w.heap.size w W) => mDo_yes mp mn mc ps (clOf m.md.call) W (hM.below hb) hup hn ho
  rw [← hwa, ← hps1, show decide ((clOf m.md.call).op = 6) = false from decide_eq_false ho6] at DO
  obtain ⟨al, hal⟩ : ∃ al, al = alikeB m.md.ans wa m.md.prs [] := ⟨_, rfl⟩
  have AL := fun W (hb : Below w.heap.size w W) => malike_any m.md.ans wa m.pp none m.pn 0 m.pc 0 m.md.prs [] W (hIn.prs.below hb) (SlK.nil _ _ _)
  rw [← hal] at AL
  obtain ⟨ee, hee⟩ : ∃ ee, ee = (decide (m.md.ans.val = 0) && !m.md.ans.done && decide (m.md.prs.length = 0)) := ⟨_, rfl⟩
  have EM : ∀ W, Calls Tryd.prog 57 #[.agg #[.int .i64 0, .int .u64 (m.md.ans.val : Int), .bool m.md.ans.done, .slice m.pp m.pn m.pc]] W fun e w' => e = .returned (.bool ee) ∧ Below W.heap.size W w' := fun W => by
    obtain ⟨x, hx⟩ : ∃ x : Mm, x = ⟨⟨m.md.goer, m.md.call, ⟨0, m.md.ans.val, m.md.ans.done⟩, m.md.prs, m.md.began, m.md.at', m.md.over, m.md.told⟩, m.pp, m.pn, m.pc, m.tp, m.tn, m.tc⟩ := ⟨_, rfl⟩
    have hem : emptyM x.md = ee := by rw [hx, hee]; unfold emptyM; simp
    have := empty_any x W (by rw [hx]; exact hIn.pn)
    rw [hem] at this
    rw [hx] at this
    exact this
  obtain ⟨hs, hhs⟩ : ∃ hs, hs = hasP ps m.md.call.key := ⟨_, rfl⟩
  obtain ⟨gv, hgv⟩ : ∃ gv, gv = (getS ps m.md.call.key).getD 0 := ⟨_, rfl⟩
  have htk : takesB m.md ps = (decide (m.md.over = 0) || al) := by unfold takesB; rw [← hwa, show tellQ (clOf m.md.call) ps = [] from if_neg ho6, ← hal]
  replace hG : G = ((decide (m.md.over = 0) || al) || ((decide (m.md.ans.err = 6) || decide (m.md.ans.err = 342)) && ee && !hs && (decide (m.md.call.op = 2) || decide (m.md.call.op = 5)))) := by rw [hG, goesB, htk, passB, ← hee, ← hhs]
  replace hps : ps' = if (decide (m.md.over = 0) || al) = true then ps1 else ps := by rw [hps, stepP, htk, ← hps1]
  obtain ⟨er, va, dn⟩ := wa
  have GET := fun W (hb : Below w.heap.size w W) => mGet_yes mp mn mc ps m.md.call.key W (hM.below hb) hup hn
  rw [← hgv, ← hhs] at GET
  clear htk hgv hhs hee hal hwa hps1
  obtain ⟨W1, hW1⟩ : ∃ W1, W1 = w.alloc (.cells (mmA m) 39) := ⟨_, rfl⟩
  rw [← hW1] at hB1 H1
  have i1 : (k : Int) < (n : Int) := by omega
  have i2 : (0 : Int) ≤ (k : Int) := by omega
  have y1 := hL.c1
  obtain ⟨⟨goerm, ⟨opm, kym, cam, cbm⟩, ⟨errm, valm, donem⟩, prsm, beganm, atm, overm, toldm⟩, ppm, pnm, pcm, tpm, tnm, tcm⟩ := m
  have e0 := hcl 0 _ (by omega) rfl
  have e1 := hcl 1 _ (by omega) rfl
  have e2 := hcl 2 _ (by omega) rfl
  have e3 := hcl 3 _ (by omega) rfl
  have e4 := hcl 4 _ (by omega) rfl
  have e5 := hcl 5 _ (by omega) rfl
  have e6 := hcl 6 _ (by omega) rfl
  have e7 := hcl 7 _ (by omega) rfl
  have e8 := hcl 8 _ (by omega) rfl
  have e9 := hcl 9 _ (by omega) rfl
  have ea := hcl 10 _ (by omega) rfl
  have eb := hcl 11 _ (by omega) rfl
  have ec := hcl 12 _ (by omega) rfl
  simp only [Nat.add_zero] at e0
  simp only [mmA] at *
  clear hcl
  have hL'h := Lib.hid hL
  have h'h := Lib.hid h
  have ho6'h := Lib.hid ho6
  have AL'h := Lib.hid AL
  have EM'h := Lib.hid EM
  have hk'h := Lib.hid hk
  have h80'h := Lib.hid h80
  have hM'h := Lib.hid hM
  have hup'h := Lib.hid hup
  have hn'h := Lib.hid hn
  have ho'h := Lib.hid ho
  have hB0'h := Lib.hid hB0
  have hne'h := Lib.hid hne
  have hlen'h := Lib.hid hlen
  have hkl'h := Lib.hid hkl
  have hIn'h := Lib.hid hIn
  have hG'h := Lib.hid hG
  have hps'h := Lib.hid hps
  have DO'h := Lib.hid DO
  have GET'h := Lib.hid GET
  have H1'h := Lib.hid H1
  have hB1'h := Lib.hid hB1
  clear hL h ho6 AL EM hk h80 hM hup hn ho hB0 hne hlen hkl hIn hG hps DO GET H1 hB1
  go_enter Tryd.func61, Tryd.ntmps61
  go_upto_region 2 with fail
  rw [← hW1]
  clear hW1 e0 e1 e2 e3 e4 e5 e6 e7 e8 e9 ea eb ec y1 i1 i2
  have y0 := (hL'h.out.below hB1'h.out).c0
  obtain ⟨a0, a1, a2, a3, a4, a5, a6, a7, a8, a9, aa, ab, ac⟩ := cells13 H1'h.out.rows.1
  go_cut [6, 7] from 20 (fun v6 v7 wr => ∃ p q s1 n1 c1, v6 = .pointer (some ⟨p, 0, none⟩) ∧ v7 = .pointer (some ⟨q, 0, none⟩) ∧ DoneAt W1 p q s1 n1 c1 ⟨er, va, dn⟩ ps1 wr)
  case first =>
    refine wp_region_heldF (fun w' => Below W1.heap.size W1 w') 99 (by kernel_rfl) ?_
    have R := (Below.refl W1.heap.size W1).drew
    have bt := lt_of_heap H1'h.out.rows.1
    have bl := lt_of_cell y0
    have hm1 := H1'h.out.rows.1
    generalize W1.drew = V0 at R ⊢
    refine wpAnyF_take (i := 0) (v := .pointer (some ⟨lb, 0, none⟩)) rfl (by kernel_rfl) (by kernel_rfl) (by kernel_rfl) (by kernel_rfl) (fun _ _ _ h => h) (Or.inl ⟨by kernel_rfl, fun w hSw => by (try dsimp only at hSw); go_simp⟩) R ?_; try simp only [Act.put, List.getElem_toArray, List.getElem_cons_succ, List.getElem_cons_zero, List.setIfInBounds_toArray, List.set_cons_zero, List.set_cons_succ]
    refine wpAnyF_take (i := 1) (v := .pointer (some ⟨lb, 0, none⟩)) rfl (by kernel_rfl) (by kernel_rfl) (by kernel_rfl) (by kernel_rfl) (fun _ _ _ h => h) (Or.inl ⟨by kernel_rfl, fun w hSw => by (try dsimp only at hSw); go_simp⟩) R ?_; try simp only [Act.put, List.getElem_toArray, List.getElem_cons_succ, List.getElem_cons_zero, List.setIfInBounds_toArray, List.set_cons_zero, List.set_cons_succ]
    refine wpAnyF_take (i := 2) (v := .pointer (some ⟨lb, 0, none⟩)) rfl (by kernel_rfl) (by kernel_rfl) (by kernel_rfl) (by kernel_rfl) (fun _ _ _ h => h) (Or.inl ⟨by kernel_rfl, fun w hSw => by (try dsimp only at hSw); go_simp⟩) R ?_; try simp only [Act.put, List.getElem_toArray, List.getElem_cons_succ, List.getElem_cons_zero, List.setIfInBounds_toArray, List.set_cons_zero, List.set_cons_succ]
    refine wpAnyF_take (i := 3) (v := .agg #[.slice mp mn mc]) rfl (by kernel_rfl) (by kernel_rfl) (by kernel_rfl) (by kernel_rfl) (fun _ _ _ h => h) (Or.inl ⟨by kernel_rfl, fun w hSw => by have hcc := (hSw.cell bl).trans y0; (try dsimp only at hSw); go_simp⟩) R ?_; try simp only [Act.put, List.getElem_toArray, List.getElem_cons_succ, List.getElem_cons_zero, List.setIfInBounds_toArray, List.set_cons_zero, List.set_cons_succ]
    refine wpAnyF_take (i := 4) (v := .pointer (some ⟨w.heap.size, 1, none⟩)) rfl (by kernel_rfl) (by kernel_rfl) (by kernel_rfl) (by kernel_rfl) (fun _ _ _ h => h) (Or.inl ⟨by kernel_rfl, fun w hSw => by (try dsimp only at hSw); go_simp⟩) R ?_; try simp only [Act.put, List.getElem_toArray, List.getElem_cons_succ, List.getElem_cons_zero, List.setIfInBounds_toArray, List.set_cons_zero, List.set_cons_succ]
    refine wpAnyF_take (i := 5) (v := .agg #[.int .i64 opm, .int .u64 (kym : Int), .int .u64 (cam : Int), .int .u64 (cbm : Int)]) rfl (by kernel_rfl) (by kernel_rfl) (by kernel_rfl) (by kernel_rfl) (fun _ _ _ h => h) (Or.inl ⟨by kernel_rfl, fun w hSw => by have h1 := (hSw.cell bt).trans a1; have h2 := (hSw.cell bt).trans a2; have h3 := (hSw.cell bt).trans a3; have h4 := (hSw.cell bt).trans a4; clear a0 a1 a2 a3 a4 a5 a6 a7 a8 a9 aa ab ac y0; (try dsimp only at hSw); go_simp⟩) R ?_; try simp only [Act.put, List.getElem_toArray, List.getElem_cons_succ, List.getElem_cons_zero, List.setIfInBounds_toArray, List.set_cons_zero, List.set_cons_succ]
    clear bt bl hm1 y0 a0 a1 a2 a3 a4 a5 a6 a7 a8 a9 aa ab ac
    refine wpAnyF_three (i := 6) (j := 11) (m := 12) (by kernel_rfl) rfl rfl rfl (fun K hK => ?_) (fun K hK => ?_) (fun K hK => ?_)
    ·
      go_simp
      refine (DO'h.out V0 (below_next hB1'h.out R)).mono ?_
      rintro e V1 ⟨s1, n1, c1, sq, nq, cq, rfl, hb, hR, -, -, -, -, hx⟩
      obtain ⟨rfl, rfl, rfl⟩ := hx rfl
      dsimp only [anA]
      replace hR := hR.low R.size
      replace R := below_next R hb
      clear hb hx
      refine hK.out _ _ (fun _ => R) ?_; clear hK K; try simp only [Act.put, List.getElem_toArray, List.getElem_cons_succ, List.getElem_cons_zero, List.setIfInBounds_toArray, List.set_cons_zero, List.set_cons_succ]
      refine wpAnyF_take (i := 7) (v := .tuple #[.agg #[.slice s1 n1 c1], .agg #[.int .i64 er, .int .u64 (va : Int), .bool dn, .slice none 0 0], .int .i64 0]) rfl (by kernel_rfl) (by kernel_rfl) (by kernel_rfl) (by kernel_rfl) (fun _ _ _ h => h) (Or.inl ⟨by kernel_rfl, fun w hSw => by (try dsimp only at hSw); go_simp⟩) R ?_; try simp only [Act.put, List.getElem_toArray, List.getElem_cons_succ, List.getElem_cons_zero, List.setIfInBounds_toArray, List.set_cons_zero, List.set_cons_succ]
      refine wpAnyF_take (i := 8) (v := .agg #[.slice s1 n1 c1]) rfl (by kernel_rfl) (by kernel_rfl) (by kernel_rfl) (by kernel_rfl) (fun _ _ _ h => h) (Or.inl ⟨by kernel_rfl, fun w hSw => by (try dsimp only at hSw); go_simp⟩) R ?_; try simp only [Act.put, List.getElem_toArray, List.getElem_cons_succ, List.getElem_cons_zero, List.setIfInBounds_toArray, List.set_cons_zero, List.set_cons_succ]
      refine wpAnyF_take (i := 9) (v := .agg #[.int .i64 er, .int .u64 (va : Int), .bool dn, .slice none 0 0]) rfl (by kernel_rfl) (by kernel_rfl) (by kernel_rfl) (by kernel_rfl) (fun _ _ _ h => h) (Or.inl ⟨by kernel_rfl, fun w hSw => by (try dsimp only at hSw); go_simp⟩) R ?_; try simp only [Act.put, List.getElem_toArray, List.getElem_cons_succ, List.getElem_cons_zero, List.setIfInBounds_toArray, List.set_cons_zero, List.set_cons_succ]
      refine wpAnyF_take (i := 10) (v := .int .i64 0) rfl (by kernel_rfl) (by kernel_rfl) (by kernel_rfl) (by kernel_rfl) (fun _ _ _ h => h) (Or.inl ⟨by kernel_rfl, fun w hSw => by (try dsimp only at hSw); go_simp⟩) R ?_; try simp only [Act.put, List.getElem_toArray, List.getElem_cons_succ, List.getElem_cons_zero, List.setIfInBounds_toArray, List.set_cons_zero, List.set_cons_succ]
      refine wpAnyF_two (i := 11) (j := 12) (by kernel_rfl) rfl rfl (fun K hK => ?_) (fun K hK => ?_)
      ·
        go_simp
        have hb := (Below.refl V1.heap.size V1).alloc (Nat.le_refl _) (.cells #[.slice none 0 0] 28)
        have hA := World.alloc_heap_new V1 (.cells #[.slice none 0 0] 28)
        have lhA := R.size
        replace R := below_next R hb
        replace hR := hR.below hb
        clear hb
        refine hK.out _ _ (fun _ => R) ?_; clear hK K; try simp only [Act.put, List.getElem_toArray, List.getElem_cons_succ, List.getElem_cons_zero, List.setIfInBounds_toArray, List.set_cons_zero, List.set_cons_succ]
        change wpAnyF _ _ _ _ _ _ _ _ _ (V1.alloc (.cells #[.slice none 0 0] 28))
        generalize V1.alloc _ = V2 at R hA hR ⊢
        generalize V1.heap.size = p at hA lhA ⊢
        refine wpAnyF_one (i := 12) (by kernel_rfl) rfl (fun K hK => ?_)
        go_simp
        have hb := (Below.refl V2.heap.size V2).alloc (Nat.le_refl _) (.cells #[.int .i64 0, .int .u64 0, .bool false, .slice none 0 0] 34)
        have hB := World.alloc_heap_new V2 (.cells #[.int .i64 0, .int .u64 0, .bool false, .slice none 0 0] 34)
        have lhB := R.size
        replace R := below_next R hb
        replace hA := heap_below hb hA (lt_of_heap hA)
        replace hR := hR.below hb
        clear hb
        refine hK.out _ _ (fun _ => R) ?_; clear hK K; try simp only [Act.put, List.getElem_toArray, List.getElem_cons_succ, List.getElem_cons_zero, List.setIfInBounds_toArray, List.set_cons_zero, List.set_cons_succ]
        change wpAnyF _ _ _ _ _ _ _ _ _ (V2.alloc (.cells #[.int .i64 0, .int .u64 0, .bool false, .slice none 0 0] 34))
        generalize V2.alloc _ = V3 at R hB hA hR ⊢
        generalize V2.heap.size = q at hB lhB ⊢
        have hAn : q ≠ p := by
          rintro rfl
          rw [hA] at hB
          simp at hB
        refine wpAnyF_one (i := 13) (by kernel_rfl) rfl (fun K hK => ?_)
        refine step_store_row rfl _ _ _ rfl p #[.slice s1 n1 c1] rfl rfl 28 _ hA info_map rfl (map_one _ _ _) ?_
        replace R := below_setRow' R lhA #[.slice s1 n1 c1]
        replace hR := hR.set hA (by decide) #[.slice s1 n1 c1]
        replace hB := (setRow_other V3 p q #[.slice s1 n1 c1] hAn).trans hB
        replace hA : (V3.setRow p #[.slice s1 n1 c1]).heap[p]? = some (.cells #[.slice s1 n1 c1] 28 (0, 0)) := setRow_heap _ _ _ _ _ _ hA
        refine hK.out _ _ (fun _ => R) ?_; clear hK K; try simp only [Act.put, List.getElem_toArray, List.getElem_cons_succ, List.getElem_cons_zero, List.setIfInBounds_toArray, List.set_cons_zero, List.set_cons_succ]
        generalize World.setRow _ _ _ = V4 at R hA hB hR ⊢
        refine wpAnyF_one (i := 14) (by kernel_rfl) rfl (fun K hK => ?_)
        refine step_store_row rfl _ _ _ rfl q #[.int .i64 er, .int .u64 (va : Int), .bool dn, .slice none 0 0] rfl rfl 34 _ hB info_an rfl (anA_one ⟨er, va, dn⟩ none 0 0) ?_
        replace R := below_setRow' R lhB #[.int .i64 er, .int .u64 (va : Int), .bool dn, .slice none 0 0]
        replace hR := hR.set hB (by decide) #[.int .i64 er, .int .u64 (va : Int), .bool dn, .slice none 0 0]
        replace hA := (setRow_other V4 q p #[.int .i64 er, .int .u64 (va : Int), .bool dn, .slice none 0 0] (fun h => hAn h.symm)).trans hA
        replace hB : (V4.setRow q #[.int .i64 er, .int .u64 (va : Int), .bool dn, .slice none 0 0]).heap[q]? = some (.cells #[.int .i64 er, .int .u64 (va : Int), .bool dn, .slice none 0 0] 34 (0, 0)) := setRow_heap _ _ _ _ _ _ hB
        refine hK.out _ _ (fun _ => R) ?_; clear hK K; try simp only [Act.put, List.getElem_toArray, List.getElem_cons_succ, List.getElem_cons_zero, List.setIfInBounds_toArray, List.set_cons_zero, List.set_cons_succ]
        generalize World.setRow _ _ _ = V5 at R hA hB hR ⊢
        refine wpAnyF_take (i := 15) (v := .int .i64 0) rfl (by kernel_rfl) (by kernel_rfl) (by kernel_rfl) (by kernel_rfl) (fun _ _ _ h => h) (Or.inl ⟨by kernel_rfl, fun w hSw => by (try dsimp only at hSw); go_simp⟩) R ?_; try simp only [Act.put, List.getElem_toArray, List.getElem_cons_succ, List.getElem_cons_zero, List.setIfInBounds_toArray, List.set_cons_zero, List.set_cons_succ]
        refine wpAnyF_done (by kernel_rfl) ?_ _
        have hfin : DoneAt W1 p q s1 n1 c1 ⟨er, va, dn⟩ ps1 V5 := ⟨R, lhA, lhB, hAn, hA, hB, hR⟩
        clear hAn hA hB hR R lhA lhB
        have hfin'h := Lib.hid hfin
        clear hfin
        go_wp2
        go_meet
        exact ⟨p, q, s1, n1, c1, rfl, rfl, hfin'h.out⟩
      ·
        go_simp
        have hb := (Below.refl V1.heap.size V1).alloc (Nat.le_refl _) (.cells #[.int .i64 0, .int .u64 0, .bool false, .slice none 0 0] 34)
        have hB := World.alloc_heap_new V1 (.cells #[.int .i64 0, .int .u64 0, .bool false, .slice none 0 0] 34)
        have lhB := R.size
        replace R := below_next R hb
        replace hR := hR.below hb
        clear hb
        refine hK.out _ _ (fun _ => R) ?_; clear hK K; try simp only [Act.put, List.getElem_toArray, List.getElem_cons_succ, List.getElem_cons_zero, List.setIfInBounds_toArray, List.set_cons_zero, List.set_cons_succ]
        change wpAnyF _ _ _ _ _ _ _ _ _ (V1.alloc (.cells #[.int .i64 0, .int .u64 0, .bool false, .slice none 0 0] 34))
        generalize V1.alloc _ = V2 at R hB hR ⊢
        generalize V1.heap.size = q at hB lhB ⊢
        refine wpAnyF_one (i := 11) (by kernel_rfl) rfl (fun K hK => ?_)
        go_simp
        have hb := (Below.refl V2.heap.size V2).alloc (Nat.le_refl _) (.cells #[.slice none 0 0] 28)
        have hA := World.alloc_heap_new V2 (.cells #[.slice none 0 0] 28)
        have lhA := R.size
        replace R := below_next R hb
        replace hB := heap_below hb hB (lt_of_heap hB)
        replace hR := hR.below hb
        clear hb
        refine hK.out _ _ (fun _ => R) ?_; clear hK K; try simp only [Act.put, List.getElem_toArray, List.getElem_cons_succ, List.getElem_cons_zero, List.setIfInBounds_toArray, List.set_cons_zero, List.set_cons_succ]
        change wpAnyF _ _ _ _ _ _ _ _ _ (V2.alloc (.cells #[.slice none 0 0] 28))
        generalize V2.alloc _ = V3 at R hA hB hR ⊢
        generalize V2.heap.size = p at hA lhA ⊢
        have hAn : q ≠ p := by
          rintro rfl
          rw [hA] at hB
          simp at hB
        refine wpAnyF_one (i := 13) (by kernel_rfl) rfl (fun K hK => ?_)
        refine step_store_row rfl _ _ _ rfl p #[.slice s1 n1 c1] rfl rfl 28 _ hA info_map rfl (map_one _ _ _) ?_
        replace R := below_setRow' R lhA #[.slice s1 n1 c1]
        replace hR := hR.set hA (by decide) #[.slice s1 n1 c1]
        replace hB := (setRow_other V3 p q #[.slice s1 n1 c1] hAn).trans hB
        replace hA : (V3.setRow p #[.slice s1 n1 c1]).heap[p]? = some (.cells #[.slice s1 n1 c1] 28 (0, 0)) := setRow_heap _ _ _ _ _ _ hA
        refine hK.out _ _ (fun _ => R) ?_; clear hK K; try simp only [Act.put, List.getElem_toArray, List.getElem_cons_succ, List.getElem_cons_zero, List.setIfInBounds_toArray, List.set_cons_zero, List.set_cons_succ]
        generalize World.setRow _ _ _ = V4 at R hA hB hR ⊢
        refine wpAnyF_one (i := 14) (by kernel_rfl) rfl (fun K hK => ?_)
        refine step_store_row rfl _ _ _ rfl q #[.int .i64 er, .int .u64 (va : Int), .bool dn, .slice none 0 0] rfl rfl 34 _ hB info_an rfl (anA_one ⟨er, va, dn⟩ none 0 0) ?_
        replace R := below_setRow' R lhB #[.int .i64 er, .int .u64 (va : Int), .bool dn, .slice none 0 0]
        replace hR := hR.set hB (by decide) #[.int .i64 er, .int .u64 (va : Int), .bool dn, .slice none 0 0]
        replace hA := (setRow_other V4 q p #[.int .i64 er, .int .u64 (va : Int), .bool dn, .slice none 0 0] (fun h => hAn h.symm)).trans hA
        replace hB : (V4.setRow q #[.int .i64 er, .int .u64 (va : Int), .bool dn, .slice none 0 0]).heap[q]? = some (.cells #[.int .i64 er, .int .u64 (va : Int), .bool dn, .slice none 0 0] 34 (0, 0)) := setRow_heap _ _ _ _ _ _ hB
        refine hK.out _ _ (fun _ => R) ?_; clear hK K; try simp only [Act.put, List.getElem_toArray, List.getElem_cons_succ, List.getElem_cons_zero, List.setIfInBounds_toArray, List.set_cons_zero, List.set_cons_succ]
        generalize World.setRow _ _ _ = V5 at R hA hB hR ⊢
        refine wpAnyF_take (i := 15) (v := .int .i64 0) rfl (by kernel_rfl) (by kernel_rfl) (by kernel_rfl) (by kernel_rfl) (fun _ _ _ h => h) (Or.inl ⟨by kernel_rfl, fun w hSw => by (try dsimp only at hSw); go_simp⟩) R ?_; try simp only [Act.put, List.getElem_toArray, List.getElem_cons_succ, List.getElem_cons_zero, List.setIfInBounds_toArray, List.set_cons_zero, List.set_cons_succ]
        refine wpAnyF_done (by kernel_rfl) ?_ _
        have hfin : DoneAt W1 p q s1 n1 c1 ⟨er, va, dn⟩ ps1 V5 := ⟨R, lhA, lhB, hAn, hA, hB, hR⟩
        clear hAn hA hB hR R lhA lhB
        have hfin'h := Lib.hid hfin
        clear hfin
        go_wp2
        go_meet
        exact ⟨p, q, s1, n1, c1, rfl, rfl, hfin'h.out⟩
    ·
      go_simp
      have hb := (Below.refl V0.heap.size V0).alloc (Nat.le_refl _) (.cells #[.slice none 0 0] 28)
      have hA := World.alloc_heap_new V0 (.cells #[.slice none 0 0] 28)
      have lhA := R.size
      replace R := below_next R hb
      clear hb
      refine hK.out _ _ (fun _ => R) ?_; clear hK K; try simp only [Act.put, List.getElem_toArray, List.getElem_cons_succ, List.getElem_cons_zero, List.setIfInBounds_toArray, List.set_cons_zero, List.set_cons_succ]
      change wpAnyF _ _ _ _ _ _ _ _ _ (V0.alloc (.cells #[.slice none 0 0] 28))
      generalize V0.alloc _ = V1 at R hA ⊢
      generalize V0.heap.size = p at hA lhA ⊢
      refine wpAnyF_two (i := 6) (j := 12) (by kernel_rfl) rfl rfl (fun K hK => ?_) (fun K hK => ?_)
      ·
        go_simp
        refine (DO'h.out V1 (below_next hB1'h.out R)).mono ?_
        rintro e V2 ⟨s1, n1, c1, sq, nq, cq, rfl, hb, hR, -, -, -, -, hx⟩
        obtain ⟨rfl, rfl, rfl⟩ := hx rfl
        dsimp only [anA]
        replace hR := hR.low R.size
        replace R := below_next R hb
        replace hA := heap_below hb hA (lt_of_heap hA)
        clear hb hx
        refine hK.out _ _ (fun _ => R) ?_; clear hK K; try simp only [Act.put, List.getElem_toArray, List.getElem_cons_succ, List.getElem_cons_zero, List.setIfInBounds_toArray, List.set_cons_zero, List.set_cons_succ]
        refine wpAnyF_take (i := 7) (v := .tuple #[.agg #[.slice s1 n1 c1], .agg #[.int .i64 er, .int .u64 (va : Int), .bool dn, .slice none 0 0], .int .i64 0]) rfl (by kernel_rfl) (by kernel_rfl) (by kernel_rfl) (by kernel_rfl) (fun _ _ _ h => h) (Or.inl ⟨by kernel_rfl, fun w hSw => by (try dsimp only at hSw); go_simp⟩) R ?_; try simp only [Act.put, List.getElem_toArray, List.getElem_cons_succ, List.getElem_cons_zero, List.setIfInBounds_toArray, List.set_cons_zero, List.set_cons_succ]
        refine wpAnyF_take (i := 8) (v := .agg #[.slice s1 n1 c1]) rfl (by kernel_rfl) (by kernel_rfl) (by kernel_rfl) (by kernel_rfl) (fun _ _ _ h => h) (Or.inl ⟨by kernel_rfl, fun w hSw => by (try dsimp only at hSw); go_simp⟩) R ?_; try simp only [Act.put, List.getElem_toArray, List.getElem_cons_succ, List.getElem_cons_zero, List.setIfInBounds_toArray, List.set_cons_zero, List.set_cons_succ]
        refine wpAnyF_take (i := 9) (v := .agg #[.int .i64 er, .int .u64 (va : Int), .bool dn, .slice none 0 0]) rfl (by kernel_rfl) (by kernel_rfl) (by kernel_rfl) (by kernel_rfl) (fun _ _ _ h => h) (Or.inl ⟨by kernel_rfl, fun w hSw => by (try dsimp only at hSw); go_simp⟩) R ?_; try simp only [Act.put, List.getElem_toArray, List.getElem_cons_succ, List.getElem_cons_zero, List.setIfInBounds_toArray, List.set_cons_zero, List.set_cons_succ]
        refine wpAnyF_take (i := 10) (v := .int .i64 0) rfl (by kernel_rfl) (by kernel_rfl) (by kernel_rfl) (by kernel_rfl) (fun _ _ _ h => h) (Or.inl ⟨by kernel_rfl, fun w hSw => by (try dsimp only at hSw); go_simp⟩) R ?_; try simp only [Act.put, List.getElem_toArray, List.getElem_cons_succ, List.getElem_cons_zero, List.setIfInBounds_toArray, List.set_cons_zero, List.set_cons_succ]
        refine wpAnyF_one (i := 12) (by kernel_rfl) rfl (fun K hK => ?_)
        go_simp
        have hb := (Below.refl V2.heap.size V2).alloc (Nat.le_refl _) (.cells #[.int .i64 0, .int .u64 0, .bool false, .slice none 0 0] 34)
        have hB := World.alloc_heap_new V2 (.cells #[.int .i64 0, .int .u64 0, .bool false, .slice none 0 0] 34)
        have lhB := R.size
        replace R := below_next R hb
        replace hA := heap_below hb hA (lt_of_heap hA)
        replace hR := hR.below hb
        clear hb
        refine hK.out _ _ (fun _ => R) ?_; clear hK K; try simp only [Act.put, List.getElem_toArray, List.getElem_cons_succ, List.getElem_cons_zero, List.setIfInBounds_toArray, List.set_cons_zero, List.set_cons_succ]
        change wpAnyF _ _ _ _ _ _ _ _ _ (V2.alloc (.cells #[.int .i64 0, .int .u64 0, .bool false, .slice none 0 0] 34))
        generalize V2.alloc _ = V3 at R hB hA hR ⊢
        generalize V2.heap.size = q at hB lhB ⊢
        have hAn : q ≠ p := by
          rintro rfl
          rw [hA] at hB
          simp at hB
        refine wpAnyF_one (i := 13) (by kernel_rfl) rfl (fun K hK => ?_)
        refine step_store_row rfl _ _ _ rfl p #[.slice s1 n1 c1] rfl rfl 28 _ hA info_map rfl (map_one _ _ _) ?_
        replace R := below_setRow' R lhA #[.slice s1 n1 c1]
        replace hR := hR.set hA (by decide) #[.slice s1 n1 c1]
        replace hB := (setRow_other V3 p q #[.slice s1 n1 c1] hAn).trans hB
        replace hA : (V3.setRow p #[.slice s1 n1 c1]).heap[p]? = some (.cells #[.slice s1 n1 c1] 28 (0, 0)) := setRow_heap _ _ _ _ _ _ hA
        refine hK.out _ _ (fun _ => R) ?_; clear hK K; try simp only [Act.put, List.getElem_toArray, List.getElem_cons_succ, List.getElem_cons_zero, List.setIfInBounds_toArray, List.set_cons_zero, List.set_cons_succ]
        generalize World.setRow _ _ _ = V4 at R hA hB hR ⊢
        refine wpAnyF_one (i := 14) (by kernel_rfl) rfl (fun K hK => ?_)
        refine step_store_row rfl _ _ _ rfl q #[.int .i64 er, .int .u64 (va : Int), .bool dn, .slice none 0 0] rfl rfl 34 _ hB info_an rfl (anA_one ⟨er, va, dn⟩ none 0 0) ?_
        replace R := below_setRow' R lhB #[.int .i64 er, .int .u64 (va : Int), .bool dn, .slice none 0 0]
        replace hR := hR.set hB (by decide) #[.int .i64 er, .int .u64 (va : Int), .bool dn, .slice none 0 0]
        replace hA := (setRow_other V4 q p #[.int .i64 er, .int .u64 (va : Int), .bool dn, .slice none 0 0] (fun h => hAn h.symm)).trans hA
        replace hB : (V4.setRow q #[.int .i64 er, .int .u64 (va : Int), .bool dn, .slice none 0 0]).heap[q]? = some (.cells #[.int .i64 er, .int .u64 (va : Int), .bool dn, .slice none 0 0] 34 (0, 0)) := setRow_heap _ _ _ _ _ _ hB
        refine hK.out _ _ (fun _ => R) ?_; clear hK K; try simp only [Act.put, List.getElem_toArray, List.getElem_cons_succ, List.getElem_cons_zero, List.setIfInBounds_toArray, List.set_cons_zero, List.set_cons_succ]
        generalize World.setRow _ _ _ = V5 at R hA hB hR ⊢
        refine wpAnyF_take (i := 15) (v := .int .i64 0) rfl (by kernel_rfl) (by kernel_rfl) (by kernel_rfl) (by kernel_rfl) (fun _ _ _ h => h) (Or.inl ⟨by kernel_rfl, fun w hSw => by (try dsimp only at hSw); go_simp⟩) R ?_; try simp only [Act.put, List.getElem_toArray, List.getElem_cons_succ, List.getElem_cons_zero, List.setIfInBounds_toArray, List.set_cons_zero, List.set_cons_succ]
        refine wpAnyF_done (by kernel_rfl) ?_ _
        have hfin : DoneAt W1 p q s1 n1 c1 ⟨er, va, dn⟩ ps1 V5 := ⟨R, lhA, lhB, hAn, hA, hB, hR⟩
        clear hAn hA hB hR R lhA lhB
        have hfin'h := Lib.hid hfin
        clear hfin
        go_wp2
        go_meet
        exact ⟨p, q, s1, n1, c1, rfl, rfl, hfin'h.out⟩
      ·
        go_simp
        have hb := (Below.refl V1.heap.size V1).alloc (Nat.le_refl _) (.cells #[.int .i64 0, .int .u64 0, .bool false, .slice none 0 0] 34)
        have hB := World.alloc_heap_new V1 (.cells #[.int .i64 0, .int .u64 0, .bool false, .slice none 0 0] 34)
        have lhB := R.size
        replace R := below_next R hb
        replace hA := heap_below hb hA (lt_of_heap hA)
        clear hb
        refine hK.out _ _ (fun _ => R) ?_; clear hK K; try simp only [Act.put, List.getElem_toArray, List.getElem_cons_succ, List.getElem_cons_zero, List.setIfInBounds_toArray, List.set_cons_zero, List.set_cons_succ]
        change wpAnyF _ _ _ _ _ _ _ _ _ (V1.alloc (.cells #[.int .i64 0, .int .u64 0, .bool false, .slice none 0 0] 34))
        generalize V1.alloc _ = V2 at R hB hA ⊢
        generalize V1.heap.size = q at hB lhB ⊢
        refine wpAnyF_one (i := 6) (by kernel_rfl) rfl (fun K hK => ?_)
        go_simp
        refine (DO'h.out V2 (below_next hB1'h.out R)).mono ?_
        rintro e V3 ⟨s1, n1, c1, sq, nq, cq, rfl, hb, hR, -, -, -, -, hx⟩
        obtain ⟨rfl, rfl, rfl⟩ := hx rfl
        dsimp only [anA]
        replace hR := hR.low R.size
        replace R := below_next R hb
        replace hA := heap_below hb hA (lt_of_heap hA)
        replace hB := heap_below hb hB (lt_of_heap hB)
        clear hb hx
        refine hK.out _ _ (fun _ => R) ?_; clear hK K; try simp only [Act.put, List.getElem_toArray, List.getElem_cons_succ, List.getElem_cons_zero, List.setIfInBounds_toArray, List.set_cons_zero, List.set_cons_succ]
        refine wpAnyF_take (i := 7) (v := .tuple #[.agg #[.slice s1 n1 c1], .agg #[.int .i64 er, .int .u64 (va : Int), .bool dn, .slice none 0 0], .int .i64 0]) rfl (by kernel_rfl) (by kernel_rfl) (by kernel_rfl) (by kernel_rfl) (fun _ _ _ h => h) (Or.inl ⟨by kernel_rfl, fun w hSw => by (try dsimp only at hSw); go_simp⟩) R ?_; try simp only [Act.put, List.getElem_toArray, List.getElem_cons_succ, List.getElem_cons_zero, List.setIfInBounds_toArray, List.set_cons_zero, List.set_cons_succ]
        refine wpAnyF_take (i := 8) (v := .agg #[.slice s1 n1 c1]) rfl (by kernel_rfl) (by kernel_rfl) (by kernel_rfl) (by kernel_rfl) (fun _ _ _ h => h) (Or.inl ⟨by kernel_rfl, fun w hSw => by (try dsimp only at hSw); go_simp⟩) R ?_; try simp only [Act.put, List.getElem_toArray, List.getElem_cons_succ, List.getElem_cons_zero, List.setIfInBounds_toArray, List.set_cons_zero, List.set_cons_succ]
        refine wpAnyF_take (i := 9) (v := .agg #[.int .i64 er, .int .u64 (va : Int), .bool dn, .slice none 0 0]) rfl (by kernel_rfl) (by kernel_rfl) (by kernel_rfl) (by kernel_rfl) (fun _ _ _ h => h) (Or.inl ⟨by kernel_rfl, fun w hSw => by (try dsimp only at hSw); go_simp⟩) R ?_; try simp only [Act.put, List.getElem_toArray, List.getElem_cons_succ, List.getElem_cons_zero, List.setIfInBounds_toArray, List.set_cons_zero, List.set_cons_succ]
        refine wpAnyF_take (i := 10) (v := .int .i64 0) rfl (by kernel_rfl) (by kernel_rfl) (by kernel_rfl) (by kernel_rfl) (fun _ _ _ h => h) (Or.inl ⟨by kernel_rfl, fun w hSw => by (try dsimp only at hSw); go_simp⟩) R ?_; try simp only [Act.put, List.getElem_toArray, List.getElem_cons_succ, List.getElem_cons_zero, List.setIfInBounds_toArray, List.set_cons_zero, List.set_cons_succ]
        have hAn : q ≠ p := by
          rintro rfl
          rw [hA] at hB
          simp at hB
        refine wpAnyF_one (i := 13) (by kernel_rfl) rfl (fun K hK => ?_)
        refine step_store_row rfl _ _ _ rfl p #[.slice s1 n1 c1] rfl rfl 28 _ hA info_map rfl (map_one _ _ _) ?_
        replace R := below_setRow' R lhA #[.slice s1 n1 c1]
        replace hR := hR.set hA (by decide) #[.slice s1 n1 c1]
        replace hB := (setRow_other V3 p q #[.slice s1 n1 c1] hAn).trans hB
        replace hA : (V3.setRow p #[.slice s1 n1 c1]).heap[p]? = some (.cells #[.slice s1 n1 c1] 28 (0, 0)) := setRow_heap _ _ _ _ _ _ hA
        refine hK.out _ _ (fun _ => R) ?_; clear hK K; try simp only [Act.put, List.getElem_toArray, List.getElem_cons_succ, List.getElem_cons_zero, List.setIfInBounds_toArray, List.set_cons_zero, List.set_cons_succ]
        generalize World.setRow _ _ _ = V4 at R hA hB hR ⊢
        refine wpAnyF_one (i := 14) (by kernel_rfl) rfl (fun K hK => ?_)
        refine step_store_row rfl _ _ _ rfl q #[.int .i64 er, .int .u64 (va : Int), .bool dn, .slice none 0 0] rfl rfl 34 _ hB info_an rfl (anA_one ⟨er, va, dn⟩ none 0 0) ?_
        replace R := below_setRow' R lhB #[.int .i64 er, .int .u64 (va : Int), .bool dn, .slice none 0 0]
        replace hR := hR.set hB (by decide) #[.int .i64 er, .int .u64 (va : Int), .bool dn, .slice none 0 0]
        replace hA := (setRow_other V4 q p #[.int .i64 er, .int .u64 (va : Int), .bool dn, .slice none 0 0] (fun h => hAn h.symm)).trans hA
        replace hB : (V4.setRow q #[.int .i64 er, .int .u64 (va : Int), .bool dn, .slice none 0 0]).heap[q]? = some (.cells #[.int .i64 er, .int .u64 (va : Int), .bool dn, .slice none 0 0] 34 (0, 0)) := setRow_heap _ _ _ _ _ _ hB
        refine hK.out _ _ (fun _ => R) ?_; clear hK K; try simp only [Act.put, List.getElem_toArray, List.getElem_cons_succ, List.getElem_cons_zero, List.setIfInBounds_toArray, List.set_cons_zero, List.set_cons_succ]
        generalize World.setRow _ _ _ = V5 at R hA hB hR ⊢
        refine wpAnyF_take (i := 15) (v := .int .i64 0) rfl (by kernel_rfl) (by kernel_rfl) (by kernel_rfl) (by kernel_rfl) (fun _ _ _ h => h) (Or.inl ⟨by kernel_rfl, fun w hSw => by (try dsimp only at hSw); go_simp⟩) R ?_; try simp only [Act.put, List.getElem_toArray, List.getElem_cons_succ, List.getElem_cons_zero, List.setIfInBounds_toArray, List.set_cons_zero, List.set_cons_succ]
        refine wpAnyF_done (by kernel_rfl) ?_ _
        have hfin : DoneAt W1 p q s1 n1 c1 ⟨er, va, dn⟩ ps1 V5 := ⟨R, lhA, lhB, hAn, hA, hB, hR⟩
        clear hAn hA hB hR R lhA lhB
        have hfin'h := Lib.hid hfin
        clear hfin
        go_wp2
        go_meet
        exact ⟨p, q, s1, n1, c1, rfl, rfl, hfin'h.out⟩
    ·
      go_simp
      have hb := (Below.refl V0.heap.size V0).alloc (Nat.le_refl _) (.cells #[.int .i64 0, .int .u64 0, .bool false, .slice none 0 0] 34)
      have hB := World.alloc_heap_new V0 (.cells #[.int .i64 0, .int .u64 0, .bool false, .slice none 0 0] 34)
      have lhB := R.size
      replace R := below_next R hb
      clear hb
      refine hK.out _ _ (fun _ => R) ?_; clear hK K; try simp only [Act.put, List.getElem_toArray, List.getElem_cons_succ, List.getElem_cons_zero, List.setIfInBounds_toArray, List.set_cons_zero, List.set_cons_succ]
      change wpAnyF _ _ _ _ _ _ _ _ _ (V0.alloc (.cells #[.int .i64 0, .int .u64 0, .bool false, .slice none 0 0] 34))
      generalize V0.alloc _ = V1 at R hB ⊢
      generalize V0.heap.size = q at hB lhB ⊢
      refine wpAnyF_two (i := 6) (j := 11) (by kernel_rfl) rfl rfl (fun K hK => ?_) (fun K hK => ?_)
      ·
        go_simp
        refine (DO'h.out V1 (below_next hB1'h.out R)).mono ?_
        rintro e V2 ⟨s1, n1, c1, sq, nq, cq, rfl, hb, hR, -, -, -, -, hx⟩
        obtain ⟨rfl, rfl, rfl⟩ := hx rfl
        dsimp only [anA]
        replace hR := hR.low R.size
        replace R := below_next R hb
        replace hB := heap_below hb hB (lt_of_heap hB)
        clear hb hx
        refine hK.out _ _ (fun _ => R) ?_; clear hK K; try simp only [Act.put, List.getElem_toArray, List.getElem_cons_succ, List.getElem_cons_zero, List.setIfInBounds_toArray, List.set_cons_zero, List.set_cons_succ]
        refine wpAnyF_take (i := 7) (v := .tuple #[.agg #[.slice s1 n1 c1], .agg #[.int .i64 er, .int .u64 (va : Int), .bool dn, .slice none 0 0], .int .i64 0]) rfl (by kernel_rfl) (by kernel_rfl) (by kernel_rfl) (by kernel_rfl) (fun _ _ _ h => h) (Or.inl ⟨by kernel_rfl, fun w hSw => by (try dsimp only at hSw); go_simp⟩) R ?_; try simp only [Act.put, List.getElem_toArray, List.getElem_cons_succ, List.getElem_cons_zero, List.setIfInBounds_toArray, List.set_cons_zero, List.set_cons_succ]
        refine wpAnyF_take (i := 8) (v := .agg #[.slice s1 n1 c1]) rfl (by kernel_rfl) (by kernel_rfl) (by kernel_rfl) (by kernel_rfl) (fun _ _ _ h => h) (Or.inl ⟨by kernel_rfl, fun w hSw => by (try dsimp only at hSw); go_simp⟩) R ?_; try simp only [Act.put, List.getElem_toArray, List.getElem_cons_succ, List.getElem_cons_zero, List.setIfInBounds_toArray, List.set_cons_zero, List.set_cons_succ]
        refine wpAnyF_take (i := 9) (v := .agg #[.int .i64 er, .int .u64 (va : Int), .bool dn, .slice none 0 0]) rfl (by kernel_rfl) (by kernel_rfl) (by kernel_rfl) (by kernel_rfl) (fun _ _ _ h => h) (Or.inl ⟨by kernel_rfl, fun w hSw => by (try dsimp only at hSw); go_simp⟩) R ?_; try simp only [Act.put, List.getElem_toArray, List.getElem_cons_succ, List.getElem_cons_zero, List.setIfInBounds_toArray, List.set_cons_zero, List.set_cons_succ]
        refine wpAnyF_take (i := 10) (v := .int .i64 0) rfl (by kernel_rfl) (by kernel_rfl) (by kernel_rfl) (by kernel_rfl) (fun _ _ _ h => h) (Or.inl ⟨by kernel_rfl, fun w hSw => by (try dsimp only at hSw); go_simp⟩) R ?_; try simp only [Act.put, List.getElem_toArray, List.getElem_cons_succ, List.getElem_cons_zero, List.setIfInBounds_toArray, List.set_cons_zero, List.set_cons_succ]
        refine wpAnyF_one (i := 11) (by kernel_rfl) rfl (fun K hK => ?_)
        go_simp
        have hb := (Below.refl V2.heap.size V2).alloc (Nat.le_refl _) (.cells #[.slice none 0 0] 28)
        have hA := World.alloc_heap_new V2 (.cells #[.slice none 0 0] 28)
        have lhA := R.size
        replace R := below_next R hb
        replace hB := heap_below hb hB (lt_of_heap hB)
        replace hR := hR.below hb
        clear hb
        refine hK.out _ _ (fun _ => R) ?_; clear hK K; try simp only [Act.put, List.getElem_toArray, List.getElem_cons_succ, List.getElem_cons_zero, List.setIfInBounds_toArray, List.set_cons_zero, List.set_cons_succ]
        change wpAnyF _ _ _ _ _ _ _ _ _ (V2.alloc (.cells #[.slice none 0 0] 28))
        generalize V2.alloc _ = V3 at R hA hB hR ⊢
        generalize V2.heap.size = p at hA lhA ⊢
        have hAn : q ≠ p := by
          rintro rfl
          rw [hA] at hB
          simp at hB
        refine wpAnyF_one (i := 13) (by kernel_rfl) rfl (fun K hK => ?_)
        refine step_store_row rfl _ _ _ rfl p #[.slice s1 n1 c1] rfl rfl 28 _ hA info_map rfl (map_one _ _ _) ?_
        replace R := below_setRow' R lhA #[.slice s1 n1 c1]
        replace hR := hR.set hA (by decide) #[.slice s1 n1 c1]
        replace hB := (setRow_other V3 p q #[.slice s1 n1 c1] hAn).trans hB
        replace hA : (V3.setRow p #[.slice s1 n1 c1]).heap[p]? = some (.cells #[.slice s1 n1 c1] 28 (0, 0)) := setRow_heap _ _ _ _ _ _ hA
        refine hK.out _ _ (fun _ => R) ?_; clear hK K; try simp only [Act.put, List.getElem_toArray, List.getElem_cons_succ, List.getElem_cons_zero, List.setIfInBounds_toArray, List.set_cons_zero, List.set_cons_succ]
        generalize World.setRow _ _ _ = V4 at R hA hB hR ⊢
        refine wpAnyF_one (i := 14) (by kernel_rfl) rfl (fun K hK => ?_)
        refine step_store_row rfl _ _ _ rfl q #[.int .i64 er, .int .u64 (va : Int), .bool dn, .slice none 0 0] rfl rfl 34 _ hB info_an rfl (anA_one ⟨er, va, dn⟩ none 0 0) ?_
        replace R := below_setRow' R lhB #[.int .i64 er, .int .u64 (va : Int), .bool dn, .slice none 0 0]
        replace hR := hR.set hB (by decide) #[.int .i64 er, .int .u64 (va : Int), .bool dn, .slice none 0 0]
        replace hA := (setRow_other V4 q p #[.int .i64 er, .int .u64 (va : Int), .bool dn, .slice none 0 0] (fun h => hAn h.symm)).trans hA
        replace hB : (V4.setRow q #[.int .i64 er, .int .u64 (va : Int), .bool dn, .slice none 0 0]).heap[q]? = some (.cells #[.int .i64 er, .int .u64 (va : Int), .bool dn, .slice none 0 0] 34 (0, 0)) := setRow_heap _ _ _ _ _ _ hB
        refine hK.out _ _ (fun _ => R) ?_; clear hK K; try simp only [Act.put, List.getElem_toArray, List.getElem_cons_succ, List.getElem_cons_zero, List.setIfInBounds_toArray, List.set_cons_zero, List.set_cons_succ]
        generalize World.setRow _ _ _ = V5 at R hA hB hR ⊢
        refine wpAnyF_take (i := 15) (v := .int .i64 0) rfl (by kernel_rfl) (by kernel_rfl) (by kernel_rfl) (by kernel_rfl) (fun _ _ _ h => h) (Or.inl ⟨by kernel_rfl, fun w hSw => by (try dsimp only at hSw); go_simp⟩) R ?_; try simp only [Act.put, List.getElem_toArray, List.getElem_cons_succ, List.getElem_cons_zero, List.setIfInBounds_toArray, List.set_cons_zero, List.set_cons_succ]
        refine wpAnyF_done (by kernel_rfl) ?_ _
        have hfin : DoneAt W1 p q s1 n1 c1 ⟨er, va, dn⟩ ps1 V5 := ⟨R, lhA, lhB, hAn, hA, hB, hR⟩
        clear hAn hA hB hR R lhA lhB
        have hfin'h := Lib.hid hfin
        clear hfin
        go_wp2
        go_meet
        exact ⟨p, q, s1, n1, c1, rfl, rfl, hfin'h.out⟩
      ·
        go_simp
        have hb := (Below.refl V1.heap.size V1).alloc (Nat.le_refl _) (.cells #[.slice none 0 0] 28)
        have hA := World.alloc_heap_new V1 (.cells #[.slice none 0 0] 28)
        have lhA := R.size
        replace R := below_next R hb
        replace hB := heap_below hb hB (lt_of_heap hB)
        clear hb
        refine hK.out _ _ (fun _ => R) ?_; clear hK K; try simp only [Act.put, List.getElem_toArray, List.getElem_cons_succ, List.getElem_cons_zero, List.setIfInBounds_toArray, List.set_cons_zero, List.set_cons_succ]
        change wpAnyF _ _ _ _ _ _ _ _ _ (V1.alloc (.cells #[.slice none 0 0] 28))
        generalize V1.alloc _ = V2 at R hA hB ⊢
        generalize V1.heap.size = p at hA lhA ⊢
        refine wpAnyF_one (i := 6) (by kernel_rfl) rfl (fun K hK => ?_)
        go_simp
        refine (DO'h.out V2 (below_next hB1'h.out R)).mono ?_
        rintro e V3 ⟨s1, n1, c1, sq, nq, cq, rfl, hb, hR, -, -, -, -, hx⟩
        obtain ⟨rfl, rfl, rfl⟩ := hx rfl
        dsimp only [anA]
        replace hR := hR.low R.size
        replace R := below_next R hb
        replace hA := heap_below hb hA (lt_of_heap hA)
        replace hB := heap_below hb hB (lt_of_heap hB)
        clear hb hx
        refine hK.out _ _ (fun _ => R) ?_; clear hK K; try simp only [Act.put, List.getElem_toArray, List.getElem_cons_succ, List.getElem_cons_zero, List.setIfInBounds_toArray, List.set_cons_zero, List.set_cons_succ]
        refine wpAnyF_take (i := 7) (v := .tuple #[.agg #[.slice s1 n1 c1], .agg #[.int .i64 er, .int .u64 (va : Int), .bool dn, .slice none 0 0], .int .i64 0]) rfl (by kernel_rfl) (by kernel_rfl) (by kernel_rfl) (by kernel_rfl) (fun _ _ _ h => h) (Or.inl ⟨by kernel_rfl, fun w hSw => by (try dsimp only at hSw); go_simp⟩) R ?_; try simp only [Act.put, List.getElem_toArray, List.getElem_cons_succ, List.getElem_cons_zero, List.setIfInBounds_toArray, List.set_cons_zero, List.set_cons_succ]
        refine wpAnyF_take (i := 8) (v := .agg #[.slice s1 n1 c1]) rfl (by kernel_rfl) (by kernel_rfl) (by kernel_rfl) (by kernel_rfl) (fun _ _ _ h => h) (Or.inl ⟨by kernel_rfl, fun w hSw => by (try dsimp only at hSw); go_simp⟩) R ?_; try simp only [Act.put, List.getElem_toArray, List.getElem_cons_succ, List.getElem_cons_zero, List.setIfInBounds_toArray, List.set_cons_zero, List.set_cons_succ]
        refine wpAnyF_take (i := 9) (v := .agg #[.int .i64 er, .int .u64 (va : Int), .bool dn, .slice none 0 0]) rfl (by kernel_rfl) (by kernel_rfl) (by kernel_rfl) (by kernel_rfl) (fun _ _ _ h => h) (Or.inl ⟨by kernel_rfl, fun w hSw => by (try dsimp only at hSw); go_simp⟩) R ?_; try simp only [Act.put, List.getElem_toArray, List.getElem_cons_succ, List.getElem_cons_zero, List.setIfInBounds_toArray, List.set_cons_zero, List.set_cons_succ]
        refine wpAnyF_take (i := 10) (v := .int .i64 0) rfl (by kernel_rfl) (by kernel_rfl) (by kernel_rfl) (by kernel_rfl) (fun _ _ _ h => h) (Or.inl ⟨by kernel_rfl, fun w hSw => by (try dsimp only at hSw); go_simp⟩) R ?_; try simp only [Act.put, List.getElem_toArray, List.getElem_cons_succ, List.getElem_cons_zero, List.setIfInBounds_toArray, List.set_cons_zero, List.set_cons_succ]
        have hAn : q ≠ p := by
          rintro rfl
          rw [hA] at hB
          simp at hB
        refine wpAnyF_one (i := 13) (by kernel_rfl) rfl (fun K hK => ?_)
        refine step_store_row rfl _ _ _ rfl p #[.slice s1 n1 c1] rfl rfl 28 _ hA info_map rfl (map_one _ _ _) ?_
        replace R := below_setRow' R lhA #[.slice s1 n1 c1]
        replace hR := hR.set hA (by decide) #[.slice s1 n1 c1]
        replace hB := (setRow_other V3 p q #[.slice s1 n1 c1] hAn).trans hB
        replace hA : (V3.setRow p #[.slice s1 n1 c1]).heap[p]? = some (.cells #[.slice s1 n1 c1] 28 (0, 0)) := setRow_heap _ _ _ _ _ _ hA
        refine hK.out _ _ (fun _ => R) ?_; clear hK K; try simp only [Act.put, List.getElem_toArray, List.getElem_cons_succ, List.getElem_cons_zero, List.setIfInBounds_toArray, List.set_cons_zero, List.set_cons_succ]
        generalize World.setRow _ _ _ = V4 at R hA hB hR ⊢
        refine wpAnyF_one (i := 14) (by kernel_rfl) rfl (fun K hK => ?_)
        refine step_store_row rfl _ _ _ rfl q #[.int .i64 er, .int .u64 (va : Int), .bool dn, .slice none 0 0] rfl rfl 34 _ hB info_an rfl (anA_one ⟨er, va, dn⟩ none 0 0) ?_
        replace R := below_setRow' R lhB #[.int .i64 er, .int .u64 (va : Int), .bool dn, .slice none 0 0]
        replace hR := hR.set hB (by decide) #[.int .i64 er, .int .u64 (va : Int), .bool dn, .slice none 0 0]
        replace hA := (setRow_other V4 q p #[.int .i64 er, .int .u64 (va : Int), .bool dn, .slice none 0 0] (fun h => hAn h.symm)).trans hA
        replace hB : (V4.setRow q #[.int .i64 er, .int .u64 (va : Int), .bool dn, .slice none 0 0]).heap[q]? = some (.cells #[.int .i64 er, .int .u64 (va : Int), .bool dn, .slice none 0 0] 34 (0, 0)) := setRow_heap _ _ _ _ _ _ hB
        refine hK.out _ _ (fun _ => R) ?_; clear hK K; try simp only [Act.put, List.getElem_toArray, List.getElem_cons_succ, List.getElem_cons_zero, List.setIfInBounds_toArray, List.set_cons_zero, List.set_cons_succ]
        generalize World.setRow _ _ _ = V5 at R hA hB hR ⊢
        refine wpAnyF_take (i := 15) (v := .int .i64 0) rfl (by kernel_rfl) (by kernel_rfl) (by kernel_rfl) (by kernel_rfl) (fun _ _ _ h => h) (Or.inl ⟨by kernel_rfl, fun w hSw => by (try dsimp only at hSw); go_simp⟩) R ?_; try simp only [Act.put, List.getElem_toArray, List.getElem_cons_succ, List.getElem_cons_zero, List.setIfInBounds_toArray, List.set_cons_zero, List.set_cons_succ]
        refine wpAnyF_done (by kernel_rfl) ?_ _
        have hfin : DoneAt W1 p q s1 n1 c1 ⟨er, va, dn⟩ ps1 V5 := ⟨R, lhA, lhB, hAn, hA, hB, hR⟩
        clear hAn hA hB hR R lhA lhB
        have hfin'h := Lib.hid hfin
        clear hfin
        go_wp2
        go_meet
        exact ⟨p, q, s1, n1, c1, rfl, rfl, hfin'h.out⟩
  case rest =>
    obtain ⟨p, q, s1, n1, c1, rfl, rfl, D⟩ := hcut
    clear a0 a1 a2 a3 a4 a5 a6 a7 a8 a9 aa ab ac y0
    have hb0 := below_next hB1'h.out D.old
    have y0 := (hL'h.out.below hb0).c0
    have hm1 := heap_below D.old H1'h.out.rows.1 (lt_of_heap H1'h.out.rows.1)
    have a2 : wc.cell? ⟨w.heap.size, 2, none⟩ = some (.int .u64 (kym : Int)) := blk_cell (i := 2) hm1 rfl
    have bt := lt_of_heap hm1
    have bl := lt_of_cell y0
    have D'h := Lib.hid D
    have hb0'h := Lib.hid hb0
    clear D hb0
    go_upto_region 3 with fail
    refine wp_region_heldF (fun w' => Below wc.heap.size wc w') 99 (by kernel_rfl) ?_
    have R := (Below.refl wc.heap.size wc).drew
    generalize wc.drew = V0 at R ⊢
    refine wpAnyF_take (i := 0) (v := .pointer (some ⟨lb, 0, none⟩)) rfl (by kernel_rfl) (by kernel_rfl) (by kernel_rfl) (by kernel_rfl) (fun _ _ _ h => h) (Or.inl ⟨by kernel_rfl, fun w hSw => by (try dsimp only at hSw); go_simp⟩) R ?_; try simp only [Act.put, List.getElem_toArray, List.getElem_cons_succ, List.getElem_cons_zero, List.setIfInBounds_toArray, List.set_cons_zero, List.set_cons_succ]
    refine wpAnyF_take (i := 1) (v := .pointer (some ⟨lb, 0, none⟩)) rfl (by kernel_rfl) (by kernel_rfl) (by kernel_rfl) (by kernel_rfl) (fun _ _ _ h => h) (Or.inl ⟨by kernel_rfl, fun w hSw => by (try dsimp only at hSw); go_simp⟩) R ?_; try simp only [Act.put, List.getElem_toArray, List.getElem_cons_succ, List.getElem_cons_zero, List.setIfInBounds_toArray, List.set_cons_zero, List.set_cons_succ]
    refine wpAnyF_take (i := 2) (v := .pointer (some ⟨lb, 0, none⟩)) rfl (by kernel_rfl) (by kernel_rfl) (by kernel_rfl) (by kernel_rfl) (fun _ _ _ h => h) (Or.inl ⟨by kernel_rfl, fun w hSw => by (try dsimp only at hSw); go_simp⟩) R ?_; try simp only [Act.put, List.getElem_toArray, List.getElem_cons_succ, List.getElem_cons_zero, List.setIfInBounds_toArray, List.set_cons_zero, List.set_cons_succ]
    refine wpAnyF_take (i := 3) (v := .agg #[.slice mp mn mc]) rfl (by kernel_rfl) (by kernel_rfl) (by kernel_rfl) (by kernel_rfl) (fun _ _ _ h => h) (Or.inl ⟨by kernel_rfl, fun w hSw => by have hcc := (hSw.cell bl).trans y0; (try dsimp only at hSw); go_simp⟩) R ?_; try simp only [Act.put, List.getElem_toArray, List.getElem_cons_succ, List.getElem_cons_zero, List.setIfInBounds_toArray, List.set_cons_zero, List.set_cons_succ]
    refine wpAnyF_take (i := 4) (v := .pointer (some ⟨w.heap.size, 1, none⟩)) rfl (by kernel_rfl) (by kernel_rfl) (by kernel_rfl) (by kernel_rfl) (fun _ _ _ h => h) (Or.inl ⟨by kernel_rfl, fun w hSw => by (try dsimp only at hSw); go_simp⟩) R ?_; try simp only [Act.put, List.getElem_toArray, List.getElem_cons_succ, List.getElem_cons_zero, List.setIfInBounds_toArray, List.set_cons_zero, List.set_cons_succ]
    refine wpAnyF_take (i := 5) (v := .pointer (some ⟨w.heap.size, 2, none⟩)) rfl (by kernel_rfl) (by kernel_rfl) (by kernel_rfl) (by kernel_rfl) (fun _ _ _ h => h) (Or.inl ⟨by kernel_rfl, fun w hSw => by (try dsimp only at hSw); go_simp⟩) R ?_; try simp only [Act.put, List.getElem_toArray, List.getElem_cons_succ, List.getElem_cons_zero, List.setIfInBounds_toArray, List.set_cons_zero, List.set_cons_succ]
    refine wpAnyF_take (i := 6) (v := .int .u64 (kym : Int)) rfl (by kernel_rfl) (by kernel_rfl) (by kernel_rfl) (by kernel_rfl) (fun _ _ _ h => h) (Or.inl ⟨by kernel_rfl, fun w hSw => by have hcc := (hSw.cell bt).trans a2; (try dsimp only at hSw); go_simp⟩) R ?_; try simp only [Act.put, List.getElem_toArray, List.getElem_cons_succ, List.getElem_cons_zero, List.setIfInBounds_toArray, List.set_cons_zero, List.set_cons_succ]
    clear y0 a2 bt bl hm1
    refine wpAnyF_one (i := 7) (by kernel_rfl) rfl (fun K hK => ?_); go_simp
    refine (GET'h.out V0 (below_next hb0'h.out R)).mono ?_
    rintro e W3 ⟨rfl, hb3⟩
    dsimp only
    replace R := below_next R hb3
    clear hb3
    refine hK.out _ _ (fun _ => R) ?_; clear hK K; try simp only [Act.put, List.getElem_toArray, List.getElem_cons_succ, List.getElem_cons_zero, List.setIfInBounds_toArray, List.set_cons_zero, List.set_cons_succ]
    refine wpAnyF_take (i := 8) (v := .tuple #[.int .u64 (gv : Int), .bool hs]) rfl (by kernel_rfl) (by kernel_rfl) (by kernel_rfl) (by kernel_rfl) (fun _ _ _ h => h) (Or.inl ⟨by kernel_rfl, fun w hSw => by (try dsimp only at hSw); go_simp⟩) R ?_; try simp only [Act.put, List.getElem_toArray, List.getElem_cons_succ, List.getElem_cons_zero, List.setIfInBounds_toArray, List.set_cons_zero, List.set_cons_succ]
    refine wpAnyF_take (i := 9) (v := .int .u64 (gv : Int)) rfl (by kernel_rfl) (by kernel_rfl) (by kernel_rfl) (by kernel_rfl) (fun _ _ _ h => h) (Or.inl ⟨by kernel_rfl, fun w hSw => by (try dsimp only at hSw); go_simp⟩) R ?_; try simp only [Act.put, List.getElem_toArray, List.getElem_cons_succ, List.getElem_cons_zero, List.setIfInBounds_toArray, List.set_cons_zero, List.set_cons_succ]
    refine wpAnyF_take (i := 10) (v := .bool hs) rfl (by kernel_rfl) (by kernel_rfl) (by kernel_rfl) (by kernel_rfl) (fun _ _ _ h => h) (Or.inl ⟨by kernel_rfl, fun w hSw => by (try dsimp only at hSw); go_simp⟩) R ?_; try simp only [Act.put, List.getElem_toArray, List.getElem_cons_succ, List.getElem_cons_zero, List.setIfInBounds_toArray, List.set_cons_zero, List.set_cons_succ]
    refine wpAnyF_take (i := 11) (v := .int .u64 (gv : Int)) rfl (by kernel_rfl) (by kernel_rfl) (by kernel_rfl) (by kernel_rfl) (fun _ _ _ h => h) (Or.inl ⟨by kernel_rfl, fun w hSw => by (try dsimp only at hSw); go_simp⟩) R ?_; try simp only [Act.put, List.getElem_toArray, List.getElem_cons_succ, List.getElem_cons_zero, List.setIfInBounds_toArray, List.set_cons_zero, List.set_cons_succ]
    refine wpAnyF_take (i := 12) (v := .bool hs) rfl (by kernel_rfl) (by kernel_rfl) (by kernel_rfl) (by kernel_rfl) (fun _ _ _ h => h) (Or.inl ⟨by kernel_rfl, fun w hSw => by (try dsimp only at hSw); go_simp⟩) R ?_; try simp only [Act.put, List.getElem_toArray, List.getElem_cons_succ, List.getElem_cons_zero, List.setIfInBounds_toArray, List.set_cons_zero, List.set_cons_succ]
    refine wpAnyF_done (by kernel_rfl) ?_ _
    have D3 := D'h.out.next R
    clear R
    obtain ⟨a0, a1, a2, a3, a4, a5, a6, a7, a8, a9, aa, ab, ac⟩ := cells13 (heap_below D3.old H1'h.out.rows.1 (lt_of_heap H1'h.out.rows.1))
    have HF := (Hs.nil W3).new #[.int .i64 errm, .int .u64 (valm : Int), .bool donem, .slice ppm pnm pcm] 34
    have D3'h := Lib.hid D3
    have HF'h := Lib.hid HF
    clear D3 HF
    go_upto_region 5 with fail
    clear a0 a1 a2 a3 a4 a5 a6 a7 a8 a9 aa ab ac
    change Code.wp _ _ _ _ (W3.alloc (.cells #[.int .i64 errm, .int .u64 (valm : Int), .bool donem, .slice ppm pnm pcm] 34))
    have HF4 := HF'h.out
    clear HF'h
    generalize W3.alloc _ = W4 at HF4 ⊢
    have HF5 := HF4.put 0 rfl 0 (.int .i64 0)
    have z0 : W4.cell? ⟨W3.heap.size, 0, none⟩ = some (.int .i64 errm) := blk_cell (i := 0) HF4.rows.1 rfl
    have f0 := blk_free 0 HF4.rows.1
    have HF5'h := Lib.hid HF5
    clear HF5
    clear HF4
    go_upto_region 6 with fail
    clear z0 f0
    have HF6 := HF5'h.out
    clear HF5'h
    generalize World.setCell _ _ _ = W5 at HF6 ⊢
    have D5 := D3'h.out.next HF6.old
    have h5 := HF6.rows.1
    have D5'h := Lib.hid D5
    have h5'h := Lib.hid h5
    clear D5 h5
    clear HF6
    have h5 : W5.heap[W3.heap.size]? = some (.cells #[.int .i64 0, .int .u64 (valm : Int), .bool donem, .slice ppm pnm pcm] 34 (0, 0)) := h5'h.out
    clear h5'h
    generalize W3.heap.size = fb at h5 ⊢
    have hm5 := heap_below D5'h.out.old H1'h.out.rows.1 (lt_of_heap H1'h.out.rows.1)
    have h5'h := Lib.hid h5
    have hm5'h := Lib.hid hm5
    clear h5 hm5
    obtain ⟨a0, a1, a2, a3, a4, a5, a6, a7, a8, a9, aa, ab, ac⟩ := cells13 hm5'h.out
    by_cases ho0 : overm = 0
    · have i6 : (overm == 0) = true := by simp [ho0]
      obtain rfl : G = true := by rw [hG'h.out]; simp [ho0]
      obtain rfl : ps' = ps1 := by rw [hps'h.out]; simp [ho0]
      clear ho0
      go_upto_region 7 with fail
      clear a0 a1 a2 a3 a4 a5 a6 a7 a8 a9 aa ab ac i6
      have hLn := hL'h.out.below (below_next hB1'h.out D5'h.out.old)
      have hbl := lt_of_heap hL'h.out
      have hnb : ∀ g, s1.map (·.block) = some g → B0 ≤ g ∧ g ≠ lb ∧ g < (W5.setCell ⟨lb, 0, none⟩ (.slice s1 n1 c1)).heap.size := fun g e => by
        have h9 := D5'h.out.row.spot g e
        rw [World.size_setCell]
        have := D5'h.out.row.start g e
        have := hB1'h.out.size
        have := hB0'h.out
        omega
      have hLc := hLn.put0 s1 n1 c1
      have hKc : Kept (fun b => b ≠ lb) w (W5.setCell ⟨lb, 0, none⟩ (.slice s1 n1 c1)) := (Kept.of_below (below_next hB1'h.out D5'h.out.old)).trans (Kept.setCell _ _ _ _ (by simp))
      have hSc := SlK.off (lb := lb) D5'h.out.row.sl (fun g e => (hnb g e).2.1) 0 (.slice s1 n1 c1)
      have m0 : W5.cell? ⟨p, 0, none⟩ = some (.slice s1 n1 c1) := blk_cell (i := 0) D5'h.out.map rfl
      have y0 := hLn.c0
      have g0 := blk_free 0 hLn
      clear hbl hLn
      have hnb'h := Lib.hid hnb
      have hLc'h := Lib.hid hLc
      have hKc'h := Lib.hid hKc
      have hSc'h := Lib.hid hSc
      clear hnb hLc hKc hSc
      go_upto_region 12 with fail
      clear m0 y0 g0
      generalize World.setCell _ _ _ = V7 at hLc'h hKc'h hSc'h hnb'h ⊢
      have hk80 : k < 80 := by have := h80'h.out; have := hk'h.out; omega
      have i3 : (k : Int) < 80 := by omega
      have i4 : (0 : Int) ≤ (k : Int) := by omega
      have c9 := hLc'h.out.was hk80
      have g9 := blk_free (2 + k) hLc'h.out
      have hfin : GoEnd B0 lb (some ⟨b, off, none⟩) n cap met k true ps' w (.returned (.bool true)) (V7.setCell ⟨lb, 2 + k, none⟩ (.bool true)) :=
        ⟨s1, n1, c1, rfl, hKc'h.out.trans (Kept.setCell _ _ _ _ (by simp)), hLc'h.out.meet hk80, hSc'h.out.off (fun g e => (hnb'h.out g e).2.1) _ _, fun g e => (by have h := hnb'h.out g e; rw [World.size_setCell]; exact h)⟩
      have hfin'h := Lib.hid hfin
      clear hfin
      clear hk80 hKc'h hLc'h hSc'h
      go_wp2
      go_ret
      exact hfin'h.out
    · have i6 : (overm == 0) = false := by simp [ho0]
      have v0 : W5.cell? ⟨q, 0, none⟩ = some (.int .i64 er) := blk_cell (i := 0) D5'h.out.ans rfl
      have v1 : W5.cell? ⟨q, 1, none⟩ = some (.int .u64 (va : Int)) := blk_cell (i := 1) D5'h.out.ans rfl
      have v2 : W5.cell? ⟨q, 2, none⟩ = some (.bool dn) := blk_cell (i := 2) D5'h.out.ans rfl
      have v3 : W5.cell? ⟨q, 3, none⟩ = some (.slice none 0 0) := blk_cell (i := 3) D5'h.out.ans rfl
      have AL5 := AL'h.out W5 (below_next hB1'h.out D5'h.out.old)
      have hG2 : G = (al || ((decide (errm = 6) || decide (errm = 342)) && ee && !hs && (decide (opm = 2) || decide (opm = 5)))) := by rw [hG'h.out]; simp [ho0]
      have hps2 : ps' = if al = true then ps1 else ps := by rw [hps'h.out]; simp [ho0]
      have AL5'h := Lib.hid AL5
      have hG2'h := Lib.hid hG2
      have hps2'h := Lib.hid hps2
      clear AL5 hG2 hps2
      go_wp2_with fail
      refine AL5'h.out.mono ?_
      rintro e W6 ⟨rfl, hb6⟩
      have D6 := D5'h.out.next hb6
      have h6 := heap_below hb6 h5'h.out (lt_of_heap h5'h.out)
      have hm6 := heap_below hb6 hm5'h.out (lt_of_heap hm5'h.out)
      clear a0 a1 a2 a3 a4 a5 a6 a7 a8 a9 aa ab ac v0 v1 v2 v3 hb6 i6
      have D6'h := Lib.hid D6
      have h6'h := Lib.hid h6
      have hm6'h := Lib.hid hm6
      clear D6 h6 hm6
      cases al with
      | true =>
        obtain rfl : G = true := by rw [hG2'h.out]; rfl
        obtain rfl : ps' = ps1 := by rw [hps2'h.out]; rfl
        go_upto_region 7 with fail
        have hLn := hL'h.out.below (below_next hB1'h.out D6'h.out.old)
        have hbl := lt_of_heap hL'h.out
        have hnb : ∀ g, s1.map (·.block) = some g → B0 ≤ g ∧ g ≠ lb ∧ g < (W6.setCell ⟨lb, 0, none⟩ (.slice s1 n1 c1)).heap.size := fun g e => by
          have h9 := D6'h.out.row.spot g e
          rw [World.size_setCell]
          have := D6'h.out.row.start g e
          have := hB1'h.out.size
          have := hB0'h.out
          omega
        have hLc := hLn.put0 s1 n1 c1
        have hKc : Kept (fun b => b ≠ lb) w (W6.setCell ⟨lb, 0, none⟩ (.slice s1 n1 c1)) := (Kept.of_below (below_next hB1'h.out D6'h.out.old)).trans (Kept.setCell _ _ _ _ (by simp))
        have hSc := SlK.off (lb := lb) D6'h.out.row.sl (fun g e => (hnb g e).2.1) 0 (.slice s1 n1 c1)
        have m0 : W6.cell? ⟨p, 0, none⟩ = some (.slice s1 n1 c1) := blk_cell (i := 0) D6'h.out.map rfl
        have y0 := hLn.c0
        have g0 := blk_free 0 hLn
        clear hbl hLn
        have hnb'h := Lib.hid hnb
        have hLc'h := Lib.hid hLc
        have hKc'h := Lib.hid hKc
        have hSc'h := Lib.hid hSc
        clear hnb hLc hKc hSc
        go_upto_region 12 with fail
        clear m0 y0 g0
        generalize World.setCell _ _ _ = V7 at hLc'h hKc'h hSc'h hnb'h ⊢
        have hk80 : k < 80 := by have := h80'h.out; have := hk'h.out; omega
        have i3 : (k : Int) < 80 := by omega
        have i4 : (0 : Int) ≤ (k : Int) := by omega
        have c9 := hLc'h.out.was hk80
        have g9 := blk_free (2 + k) hLc'h.out
        have hfin : GoEnd B0 lb (some ⟨b, off, none⟩) n cap met k true ps' w (.returned (.bool true)) (V7.setCell ⟨lb, 2 + k, none⟩ (.bool true)) :=
          ⟨s1, n1, c1, rfl, hKc'h.out.trans (Kept.setCell _ _ _ _ (by simp)), hLc'h.out.meet hk80, hSc'h.out.off (fun g e => (hnb'h.out g e).2.1) _ _, fun g e => (by have h := hnb'h.out g e; rw [World.size_setCell]; exact h)⟩
        have hfin'h := Lib.hid hfin
        clear hfin
        clear hk80 hKc'h hLc'h hSc'h
        go_wp2
        go_ret
        exact hfin'h.out
      | false =>
        obtain rfl : ps' = ps := by rw [hps2'h.out]; rfl
        have hG3 : G = ((decide (errm = 6) || decide (errm = 342)) && ee && !hs && (decide (opm = 2) || decide (opm = 5))) := by rw [hG2'h.out]; rfl
        have hb6 := below_next hB1'h.out D6'h.out.old
        have hG3'h := Lib.hid hG3
        have hb6'h := Lib.hid hb6
        clear hG3 hb6
        obtain ⟨a0, a1, a2, a3, a4, a5, a6, a7, a8, a9, aa, ab, ac⟩ := cells13 hm6'h.out
        by_cases c6 : errm = 6
        · have i7 : (errm != 6) = false := by simp [c6]
          have hG4 : G = (ee && !hs && (decide (opm = 2) || decide (opm = 5))) := by rw [hG3'h.out]; simp [c6]
          clear c6 a0 a1 a2 a3 a4 a5 a6 a7 a8 a9 aa ab ac
          obtain ⟨a0, a1, a2, a3, a4, a5, a6, a7, a8, a9, aa, ab, ac⟩ := cells13 hm6'h.out
          have u0 : W6.cell? ⟨fb, 0, none⟩ = some (.int .i64 0) := blk_cell (i := 0) h6'h.out rfl
          have u1 : W6.cell? ⟨fb, 1, none⟩ = some (.int .u64 (valm : Int)) := blk_cell (i := 1) h6'h.out rfl
          have u2 : W6.cell? ⟨fb, 2, none⟩ = some (.bool donem) := blk_cell (i := 2) h6'h.out rfl
          have u3 : W6.cell? ⟨fb, 3, none⟩ = some (.slice ppm pnm pcm) := blk_cell (i := 3) h6'h.out rfl
          have hG4'h := Lib.hid hG4
          clear hG4
          go_wp2_with fail
          refine (EM'h.out W6).mono ?_
          rintro e W8 ⟨rfl, hb8⟩
          have hB8 := below_next hb6'h.out hb8
          have hm8 := heap_below hb8 hm6'h.out (lt_of_heap hm6'h.out)
          clear a0 a1 a2 a3 a4 a5 a6 a7 a8 a9 aa ab ac u0 u1 u2 u3 hb8
          have hB8'h := Lib.hid hB8
          have hm8'h := Lib.hid hm8
          clear hB8 hm8
          cases ee with
          | false =>
            obtain rfl : G = false := by rw [hG4'h.out]; rfl
            have hfin : GoEnd B0 lb (some ⟨b, off, none⟩) n cap met k false ps' w (.returned (.bool false)) W8 := by
              refine ⟨mp, mn, mc, rfl, Kept.of_below hB8'h.out, ?_, hM'h.out.below hB8'h.out, fun g e => (by have h := hne'h.out g e; have := (hB8'h.out).size; omega)⟩
              rw [show (fun i => met i || (false && decide (i = k))) = met by funext i; simp]
              exact hL'h.out.below hB8'h.out
            have hfin'h := Lib.hid hfin
            clear hfin
            go_wp2
            go_ret
            exact hfin'h.out
          | true =>
            cases hs with
            | true =>
              obtain rfl : G = false := by rw [hG4'h.out]; rfl
              have hfin : GoEnd B0 lb (some ⟨b, off, none⟩) n cap met k false ps' w (.returned (.bool false)) W8 := by
                refine ⟨mp, mn, mc, rfl, Kept.of_below hB8'h.out, ?_, hM'h.out.below hB8'h.out, fun g e => (by have h := hne'h.out g e; have := (hB8'h.out).size; omega)⟩
                rw [show (fun i => met i || (false && decide (i = k))) = met by funext i; simp]
                exact hL'h.out.below hB8'h.out
              have hfin'h := Lib.hid hfin
              clear hfin
              go_wp2
              go_ret
              exact hfin'h.out
            | false =>
              obtain ⟨a0, a1, a2, a3, a4, a5, a6, a7, a8, a9, aa, ab, ac⟩ := cells13 hm8'h.out
              by_cases p2 : opm = 2
              · have j2 : (opm != 2) = false := by simp [p2]
                obtain rfl : G = true := by rw [hG4'h.out]; simp [p2]
                clear p2
                have hnb : ∀ g, mp.map (·.block) = some g → B0 ≤ g ∧ g ≠ lb ∧ g < W8.heap.size := fun g e => by
                  have h := hne'h.out g e
                  have := hB8'h.out.size
                  omega
                have hLc := hL'h.out.below hB8'h.out
                have hKc : Kept (fun b => b ≠ lb) w W8 := Kept.of_below hB8'h.out
                have hSc := hM'h.out.below hB8'h.out
                have hnb'h := Lib.hid hnb
                have hLc'h := Lib.hid hLc
                have hKc'h := Lib.hid hKc
                have hSc'h := Lib.hid hSc
                clear hnb hLc hKc hSc
                go_upto_region 12 with fail
                clear a0 a1 a2 a3 a4 a5 a6 a7 a8 a9 aa ab ac
                have hk80 : k < 80 := by have := h80'h.out; have := hk'h.out; omega
                have i3 : (k : Int) < 80 := by omega
                have i4 : (0 : Int) ≤ (k : Int) := by omega
                have c9 := hLc'h.out.was hk80
                have g9 := blk_free (2 + k) hLc'h.out
                have hfin : GoEnd B0 lb (some ⟨b, off, none⟩) n cap met k true ps' w (.returned (.bool true)) (W8.setCell ⟨lb, 2 + k, none⟩ (.bool true)) :=
                  ⟨mp, mn, mc, rfl, hKc'h.out.trans (Kept.setCell _ _ _ _ (by simp)), hLc'h.out.meet hk80, hSc'h.out.off (fun g e => (hnb'h.out g e).2.1) _ _, fun g e => (by have h := hnb'h.out g e; rw [World.size_setCell]; exact h)⟩
                have hfin'h := Lib.hid hfin
                clear hfin
                clear hk80 hKc'h hLc'h hSc'h
                go_wp2
                go_ret
                exact hfin'h.out
              · have j2 : (opm != 2) = true := by simp [p2]
                by_cases p5 : opm = 5
                · have j5 : (opm != 5) = false := by simp [p5]
                  obtain rfl : G = true := by rw [hG4'h.out]; simp [p5]
                  clear p2 p5
                  have hnb : ∀ g, mp.map (·.block) = some g → B0 ≤ g ∧ g ≠ lb ∧ g < W8.heap.size := fun g e => by
                    have h := hne'h.out g e
                    have := hB8'h.out.size
                    omega
                  have hLc := hL'h.out.below hB8'h.out
                  have hKc : Kept (fun b => b ≠ lb) w W8 := Kept.of_below hB8'h.out
                  have hSc := hM'h.out.below hB8'h.out
                  have hnb'h := Lib.hid hnb
                  have hLc'h := Lib.hid hLc
                  have hKc'h := Lib.hid hKc
                  have hSc'h := Lib.hid hSc
                  clear hnb hLc hKc hSc
                  go_upto_region 12 with fail
                  clear a0 a1 a2 a3 a4 a5 a6 a7 a8 a9 aa ab ac
                  have hk80 : k < 80 := by have := h80'h.out; have := hk'h.out; omega
                  have i3 : (k : Int) < 80 := by omega
                  have i4 : (0 : Int) ≤ (k : Int) := by omega
                  have c9 := hLc'h.out.was hk80
                  have g9 := blk_free (2 + k) hLc'h.out
                  have hfin : GoEnd B0 lb (some ⟨b, off, none⟩) n cap met k true ps' w (.returned (.bool true)) (W8.setCell ⟨lb, 2 + k, none⟩ (.bool true)) :=
                    ⟨mp, mn, mc, rfl, hKc'h.out.trans (Kept.setCell _ _ _ _ (by simp)), hLc'h.out.meet hk80, hSc'h.out.off (fun g e => (hnb'h.out g e).2.1) _ _, fun g e => (by have h := hnb'h.out g e; rw [World.size_setCell]; exact h)⟩
                  have hfin'h := Lib.hid hfin
                  clear hfin
                  clear hk80 hKc'h hLc'h hSc'h
                  go_wp2
                  go_ret
                  exact hfin'h.out
                · have j5 : (opm != 5) = true := by simp [p5]
                  obtain rfl : G = false := by rw [hG4'h.out]; simp [p2, p5]
                  clear p2 p5
                  have hfin : GoEnd B0 lb (some ⟨b, off, none⟩) n cap met k false ps' w (.returned (.bool false)) W8 := by
                    refine ⟨mp, mn, mc, rfl, Kept.of_below hB8'h.out, ?_, hM'h.out.below hB8'h.out, fun g e => (by have h := hne'h.out g e; have := (hB8'h.out).size; omega)⟩
                    rw [show (fun i => met i || (false && decide (i = k))) = met by funext i; simp]
                    exact hL'h.out.below hB8'h.out
                  have hfin'h := Lib.hid hfin
                  clear hfin
                  go_wp2
                  go_ret
                  exact hfin'h.out
        · have i7 : (errm != 6) = true := by simp [c6]
          by_cases c7 : errm = 342
          · have i8 : (errm != 342) = false := by simp [c7]
            have hG4 : G = (ee && !hs && (decide (opm = 2) || decide (opm = 5))) := by rw [hG3'h.out]; simp [c7]
            clear c6 c7 a0 a1 a2 a3 a4 a5 a6 a7 a8 a9 aa ab ac
            obtain ⟨a0, a1, a2, a3, a4, a5, a6, a7, a8, a9, aa, ab, ac⟩ := cells13 hm6'h.out
            have u0 : W6.cell? ⟨fb, 0, none⟩ = some (.int .i64 0) := blk_cell (i := 0) h6'h.out rfl
            have u1 : W6.cell? ⟨fb, 1, none⟩ = some (.int .u64 (valm : Int)) := blk_cell (i := 1) h6'h.out rfl
            have u2 : W6.cell? ⟨fb, 2, none⟩ = some (.bool donem) := blk_cell (i := 2) h6'h.out rfl
            have u3 : W6.cell? ⟨fb, 3, none⟩ = some (.slice ppm pnm pcm) := blk_cell (i := 3) h6'h.out rfl
            have hG4'h := Lib.hid hG4
            clear hG4
            go_wp2_with fail
            refine (EM'h.out W6).mono ?_
            rintro e W8 ⟨rfl, hb8⟩
            have hB8 := below_next hb6'h.out hb8
            have hm8 := heap_below hb8 hm6'h.out (lt_of_heap hm6'h.out)
            clear a0 a1 a2 a3 a4 a5 a6 a7 a8 a9 aa ab ac u0 u1 u2 u3 hb8
            have hB8'h := Lib.hid hB8
            have hm8'h := Lib.hid hm8
            clear hB8 hm8
            cases ee with
            | false =>
              obtain rfl : G = false := by rw [hG4'h.out]; rfl
              have hfin : GoEnd B0 lb (some ⟨b, off, none⟩) n cap met k false ps' w (.returned (.bool false)) W8 := by
                refine ⟨mp, mn, mc, rfl, Kept.of_below hB8'h.out, ?_, hM'h.out.below hB8'h.out, fun g e => (by have h := hne'h.out g e; have := (hB8'h.out).size; omega)⟩
                rw [show (fun i => met i || (false && decide (i = k))) = met by funext i; simp]
                exact hL'h.out.below hB8'h.out
              have hfin'h := Lib.hid hfin
              clear hfin
              go_wp2
              go_ret
              exact hfin'h.out
            | true =>
              cases hs with
              | true =>
                obtain rfl : G = false := by rw [hG4'h.out]; rfl
                have hfin : GoEnd B0 lb (some ⟨b, off, none⟩) n cap met k false ps' w (.returned (.bool false)) W8 := by
                  refine ⟨mp, mn, mc, rfl, Kept.of_below hB8'h.out, ?_, hM'h.out.below hB8'h.out, fun g e => (by have h := hne'h.out g e; have := (hB8'h.out).size; omega)⟩
                  rw [show (fun i => met i || (false && decide (i = k))) = met by funext i; simp]
                  exact hL'h.out.below hB8'h.out
                have hfin'h := Lib.hid hfin
                clear hfin
                go_wp2
                go_ret
                exact hfin'h.out
              | false =>
                obtain ⟨a0, a1, a2, a3, a4, a5, a6, a7, a8, a9, aa, ab, ac⟩ := cells13 hm8'h.out
                by_cases p2 : opm = 2
                · have j2 : (opm != 2) = false := by simp [p2]
                  obtain rfl : G = true := by rw [hG4'h.out]; simp [p2]
                  clear p2
                  have hnb : ∀ g, mp.map (·.block) = some g → B0 ≤ g ∧ g ≠ lb ∧ g < W8.heap.size := fun g e => by
                    have h := hne'h.out g e
                    have := hB8'h.out.size
                    omega
                  have hLc := hL'h.out.below hB8'h.out
                  have hKc : Kept (fun b => b ≠ lb) w W8 := Kept.of_below hB8'h.out
                  have hSc := hM'h.out.below hB8'h.out
                  have hnb'h := Lib.hid hnb
                  have hLc'h := Lib.hid hLc
                  have hKc'h := Lib.hid hKc
                  have hSc'h := Lib.hid hSc
                  clear hnb hLc hKc hSc
                  go_upto_region 12 with fail
                  clear a0 a1 a2 a3 a4 a5 a6 a7 a8 a9 aa ab ac
                  have hk80 : k < 80 := by have := h80'h.out; have := hk'h.out; omega
                  have i3 : (k : Int) < 80 := by omega
                  have i4 : (0 : Int) ≤ (k : Int) := by omega
                  have c9 := hLc'h.out.was hk80
                  have g9 := blk_free (2 + k) hLc'h.out
                  have hfin : GoEnd B0 lb (some ⟨b, off, none⟩) n cap met k true ps' w (.returned (.bool true)) (W8.setCell ⟨lb, 2 + k, none⟩ (.bool true)) :=
                    ⟨mp, mn, mc, rfl, hKc'h.out.trans (Kept.setCell _ _ _ _ (by simp)), hLc'h.out.meet hk80, hSc'h.out.off (fun g e => (hnb'h.out g e).2.1) _ _, fun g e => (by have h := hnb'h.out g e; rw [World.size_setCell]; exact h)⟩
                  have hfin'h := Lib.hid hfin
                  clear hfin
                  clear hk80 hKc'h hLc'h hSc'h
                  go_wp2
                  go_ret
                  exact hfin'h.out
                · have j2 : (opm != 2) = true := by simp [p2]
                  by_cases p5 : opm = 5
                  · have j5 : (opm != 5) = false := by simp [p5]
                    obtain rfl : G = true := by rw [hG4'h.out]; simp [p5]
                    clear p2 p5
                    have hnb : ∀ g, mp.map (·.block) = some g → B0 ≤ g ∧ g ≠ lb ∧ g < W8.heap.size := fun g e => by
                      have h := hne'h.out g e
                      have := hB8'h.out.size
                      omega
                    have hLc := hL'h.out.below hB8'h.out
                    have hKc : Kept (fun b => b ≠ lb) w W8 := Kept.of_below hB8'h.out
                    have hSc := hM'h.out.below hB8'h.out
                    have hnb'h := Lib.hid hnb
                    have hLc'h := Lib.hid hLc
                    have hKc'h := Lib.hid hKc
                    have hSc'h := Lib.hid hSc
                    clear hnb hLc hKc hSc
                    go_upto_region 12 with fail
                    clear a0 a1 a2 a3 a4 a5 a6 a7 a8 a9 aa ab ac
                    have hk80 : k < 80 := by have := h80'h.out; have := hk'h.out; omega
                    have i3 : (k : Int) < 80 := by omega
                    have i4 : (0 : Int) ≤ (k : Int) := by omega
                    have c9 := hLc'h.out.was hk80
                    have g9 := blk_free (2 + k) hLc'h.out
                    have hfin : GoEnd B0 lb (some ⟨b, off, none⟩) n cap met k true ps' w (.returned (.bool true)) (W8.setCell ⟨lb, 2 + k, none⟩ (.bool true)) :=
                      ⟨mp, mn, mc, rfl, hKc'h.out.trans (Kept.setCell _ _ _ _ (by simp)), hLc'h.out.meet hk80, hSc'h.out.off (fun g e => (hnb'h.out g e).2.1) _ _, fun g e => (by have h := hnb'h.out g e; rw [World.size_setCell]; exact h)⟩
                    have hfin'h := Lib.hid hfin
                    clear hfin
                    clear hk80 hKc'h hLc'h hSc'h
                    go_wp2
                    go_ret
                    exact hfin'h.out
                  · have j5 : (opm != 5) = true := by simp [p5]
                    obtain rfl : G = false := by rw [hG4'h.out]; simp [p2, p5]
                    clear p2 p5
                    have hfin : GoEnd B0 lb (some ⟨b, off, none⟩) n cap met k false ps' w (.returned (.bool false)) W8 := by
                      refine ⟨mp, mn, mc, rfl, Kept.of_below hB8'h.out, ?_, hM'h.out.below hB8'h.out, fun g e => (by have h := hne'h.out g e; have := (hB8'h.out).size; omega)⟩
                      rw [show (fun i => met i || (false && decide (i = k))) = met by funext i; simp]
                      exact hL'h.out.below hB8'h.out
                    have hfin'h := Lib.hid hfin
                    clear hfin
                    go_wp2
                    go_ret
                    exact hfin'h.out
          · have i8 : (errm != 342) = true := by simp [c7]
            obtain rfl : G = false := by rw [hG3'h.out]; simp [c6, c7]
            clear c6 c7
            have hfin : GoEnd B0 lb (some ⟨b, off, none⟩) n cap met k false ps' w (.returned (.bool false)) W6 := by
              refine ⟨mp, mn, mc, rfl, Kept.of_below hb6'h.out, ?_, hM'h.out.below hb6'h.out, fun g e => (by have h := hne'h.out g e; have := (hb6'h.out).size; omega)⟩
              rw [show (fun i => met i || (false && decide (i = k))) = met by funext i; simp]
              exact hL'h.out.below hb6'h.out
            have hfin'h := Lib.hid hfin
            clear hfin
            go_wp2
            go_ret
            exact hfin'h.out
end Go.Proofs.YtogeohjeabbmaaaDoor
