/-
  GroupTurns: what is put, set, and dropped.
-/
import Derived.Test.YtfoohdjgnphdgaaPq
import Derived.Test.YtfoohdjgnphdgaaOpenG
import Derived.Deep.CutRange
set_option linter.unusedSimpArgs false
set_option linter.unusedVariables false
set_option maxRecDepth 100000
namespace Go.Proofs.Ytfoohdjgnphdgaa
open Go.RowKit

theorem wpList_binop {P : Program} {ops : Array Oper} {rest : List Oper} {o : Oper} {a : Act} {w : World} {Q : Exit → Act → World → Prop} (hgd : o.guard = none) (b : BinOp) (t ty : TypeId) (x y : Operand) (ho : o.op = .binOp b t x y ty)
    {v : Value} (heq : (eqGuard b t x y (a.eval x) (a.eval y)).run P w = .ok () w) (hrun : (binOp b t (a.eval x) (a.eval y)).run P w = .ok v w) (h : wpList P ops Q rest (a.put o.dst v) w) : wpList P ops Q (o :: rest) a w :=
  wpList_plain hgd fun K hK => by
    unfold Oper.wp execOp
    simp only [ho, Sem.run_bind, heq, hrun, Result.andThen_ok]
    exact hK _ _ h
theorem sameA_self (g : Gp) : sameA g g = true := (sameA_iff g g).2 ⟨rfl, fun _ _ => rfl, fun _ _ => rfl⟩
theorem dropRG_ok {g : Gp} (h : GpOk g) (key h2 : Nat) : GpOk (dropRG g key h2) := by
  unfold dropRG; split
  · exact dropTo_ok h _
  · exact gpZ_ok
theorem putRG_ok {g : Gp} (h : GpOk g) {s : Sl3} (hs : Sl3Ok s) : GpOk (putRG g s) := by
  unfold putRG; split
  · exact putTo_ok h hs
  · exact gpZ_ok
theorem setRG_ok {g : Gp} (h : GpOk g) (lane : Int) {x : Nat} (hx : x < 2 ^ 64) : GpOk (setRG g lane x) := by
  unfold setRG; split
  · exact setTo_ok h _ hx
  · exact gpZ_ok
theorem drop_same {g : Gp} (hr : rightG g = true) (key h : Nat) : rdropE g key h = findE g key h ∧ rdropL g key h = findL g key h ∧ rdropG g key h = dropRG g key h := by
  have e : rdropE g key h = findE g key h := by
    unfold rdropE findE looksE
    rw [if_pos hr]
    by_cases h1 : h ≤ 127
    · rw [if_pos h1, if_pos h1, if_pos rfl]
    · rw [if_neg h1, if_neg h1, if_neg (by decide)]
  refine ⟨e, ?_, ?_⟩
  · unfold rdropL findL; rw [e]
  · unfold rdropG dropRG; rw [e]
theorem drop_wrong {g : Gp} (hr : ¬ rightG g = true) (key h : Nat) : findE g key h = 200 ∧ findL g key h = 0 ∧ dropRG g key h = gpZ := by
  have e1 : looksE g h = 200 := by unfold looksE; rw [if_neg hr]
  have e : findE g key h = 200 := by unfold findE; rw [if_neg (by rw [e1]; decide), e1]
  exact ⟨e, by unfold findL; rw [if_neg (by rw [e]; decide)], by unfold dropRG; rw [if_neg (by rw [e]; decide)]⟩
theorem put_same {g : Gp} (hr : rightG g = true) (s : Sl3) : putE g s = putZ g s ∧ putLane g s = putRL g s ∧ putG g s = putRG g s := by
  have e : putE g s = putZ g s := by unfold putZ; rw [if_pos hr]
  exact ⟨e, by unfold putLane putRL; rw [e], by unfold putG putRG; rw [e]⟩
theorem put_wrong {g : Gp} (hr : ¬ rightG g = true) (s : Sl3) : putZ g s = 200 ∧ putRL g s = 0 ∧ putRG g s = gpZ := by
  have e : putZ g s = 200 := by unfold putZ; rw [if_neg hr]
  exact ⟨e, by unfold putRL; rw [if_neg (by rw [e]; decide)], by unfold putRG; rw [if_neg (by rw [e]; decide)]⟩
theorem row_fresh {w : World} {base : Nat} {e : TypeId} {size : Nat} {v : Value} {n : Nat} {xs : List Value} (h : w.ownsRow base e size v n xs) (o : Obj) (cs : Array Value) : ((w.alloc o).setRow w.heap.size cs).ownsRow base e size v n xs :=
  ownsRow_next h (below_setRow' ((Below.refl _ _).alloc (Nat.le_refl _) _) (Nat.le_refl _) _)
theorem row_own {w w' : World} {base : Nat} {e : TypeId} {size : Nat} {v : Value} {n : Nat} {xs : List Value} (h : w.ownsRow base e size v n xs) (hh : ∀ j, v.ownBlock = some j → w'.heap[j]? = w.heap[j]?) : w'.ownsRow base e size v n xs := by
  obtain ⟨h1, h2⟩ := h
  refine ⟨h1, h2.imp id ?_⟩
  rintro ⟨g, cap, cur, hv, hg, hh1, r⟩
  exact ⟨g, cap, cur, hv, hg, (hh g (by rw [hv]; rfl)).trans hh1, r⟩
theorem row_set {w : World} {base : Nat} {e : TypeId} {size : Nat} {v : Value} {n : Nat} {xs : List Value} (h : w.ownsRow base e size v n xs) {D : Nat} (hD : ∀ j, v.ownBlock = some j → j ≠ D) (cs : Array Value) : (w.setRow D cs).ownsRow base e size v n xs :=
  row_own h fun j hj => setRow_other _ _ _ _ (hD j hj)
theorem row_put {w : World} {base : Nat} {e : TypeId} {size : Nat} {v : Value} {n : Nat} {xs : List Value} (h : w.ownsRow base e size v n xs) {D : Nat} (hD : ∀ j, v.ownBlock = some j → j ≠ D) (i : Nat) (u : Value) : (w.setCell ⟨D, i, none⟩ u).ownsRow base e size v n xs :=
  row_own h fun j hj => Below.heap_setCell _ _ _ _ (hD j hj)
theorem gpZ_built : Try.prog.built 25 [] = some (gpA gpZ) := by kernel_rfl
def nthT (l : List Tn) (k : Nat) : Tn := l.getD k ⟨false, ⟨0, 0, 0⟩, 0⟩
theorem nthT_eq {l : List Tn} {k : Nat} (h : k < l.length) : l[k] = nthT l k := by unfold nthT; rw [List.getD_eq_getElem?_getD, List.getElem?_eq_getElem h]; rfl
theorem nthT_mem {l : List Tn} {k : Nat} (h : k < l.length) : nthT l k ∈ l := by rw [← nthT_eq h]; exact List.getElem_mem h
theorem tns_cells {w : World} {b off n : Nat} {l : List Tn} (h : SlK w 5 (some ⟨b, off, none⟩) n (l.flatMap tnL)) {k : Nat} (hk : k < l.length) :
    w.cell? ⟨b, off + k * 5, none⟩ = some (.bool (nthT l k).drops) ∧ w.cell? ⟨b, off + k * 5 + 1, none⟩ = some (.int .u64 ((nthT l k).slot.key : Int)) ∧ w.cell? ⟨b, off + k * 5 + 2, none⟩ = some (.int .u64 ((nthT l k).slot.val : Int)) ∧
    w.cell? ⟨b, off + k * 5 + 3, none⟩ = some (.int .u8 ((nthT l k).slot.h2 : Int)) ∧ w.cell? ⟨b, off + k * 5 + 4, none⟩ = some (.int .i64 (nthT l k).lane) := by
  have hg : ∀ r, r < 5 → (l.flatMap tnL)[k * 5 + r]? = (tnL (nthT l k))[r]? := fun r hr => by rw [flatMap_get (K := 5) (fun _ => rfl) l k r hr hk, nthT_eq hk]
  refine ⟨?_, ?_, ?_, ?_, ?_⟩
  · exact h.cell (j := k * 5) (by have := hg 0 (by decide); rw [Nat.add_zero] at this; rw [this]; rfl)
  · have := h.cell (j := k * 5 + 1) (by rw [hg 1 (by decide)]; rfl); rwa [← Nat.add_assoc] at this
  · have := h.cell (j := k * 5 + 2) (by rw [hg 2 (by decide)]; rfl); rwa [← Nat.add_assoc] at this
  · have := h.cell (j := k * 5 + 3) (by rw [hg 3 (by decide)]; rfl); rwa [← Nat.add_assoc] at this
  · have := h.cell (j := k * 5 + 4) (by rw [hg 4 (by decide)]; rfl); rwa [← Nat.add_assoc] at this
theorem tns_len {w : World} {sp : Option Addr} {n : Nat} {l : List Tn} (h : SlK w 5 sp n (l.flatMap tnL)) : n = l.length := by
  have := h.1; rw [flatMap_len (K := 5) (fun _ => rfl)] at this; omega
/-! ### The fold of the document's Put -/
def tailK (x : Gp) (ps : List Sl3) (k : Nat) : Gp × Nat := (ps.take k).foldl putStep (x, if rightG x = true then 0 else 200)
theorem tailK_succ {x : Gp} {ps : List Sl3} {k : Nat} (hk : k < ps.length) : tailK x ps (k + 1) = putStep (tailK x ps k) (nthS ps k) := by
  unfold tailK; rw [List.take_succ_eq_append_getElem hk, List.foldl_append, nthS_eq hk]; rfl
theorem putStep_go {st : Gp × Nat} {s : Sl3} (h : st.2 = 0) : putStep st s = (putG st.1 s, putE st.1 s) := by
  unfold putStep putG
  rw [if_neg (by rw [h]; decide)]
  by_cases e : putE st.1 s = 0
  · rw [if_pos e, if_pos e, e]
  · rw [if_neg e, if_neg e]
theorem putStep_no {st : Gp × Nat} {s : Sl3} (h : st.2 ≠ 0) : putStep st s = st := by unfold putStep; rw [if_pos h]
theorem rgput_step (g : Gp) (s : Sl3) (w : World) (hg : GpOk g) (hs : Sl3Ok s) (st : Gp × Nat) (h : putStep (g, 0) s = st) : Calls Try.prog 31 #[.agg (gpA g), .agg (slA s)] w fun e w' => ∃ ln : Nat, e = .returned (.tuple #[.agg (gpA st.1), .int .i64 ln, .int .i64 st.2]) ∧ Below w.heap.size w w' := by
  have e := putStep_go (st := (g, 0)) (s := s) rfl
  rw [h] at e
  refine (rgput_any g s w hg hs).mono ?_
  rintro e' w' ⟨rfl, hb⟩
  exact ⟨putLane g s, by rw [e], hb⟩
theorem putStep_ok {st : Gp × Nat} {s : Sl3} (h : GpOk st.1) (hs : Sl3Ok s) : GpOk (putStep st s).1 := by
  by_cases e : st.2 = 0
  · rw [putStep_go e]; exact putG_ok h hs
  · rw [putStep_no e]; exact h
theorem fold_gone : ∀ (l : List Sl3) (st : Gp × Nat), (st.2 ≠ 0 → st.1 = gpZ) → (l.foldl putStep st).2 ≠ 0 → (l.foldl putStep st).1 = gpZ
  | [], _, h, h2 => h h2
  | s :: l, st, h, h2 => by
    rw [List.foldl_cons] at h2 ⊢
    refine fold_gone l _ (fun h3 => ?_) h2
    by_cases e : st.2 = 0
    · rw [putStep_go e] at h3 ⊢
      show putG st.1 s = gpZ
      unfold putG; rw [if_neg h3]
    · rw [putStep_no e]; exact h e
theorem tail_end (x : Gp) (ps : List Sl3) : putsR x ps = (if (tailK x ps ps.length).2 = 0 then (tailK x ps ps.length).1 else gpZ, (tailK x ps ps.length).2) := by
  unfold putsR tailK
  rw [List.take_length]
  by_cases hr : rightG x = true
  · rw [if_pos hr, if_pos hr]
    unfold putsK
    by_cases e : (ps.foldl putStep (x, 0)).2 = 0
    · rw [if_pos e]
    · rw [if_neg e, ← fold_gone ps (x, 0) (fun h => absurd rfl h) e]
  · rw [if_neg hr, if_neg hr, putsK_stuck _ _ (by show (200 : Nat) ≠ 0; decide)]; rfl
set_option maxHeartbeats 8000000 in
theorem walk_GroupTurns (x : Gp) (sp : Option Addr) (n cap : Nat) (l : List Tn) (w : World) (hx : GpOk x) (hin : TnIn w sp n cap l) :
    Calls Try.prog 4 #[.agg (gpA x), .slice sp n cap] w fun e w' => e = .returned (.bool true) ∧ Below w.heap.size w w' := by
  have hS := hin.sl
  have hl := hin.ok
  have hlen := tns_len hS
  have WK := fun w => wakes10_any w
  have hO := (Hs.nil w).new (gpA x) 25
  obtain ⟨W, hW⟩ : ∃ W, W = w.alloc (.cells (gpA x) 25) := ⟨_, rfl⟩
  rw [← hW] at hO
  clear hin
  have WK'h := Lib.hid WK
  have hO'h := Lib.hid hO
  have hx'h := Lib.hid hx
  have hS'h := Lib.hid hS
  have hl'h := Lib.hid hl
  have hlen'h := Lib.hid hlen
  clear WK hO hx hS hl hlen
  go_enter Try.func4, Try.ntmps4
  go_upto_region 1 with fail
  rw [← hW]
  clear hW
  go_upto_region 3 with (first | (go_at_call 8; refine (WK'h.out _).mono ?_; rintro e w1 ⟨rfl, hb1⟩))
  have H1 := hO'h.out.next hb1
  clear hb1
  have H2 := (H1.new (gpA gpZ) 25).set 0 rfl (gpA x)
  have H1'h := Lib.hid H1
  clear H1
  go_upto_region 4 with (first | guard_target = wpList _ _ _ (Oper.mk _ (.load _ (.tmp 2)) _ _ _ _ :: _) _ _; refine wpList_load_row rfl 25 (.tmp 2) rfl (w.heap.size) rfl 25 (gpA x) (0, 0) _ H1'h.out.rows.1 Try.underlying25 rfl infoGp ?_ | guard_target = wpList _ _ _ (Oper.mk _ (.store _ (.tmp 5) _) _ _ _ _ :: _) _ _; refine wpList_store_row rfl 25 (.tmp 5) _ rfl (w1.heap.size) (gpA x) rfl rfl 25 _ (World.alloc_heap_new _ _) infoGp rfl (gpA_one _) ?_)
  change Code.wp _ _ _ _ ((w1.alloc (.cells (gpA gpZ) 25)).setRow w1.heap.size (gpA x))
  generalize World.setRow _ _ _ = W2 at H2 ⊢
  obtain ⟨bn, hbn⟩ : ∃ bn, bn = w1.heap.size := ⟨_, rfl⟩
  rw [← hbn] at H2 ⊢
  clear hbn
  have H2'h := Lib.hid H2
  clear H2
  go_wp2
  go_loopg [6, 30] n (fun q v6 i wr => ∃ (k : Nat) (gr : Gp) (ps : List Sl3), k + q = n ∧ k ≤ 20 ∧ i = .int .i64 k ∧ GpOk gr ∧ ps.length ≤ k ∧ (∀ s ∈ ps, Sl3Ok s) ∧ Hs w [(bn, gpA gr, 25), (w.heap.size, gpA x, 25)] wr ∧ wr.ownsRow (bn + 1) 38 3 v6 ps.length (sls ps))
  case atStart => exact ⟨0, x, [], by omega, by omega, rfl, hx'h.out, by simp, by simp, H2'h.out, World.ownsRow_nil _ _ _ _⟩
  case round =>
    obtain ⟨k, gr, ps, hq, hk20, rfl, hgr, hpl, hps, hH, hrow⟩ := hrel
    by_cases hlt : k < n
    · have hkl : k < l.length := by have := hlen'h.out; omega
      have hSr := hS'h.out.below hH.old
      obtain ⟨rb, ro, rfl, -⟩ := hSr.some' (by omega)
      obtain ⟨c0, c1, c2, c3, c4⟩ := tns_cells hSr hkl
      have htok := hl'h.out _ (nthT_mem hkl)
      obtain ⟨t, ht⟩ : ∃ t, t = nthT l k := ⟨_, rfl⟩
      rw [← ht] at c0 c1 c2 c3 c4 htok
      clear ht
      obtain ⟨dr, s, ln⟩ := t
      dsimp only at c0 c1 c2 c3 c4
      have hsok : Sl3Ok s := htok.slot
      have hi1 : (k : Int) < (n : Int) := by omega
      have h0k : (0 : Int) ≤ (k : Int) := by omega
      clear hlt
      by_cases h20 : k = 20
      · subst h20
        have H8 := hH.new (tnA ⟨dr, s, ln⟩) 50
        have hrow8 := ownsRow_next hrow ((Below.refl _ wr).alloc (Nat.le_refl _) (.cells (tnA ⟨dr, s, ln⟩) 50))
        have H8'h := Lib.hid H8
        have hrow8'h := Lib.hid hrow8
        have hpl'h := Lib.hid hpl
        have hps'h := Lib.hid hps
        have hgr'h := Lib.hid hgr
        have hrow'h := Lib.hid hrow
        have hH'h := Lib.hid hH
        have hSr'h := Lib.hid hSr
        have hq'h := Lib.hid hq
        have hkl'h := Lib.hid hkl
        have hsok'h := Lib.hid hsok
        have htok'h := Lib.hid htok
        clear H8 hrow8 hpl hps hgr hrow hH hSr hq hkl hsok htok
        go_upto_region 38 with fail
        change Code.wp _ _ _ _ (wr.alloc (.cells (tnA ⟨dr, s, ln⟩) 50))
        have HT := H8'h.out.tail
        have hrowT := hrow8'h.out
        generalize wr.alloc _ = VT at HT hrowT ⊢
        clear c0 c1 c2 c3 c4 H8'h hrow8'h hrow'h hH'h hSr'h hq'h hkl'h
        obtain ⟨sp6, cap6, rfl⟩ := row_slice' hrowT
        have hps20 : ps.length ≤ 20 := by have := hpl'h.out; omega
        have ST : SlK VT 3 sp6 ps.length (sls ps) := SlK.of_row hrowT (by unfold maxLen; omega)
        have hlow6 : ∀ a, sp6 = some a → a.block < VT.heap.size := fun a ha => (hrowT.lt a.block (by rw [ha]; rfl)).2
        have PA := fun w h => puts_any x sp6 ps.length cap6 ps w hx'h.out hps'h.out h (by omega)
        have RX := fun w => rgright_any x w hx'h.out
        have hend := tail_end x ps
        obtain ⟨pG, hpG⟩ : ∃ pG, pG = (putsR x ps).1 := ⟨_, rfl⟩
        obtain ⟨pE, hpE⟩ : ∃ pE, pE = (putsR x ps).2 := ⟨_, rfl⟩
        rw [← hpG, ← hpE] at PA
        clear hrowT
        have HT'h := Lib.hid HT
        have ST'h := Lib.hid ST
        have PA'h := Lib.hid PA
        have RX'h := Lib.hid RX
        have hend'h := Lib.hid hend
        have hpG'h := Lib.hid hpG
        have hpE'h := Lib.hid hpE
        clear HT ST PA RX hend hpG hpE
        go_upto_region 39 with (first | guard_target = wpList _ _ _ (Oper.mk _ (.load _ (.tmp 2)) _ _ _ _ :: _) _ _; refine wpList_load_row rfl 25 (.tmp 2) rfl (w.heap.size) rfl 25 (gpA x) (0, 0) _ HT'h.out.rows.2.1 Try.underlying25 rfl infoGp ?_ | (go_at_call 32; refine (PA'h.out _ ST'h.out).mono ?_; rintro e x1 ⟨rfl, hy1⟩) | guard_target = wpList _ _ _ (Oper.mk _ (.store _ (.tmp 19) _) _ _ _ _ :: _) _ _; refine wpList_store_row rfl 25 (.tmp 19) _ rfl (x1.heap.size) (gpA pG) rfl rfl 25 _ (World.alloc_heap_new _ _) infoGp rfl (gpA_one _) ?_)
        have H19 := ((HT'h.out.next hy1).new (gpA gpZ) 25).set 0 rfl (gpA pG)
        have hB19 : Below VT.heap.size VT ((x1.alloc (.cells (gpA gpZ) 25)).setRow x1.heap.size (gpA pG)) := below_next hy1 (below_setRow' ((Below.refl _ _).alloc (Nat.le_refl _) _) (Nat.le_refl _) _)
        change Code.wp _ _ _ _ ((x1.alloc (.cells (gpA gpZ) 25)).setRow x1.heap.size (gpA pG))
        have ST19 := ST'h.out.below hB19
        have hlow7 : ∀ a, sp6 = some a → a.block < x1.heap.size := fun a ha => Nat.lt_of_lt_of_le (hlow6 a ha) hy1.size
        generalize World.setRow _ _ _ = W19 at H19 ST19 ⊢
        obtain ⟨d19, hd19⟩ : ∃ d19, d19 = x1.heap.size := ⟨_, rfl⟩
        rw [← hd19] at H19 hlow7 ⊢
        clear hd19 hy1 hB19 ST'h HT'h PA'h
        have H19'h := Lib.hid H19
        have ST19'h := Lib.hid ST19
        clear H19 ST19
        go_upto_region 40 with (first | guard_target = wpList _ _ _ (Oper.mk _ (.load _ (.tmp 2)) _ _ _ _ :: _) _ _; refine wpList_load_row rfl 25 (.tmp 2) rfl (w.heap.size) rfl 25 (gpA x) (0, 0) _ H19'h.out.rows.2.2.1 Try.underlying25 rfl infoGp ?_ | guard_target = wpList _ _ _ (Oper.mk _ (.store _ (.tmp 21) _) _ _ _ _ :: _) _ _; refine wpList_store_row rfl 25 (.tmp 21) _ rfl (W19.heap.size) (gpA x) rfl rfl 25 _ (World.alloc_heap_new _ _) infoGp rfl (gpA_one _) ?_)
        have H21 := (H19'h.out.new (gpA gpZ) 25).set 0 rfl (gpA x)
        have hB21 : Below W19.heap.size W19 ((W19.alloc (.cells (gpA gpZ) 25)).setRow W19.heap.size (gpA x)) := below_setRow' ((Below.refl _ _).alloc (Nat.le_refl _) _) (Nat.le_refl _) _
        change Code.wp _ _ _ _ ((W19.alloc (.cells (gpA gpZ) 25)).setRow W19.heap.size (gpA x))
        have ST21 := ST19'h.out.below hB21
        generalize World.setRow _ _ _ = W21 at H21 ST21 ⊢
        obtain ⟨d21, hd21⟩ : ∃ d21, d21 = W19.heap.size := ⟨_, rfl⟩
        rw [← hd21] at H21 ⊢
        have hlow8 : ∀ a, sp6 = some a → a.block < d21 := fun a ha => by have h1 := hlow7 a ha; have h2 := H21.desc; simp at h2; omega
        clear hlow6 hlow7 hd21 hB21 H19'h ST19'h
        have H21'h := Lib.hid H21
        have ST21'h := Lib.hid ST21
        have hlow8'h := Lib.hid hlow8
        clear H21 ST21 hlow8
        cases hr : rightG x with
        | true =>
          have ht0 : tailK x ps 0 = (x, 0) := by unfold tailK; rw [hr]; rfl
          rw [hr] at RX'h
          have hr'h := Lib.hid hr
          have ht0'h := Lib.hid ht0
          clear hr ht0
          go_upto_region 42 with (first | guard_target = wpList _ _ _ (Oper.mk _ (.load _ (.tmp 2)) _ _ _ _ :: _) _ _; refine wpList_load_row rfl 25 (.tmp 2) rfl (w.heap.size) rfl 25 (gpA x) (0, 0) _ H21'h.out.rows.2.2.2.1 Try.underlying25 rfl infoGp ?_ | (go_at_call 9; refine (RX'h.out _).mono ?_; rintro e w22 ⟨rfl, hb22⟩))
          have H22 := H21'h.out.next hb22
          have ST22 := ST21'h.out.below hb22
          clear hb22 H21'h ST21'h RX'h
          have H22'h := Lib.hid H22
          have ST22'h := Lib.hid ST22
          clear H22 ST22
          go_wp2
          go_loopg [22, 154] ps.length (fun q v22 i wr => ∃ (k : Nat) (st : Gp × Nat), k + q = ps.length ∧ i = .int .i64 k ∧ st = tailK x ps k ∧ v22 = .int .i64 st.2 ∧ GpOk st.1 ∧ Hs w [(d21, gpA st.1, 25), (d19, gpA pG, 25), (bn, gpA gr, 25), (w.heap.size, gpA x, 25)] wr ∧ SlK wr 3 sp6 ps.length (sls ps))
          case atStart => exact ⟨0, _, by omega, rfl, ht0'h.out.symm, rfl, hx'h.out, H22'h.out, ST22'h.out⟩
          case round =>
            obtain ⟨k2, ⟨g1, e1⟩, hq2, rfl, hst, rfl, hg1, hH2, hB2⟩ := hrel
            dsimp only at hg1 hH2 ⊢
            by_cases hlt2 : k2 < ps.length
            · obtain ⟨sb, so, rfl, -⟩ := hB2.some' (by omega)
              obtain ⟨d0, d1, d2⟩ := sls_cells hB2 hlt2
              have hs2 := hps'h.out _ (nthS_mem hlt2)
              have hnx := tailK_succ (x := x) hlt2
              rw [← hst] at hnx
              obtain ⟨t, ht⟩ : ∃ t, t = nthS ps k2 := ⟨_, rfl⟩
              rw [← ht] at d0 d1 d2 hs2 hnx
              have i1 : (k2 : Int) < (ps.length : Int) := by omega
              have i2 : (0 : Int) ≤ (k2 : Int) := by omega
              have hk20 : k2 ≤ 20 := by omega
              have H24 := hH2.new (slA t) 38
              have hB24 : SlK (wr.alloc (.cells (slA t) 38)) 3 (some ⟨sb, so, none⟩) ps.length (sls ps) := hB2.below ((Below.refl _ _).alloc (Nat.le_refl _) _)
              clear ht
              have hq2'h := Lib.hid hq2
              have hst'h := Lib.hid hst
              have hg1'h := Lib.hid hg1
              have hH2'h := Lib.hid hH2
              have hB2'h := Lib.hid hB2
              have hlt2'h := Lib.hid hlt2
              have hs2'h := Lib.hid hs2
              have hnx'h := Lib.hid hnx
              have H24'h := Lib.hid H24
              have hB24'h := Lib.hid hB24
              clear hq2 hst hg1 hH2 hB2 hlt2 hs2 hnx H24 hB24
              go_upto_region 45 with fail
              change Code.wp _ _ _ _ (wr.alloc (.cells (slA t) 38))
              have H24 := H24'h.out
              have hB24 := hB24'h.out
              clear H24'h hB24'h d0 d1 d2
              generalize wr.alloc _ = W24 at H24 hB24 ⊢
              obtain ⟨d24, hd24⟩ : ∃ d24, d24 = wr.heap.size := ⟨_, rfl⟩
              rw [← hd24] at H24 ⊢
              clear hd24
              have H24'h := Lib.hid H24
              have hB24'h := Lib.hid hB24
              clear H24 hB24
              by_cases hz : e1 = 0
              · subst hz
                obtain ⟨st2, hst2⟩ : ∃ st2, st2 = putStep (g1, 0) t := ⟨_, rfl⟩
                have RP := fun w => rgput_step g1 t w hg1'h.out hs2'h.out st2 hst2.symm
                have hok2 : GpOk st2.1 := by rw [hst2]; exact putStep_ok hg1'h.out hs2'h.out
                have hnx2 : st2 = tailK x ps (k2 + 1) := by rw [hst2, hnx'h.out]
                clear hst2
                obtain ⟨g2, e2⟩ := st2
                dsimp only at RP hok2
                have RP'h := Lib.hid RP
                have hok2'h := Lib.hid hok2
                have hnx2'h := Lib.hid hnx2
                clear RP hok2 hnx2
                go_wp2_with (first | guard_target = wpList _ _ _ (Oper.mk _ (.load _ (.tmp 21)) _ _ _ _ :: _) _ _; refine wpList_load_row rfl 25 (.tmp 21) rfl (d21) rfl 25 (gpA g1) (0, 0) _ H24'h.out.rows.2.1 Try.underlying25 rfl infoGp ?_ | guard_target = wpList _ _ _ (Oper.mk _ (.load _ (.tmp 24)) _ _ _ _ :: _) _ _; refine wpList_load_row rfl 38 (.tmp 24) rfl (d24) rfl 38 (slA t) (0, 0) _ H24'h.out.rows.1 Try.underlying38 rfl infoSl ?_ | (go_at_call 31; refine (RP'h.out _).mono ?_; rintro e w25 ⟨ln2, rfl, hb25⟩) | guard_target = wpList _ _ _ (Oper.mk _ (.store _ (.tmp 21) _) _ _ _ _ :: _) _ _; refine wpList_store_row rfl 25 (.tmp 21) _ rfl (d21) (gpA g2) rfl rfl 25 _ (H24'h.out.next hb25).rows.2.1 infoGp rfl (gpA_one _) ?_)
                go_roundg (gk - 1)
                case measure => have := hq2'h.out; omega
                case rel => exact ⟨k2 + 1, (g2, e2), by have := hq2'h.out; omega, by go_num, hnx2'h.out, rfl, hok2'h.out, ((H24'h.out.next hb25).set 1 rfl (gpA g2)).tail, (hB24'h.out.below hb25).keep fun b o _ hb ho => by
                  have h1 := hlow8'h.out _ rfl
                  simp at hb h1
                  rw [setRow_other _ _ _ _ (by omega)]; exact ho⟩
              · have hz' : ((e1 : Int) == 0) = false := by simp; omega
                have hnx2 : (g1, e1) = tailK x ps (k2 + 1) := by rw [hnx'h.out, putStep_no hz]
                have hz'h := Lib.hid hz
                have hnx2'h := Lib.hid hnx2
                clear hz hnx2
                go_wp2
                go_roundg (gk - 1)
                case measure => have := hq2'h.out; omega
                case rel => exact ⟨k2 + 1, (g1, e1), by have := hq2'h.out; omega, by go_num, hnx2'h.out, rfl, hg1'h.out, H24'h.out.tail, hB24'h.out⟩
            · obtain rfl : k2 = ps.length := by omega
              have hend := hend'h.out
              rw [← hst] at hend
              have i1 : ¬ (ps.length : Int) < (ps.length : Int) := by omega
              have hE : pE = e1 := by rw [hpE'h.out, hend]
              have hcmp : ((pE : Int) == (e1 : Int)) = true := by rw [hE]; simp
              clear hlt2
              by_cases hz : e1 = 0
              · have hG : pG = g1 := by rw [hpG'h.out, hend]; exact if_pos hz
                have hz' : ((e1 : Int) != 0) = false := by rw [hz]; rfl
                subst hG
                have heq : ∀ w, (binOp .eql 25 (.agg (gpA pG)) (.agg (gpA pG))).run Try.prog w = .ok (.bool true) w := fun w => by rw [eql_group hg1 hg1, sameA_self]
                have hq2'h := Lib.hid hq2
                have hst'h := Lib.hid hst
                have hg1'h := Lib.hid hg1
                have hH2'h := Lib.hid hH2
                have hB2'h := Lib.hid hB2
                have hend'h := Lib.hid hend
                have hz'h := Lib.hid hz
                have hE'h := Lib.hid hE
                have heq'h := Lib.hid heq
                clear hq2 hst hg1 hH2 hB2 hend hz hE heq
                go_wp2_with (first | guard_target = wpList _ _ _ (Oper.mk _ (.load _ (.tmp 19)) _ _ _ _ :: _) _ _; refine wpList_load_row rfl 25 (.tmp 19) rfl (d19) rfl 25 (gpA pG) (0, 0) _ hH2'h.out.rows.2.1 Try.underlying25 rfl infoGp ?_ | guard_target = wpList _ _ _ (Oper.mk _ (.load _ (.tmp 21)) _ _ _ _ :: _) _ _; refine wpList_load_row rfl 25 (.tmp 21) rfl (d21) rfl 25 (gpA pG) (0, 0) _ hH2'h.out.rows.1 Try.underlying25 rfl infoGp ?_ | guard_target = wpList _ _ _ (Oper.mk _ (.binOp .eql _ (.tmp 171) _ _) _ _ _ _ :: _) _ _; refine wpList_binop rfl .eql 25 25 (.tmp 171) (.tmp 172) rfl (guard_agg (by kernel_rfl) _ _ _ _ _ _) (heq'h.out _) ?_)
                go_ret
                exact ⟨rfl, hH2'h.out.old⟩
              · have hG : pG = gpZ := by rw [hpG'h.out, hend]; exact if_neg hz
                have hz' : ((e1 : Int) != 0) = true := by simp; omega
                subst hG
                have heq : ∀ w, (binOp .eql 25 (.agg (gpA gpZ)) (.agg (gpA gpZ))).run Try.prog w = .ok (.bool true) w := fun w => by rw [eql_group gpZ_ok gpZ_ok, sameA_self]
                have H30 := hH2.set 0 rfl (gpA gpZ)
                have hq2'h := Lib.hid hq2
                have hst'h := Lib.hid hst
                have hg1'h := Lib.hid hg1
                have hH2'h := Lib.hid hH2
                have hB2'h := Lib.hid hB2
                have hend'h := Lib.hid hend
                have hz'h := Lib.hid hz
                have hE'h := Lib.hid hE
                have heq'h := Lib.hid heq
                have H30'h := Lib.hid H30
                clear hq2 hst hg1 hH2 hB2 hend hz hE heq H30
                go_upto_region 50 with (first | guard_target = wpList _ _ _ (Oper.mk _ (.build _ _) _ _ _ _ :: _) _ _; refine wpList_build_agg rfl 25 #[] (by rfl) (gpA gpZ) [] (by rfl) gpZ_built ?_ | guard_target = wpList _ _ _ (Oper.mk _ (.store _ (.tmp 21) _) _ _ _ _ :: _) _ _; refine wpList_store_row rfl 25 (.tmp 21) _ rfl (d21) (gpA gpZ) rfl rfl 25 _ hH2'h.out.rows.1 infoGp rfl (gpA_one _) ?_)
                generalize World.setRow _ _ _ = W30 at H30'h ⊢
                go_wp2_with (first | guard_target = wpList _ _ _ (Oper.mk _ (.load _ (.tmp 19)) _ _ _ _ :: _) _ _; refine wpList_load_row rfl 25 (.tmp 19) rfl (d19) rfl 25 (gpA gpZ) (0, 0) _ H30'h.out.rows.2.1 Try.underlying25 rfl infoGp ?_ | guard_target = wpList _ _ _ (Oper.mk _ (.load _ (.tmp 21)) _ _ _ _ :: _) _ _; refine wpList_load_row rfl 25 (.tmp 21) rfl (d21) rfl 25 (gpA gpZ) (0, 0) _ H30'h.out.rows.1 Try.underlying25 rfl infoGp ?_ | guard_target = wpList _ _ _ (Oper.mk _ (.binOp .eql _ (.tmp 171) _ _) _ _ _ _ :: _) _ _; refine wpList_binop rfl .eql 25 25 (.tmp 171) (.tmp 172) rfl (guard_agg (by kernel_rfl) _ _ _ _ _ _) (heq'h.out _) ?_)
                go_ret
                exact ⟨rfl, H30'h.out.old⟩
        | false =>
          have ht0 : tailK x ps 0 = (x, 200) := by unfold tailK; rw [hr]; rfl
          rw [hr] at RX'h
          have hr'h := Lib.hid hr
          have ht0'h := Lib.hid ht0
          clear hr ht0
          go_upto_region 42 with (first | guard_target = wpList _ _ _ (Oper.mk _ (.load _ (.tmp 2)) _ _ _ _ :: _) _ _; refine wpList_load_row rfl 25 (.tmp 2) rfl (w.heap.size) rfl 25 (gpA x) (0, 0) _ H21'h.out.rows.2.2.2.1 Try.underlying25 rfl infoGp ?_ | (go_at_call 9; refine (RX'h.out _).mono ?_; rintro e w22 ⟨rfl, hb22⟩))
          have H22 := H21'h.out.next hb22
          have ST22 := ST21'h.out.below hb22
          clear hb22 H21'h ST21'h RX'h
          have H22'h := Lib.hid H22
          have ST22'h := Lib.hid ST22
          clear H22 ST22
          go_wp2
          go_loopg [22, 154] ps.length (fun q v22 i wr => ∃ (k : Nat) (st : Gp × Nat), k + q = ps.length ∧ i = .int .i64 k ∧ st = tailK x ps k ∧ v22 = .int .i64 st.2 ∧ GpOk st.1 ∧ Hs w [(d21, gpA st.1, 25), (d19, gpA pG, 25), (bn, gpA gr, 25), (w.heap.size, gpA x, 25)] wr ∧ SlK wr 3 sp6 ps.length (sls ps))
          case atStart => exact ⟨0, _, by omega, rfl, ht0'h.out.symm, rfl, hx'h.out, H22'h.out, ST22'h.out⟩
          case round =>
            obtain ⟨k2, ⟨g1, e1⟩, hq2, rfl, hst, rfl, hg1, hH2, hB2⟩ := hrel
            dsimp only at hg1 hH2 ⊢
            by_cases hlt2 : k2 < ps.length
            · obtain ⟨sb, so, rfl, -⟩ := hB2.some' (by omega)
              obtain ⟨d0, d1, d2⟩ := sls_cells hB2 hlt2
              have hs2 := hps'h.out _ (nthS_mem hlt2)
              have hnx := tailK_succ (x := x) hlt2
              rw [← hst] at hnx
              obtain ⟨t, ht⟩ : ∃ t, t = nthS ps k2 := ⟨_, rfl⟩
              rw [← ht] at d0 d1 d2 hs2 hnx
              have i1 : (k2 : Int) < (ps.length : Int) := by omega
              have i2 : (0 : Int) ≤ (k2 : Int) := by omega
              have hk20 : k2 ≤ 20 := by omega
              have H24 := hH2.new (slA t) 38
              have hB24 : SlK (wr.alloc (.cells (slA t) 38)) 3 (some ⟨sb, so, none⟩) ps.length (sls ps) := hB2.below ((Below.refl _ _).alloc (Nat.le_refl _) _)
              clear ht
              have hq2'h := Lib.hid hq2
              have hst'h := Lib.hid hst
              have hg1'h := Lib.hid hg1
              have hH2'h := Lib.hid hH2
              have hB2'h := Lib.hid hB2
              have hlt2'h := Lib.hid hlt2
              have hs2'h := Lib.hid hs2
              have hnx'h := Lib.hid hnx
              have H24'h := Lib.hid H24
              have hB24'h := Lib.hid hB24
              clear hq2 hst hg1 hH2 hB2 hlt2 hs2 hnx H24 hB24
              go_upto_region 45 with fail
              change Code.wp _ _ _ _ (wr.alloc (.cells (slA t) 38))
              have H24 := H24'h.out
              have hB24 := hB24'h.out
              clear H24'h hB24'h d0 d1 d2
              generalize wr.alloc _ = W24 at H24 hB24 ⊢
              obtain ⟨d24, hd24⟩ : ∃ d24, d24 = wr.heap.size := ⟨_, rfl⟩
              rw [← hd24] at H24 ⊢
              clear hd24
              have H24'h := Lib.hid H24
              have hB24'h := Lib.hid hB24
              clear H24 hB24
              by_cases hz : e1 = 0
              · subst hz
                obtain ⟨st2, hst2⟩ : ∃ st2, st2 = putStep (g1, 0) t := ⟨_, rfl⟩
                have RP := fun w => rgput_step g1 t w hg1'h.out hs2'h.out st2 hst2.symm
                have hok2 : GpOk st2.1 := by rw [hst2]; exact putStep_ok hg1'h.out hs2'h.out
                have hnx2 : st2 = tailK x ps (k2 + 1) := by rw [hst2, hnx'h.out]
                clear hst2
                obtain ⟨g2, e2⟩ := st2
                dsimp only at RP hok2
                have RP'h := Lib.hid RP
                have hok2'h := Lib.hid hok2
                have hnx2'h := Lib.hid hnx2
                clear RP hok2 hnx2
                go_wp2_with (first | guard_target = wpList _ _ _ (Oper.mk _ (.load _ (.tmp 21)) _ _ _ _ :: _) _ _; refine wpList_load_row rfl 25 (.tmp 21) rfl (d21) rfl 25 (gpA g1) (0, 0) _ H24'h.out.rows.2.1 Try.underlying25 rfl infoGp ?_ | guard_target = wpList _ _ _ (Oper.mk _ (.load _ (.tmp 24)) _ _ _ _ :: _) _ _; refine wpList_load_row rfl 38 (.tmp 24) rfl (d24) rfl 38 (slA t) (0, 0) _ H24'h.out.rows.1 Try.underlying38 rfl infoSl ?_ | (go_at_call 31; refine (RP'h.out _).mono ?_; rintro e w25 ⟨ln2, rfl, hb25⟩) | guard_target = wpList _ _ _ (Oper.mk _ (.store _ (.tmp 21) _) _ _ _ _ :: _) _ _; refine wpList_store_row rfl 25 (.tmp 21) _ rfl (d21) (gpA g2) rfl rfl 25 _ (H24'h.out.next hb25).rows.2.1 infoGp rfl (gpA_one _) ?_)
                go_roundg (gk - 1)
                case measure => have := hq2'h.out; omega
                case rel => exact ⟨k2 + 1, (g2, e2), by have := hq2'h.out; omega, by go_num, hnx2'h.out, rfl, hok2'h.out, ((H24'h.out.next hb25).set 1 rfl (gpA g2)).tail, (hB24'h.out.below hb25).keep fun b o _ hb ho => by
                  have h1 := hlow8'h.out _ rfl
                  simp at hb h1
                  rw [setRow_other _ _ _ _ (by omega)]; exact ho⟩
              · have hz' : ((e1 : Int) == 0) = false := by simp; omega
                have hnx2 : (g1, e1) = tailK x ps (k2 + 1) := by rw [hnx'h.out, putStep_no hz]
                have hz'h := Lib.hid hz
                have hnx2'h := Lib.hid hnx2
                clear hz hnx2
                go_wp2
                go_roundg (gk - 1)
                case measure => have := hq2'h.out; omega
                case rel => exact ⟨k2 + 1, (g1, e1), by have := hq2'h.out; omega, by go_num, hnx2'h.out, rfl, hg1'h.out, H24'h.out.tail, hB24'h.out⟩
            · obtain rfl : k2 = ps.length := by omega
              have hend := hend'h.out
              rw [← hst] at hend
              have i1 : ¬ (ps.length : Int) < (ps.length : Int) := by omega
              have hE : pE = e1 := by rw [hpE'h.out, hend]
              have hcmp : ((pE : Int) == (e1 : Int)) = true := by rw [hE]; simp
              clear hlt2
              by_cases hz : e1 = 0
              · have hG : pG = g1 := by rw [hpG'h.out, hend]; exact if_pos hz
                have hz' : ((e1 : Int) != 0) = false := by rw [hz]; rfl
                subst hG
                have heq : ∀ w, (binOp .eql 25 (.agg (gpA pG)) (.agg (gpA pG))).run Try.prog w = .ok (.bool true) w := fun w => by rw [eql_group hg1 hg1, sameA_self]
                have hq2'h := Lib.hid hq2
                have hst'h := Lib.hid hst
                have hg1'h := Lib.hid hg1
                have hH2'h := Lib.hid hH2
                have hB2'h := Lib.hid hB2
                have hend'h := Lib.hid hend
                have hz'h := Lib.hid hz
                have hE'h := Lib.hid hE
                have heq'h := Lib.hid heq
                clear hq2 hst hg1 hH2 hB2 hend hz hE heq
                go_wp2_with (first | guard_target = wpList _ _ _ (Oper.mk _ (.load _ (.tmp 19)) _ _ _ _ :: _) _ _; refine wpList_load_row rfl 25 (.tmp 19) rfl (d19) rfl 25 (gpA pG) (0, 0) _ hH2'h.out.rows.2.1 Try.underlying25 rfl infoGp ?_ | guard_target = wpList _ _ _ (Oper.mk _ (.load _ (.tmp 21)) _ _ _ _ :: _) _ _; refine wpList_load_row rfl 25 (.tmp 21) rfl (d21) rfl 25 (gpA pG) (0, 0) _ hH2'h.out.rows.1 Try.underlying25 rfl infoGp ?_ | guard_target = wpList _ _ _ (Oper.mk _ (.binOp .eql _ (.tmp 171) _ _) _ _ _ _ :: _) _ _; refine wpList_binop rfl .eql 25 25 (.tmp 171) (.tmp 172) rfl (guard_agg (by kernel_rfl) _ _ _ _ _ _) (heq'h.out _) ?_)
                go_ret
                exact ⟨rfl, hH2'h.out.old⟩
              · have hG : pG = gpZ := by rw [hpG'h.out, hend]; exact if_neg hz
                have hz' : ((e1 : Int) != 0) = true := by simp; omega
                subst hG
                have heq : ∀ w, (binOp .eql 25 (.agg (gpA gpZ)) (.agg (gpA gpZ))).run Try.prog w = .ok (.bool true) w := fun w => by rw [eql_group gpZ_ok gpZ_ok, sameA_self]
                have H30 := hH2.set 0 rfl (gpA gpZ)
                have hq2'h := Lib.hid hq2
                have hst'h := Lib.hid hst
                have hg1'h := Lib.hid hg1
                have hH2'h := Lib.hid hH2
                have hB2'h := Lib.hid hB2
                have hend'h := Lib.hid hend
                have hz'h := Lib.hid hz
                have hE'h := Lib.hid hE
                have heq'h := Lib.hid heq
                have H30'h := Lib.hid H30
                clear hq2 hst hg1 hH2 hB2 hend hz hE heq H30
                go_upto_region 50 with (first | guard_target = wpList _ _ _ (Oper.mk _ (.build _ _) _ _ _ _ :: _) _ _; refine wpList_build_agg rfl 25 #[] (by rfl) (gpA gpZ) [] (by rfl) gpZ_built ?_ | guard_target = wpList _ _ _ (Oper.mk _ (.store _ (.tmp 21) _) _ _ _ _ :: _) _ _; refine wpList_store_row rfl 25 (.tmp 21) _ rfl (d21) (gpA gpZ) rfl rfl 25 _ hH2'h.out.rows.1 infoGp rfl (gpA_one _) ?_)
                generalize World.setRow _ _ _ = W30 at H30'h ⊢
                go_wp2_with (first | guard_target = wpList _ _ _ (Oper.mk _ (.load _ (.tmp 19)) _ _ _ _ :: _) _ _; refine wpList_load_row rfl 25 (.tmp 19) rfl (d19) rfl 25 (gpA gpZ) (0, 0) _ H30'h.out.rows.2.1 Try.underlying25 rfl infoGp ?_ | guard_target = wpList _ _ _ (Oper.mk _ (.load _ (.tmp 21)) _ _ _ _ :: _) _ _; refine wpList_load_row rfl 25 (.tmp 21) rfl (d21) rfl 25 (gpA gpZ) (0, 0) _ H30'h.out.rows.1 Try.underlying25 rfl infoGp ?_ | guard_target = wpList _ _ _ (Oper.mk _ (.binOp .eql _ (.tmp 171) _ _) _ _ _ _ :: _) _ _; refine wpList_binop rfl .eql 25 25 (.tmp 171) (.tmp 172) rfl (guard_agg (by kernel_rfl) _ _ _ _ _ _) (heq'h.out _) ?_)
                go_ret
                exact ⟨rfl, H30'h.out.old⟩
      · have h20' : ((k : Int) == 20) = false := by simp; omega
        have hk19 : k < 20 := by omega
        clear h20
        have H8 := hH.new (tnA ⟨dr, s, ln⟩) 50
        have hnb : ∀ j, u6.ownBlock = some j → bn + 1 ≤ j ∧ j < wr.heap.size := hrow.lt
        have hrow8 := ownsRow_next hrow ((Below.refl _ wr).alloc (Nat.le_refl _) (.cells (tnA ⟨dr, s, ln⟩) 50))
        have RG := fun w => rgright_any gr w hgr
        have SE := fun w => set_any gr ln s.val w hgr
        obtain ⟨SG, hSG⟩ : ∃ SG, SG = setRG gr ln s.val := ⟨_, rfl⟩
        obtain ⟨se, hse⟩ : ∃ se, se = setE gr ln := ⟨_, rfl⟩
        have hSok := setRG_ok hgr ln hsok.val
        obtain ⟨r, hrr⟩ : ∃ r, r = rightG gr := ⟨_, rfl⟩
        rw [← hSG, ← hse] at SE
        rw [← hrr] at RG
        rw [← hSG] at hSok
        have hq'h := Lib.hid hq
        have hgr'h := Lib.hid hgr
        have hpl'h := Lib.hid hpl
        have hps'h := Lib.hid hps
        have hH'h := Lib.hid hH
        have hrow'h := Lib.hid hrow
        have htok'h := Lib.hid htok
        have hsok'h := Lib.hid hsok
        have H8'h := Lib.hid H8
        have hrow8'h := Lib.hid hrow8
        have RG'h := Lib.hid RG
        have SE'h := Lib.hid SE
        have hSG'h := Lib.hid hSG
        have hse'h := Lib.hid hse
        have hrr'h := Lib.hid hrr
        have hSok'h := Lib.hid hSok
        have hSr'h := Lib.hid hSr
        have hkl'h := Lib.hid hkl
        clear hq hgr hpl hps hH hrow htok hsok H8 hrow8 RG SE hSG hse hrr hSok hSr hkl
        go_upto_region 9 with fail
        change Code.wp _ _ _ _ (wr.alloc (.cells (tnA ⟨dr, s, ln⟩) 50))
        have H8 := H8'h.out
        have hrow8 := hrow8'h.out
        clear H8'h hrow8'h
        generalize wr.alloc _ = w8 at H8 hrow8 ⊢
        obtain ⟨c8, hc8⟩ : ∃ c8, c8 = wr.heap.size := ⟨_, rfl⟩
        rw [← hc8] at H8 hnb ⊢
        clear hc8 c0 c1 c2 c3 c4
        have H8'h := Lib.hid H8
        have hrow8'h := Lib.hid hrow8
        have hnb'h := Lib.hid hnb
        clear H8 hrow8 hnb
        go_upto_region 10 with (first | guard_target = wpList _ _ _ (Oper.mk _ (.load _ (.tmp 5)) _ _ _ _ :: _) _ _; refine wpList_load_row rfl 25 (.tmp 5) rfl (bn) rfl 25 (gpA gr) (0, 0) _ H8'h.out.rows.2.1 Try.underlying25 rfl infoGp ?_ | (go_at_call 9; refine (RG'h.out _).mono ?_; rintro e w9 ⟨rfl, hb9⟩))
        have H9 := H8'h.out.next hb9
        have hrow9 := ownsRow_next hrow8'h.out hb9
        have q1 : w9.cell? ⟨c8, 1, none⟩ = some (.int .u64 (s.key : Int)) := blk_cell H9.rows.1 rfl
        have q2 : w9.cell? ⟨c8, 2, none⟩ = some (.int .u64 (s.val : Int)) := blk_cell H9.rows.1 rfl
        have q3 : w9.cell? ⟨c8, 3, none⟩ = some (.int .u8 (s.h2 : Int)) := blk_cell H9.rows.1 rfl
        have H10 := H9.new (slA s) 38
        have hrow10 := ownsRow_next hrow9 ((Below.refl _ w9).alloc (Nat.le_refl _) (.cells (slA s) 38))
        clear hb9
        have H9'h := Lib.hid H9
        have hrow9'h := Lib.hid hrow9
        have H10'h := Lib.hid H10
        have hrow10'h := Lib.hid hrow10
        clear H9 hrow9 H10 hrow10
        go_upto_region 11 with fail
        change Code.wp _ _ _ _ (w9.alloc (.cells (slA s) 38))
        have H10 := H10'h.out
        have hrow10 := hrow10'h.out
        clear H10'h hrow10'h
        generalize w9.alloc _ = w10 at H10 hrow10 ⊢
        obtain ⟨c10, hc10⟩ : ∃ c10, c10 = w9.heap.size := ⟨_, rfl⟩
        rw [← hc10] at H10 ⊢
        clear hc10 q1 q2 q3
        have q4 : w10.cell? ⟨c8, 4, none⟩ = some (.int .i64 ln) := blk_cell H10.rows.2.1 rfl
        have q1 : w10.cell? ⟨c10, 1, none⟩ = some (.int .u64 (s.val : Int)) := blk_cell H10.rows.1 rfl
        have H10'h := Lib.hid H10
        have hrow10'h := Lib.hid hrow10
        clear H10 hrow10
        go_upto_region 12 with (first | guard_target = wpList _ _ _ (Oper.mk _ (.load _ (.tmp 5)) _ _ _ _ :: _) _ _; refine wpList_load_row rfl 25 (.tmp 5) rfl (bn) rfl 25 (gpA gr) (0, 0) _ H10'h.out.rows.2.2.1 Try.underlying25 rfl infoGp ?_ | (go_at_call 25; refine (SE'h.out _).mono ?_; rintro e w11 ⟨rfl, hb11⟩) | guard_target = wpList _ _ _ (Oper.mk _ (.store _ (.tmp 11) _) _ _ _ _ :: _) _ _; refine wpList_store_row rfl 25 (.tmp 11) _ rfl (w11.heap.size) (gpA SG) rfl rfl 25 _ (World.alloc_heap_new _ _) infoGp rfl (gpA_one _) ?_)
        have H11 := ((H10'h.out.next hb11).new (gpA gpZ) 25).set 0 rfl (gpA SG)
        have hrow11 := row_fresh (ownsRow_next hrow10'h.out hb11) (.cells (gpA gpZ) 25) (gpA SG)
        change Code.wp _ _ _ _ ((w11.alloc (.cells (gpA gpZ) 25)).setRow w11.heap.size (gpA SG))
        generalize World.setRow _ _ _ = W11 at H11 hrow11 ⊢
        obtain ⟨c11, hc11⟩ : ∃ c11, c11 = w11.heap.size := ⟨_, rfl⟩
        rw [← hc11] at H11 ⊢
        clear hc11 q4 q1 hb11
        have H12 := (H11.new (gpA gpZ) 25).set 0 rfl (gpA gpZ)
        have hrow12 := row_fresh hrow11 (.cells (gpA gpZ) 25) (gpA gpZ)
        have H11'h := Lib.hid H11
        have hrow11'h := Lib.hid hrow11
        clear H11 hrow11
        go_upto_if 51 with (first | guard_target = wpList _ _ _ (Oper.mk _ (.build _ _) _ _ _ _ :: _) _ _; refine wpList_build_agg rfl 25 #[] (by rfl) (gpA gpZ) [] (by rfl) gpZ_built ?_ | guard_target = wpList _ _ _ (Oper.mk _ (.store _ (.tmp 13) _) _ _ _ _ :: _) _ _; refine wpList_store_row rfl 25 (.tmp 13) _ rfl (W11.heap.size) (gpA gpZ) rfl rfl 25 _ (World.alloc_heap_new _ _) infoGp rfl (gpA_one _) ?_)
        change Code.wp _ _ _ _ ((W11.alloc (.cells (gpA gpZ) 25)).setRow W11.heap.size (gpA gpZ))
        generalize World.setRow _ _ _ = W12 at H12 hrow12 ⊢
        obtain ⟨c13, hc13⟩ : ∃ c13, c13 = W11.heap.size := ⟨_, rfl⟩
        rw [← hc13] at H12 ⊢
        clear hc13
        have hcc : bn < c8 ∧ c8 < c10 ∧ c10 < c11 ∧ c11 < c13 := by
          have hd := H12.desc
          simp at hd
          omega
        have H12'h := Lib.hid H12
        have hrow12'h := Lib.hid hrow12
        have hcc'h := Lib.hid hcc
        clear H12 hrow12 hcc
        go_cut [14] from 52 to 69 (fun e14 W' => e14 = .int .i64 se ∧ Hs w [(c13, gpA SG, 25), (c11, gpA SG, 25), (c10, slA s, 38), (c8, tnA ⟨dr, s, ln⟩, 50), (bn, gpA gr, 25), (w.heap.size, gpA x, 25)] W' ∧ W'.ownsRow (bn + 1) 38 3 u6 ps.length (sls ps))
        case first =>
          cases r with
          | false =>
            have hrG : rightG gr = false := hrr'h.out.symm
            have z1 : se = 200 := by rw [hse'h.out]; unfold setE; rw [if_neg (by rw [hrG]; decide)]
            have z2 : SG = gpZ := by rw [hSG'h.out]; unfold setRG; rw [if_neg (by rw [← hse'h.out, z1]; decide)]
            have hrG'h := Lib.hid hrG
            have z1'h := Lib.hid z1
            have z2'h := Lib.hid z2
            clear hrG z1 z2
            go_wp2
            go_meet
            refine ⟨by rw [z1'h.out]; rfl, ?_, hrow12'h.out⟩
            have HX := H12'h.out
            rw [z2'h.out] at HX ⊢
            exact HX
          | true =>
            have hrG : rightG gr = true := hrr'h.out.symm
            have IS := fun w => refIs_any ln w
            by_cases hin8 : 0 ≤ ln ∧ ln < 8
            · have e1 : isLane ln = true := by unfold isLane; simpa using hin8
              rw [e1] at IS
              obtain ⟨m, rfl⟩ : ∃ m : Nat, ln = (m : Int) := ⟨ln.toNat, by omega⟩
              have hm : m < 8 := by omega
              have FU := fun w => rgfull_any gr m w hgr'h.out hm
              have q4 : W12.cell? ⟨c8, 4, none⟩ = some (.int .i64 (m : Int)) := blk_cell H12'h.out.rows.2.2.2.1 rfl
              clear e1
              cases hf : fullAt gr.c m with
              | false =>
                have z1 : se = 4 := by rw [hse'h.out]; unfold setE; rw [if_pos hrG, if_pos hin8, if_neg (by rw [Int.toNat_natCast, hf]; decide)]
                have z2 : SG = gpZ := by rw [hSG'h.out]; unfold setRG; rw [if_neg (by rw [← hse'h.out, z1]; decide)]
                rw [hf] at FU
                clear hin8
                have hrG'h := Lib.hid hrG
                have IS'h := Lib.hid IS
                have FU'h := Lib.hid FU
                have hf'h := Lib.hid hf
                have hm'h := Lib.hid hm
                have z1'h := Lib.hid z1
                have z2'h := Lib.hid z2
                clear hrG IS FU hf hm z1 z2
                go_wp2_with (first | (go_at_call 26; refine (IS'h.out _).mono ?_; rintro e w13 ⟨rfl, hw13⟩; obtain rfl := hw13.symm) | guard_target = wpList _ _ _ (Oper.mk _ (.load _ (.tmp 5)) _ _ _ _ :: _) _ _; refine wpList_load_row rfl 25 (.tmp 5) rfl (bn) rfl 25 (gpA gr) (0, 0) _ H12'h.out.rows.2.2.2.2.1 Try.underlying25 rfl infoGp ?_ | (go_at_call 27; refine (FU'h.out _).mono ?_; rintro e w14 ⟨rfl, hb14⟩))
                go_meet
                refine ⟨by rw [z1'h.out]; rfl, ?_, ownsRow_next hrow12'h.out hb14⟩
                have HX := H12'h.out.next hb14
                rw [z2'h.out] at HX ⊢
                exact HX
              | true =>
                have z1 : se = 0 := by rw [hse'h.out]; unfold setE; rw [if_pos hrG, if_pos hin8, if_pos (by rw [Int.toNat_natCast, hf])]
                have z2 : SG = setTo gr m s.val := by rw [hSG'h.out]; unfold setRG; rw [if_pos (by rw [← hse'h.out, z1])]; rfl
                rw [hf] at FU
                clear hin8
                have hrG'h := Lib.hid hrG
                have IS'h := Lib.hid IS
                have FU'h := Lib.hid FU
                have hf'h := Lib.hid hf
                have hm'h := Lib.hid hm
                have z1'h := Lib.hid z1
                have z2'h := Lib.hid z2
                clear hrG IS FU hf hm z1 z2
                go_upto_region 14 with (first | (go_at_call 26; refine (IS'h.out _).mono ?_; rintro e w13 ⟨rfl, hw13⟩; obtain rfl := hw13.symm) | guard_target = wpList _ _ _ (Oper.mk _ (.load _ (.tmp 5)) _ _ _ _ :: _) _ _; refine wpList_load_row rfl 25 (.tmp 5) rfl (bn) rfl 25 (gpA gr) (0, 0) _ H12'h.out.rows.2.2.2.2.1 Try.underlying25 rfl infoGp ?_ | (go_at_call 27; refine (FU'h.out _).mono ?_; rintro e w14 ⟨rfl, hb14⟩))
                have H14 := H12'h.out.next hb14
                have H15 := H14.set 0 rfl (gpA gr)
                have hrow15 : (w14.setRow c13 (gpA gr)).ownsRow (bn + 1) 38 3 u6 ps.length (sls ps) := row_set (ownsRow_next hrow12'h.out hb14) (fun j hj => by have h1 := hnb'h.out j hj; have h2 := hcc'h.out; omega) _
                clear q4
                have H14'h := Lib.hid H14
                clear H14
                go_upto_region 15 with (first | guard_target = wpList _ _ _ (Oper.mk _ (.load _ (.tmp 5)) _ _ _ _ :: _) _ _; refine wpList_load_row rfl 25 (.tmp 5) rfl (bn) rfl 25 (gpA gr) (0, 0) _ H14'h.out.rows.2.2.2.2.1 Try.underlying25 rfl infoGp ?_ | guard_target = wpList _ _ _ (Oper.mk _ (.store _ (.tmp 13) _) _ _ _ _ :: _) _ _; refine wpList_store_row rfl 25 (.tmp 13) _ rfl (c13) (gpA gr) rfl rfl 25 _ H14'h.out.rows.1 infoGp rfl (gpA_one _) ?_)
                change Code.wp _ _ _ _ (w14.setRow c13 (gpA gr))
                generalize World.setRow _ _ _ = W15 at H15 hrow15 ⊢
                have q4 : W15.cell? ⟨c8, 4, none⟩ = some (.int .i64 (m : Int)) := blk_cell H15.rows.2.2.2.1 rfl
                have q1 : W15.cell? ⟨c10, 1, none⟩ = some (.int .u64 (s.val : Int)) := blk_cell H15.rows.2.2.1 rfl
                have q9 : W15.cell? ⟨c13, 9 + m, none⟩ = some (.int .u64 (gr.v m : Int)) := gp_val H15.rows.1 hm'h.out
                have q9f := blk_free (9 + m) H15.rows.1
                have h0m : (0 : Int) ≤ (m : Int) := by omega
                have h8m : (m : Int) < 8 := by have := hm'h.out; omega
                have H16 := H15.put 0 rfl (9 + m) (.int .u64 (s.val : Int))
                rw [gpA_setV gr hm'h.out] at H16
                have H15'h := Lib.hid H15
                have H16'h := Lib.hid H16
                have hrow15'h := Lib.hid hrow15
                clear H15 H16 hrow15
                go_wp2
                go_meet
                refine ⟨by rw [z1'h.out]; rfl, ?_, row_put hrow15'h.out (fun j hj => by have h1 := hnb'h.out j hj; have h2 := hcc'h.out; omega) _ _⟩
                have HX := H16'h.out
                rw [z2'h.out] at HX ⊢
                exact HX
            · have e1 : isLane ln = false := by unfold isLane; simp; omega
              rw [e1] at IS
              have z1 : se = 110 := by rw [hse'h.out]; unfold setE; rw [if_pos hrG, if_neg hin8]
              have z2 : SG = gpZ := by rw [hSG'h.out]; unfold setRG; rw [if_neg (by rw [← hse'h.out, z1]; decide)]
              have q4 : W12.cell? ⟨c8, 4, none⟩ = some (.int .i64 ln) := blk_cell H12'h.out.rows.2.2.2.1 rfl
              clear e1 hin8
              have hrG'h := Lib.hid hrG
              have IS'h := Lib.hid IS
              have z1'h := Lib.hid z1
              have z2'h := Lib.hid z2
              clear hrG IS z1 z2
              go_wp2_with (first | (go_at_call 26; refine (IS'h.out _).mono ?_; rintro e w13 ⟨rfl, hw13⟩; obtain rfl := hw13.symm))
              go_meet
              refine ⟨by rw [z1'h.out]; rfl, ?_, hrow12'h.out⟩
              have HX := H12'h.out
              rw [z2'h.out] at HX ⊢
              exact HX
        case rest =>
          obtain ⟨rfl, H13, hrow13⟩ := hcut
          have hneq : ∀ w, (binOp .neq 25 (.agg (gpA SG)) (.agg (gpA SG))).run Try.prog w = .ok (.bool false) w := fun w => by rw [neq_group hSok'h.out hSok'h.out, sameA_self]; rfl
          have H14 := H13.new2 (gpA gpZ) (gpA gpZ) 25 25
          have hrow14 : ((wc.alloc (.cells (gpA gpZ) 25)).alloc (.cells (gpA gpZ) 25)).ownsRow (bn + 1) 38 3 u6 ps.length (sls ps) := ownsRow_next hrow13 (((Below.refl _ _).alloc (Nat.le_refl _) _).alloc (by rw [World.size_alloc]; omega) _)
          have q0 : ((wc.alloc (.cells (gpA gpZ) 25)).alloc (.cells (gpA gpZ) 25)).cell? ⟨c8, 0, none⟩ = some (.bool dr) := blk_cell H14.rows.2.2.2.2.2.1 rfl
          have hcd : c13 < wc.heap.size := H13.lt _ (List.mem_cons_self ..)
          have H13'h := Lib.hid H13
          have hrow13'h := Lib.hid hrow13
          have H14'h := Lib.hid H14
          have hrow14'h := Lib.hid hrow14
          have q0'h := Lib.hid q0
          have hcd'h := Lib.hid hcd
          have hneq'h := Lib.hid hneq
          clear H13 hrow13 H14 hrow14 q0 hcd hneq
          go_upto_region 22 with (first | guard_target = wpList _ _ _ (Oper.mk _ (.load _ (.tmp 11)) _ _ _ _ :: _) _ _; refine wpList_load_row rfl 25 (.tmp 11) rfl (c11) rfl 25 (gpA SG) (0, 0) _ H13'h.out.rows.2.1 Try.underlying25 rfl infoGp ?_ | guard_target = wpList _ _ _ (Oper.mk _ (.load _ (.tmp 13)) _ _ _ _ :: _) _ _; refine wpList_load_row rfl 25 (.tmp 13) rfl (c13) rfl 25 (gpA SG) (0, 0) _ H13'h.out.rows.1 Try.underlying25 rfl infoGp ?_ | guard_target = wpList _ _ _ (Oper.mk _ (.binOp .neq _ (.tmp 70) _ _) _ _ _ _ :: _) _ _; refine wpList_binop rfl .neq 25 25 (.tmp 70) (.tmp 71) rfl (guard_agg (by kernel_rfl) _ _ _ _ _ _) (hneq'h.out _) ?_)
          clear hneq'h
          go_upto_region 25 with fail
          change Code.wp _ _ _ _ ((wc.alloc (.cells (gpA gpZ) 25)).alloc (.cells (gpA gpZ) 25))
          have H14 := H14'h.out
          have hrow14 := hrow14'h.out
          have q0 := q0'h.out
          have hcd := hcd'h.out
          clear H14'h hrow14'h q0'h hcd'h H13'h hrow13'h
          generalize (wc.alloc _).alloc _ = W14 at H14 hrow14 q0 ⊢
          obtain ⟨c15, hc15⟩ : ∃ c15, c15 = wc.heap.size := ⟨_, rfl⟩
          rw [← hc15] at H14 hcd ⊢
          clear hc15
          obtain ⟨nG, hnG⟩ : ∃ nG, nG = if dr = true then dropRG gr s.key s.h2 else putRG gr s := ⟨_, rfl⟩
          obtain ⟨nL, hnL⟩ : ∃ nL, nL = if dr = true then findL gr s.key s.h2 else putRL gr s := ⟨_, rfl⟩
          obtain ⟨nE, hnE⟩ : ∃ nE, nE = if dr = true then findE gr s.key s.h2 else putZ gr s := ⟨_, rfl⟩
          have DR : dr = true → ∀ w, Calls Try.prog 28 #[.agg (gpA gr), .int .u64 s.key, .int .u8 s.h2] w fun e w' => e = .returned (.tuple #[.agg (gpA nG), .int .i64 nL, .int .i64 nE]) ∧ Below w.heap.size w w' := fun h w => by
            rw [hnG, hnL, hnE, if_pos h, if_pos h, if_pos h]; exact drop_any gr s.key s.h2 w hgr'h.out hsok'h.out.key hsok'h.out.h2
          have PT : dr = false → ∀ w, Calls Try.prog 30 #[.agg (gpA gr), .int .u64 s.key, .int .u64 s.val, .int .u8 s.h2] w fun e w' => e = .returned (.tuple #[.agg (gpA nG), .int .i64 nL, .int .i64 nE]) ∧ Below w.heap.size w w' := fun h w => by
            subst h; rw [hnG, hnL, hnE]; exact gput_any gr s w hgr'h.out hsok'h.out
          have RD : dr = true → r = true → ∀ w, Calls Try.prog 29 #[.agg (gpA gr), .int .u64 s.key, .int .u8 s.h2] w fun e w' => e = .returned (.tuple #[.agg (gpA nG), .int .i64 nL, .int .i64 nE]) ∧ Below w.heap.size w w' := fun h h1 w => by
            obtain ⟨z1, z2, z3⟩ := drop_same (hrr'h.out.symm.trans h1) s.key s.h2
            rw [hnG, hnL, hnE, if_pos h, if_pos h, if_pos h, ← z1, ← z2, ← z3]; exact rgdrop_any gr s.key s.h2 w hgr'h.out hsok'h.out.h2
          have RP : dr = false → r = true → ∀ w, Calls Try.prog 31 #[.agg (gpA gr), .agg (slA s)] w fun e w' => e = .returned (.tuple #[.agg (gpA nG), .int .i64 nL, .int .i64 nE]) ∧ Below w.heap.size w w' := fun h h1 w => by
            obtain ⟨z1, z2, z3⟩ := put_same (hrr'h.out.symm.trans h1) s
            subst h; rw [hnG, hnL, hnE, if_neg (by decide), if_neg (by decide), if_neg (by decide), ← z1, ← z2, ← z3]; exact rgput_any gr s w hgr'h.out hsok'h.out
          have NZ : r = false → nG = gpZ ∧ nL = 0 ∧ nE = 200 := fun h1 => by
            have hr : ¬ rightG gr = true := by rw [← hrr'h.out, h1]; decide
            cases dr with
            | true => obtain ⟨z1, z2, z3⟩ := drop_wrong hr s.key s.h2; rw [hnG, hnL, hnE]; exact ⟨z3, z2, z1⟩
            | false => obtain ⟨z1, z2, z3⟩ := put_wrong hr s; rw [hnG, hnL, hnE]; exact ⟨z3, z2, z1⟩
          have hnok : GpOk nG := by
            rw [hnG]; split
            · exact dropRG_ok hgr'h.out _ _
            · exact putRG_ok hgr'h.out hsok'h.out
          clear hnG hnL hnE
          have DR'h := Lib.hid DR
          have PT'h := Lib.hid PT
          have RD'h := Lib.hid RD
          have RP'h := Lib.hid RP
          have NZ'h := Lib.hid NZ
          have hnok'h := Lib.hid hnok
          have H14'h := Lib.hid H14
          have hrow14'h := Lib.hid hrow14
          have hcd'h := Lib.hid hcd
          clear DR PT RD RP NZ hnok H14 hrow14 hcd
          go_upto_if 79 with fail
          go_cut [6, 12, 14, 17, 18] from 80 to 124 (fun v6 v12 v14 v17 v18 W' => (v12 = .int .i64 nE ∧ v14 = .int .i64 nE ∧ v17 = .int .i64 nL ∧ v18 = .int .i64 nL) ∧ ∃ ps' : List Sl3, ps'.length ≤ k + 1 ∧ (∀ s ∈ ps', Sl3Ok s) ∧ W'.ownsRow (bn + 1) 38 3 v6 ps'.length (sls ps') ∧ Hs w [(c15 + 1, gpA nG, 25), (c15, gpA nG, 25), (c13, gpA SG, 25), (c11, gpA SG, 25), (c10, slA s, 38), (c8, tnA ⟨dr, s, ln⟩, 50), (bn, gpA gr, 25), (w.heap.size, gpA x, 25)] W')
          case first =>
            cases dr with
            | true =>
              have q80 : W14.cell? ⟨c10, 0, none⟩ = some (.int .u64 (s.key : Int)) := blk_cell H14'h.out.rows.2.2.2.2.1 rfl
              have q82 : W14.cell? ⟨c10, 2, none⟩ = some (.int .u8 (s.h2 : Int)) := blk_cell H14'h.out.rows.2.2.2.2.1 rfl
              go_upto_region 27 with (first | guard_target = wpList _ _ _ (Oper.mk _ (.load _ (.tmp 5)) _ _ _ _ :: _) _ _; refine wpList_load_row rfl 25 (.tmp 5) rfl (bn) rfl 25 (gpA gr) (0, 0) _ H14'h.out.rows.2.2.2.2.2.2.1 Try.underlying25 rfl infoGp ?_ | (go_at_call 28; refine (DR'h.out rfl _).mono ?_; rintro e w15 ⟨rfl, hb15⟩) | guard_target = wpList _ _ _ (Oper.mk _ (.store _ (.tmp 15) _) _ _ _ _ :: _) _ _; refine wpList_store_row rfl 25 (.tmp 15) _ rfl (c15) (gpA nG) rfl rfl 25 _ (H14'h.out.next hb15).rows.2.1 infoGp rfl (gpA_one _) ?_)
              have H15 := (H14'h.out.next hb15).set 1 rfl (gpA nG)
              have hrow15 := row_set (ownsRow_next hrow14'h.out hb15) (D := c15) (fun j hj => by have h1 := hnb'h.out j hj; have h2 := hcc'h.out; have h3 := hcd'h.out; omega) (gpA nG)
              change Code.wp _ _ _ _ (w15.setRow c15 (gpA nG))
              generalize World.setRow _ _ _ = W15 at H15 hrow15 ⊢
              clear q80 q82 q0 hb15
              cases r with
              | false =>
                obtain ⟨z1, z2, z3⟩ := NZ'h.out rfl
                have z1'h := Lib.hid z1
                have z2'h := Lib.hid z2
                have z3'h := Lib.hid z3
                have H15'h := Lib.hid H15
                have hrow15'h := Lib.hid hrow15
                clear z1 z2 z3 H15 hrow15
                go_wp2
                go_meet
                refine ⟨⟨rfl, by rw [z3'h.out]; rfl, rfl, by rw [z2'h.out]; rfl⟩, ps, by have := hpl'h.out; omega, hps'h.out, hrow15'h.out, ?_⟩
                have HX := H15'h.out
                rw [z1'h.out] at HX ⊢
                exact HX
              | true =>
                have q80 : W15.cell? ⟨c10, 0, none⟩ = some (.int .u64 (s.key : Int)) := blk_cell H15.rows.2.2.2.2.1 rfl
                have q82 : W15.cell? ⟨c10, 2, none⟩ = some (.int .u8 (s.h2 : Int)) := blk_cell H15.rows.2.2.2.2.1 rfl
                have H15'h := Lib.hid H15
                have hrow15'h := Lib.hid hrow15
                clear H15 hrow15
                go_wp2_with (first | guard_target = wpList _ _ _ (Oper.mk _ (.load _ (.tmp 5)) _ _ _ _ :: _) _ _; refine wpList_load_row rfl 25 (.tmp 5) rfl (bn) rfl 25 (gpA gr) (0, 0) _ H15'h.out.rows.2.2.2.2.2.2.1 Try.underlying25 rfl infoGp ?_ | (go_at_call 29; refine (RD'h.out (by first | rfl | trivial) (by first | rfl | trivial) _).mono ?_; rintro e w16 ⟨rfl, hb16⟩) | guard_target = wpList _ _ _ (Oper.mk _ (.store _ (.tmp 16) _) _ _ _ _ :: _) _ _; refine wpList_store_row rfl 25 (.tmp 16) _ rfl (c15 + 1) (gpA nG) rfl rfl 25 _ (H15'h.out.next hb16).rows.1 infoGp rfl (gpA_one _) ?_)
                go_meet
                exact ⟨⟨rfl, rfl, rfl, rfl⟩, ps, by have := hpl'h.out; omega, hps'h.out, row_set (ownsRow_next hrow15'h.out hb16) (D := c15 + 1) (fun j hj => by have h1 := hnb'h.out j hj; have h2 := hcc'h.out; have h3 := hcd'h.out; omega) (gpA nG), (H15'h.out.next hb16).set 0 rfl (gpA nG)⟩
            | false =>
              have q80 : W14.cell? ⟨c10, 0, none⟩ = some (.int .u64 (s.key : Int)) := blk_cell H14'h.out.rows.2.2.2.2.1 rfl
              have q81 : W14.cell? ⟨c10, 1, none⟩ = some (.int .u64 (s.val : Int)) := blk_cell H14'h.out.rows.2.2.2.2.1 rfl
              have q82 : W14.cell? ⟨c10, 2, none⟩ = some (.int .u8 (s.h2 : Int)) := blk_cell H14'h.out.rows.2.2.2.2.1 rfl
              go_upto_region 30 with (first | guard_target = wpList _ _ _ (Oper.mk _ (.load _ (.tmp 5)) _ _ _ _ :: _) _ _; refine wpList_load_row rfl 25 (.tmp 5) rfl (bn) rfl 25 (gpA gr) (0, 0) _ H14'h.out.rows.2.2.2.2.2.2.1 Try.underlying25 rfl infoGp ?_ | (go_at_call 30; refine (PT'h.out rfl _).mono ?_; rintro e w15 ⟨rfl, hb15⟩) | guard_target = wpList _ _ _ (Oper.mk _ (.store _ (.tmp 15) _) _ _ _ _ :: _) _ _; refine wpList_store_row rfl 25 (.tmp 15) _ rfl (c15) (gpA nG) rfl rfl 25 _ (H14'h.out.next hb15).rows.2.1 infoGp rfl (gpA_one _) ?_)
              have H15 := (H14'h.out.next hb15).set 1 rfl (gpA nG)
              have hrow15 := row_set (ownsRow_next hrow14'h.out hb15) (D := c15) (fun j hj => by have h1 := hnb'h.out j hj; have h2 := hcc'h.out; have h3 := hcd'h.out; omega) (gpA nG)
              change Code.wp _ _ _ _ (w15.setRow c15 (gpA nG))
              generalize World.setRow _ _ _ = W15 at H15 hrow15 ⊢
              clear q80 q81 q82 q0 hb15
              have q80 : W15.cell? ⟨c10, 0, none⟩ = some (.int .u64 (s.key : Int)) := blk_cell H15.rows.2.2.2.2.1 rfl
              have q81 : W15.cell? ⟨c10, 1, none⟩ = some (.int .u64 (s.val : Int)) := blk_cell H15.rows.2.2.2.2.1 rfl
              have q82 : W15.cell? ⟨c10, 2, none⟩ = some (.int .u8 (s.h2 : Int)) := blk_cell H15.rows.2.2.2.2.1 rfl
              obtain ⟨i0, hi, hz0, hz1, hz2⟩ := info_parts infoSl3
              have hbs : bn + 1 ≤ W15.heap.size := by have := H15.lt _ (List.mem_cons_self ..); have h2 := hcc'h.out; have h3 := hcd'h.out; simp only at this; omega
              have hps20 : ps.length ≤ 20 := by have := hpl'h.out; omega
              have H15'h := Lib.hid H15
              have hrow15'h := Lib.hid hrow15
              have hbs'h := Lib.hid hbs
              have hps20'h := Lib.hid hps20
              clear H15 hrow15 hbs hps20
              go_upto_region 31 with (at_builtin; refine wpList_append_slk _ rfl (.tmp 113) (.tmp 115) 26 rfl (bn + 1) 38 i0 (.agg #[.int .u64 0, .int .u64 0, .int .u8 0]) 3 24 Try.underlying26 hi hz0 hz1 hz2 rfl (by decide) _ ps.length _ rfl (ownsRow_next hrow15'h.out ((Below.refl _ _).alloc (Nat.le_refl _) _)) (some ⟨W15.heap.size, 0, none⟩) 1 1 (slL s) rfl (SlK.of_blk (k := 3) (n := 1) (World.alloc_heap_new W15 (.cells #[.int .u64 (s.key : Int), .int .u64 (s.val : Int), .int .u8 (s.h2 : Int)] 38)) rfl (by decide)) (by intro u hu; simp [slL] at hu; rcases hu with rfl | rfl | rfl <;> rfl) (by have := hps20'h.out; unfold maxLen; omega) (by have := hps20'h.out; omega) (by rw [World.size_alloc]; have := hbs'h.out; omega) ?_; intro v' w6 hown' hgrow hat)
              have hsz15 := H15'h.out.lt _ (List.mem_cons_self ..)
              simp only at hsz15
              have hbl : ∀ j, v'.ownBlock = some j → j ≠ c15 + 1 := fun j hj e => by
                rcases hat with h | h
                · have h1 := hnb'h.out j (h ▸ hj); have h2 := hcc'h.out; have h3 := hcd'h.out; omega
                · rw [World.size_alloc] at h; have := Option.some.inj (hj.symm.trans h); omega
              have H16 := (H15'h.out.next ((Below.refl _ _).alloc (Nat.le_refl _) (.cells #[.int .u64 (s.key : Int), .int .u64 (s.val : Int), .int .u8 (s.h2 : Int)] 38))).grown hgrow (fun j hj => by
                have h1 := hnb'h.out j hj
                have h2 := hcc'h.out
                have h3 := hcd'h.out
                have h4 := hrow15'h.out.lt j hj
                have hd := H15'h.out.desc
                have hl := H15'h.out.low
                simp at hd hl
                exact ⟨by omega, fun x hx => by simp at hx; rcases hx with rfl | rfl | rfl | rfl | rfl | rfl | rfl | rfl <;> simp <;> omega⟩)
              have hps2 : ∀ t ∈ ps ++ [s], Sl3Ok t := fun t ht => by
                rcases List.mem_append.1 ht with h | h
                · exact hps'h.out t h
                · rw [List.mem_singleton.1 h]; exact hsok'h.out
              rw [sls_snoc, show ps.length + 1 = (ps ++ [s]).length by simp] at hown'
              have hpl2 : (ps ++ [s]).length ≤ k + 1 := by have := hpl'h.out; simp; omega
              clear q80 q81 q82 hgrow hat hi hz0 hz1 hz2
              have H16'h := Lib.hid H16
              have hown''h := Lib.hid hown'
              have hps2'h := Lib.hid hps2
              have hpl2'h := Lib.hid hpl2
              have hbl'h := Lib.hid hbl
              clear H16 hown' hps2 hpl2 hbl
              cases r with
              | false =>
                obtain ⟨z1, z2, z3⟩ := NZ'h.out rfl
                have z1'h := Lib.hid z1
                have z2'h := Lib.hid z2
                have z3'h := Lib.hid z3
                clear z1 z2 z3
                go_wp2
                go_meet
                refine ⟨⟨rfl, by rw [z3'h.out]; rfl, rfl, by rw [z2'h.out]; rfl⟩, ps ++ [s], hpl2'h.out, hps2'h.out, hown''h.out, ?_⟩
                have HX := H16'h.out
                rw [z1'h.out] at HX ⊢
                exact HX
              | true =>
                go_wp2_with (first | guard_target = wpList _ _ _ (Oper.mk _ (.load _ (.tmp 5)) _ _ _ _ :: _) _ _; refine wpList_load_row rfl 25 (.tmp 5) rfl (bn) rfl 25 (gpA gr) (0, 0) _ H16'h.out.rows.2.2.2.2.2.2.1 Try.underlying25 rfl infoGp ?_ | guard_target = wpList _ _ _ (Oper.mk _ (.load _ (.tmp 10)) _ _ _ _ :: _) _ _; refine wpList_load_row rfl 38 (.tmp 10) rfl (c10) rfl 38 (slA s) (0, 0) _ H16'h.out.rows.2.2.2.2.1 Try.underlying38 rfl infoSl ?_ | (go_at_call 31; refine (RP'h.out (by first | rfl | trivial) (by first | rfl | trivial) _).mono ?_; rintro e w16 ⟨rfl, hb16⟩) | guard_target = wpList _ _ _ (Oper.mk _ (.store _ (.tmp 16) _) _ _ _ _ :: _) _ _; refine wpList_store_row rfl 25 (.tmp 16) _ rfl (c15 + 1) (gpA nG) rfl rfl 25 _ (H16'h.out.next hb16).rows.1 infoGp rfl (gpA_one _) ?_)
                go_meet
                exact ⟨⟨rfl, rfl, rfl, rfl⟩, ps ++ [s], hpl2'h.out, hps2'h.out, row_set (ownsRow_next hown''h.out hb16) (D := c15 + 1) hbl'h.out (gpA nG), (H16'h.out.next hb16).set 0 rfl (gpA nG)⟩
          case rest =>
            obtain ⟨⟨rfl, rfl, rfl, rfl⟩, ps', hpl', hps', hrow20, H20⟩ := hcut
            have hneq : ∀ w, (binOp .neq 25 (.agg (gpA nG)) (.agg (gpA nG))).run Try.prog w = .ok (.bool false) w := fun w => by rw [neq_group hnok'h.out hnok'h.out, sameA_self]; rfl
            clear q0
            have hneq'h := Lib.hid hneq
            clear hneq
            by_cases hz : nE = 0
            · have hz' : ((nE : Int) == 0) = true := by rw [hz]; rfl
              clear hz
              have H20'h := Lib.hid H20
              have hrow20'h := Lib.hid hrow20
              have hpl''h := Lib.hid hpl'
              have hps''h := Lib.hid hps'
              clear H20 hrow20 hpl' hps'
              go_upto_region 37 with (first | guard_target = wpList _ _ _ (Oper.mk _ (.load _ (.tmp 16)) _ _ _ _ :: _) _ _; refine wpList_load_row rfl 25 (.tmp 16) rfl (c15 + 1) rfl 25 (gpA nG) (0, 0) _ H20'h.out.rows.1 Try.underlying25 rfl infoGp ?_ | guard_target = wpList _ _ _ (Oper.mk _ (.load _ (.tmp 15)) _ _ _ _ :: _) _ _; refine wpList_load_row rfl 25 (.tmp 15) rfl (c15) rfl 25 (gpA nG) (0, 0) _ H20'h.out.rows.2.1 Try.underlying25 rfl infoGp ?_ | guard_target = wpList _ _ _ (Oper.mk _ (.binOp .neq _ (.tmp 125) _ _) _ _ _ _ :: _) _ _; refine wpList_binop rfl .neq 25 25 (.tmp 125) (.tmp 126) rfl (guard_agg (by kernel_rfl) _ _ _ _ _ _) (hneq'h.out _) ?_ | guard_target = wpList _ _ _ (Oper.mk _ (.store _ (.tmp 5) _) _ _ _ _ :: _) _ _; refine wpList_store_row rfl 25 (.tmp 5) _ rfl (bn) (gpA nG) rfl rfl 25 _ H20'h.out.rows.2.2.2.2.2.2.1 infoGp rfl (gpA_one _) ?_)
              have H21 := (H20'h.out.set 6 rfl (gpA nG)).tail.tail.tail.tail.tail.tail
              have hrow21 := row_set hrow20'h.out (D := bn) (fun j hj => by have := (hrow20'h.out.lt j hj).1; omega) (gpA nG)
              clear hneq'h
              have H21'h := Lib.hid H21
              have hrow21'h := Lib.hid hrow21
              clear H21 hrow21
              go_wp2
              go_roundg (gk - 1)
              case measure => have := hq'h.out; omega
              case rel => exact ⟨k + 1, nG, ps', by have := hq'h.out; omega, by omega, by go_num, hnok'h.out, hpl''h.out, hps''h.out, H21'h.out, hrow21'h.out⟩
            · have hz' : ((nE : Int) == 0) = false := by simp; omega
              clear hz
              have H20'h := Lib.hid H20
              have hrow20'h := Lib.hid hrow20
              have hpl''h := Lib.hid hpl'
              have hps''h := Lib.hid hps'
              clear H20 hrow20 hpl' hps'
              go_wp2_with (first | guard_target = wpList _ _ _ (Oper.mk _ (.load _ (.tmp 16)) _ _ _ _ :: _) _ _; refine wpList_load_row rfl 25 (.tmp 16) rfl (c15 + 1) rfl 25 (gpA nG) (0, 0) _ H20'h.out.rows.1 Try.underlying25 rfl infoGp ?_ | guard_target = wpList _ _ _ (Oper.mk _ (.load _ (.tmp 15)) _ _ _ _ :: _) _ _; refine wpList_load_row rfl 25 (.tmp 15) rfl (c15) rfl 25 (gpA nG) (0, 0) _ H20'h.out.rows.2.1 Try.underlying25 rfl infoGp ?_ | guard_target = wpList _ _ _ (Oper.mk _ (.binOp .neq _ (.tmp 125) _ _) _ _ _ _ :: _) _ _; refine wpList_binop rfl .neq 25 25 (.tmp 125) (.tmp 126) rfl (guard_agg (by kernel_rfl) _ _ _ _ _ _) (hneq'h.out _) ?_)
              go_roundg (gk - 1)
              case measure => have := hq'h.out; omega
              case rel => exact ⟨k + 1, gr, ps', by have := hq'h.out; omega, by omega, by go_num, hgr'h.out, hpl''h.out, hps''h.out, H20'h.out.tail.tail.tail.tail.tail.tail, hrow20'h.out⟩
    · have hi1 : ¬ ((k : Int) < (n : Int)) := by omega
      have HT := hH
      have hrowT := hrow
      have hpl'h := Lib.hid hpl
      have hps'h := Lib.hid hps
      have hgr'h := Lib.hid hgr
      have hq'h := Lib.hid hq
      clear hpl hps hgr hq
      clear hlt hH hrow
      have HT'h := Lib.hid HT
      have hrowT'h := Lib.hid hrowT
      clear HT hrowT
      go_upto_region 38 with fail
      have HT := HT'h.out
      have hrowT := hrowT'h.out
      generalize wr = VT at HT hrowT ⊢
      clear HT'h hrowT'h
      obtain ⟨sp6, cap6, rfl⟩ := row_slice' hrowT
      have hps20 : ps.length ≤ 20 := by have := hpl'h.out; omega
      have ST : SlK VT 3 sp6 ps.length (sls ps) := SlK.of_row hrowT (by unfold maxLen; omega)
      have hlow6 : ∀ a, sp6 = some a → a.block < VT.heap.size := fun a ha => (hrowT.lt a.block (by rw [ha]; rfl)).2
      have PA := fun w h => puts_any x sp6 ps.length cap6 ps w hx'h.out hps'h.out h (by omega)
      have RX := fun w => rgright_any x w hx'h.out
      have hend := tail_end x ps
      obtain ⟨pG, hpG⟩ : ∃ pG, pG = (putsR x ps).1 := ⟨_, rfl⟩
      obtain ⟨pE, hpE⟩ : ∃ pE, pE = (putsR x ps).2 := ⟨_, rfl⟩
      rw [← hpG, ← hpE] at PA
      clear hrowT
      have HT'h := Lib.hid HT
      have ST'h := Lib.hid ST
      have PA'h := Lib.hid PA
      have RX'h := Lib.hid RX
      have hend'h := Lib.hid hend
      have hpG'h := Lib.hid hpG
      have hpE'h := Lib.hid hpE
      clear HT ST PA RX hend hpG hpE
      go_upto_region 39 with (first | guard_target = wpList _ _ _ (Oper.mk _ (.load _ (.tmp 2)) _ _ _ _ :: _) _ _; refine wpList_load_row rfl 25 (.tmp 2) rfl (w.heap.size) rfl 25 (gpA x) (0, 0) _ HT'h.out.rows.2.1 Try.underlying25 rfl infoGp ?_ | (go_at_call 32; refine (PA'h.out _ ST'h.out).mono ?_; rintro e x1 ⟨rfl, hy1⟩) | guard_target = wpList _ _ _ (Oper.mk _ (.store _ (.tmp 19) _) _ _ _ _ :: _) _ _; refine wpList_store_row rfl 25 (.tmp 19) _ rfl (x1.heap.size) (gpA pG) rfl rfl 25 _ (World.alloc_heap_new _ _) infoGp rfl (gpA_one _) ?_)
      have H19 := ((HT'h.out.next hy1).new (gpA gpZ) 25).set 0 rfl (gpA pG)
      have hB19 : Below VT.heap.size VT ((x1.alloc (.cells (gpA gpZ) 25)).setRow x1.heap.size (gpA pG)) := below_next hy1 (below_setRow' ((Below.refl _ _).alloc (Nat.le_refl _) _) (Nat.le_refl _) _)
      change Code.wp _ _ _ _ ((x1.alloc (.cells (gpA gpZ) 25)).setRow x1.heap.size (gpA pG))
      have ST19 := ST'h.out.below hB19
      have hlow7 : ∀ a, sp6 = some a → a.block < x1.heap.size := fun a ha => Nat.lt_of_lt_of_le (hlow6 a ha) hy1.size
      generalize World.setRow _ _ _ = W19 at H19 ST19 ⊢
      obtain ⟨d19, hd19⟩ : ∃ d19, d19 = x1.heap.size := ⟨_, rfl⟩
      rw [← hd19] at H19 hlow7 ⊢
      clear hd19 hy1 hB19 ST'h HT'h PA'h
      have H19'h := Lib.hid H19
      have ST19'h := Lib.hid ST19
      clear H19 ST19
      go_upto_region 40 with (first | guard_target = wpList _ _ _ (Oper.mk _ (.load _ (.tmp 2)) _ _ _ _ :: _) _ _; refine wpList_load_row rfl 25 (.tmp 2) rfl (w.heap.size) rfl 25 (gpA x) (0, 0) _ H19'h.out.rows.2.2.1 Try.underlying25 rfl infoGp ?_ | guard_target = wpList _ _ _ (Oper.mk _ (.store _ (.tmp 21) _) _ _ _ _ :: _) _ _; refine wpList_store_row rfl 25 (.tmp 21) _ rfl (W19.heap.size) (gpA x) rfl rfl 25 _ (World.alloc_heap_new _ _) infoGp rfl (gpA_one _) ?_)
      have H21 := (H19'h.out.new (gpA gpZ) 25).set 0 rfl (gpA x)
      have hB21 : Below W19.heap.size W19 ((W19.alloc (.cells (gpA gpZ) 25)).setRow W19.heap.size (gpA x)) := below_setRow' ((Below.refl _ _).alloc (Nat.le_refl _) _) (Nat.le_refl _) _
      change Code.wp _ _ _ _ ((W19.alloc (.cells (gpA gpZ) 25)).setRow W19.heap.size (gpA x))
      have ST21 := ST19'h.out.below hB21
      generalize World.setRow _ _ _ = W21 at H21 ST21 ⊢
      obtain ⟨d21, hd21⟩ : ∃ d21, d21 = W19.heap.size := ⟨_, rfl⟩
      rw [← hd21] at H21 ⊢
      have hlow8 : ∀ a, sp6 = some a → a.block < d21 := fun a ha => by have h1 := hlow7 a ha; have h2 := H21.desc; simp at h2; omega
      clear hlow6 hlow7 hd21 hB21 H19'h ST19'h
      have H21'h := Lib.hid H21
      have ST21'h := Lib.hid ST21
      have hlow8'h := Lib.hid hlow8
      clear H21 ST21 hlow8
      cases hr : rightG x with
      | true =>
        have ht0 : tailK x ps 0 = (x, 0) := by unfold tailK; rw [hr]; rfl
        rw [hr] at RX'h
        have hr'h := Lib.hid hr
        have ht0'h := Lib.hid ht0
        clear hr ht0
        go_upto_region 42 with (first | guard_target = wpList _ _ _ (Oper.mk _ (.load _ (.tmp 2)) _ _ _ _ :: _) _ _; refine wpList_load_row rfl 25 (.tmp 2) rfl (w.heap.size) rfl 25 (gpA x) (0, 0) _ H21'h.out.rows.2.2.2.1 Try.underlying25 rfl infoGp ?_ | (go_at_call 9; refine (RX'h.out _).mono ?_; rintro e w22 ⟨rfl, hb22⟩))
        have H22 := H21'h.out.next hb22
        have ST22 := ST21'h.out.below hb22
        clear hb22 H21'h ST21'h RX'h
        have H22'h := Lib.hid H22
        have ST22'h := Lib.hid ST22
        clear H22 ST22
        go_wp2
        go_loopg [22, 154] ps.length (fun q v22 i wr => ∃ (k : Nat) (st : Gp × Nat), k + q = ps.length ∧ i = .int .i64 k ∧ st = tailK x ps k ∧ v22 = .int .i64 st.2 ∧ GpOk st.1 ∧ Hs w [(d21, gpA st.1, 25), (d19, gpA pG, 25), (bn, gpA gr, 25), (w.heap.size, gpA x, 25)] wr ∧ SlK wr 3 sp6 ps.length (sls ps))
        case atStart => exact ⟨0, _, by omega, rfl, ht0'h.out.symm, rfl, hx'h.out, H22'h.out, ST22'h.out⟩
        case round =>
          obtain ⟨k2, ⟨g1, e1⟩, hq2, rfl, hst, rfl, hg1, hH2, hB2⟩ := hrel
          dsimp only at hg1 hH2 ⊢
          by_cases hlt2 : k2 < ps.length
          · obtain ⟨sb, so, rfl, -⟩ := hB2.some' (by omega)
            obtain ⟨d0, d1, d2⟩ := sls_cells hB2 hlt2
            have hs2 := hps'h.out _ (nthS_mem hlt2)
            have hnx := tailK_succ (x := x) hlt2
            rw [← hst] at hnx
            obtain ⟨t, ht⟩ : ∃ t, t = nthS ps k2 := ⟨_, rfl⟩
            rw [← ht] at d0 d1 d2 hs2 hnx
            have i1 : (k2 : Int) < (ps.length : Int) := by omega
            have i2 : (0 : Int) ≤ (k2 : Int) := by omega
            have hk20 : k2 ≤ 20 := by omega
            have H24 := hH2.new (slA t) 38
            have hB24 : SlK (wr.alloc (.cells (slA t) 38)) 3 (some ⟨sb, so, none⟩) ps.length (sls ps) := hB2.below ((Below.refl _ _).alloc (Nat.le_refl _) _)
            clear ht
            have hq2'h := Lib.hid hq2
            have hst'h := Lib.hid hst
            have hg1'h := Lib.hid hg1
            have hH2'h := Lib.hid hH2
            have hB2'h := Lib.hid hB2
            have hlt2'h := Lib.hid hlt2
            have hs2'h := Lib.hid hs2
            have hnx'h := Lib.hid hnx
            have H24'h := Lib.hid H24
            have hB24'h := Lib.hid hB24
            clear hq2 hst hg1 hH2 hB2 hlt2 hs2 hnx H24 hB24
            go_upto_region 45 with fail
            change Code.wp _ _ _ _ (wr.alloc (.cells (slA t) 38))
            have H24 := H24'h.out
            have hB24 := hB24'h.out
            clear H24'h hB24'h d0 d1 d2
            generalize wr.alloc _ = W24 at H24 hB24 ⊢
            obtain ⟨d24, hd24⟩ : ∃ d24, d24 = wr.heap.size := ⟨_, rfl⟩
            rw [← hd24] at H24 ⊢
            clear hd24
            have H24'h := Lib.hid H24
            have hB24'h := Lib.hid hB24
            clear H24 hB24
            by_cases hz : e1 = 0
            · subst hz
              obtain ⟨st2, hst2⟩ : ∃ st2, st2 = putStep (g1, 0) t := ⟨_, rfl⟩
              have RP := fun w => rgput_step g1 t w hg1'h.out hs2'h.out st2 hst2.symm
              have hok2 : GpOk st2.1 := by rw [hst2]; exact putStep_ok hg1'h.out hs2'h.out
              have hnx2 : st2 = tailK x ps (k2 + 1) := by rw [hst2, hnx'h.out]
              clear hst2
              obtain ⟨g2, e2⟩ := st2
              dsimp only at RP hok2
              have RP'h := Lib.hid RP
              have hok2'h := Lib.hid hok2
              have hnx2'h := Lib.hid hnx2
              clear RP hok2 hnx2
              go_wp2_with (first | guard_target = wpList _ _ _ (Oper.mk _ (.load _ (.tmp 21)) _ _ _ _ :: _) _ _; refine wpList_load_row rfl 25 (.tmp 21) rfl (d21) rfl 25 (gpA g1) (0, 0) _ H24'h.out.rows.2.1 Try.underlying25 rfl infoGp ?_ | guard_target = wpList _ _ _ (Oper.mk _ (.load _ (.tmp 24)) _ _ _ _ :: _) _ _; refine wpList_load_row rfl 38 (.tmp 24) rfl (d24) rfl 38 (slA t) (0, 0) _ H24'h.out.rows.1 Try.underlying38 rfl infoSl ?_ | (go_at_call 31; refine (RP'h.out _).mono ?_; rintro e w25 ⟨ln2, rfl, hb25⟩) | guard_target = wpList _ _ _ (Oper.mk _ (.store _ (.tmp 21) _) _ _ _ _ :: _) _ _; refine wpList_store_row rfl 25 (.tmp 21) _ rfl (d21) (gpA g2) rfl rfl 25 _ (H24'h.out.next hb25).rows.2.1 infoGp rfl (gpA_one _) ?_)
              go_roundg (gk - 1)
              case measure => have := hq2'h.out; omega
              case rel => exact ⟨k2 + 1, (g2, e2), by have := hq2'h.out; omega, by go_num, hnx2'h.out, rfl, hok2'h.out, ((H24'h.out.next hb25).set 1 rfl (gpA g2)).tail, (hB24'h.out.below hb25).keep fun b o _ hb ho => by
                have h1 := hlow8'h.out _ rfl
                simp at hb h1
                rw [setRow_other _ _ _ _ (by omega)]; exact ho⟩
            · have hz' : ((e1 : Int) == 0) = false := by simp; omega
              have hnx2 : (g1, e1) = tailK x ps (k2 + 1) := by rw [hnx'h.out, putStep_no hz]
              have hz'h := Lib.hid hz
              have hnx2'h := Lib.hid hnx2
              clear hz hnx2
              go_wp2
              go_roundg (gk - 1)
              case measure => have := hq2'h.out; omega
              case rel => exact ⟨k2 + 1, (g1, e1), by have := hq2'h.out; omega, by go_num, hnx2'h.out, rfl, hg1'h.out, H24'h.out.tail, hB24'h.out⟩
          · obtain rfl : k2 = ps.length := by omega
            have hend := hend'h.out
            rw [← hst] at hend
            have i1 : ¬ (ps.length : Int) < (ps.length : Int) := by omega
            have hE : pE = e1 := by rw [hpE'h.out, hend]
            have hcmp : ((pE : Int) == (e1 : Int)) = true := by rw [hE]; simp
            clear hlt2
            by_cases hz : e1 = 0
            · have hG : pG = g1 := by rw [hpG'h.out, hend]; exact if_pos hz
              have hz' : ((e1 : Int) != 0) = false := by rw [hz]; rfl
              subst hG
              have heq : ∀ w, (binOp .eql 25 (.agg (gpA pG)) (.agg (gpA pG))).run Try.prog w = .ok (.bool true) w := fun w => by rw [eql_group hg1 hg1, sameA_self]
              have hq2'h := Lib.hid hq2
              have hst'h := Lib.hid hst
              have hg1'h := Lib.hid hg1
              have hH2'h := Lib.hid hH2
              have hB2'h := Lib.hid hB2
              have hend'h := Lib.hid hend
              have hz'h := Lib.hid hz
              have hE'h := Lib.hid hE
              have heq'h := Lib.hid heq
              clear hq2 hst hg1 hH2 hB2 hend hz hE heq
              go_wp2_with (first | guard_target = wpList _ _ _ (Oper.mk _ (.load _ (.tmp 19)) _ _ _ _ :: _) _ _; refine wpList_load_row rfl 25 (.tmp 19) rfl (d19) rfl 25 (gpA pG) (0, 0) _ hH2'h.out.rows.2.1 Try.underlying25 rfl infoGp ?_ | guard_target = wpList _ _ _ (Oper.mk _ (.load _ (.tmp 21)) _ _ _ _ :: _) _ _; refine wpList_load_row rfl 25 (.tmp 21) rfl (d21) rfl 25 (gpA pG) (0, 0) _ hH2'h.out.rows.1 Try.underlying25 rfl infoGp ?_ | guard_target = wpList _ _ _ (Oper.mk _ (.binOp .eql _ (.tmp 171) _ _) _ _ _ _ :: _) _ _; refine wpList_binop rfl .eql 25 25 (.tmp 171) (.tmp 172) rfl (guard_agg (by kernel_rfl) _ _ _ _ _ _) (heq'h.out _) ?_)
              go_ret
              exact ⟨rfl, hH2'h.out.old⟩
            · have hG : pG = gpZ := by rw [hpG'h.out, hend]; exact if_neg hz
              have hz' : ((e1 : Int) != 0) = true := by simp; omega
              subst hG
              have heq : ∀ w, (binOp .eql 25 (.agg (gpA gpZ)) (.agg (gpA gpZ))).run Try.prog w = .ok (.bool true) w := fun w => by rw [eql_group gpZ_ok gpZ_ok, sameA_self]
              have H30 := hH2.set 0 rfl (gpA gpZ)
              have hq2'h := Lib.hid hq2
              have hst'h := Lib.hid hst
              have hg1'h := Lib.hid hg1
              have hH2'h := Lib.hid hH2
              have hB2'h := Lib.hid hB2
              have hend'h := Lib.hid hend
              have hz'h := Lib.hid hz
              have hE'h := Lib.hid hE
              have heq'h := Lib.hid heq
              have H30'h := Lib.hid H30
              clear hq2 hst hg1 hH2 hB2 hend hz hE heq H30
              go_upto_region 50 with (first | guard_target = wpList _ _ _ (Oper.mk _ (.build _ _) _ _ _ _ :: _) _ _; refine wpList_build_agg rfl 25 #[] (by rfl) (gpA gpZ) [] (by rfl) gpZ_built ?_ | guard_target = wpList _ _ _ (Oper.mk _ (.store _ (.tmp 21) _) _ _ _ _ :: _) _ _; refine wpList_store_row rfl 25 (.tmp 21) _ rfl (d21) (gpA gpZ) rfl rfl 25 _ hH2'h.out.rows.1 infoGp rfl (gpA_one _) ?_)
              generalize World.setRow _ _ _ = W30 at H30'h ⊢
              go_wp2_with (first | guard_target = wpList _ _ _ (Oper.mk _ (.load _ (.tmp 19)) _ _ _ _ :: _) _ _; refine wpList_load_row rfl 25 (.tmp 19) rfl (d19) rfl 25 (gpA gpZ) (0, 0) _ H30'h.out.rows.2.1 Try.underlying25 rfl infoGp ?_ | guard_target = wpList _ _ _ (Oper.mk _ (.load _ (.tmp 21)) _ _ _ _ :: _) _ _; refine wpList_load_row rfl 25 (.tmp 21) rfl (d21) rfl 25 (gpA gpZ) (0, 0) _ H30'h.out.rows.1 Try.underlying25 rfl infoGp ?_ | guard_target = wpList _ _ _ (Oper.mk _ (.binOp .eql _ (.tmp 171) _ _) _ _ _ _ :: _) _ _; refine wpList_binop rfl .eql 25 25 (.tmp 171) (.tmp 172) rfl (guard_agg (by kernel_rfl) _ _ _ _ _ _) (heq'h.out _) ?_)
              go_ret
              exact ⟨rfl, H30'h.out.old⟩
      | false =>
        have ht0 : tailK x ps 0 = (x, 200) := by unfold tailK; rw [hr]; rfl
        rw [hr] at RX'h
        have hr'h := Lib.hid hr
        have ht0'h := Lib.hid ht0
        clear hr ht0
        go_upto_region 42 with (first | guard_target = wpList _ _ _ (Oper.mk _ (.load _ (.tmp 2)) _ _ _ _ :: _) _ _; refine wpList_load_row rfl 25 (.tmp 2) rfl (w.heap.size) rfl 25 (gpA x) (0, 0) _ H21'h.out.rows.2.2.2.1 Try.underlying25 rfl infoGp ?_ | (go_at_call 9; refine (RX'h.out _).mono ?_; rintro e w22 ⟨rfl, hb22⟩))
        have H22 := H21'h.out.next hb22
        have ST22 := ST21'h.out.below hb22
        clear hb22 H21'h ST21'h RX'h
        have H22'h := Lib.hid H22
        have ST22'h := Lib.hid ST22
        clear H22 ST22
        go_wp2
        go_loopg [22, 154] ps.length (fun q v22 i wr => ∃ (k : Nat) (st : Gp × Nat), k + q = ps.length ∧ i = .int .i64 k ∧ st = tailK x ps k ∧ v22 = .int .i64 st.2 ∧ GpOk st.1 ∧ Hs w [(d21, gpA st.1, 25), (d19, gpA pG, 25), (bn, gpA gr, 25), (w.heap.size, gpA x, 25)] wr ∧ SlK wr 3 sp6 ps.length (sls ps))
        case atStart => exact ⟨0, _, by omega, rfl, ht0'h.out.symm, rfl, hx'h.out, H22'h.out, ST22'h.out⟩
        case round =>
          obtain ⟨k2, ⟨g1, e1⟩, hq2, rfl, hst, rfl, hg1, hH2, hB2⟩ := hrel
          dsimp only at hg1 hH2 ⊢
          by_cases hlt2 : k2 < ps.length
          · obtain ⟨sb, so, rfl, -⟩ := hB2.some' (by omega)
            obtain ⟨d0, d1, d2⟩ := sls_cells hB2 hlt2
            have hs2 := hps'h.out _ (nthS_mem hlt2)
            have hnx := tailK_succ (x := x) hlt2
            rw [← hst] at hnx
            obtain ⟨t, ht⟩ : ∃ t, t = nthS ps k2 := ⟨_, rfl⟩
            rw [← ht] at d0 d1 d2 hs2 hnx
            have i1 : (k2 : Int) < (ps.length : Int) := by omega
            have i2 : (0 : Int) ≤ (k2 : Int) := by omega
            have hk20 : k2 ≤ 20 := by omega
            have H24 := hH2.new (slA t) 38
            have hB24 : SlK (wr.alloc (.cells (slA t) 38)) 3 (some ⟨sb, so, none⟩) ps.length (sls ps) := hB2.below ((Below.refl _ _).alloc (Nat.le_refl _) _)
            clear ht
            have hq2'h := Lib.hid hq2
            have hst'h := Lib.hid hst
            have hg1'h := Lib.hid hg1
            have hH2'h := Lib.hid hH2
            have hB2'h := Lib.hid hB2
            have hlt2'h := Lib.hid hlt2
            have hs2'h := Lib.hid hs2
            have hnx'h := Lib.hid hnx
            have H24'h := Lib.hid H24
            have hB24'h := Lib.hid hB24
            clear hq2 hst hg1 hH2 hB2 hlt2 hs2 hnx H24 hB24
            go_upto_region 45 with fail
            change Code.wp _ _ _ _ (wr.alloc (.cells (slA t) 38))
            have H24 := H24'h.out
            have hB24 := hB24'h.out
            clear H24'h hB24'h d0 d1 d2
            generalize wr.alloc _ = W24 at H24 hB24 ⊢
            obtain ⟨d24, hd24⟩ : ∃ d24, d24 = wr.heap.size := ⟨_, rfl⟩
            rw [← hd24] at H24 ⊢
            clear hd24
            have H24'h := Lib.hid H24
            have hB24'h := Lib.hid hB24
            clear H24 hB24
            by_cases hz : e1 = 0
            · subst hz
              obtain ⟨st2, hst2⟩ : ∃ st2, st2 = putStep (g1, 0) t := ⟨_, rfl⟩
              have RP := fun w => rgput_step g1 t w hg1'h.out hs2'h.out st2 hst2.symm
              have hok2 : GpOk st2.1 := by rw [hst2]; exact putStep_ok hg1'h.out hs2'h.out
              have hnx2 : st2 = tailK x ps (k2 + 1) := by rw [hst2, hnx'h.out]
              clear hst2
              obtain ⟨g2, e2⟩ := st2
              dsimp only at RP hok2
              have RP'h := Lib.hid RP
              have hok2'h := Lib.hid hok2
              have hnx2'h := Lib.hid hnx2
              clear RP hok2 hnx2
              go_wp2_with (first | guard_target = wpList _ _ _ (Oper.mk _ (.load _ (.tmp 21)) _ _ _ _ :: _) _ _; refine wpList_load_row rfl 25 (.tmp 21) rfl (d21) rfl 25 (gpA g1) (0, 0) _ H24'h.out.rows.2.1 Try.underlying25 rfl infoGp ?_ | guard_target = wpList _ _ _ (Oper.mk _ (.load _ (.tmp 24)) _ _ _ _ :: _) _ _; refine wpList_load_row rfl 38 (.tmp 24) rfl (d24) rfl 38 (slA t) (0, 0) _ H24'h.out.rows.1 Try.underlying38 rfl infoSl ?_ | (go_at_call 31; refine (RP'h.out _).mono ?_; rintro e w25 ⟨ln2, rfl, hb25⟩) | guard_target = wpList _ _ _ (Oper.mk _ (.store _ (.tmp 21) _) _ _ _ _ :: _) _ _; refine wpList_store_row rfl 25 (.tmp 21) _ rfl (d21) (gpA g2) rfl rfl 25 _ (H24'h.out.next hb25).rows.2.1 infoGp rfl (gpA_one _) ?_)
              go_roundg (gk - 1)
              case measure => have := hq2'h.out; omega
              case rel => exact ⟨k2 + 1, (g2, e2), by have := hq2'h.out; omega, by go_num, hnx2'h.out, rfl, hok2'h.out, ((H24'h.out.next hb25).set 1 rfl (gpA g2)).tail, (hB24'h.out.below hb25).keep fun b o _ hb ho => by
                have h1 := hlow8'h.out _ rfl
                simp at hb h1
                rw [setRow_other _ _ _ _ (by omega)]; exact ho⟩
            · have hz' : ((e1 : Int) == 0) = false := by simp; omega
              have hnx2 : (g1, e1) = tailK x ps (k2 + 1) := by rw [hnx'h.out, putStep_no hz]
              have hz'h := Lib.hid hz
              have hnx2'h := Lib.hid hnx2
              clear hz hnx2
              go_wp2
              go_roundg (gk - 1)
              case measure => have := hq2'h.out; omega
              case rel => exact ⟨k2 + 1, (g1, e1), by have := hq2'h.out; omega, by go_num, hnx2'h.out, rfl, hg1'h.out, H24'h.out.tail, hB24'h.out⟩
          · obtain rfl : k2 = ps.length := by omega
            have hend := hend'h.out
            rw [← hst] at hend
            have i1 : ¬ (ps.length : Int) < (ps.length : Int) := by omega
            have hE : pE = e1 := by rw [hpE'h.out, hend]
            have hcmp : ((pE : Int) == (e1 : Int)) = true := by rw [hE]; simp
            clear hlt2
            by_cases hz : e1 = 0
            · have hG : pG = g1 := by rw [hpG'h.out, hend]; exact if_pos hz
              have hz' : ((e1 : Int) != 0) = false := by rw [hz]; rfl
              subst hG
              have heq : ∀ w, (binOp .eql 25 (.agg (gpA pG)) (.agg (gpA pG))).run Try.prog w = .ok (.bool true) w := fun w => by rw [eql_group hg1 hg1, sameA_self]
              have hq2'h := Lib.hid hq2
              have hst'h := Lib.hid hst
              have hg1'h := Lib.hid hg1
              have hH2'h := Lib.hid hH2
              have hB2'h := Lib.hid hB2
              have hend'h := Lib.hid hend
              have hz'h := Lib.hid hz
              have hE'h := Lib.hid hE
              have heq'h := Lib.hid heq
              clear hq2 hst hg1 hH2 hB2 hend hz hE heq
              go_wp2_with (first | guard_target = wpList _ _ _ (Oper.mk _ (.load _ (.tmp 19)) _ _ _ _ :: _) _ _; refine wpList_load_row rfl 25 (.tmp 19) rfl (d19) rfl 25 (gpA pG) (0, 0) _ hH2'h.out.rows.2.1 Try.underlying25 rfl infoGp ?_ | guard_target = wpList _ _ _ (Oper.mk _ (.load _ (.tmp 21)) _ _ _ _ :: _) _ _; refine wpList_load_row rfl 25 (.tmp 21) rfl (d21) rfl 25 (gpA pG) (0, 0) _ hH2'h.out.rows.1 Try.underlying25 rfl infoGp ?_ | guard_target = wpList _ _ _ (Oper.mk _ (.binOp .eql _ (.tmp 171) _ _) _ _ _ _ :: _) _ _; refine wpList_binop rfl .eql 25 25 (.tmp 171) (.tmp 172) rfl (guard_agg (by kernel_rfl) _ _ _ _ _ _) (heq'h.out _) ?_)
              go_ret
              exact ⟨rfl, hH2'h.out.old⟩
            · have hG : pG = gpZ := by rw [hpG'h.out, hend]; exact if_neg hz
              have hz' : ((e1 : Int) != 0) = true := by simp; omega
              subst hG
              have heq : ∀ w, (binOp .eql 25 (.agg (gpA gpZ)) (.agg (gpA gpZ))).run Try.prog w = .ok (.bool true) w := fun w => by rw [eql_group gpZ_ok gpZ_ok, sameA_self]
              have H30 := hH2.set 0 rfl (gpA gpZ)
              have hq2'h := Lib.hid hq2
              have hst'h := Lib.hid hst
              have hg1'h := Lib.hid hg1
              have hH2'h := Lib.hid hH2
              have hB2'h := Lib.hid hB2
              have hend'h := Lib.hid hend
              have hz'h := Lib.hid hz
              have hE'h := Lib.hid hE
              have heq'h := Lib.hid heq
              have H30'h := Lib.hid H30
              clear hq2 hst hg1 hH2 hB2 hend hz hE heq H30
              go_upto_region 50 with (first | guard_target = wpList _ _ _ (Oper.mk _ (.build _ _) _ _ _ _ :: _) _ _; refine wpList_build_agg rfl 25 #[] (by rfl) (gpA gpZ) [] (by rfl) gpZ_built ?_ | guard_target = wpList _ _ _ (Oper.mk _ (.store _ (.tmp 21) _) _ _ _ _ :: _) _ _; refine wpList_store_row rfl 25 (.tmp 21) _ rfl (d21) (gpA gpZ) rfl rfl 25 _ hH2'h.out.rows.1 infoGp rfl (gpA_one _) ?_)
              generalize World.setRow _ _ _ = W30 at H30'h ⊢
              go_wp2_with (first | guard_target = wpList _ _ _ (Oper.mk _ (.load _ (.tmp 19)) _ _ _ _ :: _) _ _; refine wpList_load_row rfl 25 (.tmp 19) rfl (d19) rfl 25 (gpA gpZ) (0, 0) _ H30'h.out.rows.2.1 Try.underlying25 rfl infoGp ?_ | guard_target = wpList _ _ _ (Oper.mk _ (.load _ (.tmp 21)) _ _ _ _ :: _) _ _; refine wpList_load_row rfl 25 (.tmp 21) rfl (d21) rfl 25 (gpA gpZ) (0, 0) _ H30'h.out.rows.1 Try.underlying25 rfl infoGp ?_ | guard_target = wpList _ _ _ (Oper.mk _ (.binOp .eql _ (.tmp 171) _ _) _ _ _ _ :: _) _ _; refine wpList_binop rfl .eql 25 25 (.tmp 171) (.tmp 172) rfl (guard_agg (by kernel_rfl) _ _ _ _ _ _) (heq'h.out _) ?_)
              go_ret
              exact ⟨rfl, H30'h.out.old⟩
end Go.Proofs.Ytfoohdjgnphdgaa
