/-
  Fills: the closure.
-/
import Derived.Test.YtfoohdjgnphdgaaCtrlG
import Derived.Test.YtfoohdjgnphdgaaScope
import Derived.Test.YtfoohdjgnphdgaaMarks
import Derived.Test.YtfoohdjgnphdgaaCommon
import Derived.Test.YtfoohdjgnphdgaaRef09
import Derived.StillTailTactics
set_option linter.unusedSimpArgs false
set_option linter.unusedVariables false
set_option maxRecDepth 100000
namespace Go.Proofs.Ytfoohdjgnphdgaa
open Go.RowKit

/-- One free slot more is filled. -/
def fillStep (s : Option (Nat × List Nat)) (h : Nat) : Option (Nat × List Nat) :=
  match s with
  | none => none
  | some (x, l) => if h ≤ 127 ∧ 0 < (lanesOf (freeM x)).length then some (setLane x (nthN (lanesOf (freeM x)) 0) h, l ++ [nthN (lanesOf (freeM x)) 0]) else none
def fillsK (x : Nat) (hs : List Nat) (k : Nat) : Option (Nat × List Nat) := (hs.take k).foldl fillStep (some (x, []))
theorem fold_none (hs : List Nat) : hs.foldl fillStep none = none := by
  induction hs with
  | nil => rfl
  | cons a r ih => exact ih
theorem fillsK_succ (x : Nat) (hs : List Nat) {k : Nat} (h : k < hs.length) : fillsK x hs (k + 1) = fillStep (fillsK x hs k) (nthN hs k) := by
  unfold fillsK
  rw [List.take_succ_eq_append_getElem h, List.foldl_append, nthN_eq h]; rfl
theorem fillsK_stuck (x : Nat) (hs : List Nat) {k : Nat} (h : fillsK x hs k = none) (hk : k ≤ hs.length) : fillsK x hs hs.length = none := by
  unfold fillsK at *
  have e : hs.take hs.length = hs.take k ++ hs.drop k := by rw [List.take_length, List.take_append_drop]
  rw [e, List.foldl_append, h, fold_none]
theorem free_lane {x : Nat} (h : 0 < (lanesOf (freeM x)).length) : nthN (lanesOf (freeM x)) 0 < 8 ∧ fullAt x (nthN (lanesOf (freeM x)) 0) = false := by
  have hm := nthN_mem h
  generalize nthN (lanesOf (freeM x)) 0 = n at *
  unfold lanesOf at hm
  obtain ⟨h1, h2⟩ := List.mem_filter.1 hm
  have h8 : n < 8 := List.mem_range.1 h1
  refine ⟨h8, ?_⟩
  have ht : (freeM x).testBit n = true := by
    rw [Nat.testBit_eq_decide_div_mod_eq]
    simpa using h2
  unfold freeM at ht
  rw [equalM_def, equalM_def, mask_or, tb_range'] at ht
  simp [h8] at ht
  unfold fullAt
  simp; omega

theorem Kept.only {S : Nat → Prop} {g : Nat} {w w' : World} (h : Only g w w') (hg : ¬ S g) : Kept S w w' :=
  ⟨(h.1 0 (Nat.zero_le _)).os, (h.1 0 (Nat.zero_le _)).tape, (h.1 0 (Nat.zero_le _)).output, (h.1 0 (Nat.zero_le _)).size, fun b hb hs => h.2 b (fun e => hg (e ▸ hs)) hb⟩
/-- Between rounds of Fills. -/
structure FillM (g B : Nat) (w : World) (x : Nat) (l : List Nat) (v : Value) (bs : List Nat) (W : World) : Prop where
  res : W.heap[B]? = some (.cells #[.int .u64 0, .slice none 0 0] 134 (0, 0))
  fn : W.heap[B + 1]? = some (.cells #[.func (.func 91) #[.pointer (some ⟨g, 0, none⟩)] #[]] 131 (0, 0))
  var : W.heap[B + 2]? = some (.cells #[v] 39 (0, 0))
  row : W.ownsRow (B + 3) 3 1 v l.length (ints l)
  hand : W.heap[g]? = some (HandB x)
  x64 : x < 2 ^ 64
  nd : bs.Nodup
  marks : ∀ D ∈ bs, B + 3 ≤ D ∧ W.heap[D]? = some (.deferred (some []))
  size : B + 3 ≤ W.heap.size
  old : Below g w W
  gB : g < B
  Bw : B = w.heap.size
/-- .. and within one. -/
structure FillR (g B : Nat) (w : World) (x : Nat) (l : List Nat) (v : Value) (bs : List Nat) (c h : Nat) (S : Nat → Prop) (W : World) : Prop where
  core : FillM g B w x l v bs W
  byte : W.heap[c]? = some (.cells #[.int .u8 h] 5 (0, 0))
  cB : B + 3 ≤ c
  mine : ∀ b, b < B + 3 → ¬ S b
  minec : ¬ S c
  minev : ∀ k, v.ownBlock = some k → ¬ S k
  mined : ∀ D ∈ bs, ¬ S D
theorem FillR.stable (g B : Nat) (w : World) (x : Nat) (l : List Nat) (v : Value) (bs : List Nat) (c h : Nat) : Stable (FillR g B w x l v bs c h) := fun S S' W W' i f => by
  obtain ⟨⟨h1, h2, h3, h4, h5, h6, h7, h8, h9, h10, h11, h12⟩, b1, b2, b3, b4, b5, b6⟩ := i
  have hr := OwnR.stable _ _ _ _ _ _ _ _ _ _ (OwnR.mk h4 b5) f
  refine ⟨⟨f.heap' (b3 _ (by omega)) h1, f.heap' (b3 _ (by omega)) h2, f.heap' (b3 _ (by omega)) h3, hr.row, f.heap' (b3 _ (by omega)) h5, h6, h7, fun D hD => ⟨(h8 D hD).1, f.heap' (b6 D hD) (h8 D hD).2⟩, Nat.le_trans h9 f.size, ?_, h11, h12⟩,
    f.heap' b4 b1, b2, fun b hb => f.not (by omega) (b3 b hb), f.not (lt_of_heap b1) b4, hr.mine, fun D hD => f.not (lt_of_heap (h8 D hD).2) (b6 D hD)⟩
  exact f.below h10 (by omega) (fun b hb => b3 b (by omega))
/-- The first round, and no other. -/
def FillI (g B : Nat) (w : World) (x : Nat) (l : List Nat) (v : Value) (bs : List Nat) (c h : Nat) (k : Nat) (S : Nat → Prop) (W : World) : Prop := k = 0 ∧ FillR g B w x l v bs c h S W
theorem FillI.stable (g B : Nat) (w : World) (x : Nat) (l : List Nat) (v : Value) (bs : List Nat) (c h k : Nat) : Stable (FillI g B w x l v bs c h k) := (Stable.pure _).and (FillR.stable _ _ _ _ _ _ _ _ _)
def FillX (id g B : Nat) (w : World) (x : Nat) (l : List Nat) (bs : List Nat) (c h : Nat) (co : Code) (_k : Nat) (S : Nat → Prop) (W : World) : Prop := co = .exit id ∧ ∃ v, FillR g B w x l v bs c h S W
theorem FillX.stable (id g B : Nat) (w : World) (x : Nat) (l : List Nat) (bs : List Nat) (c h : Nat) (co : Code) (k : Nat) : Stable (FillX id g B w x l bs c h co k) := (Stable.pure _).and (Stable.ex fun v => FillR.stable _ _ _ _ _ _ _ _ _)
theorem fillR_next {g B : Nat} {w : World} {x y : Nat} {l : List Nat} {v v' : Value} {bs : List Nat} {c h cw : Nat} {S : Nat → Prop} {W2 W3 w4 : World} (lane : Nat) (hI : FillR g B w x l v bs c h S W2) (hO : Only g W2 W3) (hh : W3.heap[g]? = some (HandB y)) (hy : y < 2 ^ 64)
    (hown' : w4.ownsRow (B + 3) 3 1 v' (l.length + 1) (ints l ++ [.int .i64 lane])) (hgrow : (W3.alloc (.cells #[.int .i64 lane] 3)).grownBy w4 v.ownBlock)
    (hwh : v'.ownBlock = v.ownBlock ∨ v'.ownBlock = some (W3.alloc (.cells #[.int .i64 lane] 3)).heap.size) (hSb : ∀ b, S b → b < W2.heap.size) (hvlt : ∀ k, v.ownBlock = some k → k < c) (hcw : c < cw) :
    Kept (fun b => b = cw ∨ S b) W2 (w4.setCell ⟨B + 2, 0, none⟩ v') ∧ FillR g B w y (l ++ [lane]) v' bs c h S (w4.setCell ⟨B + 2, 0, none⟩ v') := by
  obtain ⟨⟨h1, h2, h3, h4, h5, h6, h7, h8, h9, h10, h11, h12⟩, b1, b2, b3, b4, b5, b6⟩ := hI
  have hlo : ∀ k, v.ownBlock = some k → B + 3 ≤ k := fun k hk => (h4.lt k hk).1
  have hO0 := hO.1 0 (Nat.zero_le _)
  have hz : W2.heap.size ≤ W3.heap.size := hO0.size
  have hfar : ∀ b, b < W2.heap.size → b ≠ g → b ≠ B + 2 → v.ownBlock ≠ some b → (w4.setCell ⟨B + 2, 0, none⟩ v').heap[b]? = W2.heap[b]? := fun b hb hg hB2 hv => by
    refine (Below.heap_setCell _ _ _ _ (by simpa using hB2)).trans ?_
    refine (hgrow.block b (by simp; omega) (fun e => hv e.symm)).trans ?_
    exact (Below.heap_alloc _ _ _ (by omega)).trans (hO.2 b hg hb)
  have hv8 : ∀ b, b < B + 3 → v.ownBlock ≠ some b := fun b hb e => by have := hlo b e; omega
  have hg3 : w4.heap[g]? = some (HandB y) := by
    refine (hgrow.block g (by simp; have := lt_of_heap hh; omega) (fun e => hv8 g (by omega) e.symm)).trans ?_
    exact (Below.heap_alloc _ _ _ (lt_of_heap hh)).trans hh
  have hz4 : W3.heap.size + 1 ≤ w4.heap.size := by have := hgrow.size; simpa using this
  have hKs : ∀ b, S b → b ≠ g ∧ b ≠ B + 2 ∧ v.ownBlock ≠ some b := fun b hb => ⟨fun e => b3 b (by omega) hb, fun e => b3 b (by omega) hb, fun e => b5 b e hb⟩
  refine ⟨⟨hgrow.os.trans hO0.os, hgrow.tape.trans hO0.tape, hgrow.output.trans hO0.output, by rw [World.size_setCell]; omega, fun b hb hs => ?_⟩, ⟨⟨?_, ?_, ?_, ?_, ?_, hy, h7, ?_, ?_, ?_, h11, h12⟩, ?_, b2, b3, b4, ?_, b6⟩⟩
  · rcases hs with rfl | hs
    · exact hfar b hb (by omega) (by omega) (fun e => by have := hvlt b e; omega)
    · obtain ⟨q1, q2, q3⟩ := hKs b hs
      exact hfar b hb q1 q2 q3
  · exact (hfar B (by omega) (by omega) (by omega) (hv8 _ (by omega))).trans h1
  · exact (hfar (B + 1) (by omega) (by omega) (by omega) (hv8 _ (by omega))).trans h2
  · have hb2 : w4.heap[B + 2]? = some (.cells #[v] 39 (0, 0)) := by
      refine (hgrow.block (B + 2) (by simp; omega) (fun e => hv8 (B + 2) (by omega) e.symm)).trans ?_
      exact (Below.heap_alloc _ _ _ (by omega)).trans ((hO.2 _ (by omega) (by omega)).trans h3)
    exact blk_set (i := 0) v' hb2
  · have e : ints (l ++ [lane]) = ints l ++ [.int .i64 lane] := by unfold ints; rw [List.map_append]; rfl
    rw [e, List.length_append]
    exact ownsRow_setCell_below hown' (show B + 2 < B + 3 by omega) v'
  · exact (Below.heap_setCell _ _ _ _ (show g ≠ B + 2 by omega)).trans hg3
  · intro D hD
    have hne : v.ownBlock ≠ some D := fun e => by
      rcases h4.2 with ⟨hv, _⟩ | ⟨k, cap, cur, hv, _, hk, _⟩
      · rw [hv] at e; cases e
      · rw [hv] at e
        have : k = D := by injection e
        subst this
        rw [(h8 k hD).2] at hk; cases hk
    exact ⟨(h8 D hD).1, (hfar D (lt_of_heap (h8 D hD).2) (by have := (h8 D hD).1; omega) (by have := (h8 D hD).1; omega) hne).trans (h8 D hD).2⟩
  · rw [World.size_setCell]; omega
  · refine Below.setCell ?_ (show g ≤ B + 2 by omega) v'
    refine Below.grown ?_ hgrow (by simp; omega) (fun k hk => by have := hlo k hk; omega)
    exact (h10.trans (hO.1 g (Nat.le_refl _))).alloc (by omega) _
  · exact (hfar c (lt_of_heap b1) (by omega) (by omega) (fun e => by have := hvlt c e; omega)).trans b1
  · intro k hk hs
    rcases hwh with hw | hw
    · exact b5 k (hw.symm.trans hk) hs
    · rw [hw] at hk
      have hk' : W3.heap.size + 1 = k := by simpa using hk
      have := hSb k hs
      omega
theorem leaves_marks_panic {F : Fence} {n : Nat} {P : Program} {fn : Func} {R : Ending → World → Prop} {tmps : Array Value} {chain : List PanicEntry} : ∀ {bs : List Nat} {W : World}, bs.Nodup → (∀ D ∈ bs, W.heap[D]? = some (.deferred (some []))) →
    R (.panicked chain) (shutAll bs W) → LeavesInM F n P fn tmps R (marksOf bs) (.panicking chain) W
  | [], W, _, _, hR => hR
  | D :: bs, W, hnd, hD, hR => by
    obtain ⟨h1, h2⟩ := List.nodup_cons.1 hnd
    refine ⟨by simp, .inl ⟨_, _, rfl, run_takeDeferred (hD D (List.mem_cons_self ..)), leaves_marks_panic (bs := bs) h2 (fun D' h' => ?_) hR⟩⟩
    exact (World.putObj_heap_other (fun (e : D' = D) => h1 (by rw [← e]; exact h'))).trans (hD D' (List.mem_cons_of_mem _ h'))
def FillsP (g x : Nat) (hs : List Nat) (w : World) (e : Ending) (w' : World) : Prop :=
  Below g w w' ∧ match fillsK x hs hs.length with
    | none => e = Boom 2
    | some (y, l) => ∃ sp' n' cap', e = .returned (.agg #[.int .u64 y, .slice sp' n' cap']) ∧ w'.ownsRow g 3 1 (.slice sp' n' cap') l.length (ints l)
theorem fills_boom {g B : Nat} {w : World} {x xk : Nat} {l : List Nat} {v : Value} {bs : List Nat} {W W' : World} {hs : List Nat} {fn : Func} {tmps : Array Value} (hM : FillM g B w xk l v bs W) (hb : Below W.heap.size W W') (hend : fillsK x hs hs.length = none) :
    LeavesInM Fence.wide 0 Try.prog fn tmps (FillsP g x hs w) (marksOf bs) (.panicking [{ v := .iface 29 (.int .i64 2), recovered := false }]) W' := by
  have h1 := hM.gB
  have h2 := hM.size
  refine leaves_marks_panic hM.nd (fun D hD => heap_below hb (hM.marks D hD).2 (lt_of_heap (hM.marks D hD).2)) ⟨below_shutAll (hM.old.trans (hb.mono (by omega))) (fun D hD => by have := (hM.marks D hD).1; omega), ?_⟩
  rw [hend]
theorem fillR_done {g B : Nat} {w : World} {x : Nat} {l : List Nat} {v : Value} {bs : List Nat} {c h D : Nat} {S : Nat → Prop} {W : World} (hI : FillR g B w x l v bs c h S W) (hD : B + 3 ≤ D) (hSD : S D) (hd : W.heap[D]? = some (.deferred (some []))) : FillM g B w x l v (D :: bs) W := by
  obtain ⟨⟨h1, h2, h3, h4, h5, h6, h7, h8, h9, h10, h11, h12⟩, b1, b2, b3, b4, b5, b6⟩ := hI
  exact ⟨h1, h2, h3, h4, h5, h6, List.nodup_cons.2 ⟨fun hm => b6 D hm hSD, h7⟩, fun D' hD' => by
    rcases List.mem_cons.1 hD' with rfl | hD'
    · exact ⟨hD, hd⟩
    · exact h8 D' hD', h9, h10, h11, h12⟩
theorem fillM_keep {g B : Nat} {w : World} {x : Nat} {l : List Nat} {v : Value} {bs : List Nat} {W W' : World} (hM : FillM g B w x l v bs W) (hb : Below W.heap.size W W') : FillM g B w x l v bs W' := by
  obtain ⟨h1, h2, h3, h4, h5, h6, h7, h8, h9, h10, h11, h12⟩ := hM
  exact ⟨heap_below hb h1 (lt_of_heap h1), heap_below hb h2 (lt_of_heap h2), heap_below hb h3 (lt_of_heap h3), ownsRow_next h4 hb, heap_below hb h5 (lt_of_heap h5), h6, h7, fun D hD => ⟨(h8 D hD).1, heap_below hb (h8 D hD).2 (lt_of_heap (h8 D hD).2)⟩, Nat.le_trans h9 hb.size, h10.trans (hb.mono (by omega)), h11, h12⟩

theorem fills1_any (x g p n cap : Nat) (sp : Option Addr) (hs : List Nat) (w : World) (hx : x < 2 ^ 64) (hby : Bytey hs) (hg : w.heap[g]? = some (HandB x)) (hpg : p < g)
    (hp : w.heap[p]? = some (.cells #[.slice sp n cap] 62 (0, 0))) (hS : Sl w sp n (u8s hs)) (hsg : ∀ a, sp = some a → 0 < n → a.block < g) (hn : n ≤ 4096) :
    Calls Try.prog 90 #[.pointer (some ⟨g, 0, none⟩), .pointer (some ⟨p, 0, none⟩)] w (FillsP g x hs w) := by
  have hmf : ∀ (fn : Fn) (first cap : Array Value) (w : World), (Instr.makeFunc fn first cap).run Try.prog w = .ok (.func fn first cap) w := fun _ _ _ _ => rfl
  have hsf : ∀ (w : World) (a : Addr) (m : Mode) (f : Fn) (xs ys : Array Value), (store a (.func f xs ys) m).run Try.prog w = stored Try.prog w a (.func f xs ys) m := fun w a m f xs ys => run_store _ w a _ m rfl
  have hc : w.cell? ⟨p, 0, none⟩ = some (.slice sp n cap) := blk_cell hp rfl
  have hx'h := Lib.hid hx
  have hby'h := Lib.hid hby
  have hg'h := Lib.hid hg
  have hpg'h := Lib.hid hpg
  have hp'h := Lib.hid hp
  have hS'h := Lib.hid hS
  have hsg'h := Lib.hid hsg
  clear hx hby hg hpg hp hS hsg
  refine (callsIn_wide (n := 0)).1 ?_
  refine callsIn_of_wp_marks Try.func90 rfl trivial ?_
  simp only [Try.ntmps90, List.size_toArray, List.length_cons, List.length_nil, Nat.reduceAdd, Nat.reduceSub, Array.replicate_succ, Array.replicate_zero, List.push_toArray, List.append_toArray, List.nil_append, List.cons_append]
  have hka : (((w.alloc (.cells #[.int .u64 0, .slice none 0 0] 134)).alloc (.cells #[.func (.func 91) #[.pointer (some ⟨g, 0, none⟩)] #[]] 131)).alloc (.cells #[.slice none 0 0] 39)).cell? ⟨p, 0, none⟩ = some (.slice sp n cap) := keep_alloc _ _ _ _ (keep_alloc _ _ _ _ (keep_alloc _ _ _ _ hc))
  have hlen : n = hs.length := by have := hS'h.out.1; simpa [u8s] using this
  obtain ⟨B, hBs⟩ : ∃ B, B = w.heap.size := ⟨_, rfl⟩
  obtain ⟨W0, hW0⟩ : ∃ W0, W0 = (((w.alloc (.cells #[.int .u64 0, .slice none 0 0] 134)).alloc (.cells #[.func (.func 91) #[.pointer (some ⟨g, 0, none⟩)] #[]] 131)).alloc (.cells #[.slice none 0 0] 39)) := ⟨_, rfl⟩
  have hM0 : FillM g B w x [] (.slice none 0 0) [] W0 := by
    have hgl := lt_of_heap hg'h.out
    have hz : W0.heap.size = w.heap.size + 3 := by rw [hW0]; simp
    refine ⟨?_, ?_, ?_, World.ownsRow_nil _ _ _ _, ?_, hx'h.out, List.nodup_nil, fun D hD => absurd hD (by simp), by rw [hz, hBs]; omega, ?_, by omega, hBs⟩
    · rw [hW0, hBs]; exact (Below.heap_alloc _ _ _ (by simp; omega)).trans ((Below.heap_alloc _ _ _ (by simp)).trans (World.alloc_heap_new _ _))
    · rw [hW0, hBs]; exact (Below.heap_alloc _ _ _ (by simp)).trans (heap_alloc2_new w _ _)
    · rw [hW0, hBs]
      have := heap_alloc2_new (w.alloc (.cells #[.int .u64 0, .slice none 0 0] 134)) (.cells #[.func (.func 91) #[.pointer (some ⟨g, 0, none⟩)] #[]] 131) (.cells #[.slice none 0 0] 39)
      simpa using this
    · rw [hW0]
      exact (Below.heap_alloc _ _ _ (by simp; omega)).trans ((Below.heap_alloc _ _ _ (by simp; omega)).trans ((Below.heap_alloc _ _ _ hgl).trans hg'h.out))
    · rw [hW0]; exact (((Below.refl _ _).alloc (by omega) _).alloc (by simp; omega) _).alloc (by simp; omega) _
  have hM0'h := Lib.hid hM0
  have hlen'h := Lib.hid hlen
  clear hM0 hlen
  refine wpIn_wide.2 ?_
  go_wp2
  go_step3
  go_wp2
  go_step3
  go_wp2
  rw [← hW0, ← hBs, show B + 1 + 1 = B + 2 by omega]
  clear hW0 hka hc hmf hsf
  have hBs'h := Lib.hid hBs
  clear hBs
  refine wp_loop_ghost_k (fun q a' W => ∃ (k xk : Nat) (l : List Nat) (v : Value) (bs : List Nat) (u7 u8 u14 u15 u16 u17 u18 u19 u20 u21 u22 u23 u24 u26 u27 u28 u29 u30 u31 u32 u33 u34 u35 : Value), a' = { tmps := #[.pointer (some ⟨g, 0, none⟩), .pointer (some ⟨p, 0, none⟩), undef, .pointer (some ⟨B, 0, none⟩), .pointer (some ⟨B + 1, 0, none⟩), .pointer (some ⟨B + 2, 0, none⟩), undef, u7, u8, .pointer (some ⟨g, 0, none⟩), .func (.func 91) #[.pointer (some ⟨g, 0, none⟩)] #[], .slice sp n cap, .int .i64 n, .int .i64 k, u14, u15, u16, u17, u18, u19, u20, u21, u22, u23, u24, undef, u26, u27, u28, u29, u30, u31, u32, u33, u34, u35, undef, undef, undef, undef, undef, undef], defers := marksOf bs } ∧ k + q = n ∧ fillsK x hs k = some (xk, l) ∧ l.length ≤ k ∧ FillM g B w xk l v bs W) n ?_ ?_
  · exact ⟨0, x, [], _, [], _, _, _, _, _, _, _, _, _, _, _, _, _, _, _, _, _, _, _, _, _, _, _, rfl, by omega, rfl, by simp, hM0'h.out⟩
  · rintro q a' W ⟨k, xk, l, v, bs, u7, u8, u14, u15, u16, u17, u18, u19, u20, u21, u22, u23, u24, u26, u27, u28, u29, u30, u31, u32, u33, u34, u35, rfl, hkq, hfk, hlk, hM⟩ J K hJ hKK
    by_cases hlt : k < n
    · have hkl : k < hs.length := by have := hlen'h.out; omega
      have hSW : Sl W sp n (u8s hs) := hS'h.out.keep (fun b o hb hsb ho => (hM.old.block b (by
        cases hsp : sp with
        | none => rw [hsp] at hsb; cases hsb
        | some ad => rw [hsp] at hsb; have e : ad.block = b := by simpa using hsb
                     rw [← e]; exact hsg'h.out ad hsp (by omega))).trans ho)
      obtain ⟨ab, aoff, rfl, hcs⟩ := hSW.some' (by omega)
      have hh256 : nthN hs k < 256 := hby'h.out _ (nthN_mem hkl)
      have c1 : W.cell? ⟨ab, aoff + k, none⟩ = some (.int .u8 (nthN hs k)) := hcs k _ (u8s_get hkl)
      have hnx := fillsK_succ x hs hkl
      rw [hfk] at hnx
      generalize nthN hs k = hh at *
      clear hSW hcs
      by_cases h127 : hh ≤ 127
      · have d1 : decide ((hh : Int) ≤ 127) = true := by simp; omega
        have hMs := hM.size
        have hgB := hM.gB
        have hlen8 := length_lanesOf (freeM xk)
        have hlanes := @free_lane xk
        obtain ⟨W1, hW1⟩ : ∃ W1, W1 = (W.alloc (.cells #[.int .u8 hh] 5)).alloc (.cells #[.int .u64 xk] 104) := ⟨_, rfl⟩
        have hb1 : Below W.heap.size W W1 := by rw [hW1]; exact ((Below.refl _ _).alloc (Nat.le_refl _) _).alloc (by simp) _
        have hz1 : W1.heap.size = W.heap.size + 2 := by rw [hW1]; simp
        have e1 : W1.heap[W.heap.size]? = some (.cells #[.int .u8 hh] 5 (0, 0)) := by rw [hW1]; exact (Below.heap_alloc _ _ _ (by simp)).trans (World.alloc_heap_new _ _)
        have e2 : W1.heap[W.heap.size + 1]? = some (.cells #[.int .u64 xk] 104 (0, 0)) := by rw [hW1]; exact heap_alloc2_new W _ _
        have hvlt : ∀ k, v.ownBlock = some k → k < W.heap.size := fun k hk => (hM.row.lt k hk).2
        have hR0 : FillR g B w xk l v bs W.heap.size hh (fun _ => False) W1 :=
          ⟨fillM_keep hM hb1, e1, hMs, fun _ _ h => h, fun h => h, fun _ _ h => h, fun _ _ h => h⟩
        have c7 := keep_alloc ⟨ab, aoff + k, none⟩ (.int .u8 hh)
        have cg : (W.alloc (.cells #[.int .u8 hh] 5)).cell? ⟨g, 0, none⟩ = some (.int .u64 xk) := keep_alloc _ _ _ _ (blk_cell hM.hand rfl)
        have hx64 := hM.x64
        have hkq'h := Lib.hid hkq
        have hfk'h := Lib.hid hfk
        have hlk'h := Lib.hid hlk
        have hM'h := Lib.hid hM
        have hnx'h := Lib.hid hnx
        have h127'h := Lib.hid h127
        have hh256'h := Lib.hid hh256
        have hkl'h := Lib.hid hkl
        have hMs'h := Lib.hid hMs
        have hgB'h := Lib.hid hgB
        have hlen8'h := Lib.hid hlen8
        have hlanes'h := Lib.hid hlanes
        have hb1'h := Lib.hid hb1
        have hz1'h := Lib.hid hz1
        have e1'h := Lib.hid e1
        have e2'h := Lib.hid e2
        have hvlt'h := Lib.hid hvlt
        have hR0'h := Lib.hid hR0
        have hx64'h := Lib.hid hx64
        clear hkq hfk hlk hM hnx h127 hh256 hkl hMs hgB hlen8 hlanes hb1 hz1 e1 e2 hvlt hR0 hx64
        go_wp2_with (first | (go_at_call 72; refine (need_yes _ _).mono ?_; rintro e w2 ⟨rfl, rfl⟩) | (go_at_call 92; refine (free_any _ _).mono ?_; rintro e w3 ⟨rfl, rfl⟩))
        rw [← hW1]
        clear hW1 c7 cg c1
        refine (wpIn_wide (n := 0)).1 ?_
        refine' wpIn_range rfl (fun h => by cases h) rfl trivial enters_free (free_it xk (W.heap.size + 1) W1 hx64'h.out e2'h.out) (fun b hb => False.elim hb) (fun _ => rfl)
          (by rintro b rfl; exact ⟨by have := hz1'h.out; omega, fun h => h⟩)
          (FillI g B w xk l v bs W.heap.size hh) (FillX 1 g B w (setLane xk (nthN (lanesOf (freeM xk)) 0) hh) (l ++ [nthN (lanesOf (freeM xk)) 0]) bs W.heap.size hh) (FillI.stable _ _ _ _ _ _ _ _ _) (FillX.stable _ _ _ _ _ _ _ _ _) ⟨rfl, hR0'h.out⟩
          (AxOf _ (FillI g B w xk l v bs W.heap.size hh)) (AxOf.stable (FillI.stable _ _ _ _ _ _ _ _ _)) ?assign ?body ?done ?stop
        case assign =>
          intro l' j S W2 hj hl hr hSb hI
          rw [nthN_eq hj]
          clear hr
          gi_wp2
          exact ⟨⟨rfl, hI⟩, Kept.refl _ _⟩
        case body =>
          rintro l' j S a2 W2 r hj hl hlr hr hSb ⟨rfl, hj0, hI⟩
          subst hj0
          obtain ⟨hn8, hnf⟩ := hlanes'h.out hj
          have F := fill_yes xk (nthN (lanesOf (freeM xk)) 0) hh g W2 hx64'h.out h127'h.out hn8 hnf hI.core.hand
          have hy := setLane_lt' xk (nthN (lanesOf (freeM xk)) 0) hh hx64'h.out hh256'h.out
          have hl0 : nthN (lanesOf (freeM xk)) 0 ≤ 8 := by omega
          have v1 : W2.cell? ⟨B + 1, 0, none⟩ = some (.func (.func 91) #[.pointer (some ⟨g, 0, none⟩)] #[]) := blk_cell hI.core.fn rfl
          have v2 : W2.cell? ⟨W.heap.size, 0, none⟩ = some (.int .u8 hh) := blk_cell hI.byte rfl
          have hI'h := Lib.hid hI
          have F'h := Lib.hid F
          have hy'h := Lib.hid hy
          have hn8'h := Lib.hid hn8
          have hnf'h := Lib.hid hnf
          have hSb'h := Lib.hid hSb
          clear hI F hy hn8 hnf hSb
          clear hlr hr hl
          gi_wp2_with fail
          refine (CallsIn.inRound l' (callsIn_wide.2 F'h.out)).mono ?_
          rintro e W3 ⟨rfl, hh3, hO3⟩
          have hrow3 : W3.ownsRow (B + 3) 3 1 v l.length (ints l) := ownsRow_of_heap hI'h.out.core.row (fun b hb hlt => hO3.2 b (by have := hgB'h.out; omega) hlt)
          have v3 : W3.cell? ⟨B + 2, 0, none⟩ = some v := blk_cell ((hO3.2 (B + 2) (by have := hgB'h.out; omega) (lt_of_heap hI'h.out.core.var)).trans hI'h.out.core.var) rfl
          have f3 : W3.frozen? ⟨B + 2, 0, none⟩ = false := blk_free 0 ((hO3.2 (B + 2) (by have := hgB'h.out; omega) (lt_of_heap hI'h.out.core.var)).trans hI'h.out.core.var)
          have hz3 : B + 3 ≤ W3.heap.size := Nat.le_trans hI'h.out.core.size (hO3.1 0 (Nat.zero_le _)).size
          have hlk := hlk'h.out
          have v3A := keep_alloc ⟨B + 2, 0, none⟩ v
          obtain ⟨i0, hi, hz0, hz1, hz2⟩ := info_parts info_int
          clear v1 v2
          have hh3'h := Lib.hid hh3
          have hO3'h := Lib.hid hO3
          clear hh3 hO3
          gi_wp2_with (gi_at_builtin; refine wpListIn_append _ rfl (.tmp 30) (.tmp 32) 39 rfl (B + 3) 3 i0 (.int .i64 0) 1 8 Try.underlying39 hi hz0 hz1 hz2 rfl (by decide) v l.length _ rfl (hrow3.alloc _) ⟨W3.heap.size, 0, none⟩ 1 1 [.int .i64 (nthN (lanesOf (freeM xk)) 0)] rfl rfl (cell_one_new _ _ _) (by simp [Value.oneCell']) (by unfold maxLen; omega) (by omega) (by simp; omega) (by decide) ?_; intro v' w4 hown' hgrow hwh; obtain ⟨g', cap', rfl⟩ := ownsRow_succ hown'; have gc : w4.cell? ⟨B + 2, 0, none⟩ = some v := (World.cell?_of_block (hgrow.block _ (by simp; omega) (fun e => absurd (hrow3.lt (B + 2) e.symm).1 (by omega)))).trans (keep_alloc _ _ _ _ v3); have gf : w4.frozen? ⟨B + 2, 0, none⟩ = false := (World.frozen?_of_block (hgrow.block _ (by simp; omega) (fun e => absurd (hrow3.lt (B + 2) e.symm).1 (by omega)))).trans ((World.frozen?_of_block (Below.heap_alloc _ _ _ (by simp; omega))).trans f3))
          obtain ⟨q1, q2⟩ := fillR_next _ hI'h.out hO3'h.out hh3'h.out hy'h.out hown' hgrow hwh hSb'h.out hvlt'h.out (show W.heap.size < W.heap.size + 1 by omega)
          exact ⟨q1, rfl, _, q2⟩
        case done =>
          rintro D S W3 hD hSD hr ⟨hj0, hI⟩ hK3
          have hMn := fillR_done hI (by have := hMs'h.out; have := hz1'h.out; omega) hSD hK3
          have hend : fillsK x hs hs.length = none := fillsK_stuck x hs (k := k + 1) (by rw [hnx'h.out]; show (if hh ≤ 127 ∧ _ then _ else _) = _; rw [if_neg (fun e => by omega)]) (by have := hkl'h.out; omega)
          clear hr hI hK3
          have hMn'h := Lib.hid hMn
          have hend'h := Lib.hid hend
          clear hMn hend
          go_wp2_with (first | (go_at_call 72; refine (need_no _ _).mono ?_; rintro e w2 ⟨rfl, rfl⟩))
          exact fills_boom (bs := D :: bs) hMn'h.out (Below.refl _ _) hend'h.out
        case stop =>
          rintro D co j S W3 hD hSD hr hj ⟨rfl, v', hI⟩ hK3
          have hMn := fillR_done hI (by have := hMs'h.out; have := hz1'h.out; omega) hSD hK3
          have hnx2 : fillsK x hs (k + 1) = some (setLane xk (nthN (lanesOf (freeM xk)) 0) hh, l ++ [nthN (lanesOf (freeM xk)) 0]) := by
            rw [hnx'h.out]; show (if hh ≤ 127 ∧ _ then _ else _) = _; rw [if_pos ⟨h127'h.out, by omega⟩]
          clear hr hI hK3
          have hMn'h := Lib.hid hMn
          have hnx2'h := Lib.hid hnx2
          clear hMn hnx2
          refine wpIn_wide.2 ?_
          go_wp2
          exact Handed.intro (q - 1) (by have := hkq'h.out; omega) (hJ _ _ _ ⟨k + 1, _, _, v', D :: bs, _, _, _, _, _, _, _, _, _, _, _, _, _, _, _, _, _, _, _, _, _, _, _, rfl, by have := hkq'h.out; omega, hnx2'h.out, by have := hlk'h.out; simp; omega, hMn'h.out⟩)
      · have d1 : decide ((hh : Int) ≤ 127) = false := by simp; omega
        have hend : fillsK x hs hs.length = none := fillsK_stuck x hs (k := k + 1) (by rw [hnx]; show (if hh ≤ 127 ∧ _ then _ else _) = _; rw [if_neg (fun e => h127 e.1)]) (by omega)
        have c7 := keep_alloc ⟨ab, aoff + k, none⟩ (.int .u8 hh)
        have hb1 : Below W.heap.size W (W.alloc (.cells #[.int .u8 hh] 5)) := (Below.refl _ _).alloc (Nat.le_refl _) _
        have hkq'h := Lib.hid hkq
        have hfk'h := Lib.hid hfk
        have hlk'h := Lib.hid hlk
        have hM'h := Lib.hid hM
        have hnx'h := Lib.hid hnx
        have hend'h := Lib.hid hend
        have h127'h := Lib.hid h127
        have hh256'h := Lib.hid hh256
        have hkl'h := Lib.hid hkl
        have hb1'h := Lib.hid hb1
        clear hkq hfk hlk hM hnx hend h127 hh256 hkl hb1
        go_wp2_with (first | (go_at_call 72; refine (need_no _ _).mono ?_; rintro e w2 ⟨rfl, rfl⟩))
        exact fills_boom hM'h.out hb1'h.out hend'h.out
    · have hkk : k = n := by omega
      have hfin : fillsK x hs hs.length = some (xk, l) := by rw [← hlen'h.out, ← hkk]; exact hfk
      obtain ⟨sv, cv, rfl⟩ := row_slice' hM.row
      have c1 : W.cell? ⟨g, 0, none⟩ = some (.int .u64 xk) := blk_cell hM.hand rfl
      have c2 : W.cell? ⟨B + 2, 0, none⟩ = some (.slice sv l.length cv) := blk_cell hM.var rfl
      have hhk : ((k : Int) < (n : Int)) = False := by simp; omega
      clear hfk
      have hM'h := Lib.hid hM
      have hfin'h := Lib.hid hfin
      have hkq'h := Lib.hid hkq
      have hlk'h := Lib.hid hlk
      have hkk'h := Lib.hid hkk
      clear hM hfin hkq hlk hkk
      go_wp2
      go_still_tail 6, (by kernel_rfl)
      have hMd := hM'h.out
      have hone : (#[.int .u64 xk, .slice sv l.length cv] : Array Value).all (·.oneCell') = true := by kernel_rfl
      refine wpList_store_row (w := W.drew) rfl 134 (.tmp 3) (.tmp 41) rfl B #[.int .u64 xk, .slice sv l.length cv] rfl rfl 134 #[.int .u64 0, .slice none 0 0] hMd.res infoL rfl hone ?_
      obtain ⟨W2, hW2⟩ : ∃ W2, W2 = W.drew.setRow B #[.int .u64 xk, .slice sv l.length cv] := ⟨_, rfl⟩
      have hres : W2.heap[B]? = some (.cells #[.int .u64 xk, .slice sv l.length cv] 134 (0, 0)) := by rw [hW2]; exact setRow_heap _ _ _ _ _ _ hMd.res
      have hoth : ∀ b, b ≠ B → W2.heap[b]? = W.heap[b]? := fun b hb => by rw [hW2]; exact setRow_other _ _ _ _ hb
      have hgB := hMd.gB
      have hBw := hMd.Bw
      have hold : Below g w W2 := by rw [hW2]; exact below_setRow' (Below.drew hMd.old) (by omega) _
      have hmk : ∀ D ∈ bs, W2.heap[D]? = some (.deferred (some [])) := fun D hD => (hoth D (by have := (hMd.marks D hD).1; omega)).trans (hMd.marks D hD).2
      have hrow : W2.ownsRow g 3 1 (.slice sv l.length cv) l.length (ints l) := ownsRow_mono (ownsRow_of_heap hMd.row fun b hb _ => hoth b (by omega)) (by omega)
      have hrowS : (shutAll bs W2).ownsRow g 3 1 (.slice sv l.length cv) l.length (ints l) := by
        refine ⟨hrow.1, hrow.2.imp id ?_⟩
        rintro ⟨k', cap', cur, h1, h2, h3, h4⟩
        refine ⟨k', cap', cur, h1, h2, (shutAll_other (fun hb => ?_)).trans h3, h4⟩
        rw [hmk k' hb] at h3; cases h3
      have hBS : (shutAll bs W2).heap[B]? = some (.cells #[.int .u64 xk, .slice sv l.length cv] 134 (0, 0)) := (shutAll_other (fun hb => by have := (hMd.marks B hb).1; omega)).trans hres
      have d0 : (shutAll bs W2).cell? ⟨B, 0, none⟩ = some (.int .u64 xk) := blk_cell hBS rfl
      have d1 : (shutAll bs W2).cell? ⟨B, 1, none⟩ = some (.slice sv l.length cv) := blk_cell hBS rfl
      have hbS : Below g w (shutAll bs W2) := below_shutAll hold (fun D hD => by have := (hMd.marks D hD).1; omega)
      have hnd := hMd.nd
      rw [← hW2]
      clear hoth hrow hold hres hW2 hMd hone
      have hmk'h := Lib.hid hmk
      have hrowS'h := Lib.hid hrowS
      have hBS'h := Lib.hid hBS
      have hbS'h := Lib.hid hbS
      have hnd'h := Lib.hid hnd
      clear hmk hrowS hBS hbS hnd
      go_wp2
      refine post_marks (.inl rfl) hnd'h.out hmk'h.out (v := .agg #[.int .u64 xk, .slice sv l.length cv]) (by simp [results, Try.results90, go_sem, d0, d1]) ⟨hbS'h.out, ?_⟩
      rw [hfin'h.out]
      exact ⟨_, _, _, rfl, hrowS'h.out⟩
end Go.Proofs.Ytfoohdjgnphdgaa
