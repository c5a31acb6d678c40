/-
  My own small kit, over any program: a range over a function whose iterator keeps state of its own in private cells.
-/
import Derived.RangeFuncNested
import Derived.RangeFuncBound
import Derived.RangeFuncCalls
import Derived.RangeFuncLeaves
import Derived.Shelf.Abstract
import Derived.Shelf.RegionOpen
import Derived.WalkKit
import Derived.OwnWalkIn
import Derived.TacticsInMore
import Derived.LoopNIn
import Derived.LoopIn
import Derived.Deep.Draws
import Derived.Maps.AppendAt
import Derived.RangeFuncBox
namespace Go.Proofs.YtifofdciablljaaDoor
open Go.RowKit

@[go_sem] theorem wide_fn (f : FuncId) : Fence.wide.fn f = True := rfl
@[go_sem] theorem wide_depth : Fence.wide.depth = none := rfl
@[go_sem] theorem wideR_fn (l : Nat) (f : FuncId) : (Fence.wide.inRound l).fn f = True := rfl
@[go_sem] theorem wideR_depth (l : Nat) : (Fence.wide.inRound l).depth = none := rfl
attribute [go_sem] Oper.semAt_some

/-- The blocks of S lie as they lay. -/
structure Kept (S : Nat → Prop) (W W' : World) : Prop where
  os : W'.os = W.os
  tape : W'.tape = W.tape
  output : W'.output = W.output
  size : W.heap.size ≤ W'.heap.size
  block : ∀ b, b < W.heap.size → S b → W'.heap[b]? = W.heap[b]?

/-- A step of somebody who owns S, and what he lays himself. -/
structure Foreign (S S' : Nat → Prop) (W W' : World) : Prop where
  os : W'.os = W.os
  tape : W'.tape = W.tape
  output : W'.output = W.output
  size : W.heap.size ≤ W'.heap.size
  sub : ∀ b, S b → S' b
  fresh : ∀ b, S' b → S b ∨ (W.heap.size ≤ b ∧ b < W'.heap.size)
  block : ∀ b, b < W.heap.size → ¬ S b → W'.heap[b]? = W.heap[b]?

def Stable (I : (Nat → Prop) → World → Prop) : Prop := ∀ S S' W W', I S W → Foreign S S' W W' → I S' W'

theorem Kept.refl (S : Nat → Prop) (W : World) : Kept S W W := ⟨rfl, rfl, rfl, Nat.le_refl _, fun _ _ _ => rfl⟩
theorem Kept.trans {S : Nat → Prop} {A B C : World} (h : Kept S A B) (k : Kept S B C) : Kept S A C :=
  ⟨k.os.trans h.os, k.tape.trans h.tape, k.output.trans h.output, Nat.le_trans h.size k.size, fun b hb hs => (k.block b (Nat.lt_of_lt_of_le hb h.size) hs).trans (h.block b hb hs)⟩
theorem Kept.mono {S S' : Nat → Prop} {A B : World} (h : Kept S A B) (hs : ∀ b, S' b → S b) : Kept S' A B :=
  ⟨h.os, h.tape, h.output, h.size, fun b hb hb' => h.block b hb (hs b hb')⟩
theorem Kept.drew (S : Nat → Prop) (W : World) : Kept S W W.drew := ⟨rfl, rfl, rfl, Nat.le_refl _, fun _ _ _ => rfl⟩
theorem Kept.alloc (S : Nat → Prop) (W : World) (o : Obj) : Kept S W (W.alloc o) := ⟨rfl, rfl, rfl, by simp, fun b hb _ => Below.heap_alloc _ _ _ hb⟩
theorem Kept.setCell (S : Nat → Prop) (W : World) (p : Addr) (u : Value) (hp : ¬ S p.block) : Kept S W (W.setCell p u) :=
  ⟨rfl, rfl, rfl, by simp [World.setCell], fun b _ hs => Below.heap_setCell _ _ _ _ (fun e => hp (e ▸ hs))⟩
theorem Kept.putObj (S : Nat → Prop) (W : World) (r : Nat) (o : Obj) (hp : ¬ S r) : Kept S W (W.putObj r o) :=
  ⟨rfl, rfl, rfl, by simp, fun b _ hs => World.putObj_heap_other (fun e => hp (e ▸ hs))⟩
theorem Kept.of_below {S : Nat → Prop} {A B : World} (h : Below A.heap.size A B) : Kept S A B :=
  ⟨h.os, h.tape, h.output, h.size, fun b hb _ => h.block b hb⟩
theorem Kept.below {n : Nat} {A B : World} (h : Kept (fun b => b < n) A B) (hn : n ≤ A.heap.size) : Below n A B :=
  ⟨h.os, h.tape, h.output, h.size, fun b hb => h.block b (Nat.lt_of_lt_of_le hb hn) hb⟩
theorem Kept.grown {S : Nat → Prop} {A B : World} {row : Option Nat} (h : A.grownBy B row) (hr : ∀ k, row = some k → ¬ S k) : Kept S A B :=
  ⟨h.os, h.tape, h.output, h.size, fun b hb hs => h.block b hb (fun e => hr b e.symm hs)⟩

theorem Foreign.cell {S S' : Nat → Prop} {W W' : World} (h : Foreign S S' W W') {p : Addr} {v : Value} (hp : ¬ S p.block) (hc : W.cell? p = some v) : W'.cell? p = some v := by
  have hb : p.block < W.heap.size := by
    refine Nat.lt_of_not_le fun hle => ?_
    simp [World.cell?, Array.getElem?_eq_none hle] at hc
  rw [World.cell?_of_block (w := W) (h.block _ hb hp)]; exact hc
theorem Foreign.not {S S' : Nat → Prop} {W W' : World} (h : Foreign S S' W W') {b : Nat} (hb : b < W.heap.size) (hp : ¬ S b) : ¬ S' b := by
  intro hs
  rcases h.fresh b hs with h1 | h1
  · exact hp h1
  · omega
theorem Foreign.heap' {S S' : Nat → Prop} {W W' : World} (h : Foreign S S' W W') {b : Nat} {o : Obj} (hp : ¬ S b) (ho : W.heap[b]? = some o) : W'.heap[b]? = some o :=
  (h.block b (Array.getElem?_eq_some_iff.1 ho).1 hp).trans ho
theorem Foreign.below {n : Nat} {S S' : Nat → Prop} {w W W' : World} (h : Foreign S S' W W') (hb : Below n w W) (hw : n ≤ w.heap.size) (hn : ∀ b, b < n → ¬ S b) : Below n w W' :=
  ⟨h.os.trans hb.os, h.tape.trans hb.tape, h.output.trans hb.output, Nat.le_trans hb.size h.size, fun b hk => (h.block b (by have := hb.size; omega) (hn b hk)).trans (hb.block b hk)⟩
theorem cell_setCell_same {W : World} {p : Addr} {v u : Value} (h : W.cell? p = some v) : (W.setCell p u).cell? p = some u := World.cell?_setCell_same' _ _ _ (by rw [h]; rfl)
theorem cell_of_heap {W W' : World} {p : Addr} {v : Value} (h : W'.heap[p.block]? = W.heap[p.block]?) (hc : W.cell? p = some v) : W'.cell? p = some v := by
  rw [World.cell?_of_block (w := W) h]; exact hc
theorem lt_of_cell {W : World} {p : Addr} {v : Value} (hc : W.cell? p = some v) : p.block < W.heap.size := by
  refine Nat.lt_of_not_le fun hle => ?_
  simp [World.cell?, Array.getElem?_eq_none hle] at hc
theorem blk_cell {W : World} {b i : Nat} {cs : Array Value} {t : TypeId} {fz : Nat × Nat} {v : Value} (h : W.heap[b]? = some (.cells cs t fz)) (hv : cs[i]? = some v) : W.cell? ⟨b, i, none⟩ = some v := by
  unfold World.cell?; simp only [h]; exact hv
theorem blk_free {W : World} {b : Nat} {cs : Array Value} {t : TypeId} (i : Nat) (h : W.heap[b]? = some (.cells cs t (0, 0))) : W.frozen? ⟨b, i, none⟩ = false := by
  unfold World.frozen?; simp only [h]; simp
theorem blk_set {W : World} {b i : Nat} {cs : Array Value} {t : TypeId} {fz : Nat × Nat} (v : Value) (h : W.heap[b]? = some (.cells cs t fz)) : (W.setCell ⟨b, i, none⟩ v).heap[b]? = some (.cells (cs.setIfInBounds i v) t fz) := by
  obtain ⟨hlt, hk⟩ := Array.getElem?_eq_some_iff.1 h
  show (W.heap.modify b _)[b]? = _
  rw [Array.getElem?_eq_getElem (by rw [Array.size_modify]; exact hlt), Array.getElem_modify_self, hk]
  rfl
/-- Rules for the walk's context: what is known of a cell is known behind a new block. -/
theorem keep_alloc (p : Addr) (v : Value) : ∀ (W : World) (o : Obj), W.cell? p = some v → (W.alloc o).cell? p = some v := fun W o h => cell_of_heap (Below.heap_alloc W o _ (lt_of_cell h)) h
theorem Kept.cell {S : Nat → Prop} {W W' : World} (h : Kept S W W') {p : Addr} {v : Value} (hp : S p.block) (hc : W.cell? p = some v) : W'.cell? p = some v :=
  cell_of_heap (h.block _ (lt_of_cell hc) hp) hc
theorem Kept.frozen {S : Nat → Prop} {W W' : World} (h : Kept S W W') {p : Addr} {v : Value} (hp : S p.block) (hc : W.cell? p = some v) : W'.frozen? p = W.frozen? p :=
  World.frozen?_of_block (h.block _ (lt_of_cell hc) hp)
theorem Foreign.refl (S : Nat → Prop) (W : World) : Foreign S S W W := ⟨rfl, rfl, rfl, Nat.le_refl _, fun _ h => h, fun _ h => .inl h, fun _ _ _ => rfl⟩
theorem Foreign.putObj {S : Nat → Prop} (W : World) (l : Nat) (o : Obj) (hl : S l) : Foreign S S W (W.putObj l o) :=
  ⟨rfl, rfl, rfl, by simp, fun _ h => h, fun _ h => .inl h, fun b _ hs => World.putObj_heap_other (fun e => hs (e ▸ hl))⟩
theorem Foreign.setCell {S : Nat → Prop} (W : World) (p : Addr) (u : Value) (hl : S p.block) : Foreign S S W (W.setCell p u) :=
  ⟨rfl, rfl, rfl, by simp [World.setCell], fun _ h => h, fun _ h => .inl h, fun b _ hs => Below.heap_setCell _ _ _ _ (fun e => hs (e ▸ hl))⟩
theorem Foreign.drew {S : Nat → Prop} (W : World) : Foreign S S W W.drew := ⟨rfl, rfl, rfl, Nat.le_refl _, fun _ h => h, fun _ h => .inl h, fun _ _ _ => rfl⟩
theorem Foreign.of_below {S : Nat → Prop} {W W' : World} (h : Below W.heap.size W W') : Foreign S S W W' :=
  ⟨h.os, h.tape, h.output, h.size, fun _ h => h, fun _ h => .inl h, fun b hb _ => h.block b hb⟩
/-- One new block, which is mine. -/
theorem Foreign.alloc {S : Nat → Prop} (W : World) (o : Obj) : Foreign S (fun b => S b ∨ b = W.heap.size) W (W.alloc o) :=
  ⟨rfl, rfl, rfl, by simp, fun _ h => .inl h, fun b h => h.elim .inl (fun e => .inr ⟨by omega, by simp; omega⟩), fun b hb _ => Below.heap_alloc _ _ _ hb⟩
theorem Foreign.trans {S S' S'' : Nat → Prop} {A B C : World} (h : Foreign S S' A B) (k : Foreign S' S'' B C) : Foreign S S'' A C :=
  ⟨k.os.trans h.os, k.tape.trans h.tape, k.output.trans h.output, Nat.le_trans h.size k.size, fun b hb => k.sub b (h.sub b hb),
   fun b hb => by
     have hh := h.size
     have hk := k.size
     rcases k.fresh b hb with h1 | h1
     · rcases h.fresh b h1 with h2 | h2
       · exact .inl h2
       · exact .inr ⟨h2.1, by omega⟩
     · exact .inr ⟨by omega, h1.2⟩,
   fun b hb hs => (k.block b (Nat.lt_of_lt_of_le hb h.size) (h.not hb hs)).trans (h.block b hb hs)⟩

theorem Kept.store {S : Nat → Prop} {n : Nat} (W : World) (p : Addr) (u : Value) (hp : ¬ S p.block) (hn : n ≤ p.block) : Kept (fun b => b < n ∨ S b) W (W.setCell p u) :=
  Kept.setCell _ _ _ _ (fun h => h.elim (fun h => by omega) hp)

/-- An element of a list, under a name that the walk leaves alone. -/
def nthN (l : List Nat) (k : Nat) : Nat := l.getD k 0
theorem nthN_eq {l : List Nat} {k : Nat} (h : k < l.length) : l[k] = nthN l k := by unfold nthN; rw [List.getD_eq_getElem?_getD, List.getElem?_eq_getElem h]; rfl
theorem nthN_mem {l : List Nat} {k : Nat} (h : k < l.length) : nthN l k ∈ l := by rw [← nthN_eq h]; exact List.getElem_mem h
/-- A world that fits 64 bits, under a name. -/
def U64 (x : Nat) : Prop := x < 2 ^ 64

/-! ### What I say of my own blocks -/
/-- My cell at p holds v. -/
structure Own1 (p : Addr) (v : Value) (S : Nat → Prop) (W : World) : Prop where
  cell : W.cell? p = some v
  free : W.frozen? p = false
  mine : ¬ S p.block
/-- What lay below n lies as it lay in w. -/
structure Old (n : Nat) (w : World) (S : Nat → Prop) (W : World) : Prop where
  below : Below n w W
  le : n ≤ w.heap.size
  mine : ∀ b, b < n → ¬ S b
/-- A row of my own. -/
structure OwnR (base : Nat) (e : TypeId) (size : Nat) (v : Value) (n : Nat) (xs : List Value) (S : Nat → Prop) (W : World) : Prop where
  row : W.ownsRow base e size v n xs
  mine : ∀ k, v.ownBlock = some k → ¬ S k

theorem Foreign.frozen {S S' : Nat → Prop} {W W' : World} (h : Foreign S S' W W') {p : Addr} (hb : p.block < W.heap.size) (hp : ¬ S p.block) : W'.frozen? p = W.frozen? p :=
  World.frozen?_of_block (h.block _ hb hp)
theorem Own1.lt {p : Addr} {v : Value} {S : Nat → Prop} {W : World} (h : Own1 p v S W) : p.block < W.heap.size := lt_of_cell h.cell
theorem Own1.stable (p : Addr) (v : Value) : Stable (Own1 p v) := fun _ _ _ _ h f =>
  ⟨f.cell h.mine h.cell, (f.frozen h.lt h.mine).trans h.free, f.not h.lt h.mine⟩
theorem Old.stable (n : Nat) (w : World) : Stable (Old n w) := fun _ _ _ _ h f =>
  ⟨f.below h.below h.le h.mine, h.le, fun b hb => f.not (by have := h.below.size; have := h.le; omega) (h.mine b hb)⟩
theorem OwnR.stable (base : Nat) (e : TypeId) (size : Nat) (v : Value) (n : Nat) (xs : List Value) : Stable (OwnR base e size v n xs) := fun S S' W W' h f => by
  refine ⟨?_, fun k hk => f.not (h.row.lt k hk).2 (h.mine k hk)⟩
  obtain ⟨h1, h2⟩ := h.row
  refine ⟨h1, ?_⟩
  rcases h2 with h2 | ⟨g, cap, cur, hv, hg, hh, r⟩
  · exact .inl h2
  · exact .inr ⟨g, cap, cur, hv, hg, f.heap' (h.mine g (by rw [hv]; rfl)) hh, r⟩
theorem Stable.and {I J : (Nat → Prop) → World → Prop} (h : Stable I) (k : Stable J) : Stable (fun S W => I S W ∧ J S W) := fun _ _ _ _ hs f => ⟨h _ _ _ _ hs.1 f, k _ _ _ _ hs.2 f⟩
theorem Stable.pure (p : Prop) : Stable (fun _ _ => p) := fun _ _ _ _ h _ => h
theorem Stable.ex {α : Type} {I : α → (Nat → Prop) → World → Prop} (h : ∀ a, Stable (I a)) : Stable (fun S W => ∃ a, I a S W) := fun _ _ _ _ ⟨a, hs⟩ f => ⟨a, h a _ _ _ _ hs f⟩
theorem Stable.or {I J : (Nat → Prop) → World → Prop} (h : Stable I) (k : Stable J) : Stable (fun S W => I S W ∨ J S W) := fun _ _ _ _ hs f => hs.imp (fun x => h _ _ _ _ x f) (fun x => k _ _ _ _ x f)

theorem Own1.new (S : Nat → Prop) (W : World) (v : Value) (t : TypeId) (hs : ¬ S W.heap.size) : Own1 ⟨W.heap.size, 0, none⟩ v S (W.alloc (.cells #[v] t)) := by
  have h : (W.alloc (.cells #[v] t)).heap[W.heap.size]? = some (.cells #[v] t) := World.alloc_heap_new _ _
  refine ⟨?_, ?_, hs⟩
  · unfold World.cell?; simp only [h]; rfl
  · unfold World.frozen?; simp only [h]; rfl
theorem Own1.alloc {p : Addr} {v : Value} {S : Nat → Prop} {W : World} (h : Own1 p v S W) (o : Obj) : Own1 p v S (W.alloc o) :=
  ⟨cell_of_heap (Below.heap_alloc _ _ _ h.lt) h.cell, (World.frozen?_of_block (Below.heap_alloc _ _ _ h.lt)).trans h.free, h.mine⟩
theorem Own1.drew {p : Addr} {v : Value} {S : Nat → Prop} {W : World} (h : Own1 p v S W) : Own1 p v S W.drew := ⟨h.cell, h.free, h.mine⟩
theorem Own1.set {p : Addr} {v : Value} {S : Nat → Prop} {W : World} (h : Own1 p v S W) (u : Value) : Own1 p u S (W.setCell p u) :=
  ⟨cell_setCell_same h.cell, (World.frozen?_setCell _ _ _ _).trans h.free, h.mine⟩
theorem Own1.other {p q : Addr} {v : Value} {S : Nat → Prop} {W : World} (h : Own1 p v S W) (u : Value) (hne : p.block ≠ q.block) : Own1 p v S (W.setCell q u) :=
  ⟨cell_of_heap (Below.heap_setCell _ _ _ _ hne) h.cell, (World.frozen?_setCell _ _ _ _).trans h.free, h.mine⟩
theorem Own1.below {p : Addr} {v : Value} {S : Nat → Prop} {W W' : World} (h : Own1 p v S W) (hb : Below W.heap.size W W') : Own1 p v S W' :=
  ⟨(hb.cell h.lt).trans h.cell, (hb.frozen h.lt).trans h.free, h.mine⟩
theorem Own1.put {p : Addr} {v : Value} {S : Nat → Prop} {W : World} (h : Own1 p v S W) {D : Nat} (hD : p.block ≠ D) (o : Obj) : Own1 p v S (W.putObj D o) :=
  ⟨cell_of_heap (World.putObj_heap_other hD) h.cell, (World.frozen?_of_block (World.putObj_heap_other hD)).trans h.free, h.mine⟩
theorem Own1.drewN {p : Addr} {v : Value} {S : Nat → Prop} {W : World} (h : Own1 p v S W) (q : Nat) : Own1 p v S (W.drewN q) := ⟨h.cell, h.free, h.mine⟩
theorem Old.drewN {n : Nat} {w W : World} {S : Nat → Prop} (h : Old n w S W) (q : Nat) : Old n w S (W.drewN q) := ⟨⟨h.below.os, h.below.tape, h.below.output, h.below.size, h.below.block⟩, h.le, h.mine⟩
theorem Kept.drewN (S : Nat → Prop) (W : World) (q : Nat) : Kept S W (W.drewN q) := ⟨rfl, rfl, rfl, Nat.le_refl _, fun _ _ _ => rfl⟩
theorem below_drewN' {n : Nat} (W : World) (q : Nat) : Below n W (W.drewN q) := ⟨rfl, rfl, rfl, Nat.le_refl _, fun _ _ => rfl⟩
theorem Old.alloc {n : Nat} {w W : World} {S : Nat → Prop} (h : Old n w S W) (o : Obj) : Old n w S (W.alloc o) := ⟨h.below.alloc (Nat.le_trans h.le h.below.size) _, h.le, h.mine⟩
theorem Old.drew {n : Nat} {w W : World} {S : Nat → Prop} (h : Old n w S W) : Old n w S W.drew := ⟨h.below.drew, h.le, h.mine⟩
theorem Old.set {n : Nat} {w W : World} {S : Nat → Prop} (h : Old n w S W) {p : Addr} (hp : n ≤ p.block) (u : Value) : Old n w S (W.setCell p u) := ⟨h.below.setCell hp _, h.le, h.mine⟩
theorem Old.next {n : Nat} {w W W' : World} {S : Nat → Prop} (h : Old n w S W) (hb : Below W.heap.size W W') : Old n w S W' := ⟨h.below.trans (hb.mono (Nat.le_trans h.le h.below.size)), h.le, h.mine⟩

/-- WHAT AN ITERATOR VALUE PROMISES: the function gf, with lb captured, tells xs, one by one, till it is told to stop. S0: the blocks that are its own. RO: blocks that the body leaves alone. -/
def SeqIt {α : Type} (F : Fence) (n : Nat) (P : Program) (gf : Nat) (lb : Array Value) (encs : α → Array Value) (xs : List α) (S0 RO : Nat → Prop) (w : World) : Prop :=
  ∀ (l : Nat) (J : Nat → (Nat → Prop) → World → Prop) (Jx : (Nat → Prop) → World → Prop) (W : World),
    (∀ k, Stable (J k)) → Stable Jx → Below w.heap.size w W →
    (∀ k S1 W1, J k S1 W1 → (hk : k < xs.length) → YieldAt F (n - 1) P l (encs xs[k]) W1 fun e W' =>
      (e = .returned (.bool true) ∧ J (k + 1) S1 W' ∧ Kept (fun b => RO b ∨ S1 b) W1 W') ∨ (e = .returned (.bool false) ∧ Jx S1 W' ∧ Kept (fun b => RO b ∨ S1 b) W1 W')) →
    J 0 S0 W →
    CallsIn F n P gf (#[.func (.yield l) #[] #[]] ++ lb) W fun e W' => (∃ v, e = .returned v) ∧ ((∃ S', J xs.length S' W') ∨ (∃ S', Jx S' W'))

/-- HOW A BODY MAY BE LEFT. -/
def rangePostX (Kp : Nat → Prop) (N : (Nat → Prop) → World → Prop) (Ix : Code → (Nat → Prop) → World → Prop) (S : Nat → Prop) (W : World) : Exit → Act → World → Prop
  | .normal, _, W' => Kept Kp W W' ∧ N S W'
  | .ret, _, W' => Kept Kp W W' ∧ Ix .ret S W'
  | .exit id, _, W' => Kept Kp W W' ∧ Ix (.exit id) S W'
  | .goto t, _, W' => Kept Kp W W' ∧ Ix (.goto t) S W'
  | .panic _, _, _ => False
  | .outgrown, _, _ => False

/-- The assignment to the loop's left sides: what it leaves. -/
def AssignEnd (Ax : Nat → Act → (Nat → Prop) → World → Prop) (Kp : Nat → Prop) (k : Nat) (S : Nat → Prop) (W : World) (a₁ : Act) (W₁ : World) : Prop := Ax k a₁ S W₁ ∧ Kept Kp W W₁
/-- The usual one: the temporaries alone turn. -/
def AxOf (a₁ : Nat → Act) (I : Nat → (Nat → Prop) → World → Prop) (k : Nat) (a : Act) (S : Nat → Prop) (W : World) : Prop := a = a₁ k ∧ I k S W
theorem AxOf.stable {a₁ : Nat → Act} {I : Nat → (Nat → Prop) → World → Prop} (h : ∀ k, Stable (I k)) (k : Nat) (a : Act) : Stable (AxOf a₁ I k a) := fun _ _ _ _ hs f => ⟨hs.1, h k _ _ _ _ hs.2 f⟩

section
variable {F : Fence} {n : Nat} {P : Program}

/-! ### Whole rows, loaded and stored -/
theorem wpList_store_row {ops : Array Oper} {rest : List Oper} {o : Oper} {a : Act} {w : World} {Q : Exit → Act → World → Prop} (hgd : o.guard = none) (ty : TypeId) (x y : Operand) (ho : o.op = .store ty x y)
    (g : Nat) (cells : Array Value) (hx : a.eval x = .pointer (some ⟨g, 0, none⟩)) (hy : a.eval y = .agg cells)
    (t : TypeId) (old : Array Value) (hg : w.heap[g]? = some (.cells old t (0, 0))) (hi : (P.info? ty).map (·.size) = some cells.size)
    (hold : old.size = cells.size) (h1 : cells.all (·.oneCell') = true)
    (h : wpList P ops Q rest (a.put o.dst undef) (w.setRow g cells)) : wpList P ops Q (o :: rest) a w :=
  wpList_plain hgd fun _ hK => wp_store_row ty x y ho g cells hx hy t old hg hi hold h1 (hK _ _ h)

theorem wpListIn_load_row {ops : Array Oper} {rest : List Oper} {o : Oper} {a : Act} {w : World} {Q : Exit → Act → World → Prop} (hgd : o.guard = none) (ty : TypeId) (x : Operand) (ho : o.op = .load ty x)
    (g : Nat) (hx : a.eval x = .pointer (some ⟨g, 0, none⟩)) (t : TypeId) (cs : Array Value) (fr : Nat × Nat) (d : TypeDesc) (hg : w.heap[g]? = some (.cells cs t fr))
    (hu : P.underlying ty = some d) (hd : (match d with | .struct _ | .array _ _ => true | _ => false) = true) (hi : (P.info? ty).map (·.size) = some cs.size)
    (h : wpListIn F n P ops Q rest (a.put o.dst (.agg cs)) w) : wpListIn F n P ops Q (o :: rest) a w :=
  wpListIn_plain hgd fun K hK => by
    refine ⟨fun f hf => ?_, ?_⟩
    · simp [Oper.about, ho] at hf
    · rw [Oper.semAt_plain F _ _ (by rw [ho]; simp)]
      unfold execOp
      simp only [ho, hx, Instr.loadAt, Instr.sureAddr, Sem.run_bind, Sem.run_pure, Result.andThen_ok, run_loadVar_row w g t ty cs fr d hg hu hd hi]
      exact hK _ _ h

theorem wpListIn_store_row {ops : Array Oper} {rest : List Oper} {o : Oper} {a : Act} {w : World} {Q : Exit → Act → World → Prop} (hgd : o.guard = none) (ty : TypeId) (x y : Operand) (ho : o.op = .store ty x y)
    (g : Nat) (cells : Array Value) (hx : a.eval x = .pointer (some ⟨g, 0, none⟩)) (hy : a.eval y = .agg cells)
    (t : TypeId) (old : Array Value) (hg : w.heap[g]? = some (.cells old t (0, 0))) (hi : (P.info? ty).map (·.size) = some cells.size)
    (hold : old.size = cells.size) (h1 : cells.all (·.oneCell') = true)
    (h : wpListIn F n P ops Q rest (a.put o.dst undef) (w.setRow g cells)) : wpListIn F n P ops Q (o :: rest) a w :=
  wpListIn_plain hgd fun K hK => by
    refine ⟨fun f hf => ?_, ?_⟩
    · simp [Oper.about, ho] at hf
    · rw [Oper.semAt_plain F _ _ (by rw [ho]; simp)]
      unfold execOp
      simp only [ho, hx, hy, Instr.storeAt, Instr.sureAddr, Sem.run_bind, Sem.run_pure, Result.andThen_ok, run_storeVar_row w g t ty old cells hg hi hold h1]
      exact hK _ _ h

theorem below_setRow' {B g : Nat} {w0 w : World} (hb : Below B w0 w) (hBg : B ≤ g) (cs : Array Value) : Below B w0 (w.setRow g cs) :=
  hb.trans ⟨rfl, rfl, rfl, by simp, fun k hk => setRow_other _ _ _ _ (by omega)⟩
theorem heap_below {B : Nat} {w w' : World} (hb : Below B w w') {b : Nat} {o : Obj} (h : w.heap[b]? = some o) (hlt : b < B) : w'.heap[b]? = some o := (hb.block b hlt).trans h

/-- The loop's own blocks put beside S. -/
def plusM (S M : Nat → Prop) : Nat → Prop := fun b => S b ∨ M b

theorem Foreign.plusM {S S' M : Nat → Prop} {W W' : World} (h : Foreign S S' W W') : Foreign (plusM S M) (plusM S' M) W W' :=
  ⟨h.os, h.tape, h.output, h.size, fun b hb => hb.elim (fun x => .inl (h.sub b x)) .inr,
   fun b hb => by
    rcases hb with hb | hb
    · rcases h.fresh b hb with h1 | h1
      · exact .inl (.inl h1)
      · exact .inr h1
    · exact .inl (.inr hb),
   fun b hb hs => h.block b hb (fun x => hs (.inl x))⟩

theorem Foreign.heap {S S' : Nat → Prop} {W W' : World} (h : Foreign S S' W W') {b : Nat} {o : Obj} (hp : ¬ S b) (ho : W.heap[b]? = some o) : W'.heap[b]? = some o :=
  (h.block b (Array.getElem?_eq_some_iff.1 ho).1 hp).trans ho

theorem lt_of_heap {W : World} {b : Nat} {o : Obj} (h : W.heap[b]? = some o) : b < W.heap.size := (Array.getElem?_eq_some_iff.1 h).1

/-- **A RANGE OVER A FUNCTION, whatever loop it stands in: the core.** -/
theorem wpIn_range_core {α : Type} {ps : Array Tmp} {assign body : Code} {Q : Exit → Act → World → Prop} {a : Act} {w W1 : World} {fn L dn : Nat} {mark : List Deferred} {rec : LoopState → Option Code → Loop}
    (hfn : F.fn fn) (hrec : rec = fun st pe => { state := st, pending := pe, fn, tmps := a.tmps, params := ps, assign, body, defers := dn })
    {gf : Nat} {lb : Array Value} {encs : α → Array Value} {xs : List α} {S0 RO M : Nat → Prop} (hseq : SeqIt F (n - 1) P gf lb encs xs S0 RO w) (hS0 : ∀ b, S0 b → b < w.heap.size) (hps : ∀ x, (encs x).size = ps.size)
    (hRO : ∀ b, RO b → b < w.heap.size ∧ ¬ S0 b)
    (hML : M L) (hM : ∀ b, M b → w.heap.size ≤ b ∧ b < W1.heap.size) (hL1 : W1.heap[L]? = some (.loop (rec .ready none))) (hb1 : Below w.heap.size w W1)
    (I : Nat → (Nat → Prop) → World → Prop) (Ix : Code → Nat → (Nat → Prop) → World → Prop) (hI : ∀ k, Stable (I k)) (hIx : ∀ c k, Stable (Ix c k)) (h0 : I 0 S0 w)
    (Ax : Nat → Act → (Nat → Prop) → World → Prop) (hAx : ∀ k a₁, Stable (Ax k a₁))
    (hassign : ∀ (l k : Nat) (S : Nat → Prop) (W : World) (hk : k < xs.length), S l → (∀ b, RO b → ¬ S b) → (∀ b, S b → b < W.heap.size) → I k S W →
      assign.wpIn (F.inRound l) (n - 1 - 1) P (Exit.then (AssignEnd Ax (fun b => RO b ∨ S b) k S W) (fun _ _ _ => False)) { tmps := (ps.zip (encs xs[k])).foldl (fun t (p, v) => t.setIfInBounds p v) a.tmps, defers := [] } W)
    (hbody : ∀ (l k : Nat) (S : Nat → Prop) (a₁ : Act) (W : World) (r : Loop), k < xs.length → S l → W.heap[l]? = some (.loop r) → (∀ b, RO b → ¬ S b) → (∀ b, S b → b < W.heap.size) → Ax k a₁ S W →
      body.wpIn (F.inRound l) (n - 1 - 1) P (rangePostX (fun b => RO b ∨ S b) (I (k + 1)) (fun c => Ix c k) S W) a₁ W)
    (hdone : ∀ (S : Nat → Prop) (W : World), (∀ b, RO b → ¬ S b) → (∀ b, M b → S b) → I xs.length S W → (∀ b, M b → b ≠ L → W.heap[b]? = W1.heap[b]?) → Q .normal { a with defers := mark ++ a.defers } W)
    (hstop : ∀ (c : Code) (k : Nat) (S : Nat → Prop) (W : World), (∀ b, RO b → ¬ S b) → (∀ b, M b → S b) → k < xs.length → Ix c k S W → (∀ b, M b → b ≠ L → W.heap[b]? = W1.heap[b]?) → c.wpIn F n P Q { a with defers := mark ++ a.defers } W) :
    CallsIn F (n - 1) P gf (#[.func (.yield L) #[] #[]] ++ lb) W1 (rangePost F n P L Q { a with defers := mark ++ a.defers }) := by
  have hst : ∀ st pe, (rec st pe).state = st ∧ (rec st pe).pending = pe := by intro st pe; rw [hrec]; exact ⟨rfl, rfl⟩
  have hw1 := hb1.size
  have hf1 : Foreign S0 (plusM S0 M) w W1 :=
    ⟨hb1.os, hb1.tape, hb1.output, hb1.size, fun b h => .inl h, fun b h => h.elim .inl (fun h => .inr (hM b h)), fun b hb _ => hb1.block b hb⟩
  have hI1 : I 0 (plusM S0 M) W1 := hI 0 _ _ _ _ h0 hf1
  have hLw := hM L hML
  -- beside I
  let Z : (Nat → Prop) → World → Prop := fun S W => (∀ b, M b → ¬ S b) ∧ (∀ b, RO b → ¬ S b) ∧ W1.heap.size ≤ W.heap.size ∧ (∀ b, M b → b ≠ L → W.heap[b]? = W1.heap[b]?) ∧ (∀ b, S b → b < W.heap.size)
  have hZ : Stable Z := by
    intro S S' W W' hz hf
    obtain ⟨z1, z2, z3, z4, z5⟩ := hz
    have hfs := hf.size
    refine ⟨fun b hb => hf.not (by have := hM b hb; omega) (z1 b hb), fun b hb => hf.not (by have := hRO b hb; omega) (z2 b hb), by omega, fun b hb hne => (hf.block b (by have := hM b hb; omega) (z1 b hb)).trans (z4 b hb hne), fun b hb => ?_⟩
    rcases hf.fresh b hb with h | h
    · have := z5 b h; omega
    · exact h.2
  have hRS : ∀ S W, Z S W → ∀ b, RO b → ¬ plusM S M b := by
    intro S W hz b hb hs
    rcases hs with hs | hs
    · exact hz.2.1 b hb hs
    · have := hM b hs; have := hRO b hb; omega
  -- the body's word leaves Z alone
  have hZk : ∀ S W W', Z S W → Kept (fun b => RO b ∨ plusM S M b) W W' → Z S W' := by
    intro S W W' hz hk
    obtain ⟨z1, z2, z3, z4, z5⟩ := hz
    exact ⟨z1, z2, Nat.le_trans z3 hk.size, fun b hb hne => (hk.block b (by have := hM b hb; omega) (.inr (.inr hb))).trans (z4 b hb hne), fun b hb => Nat.lt_of_lt_of_le (z5 b hb) hk.size⟩
  have hSB : ∀ S W, Z S W → ∀ b, plusM S M b → b < W.heap.size := by
    intro S W hz b hb
    rcases hb with hb | hb
    · exact hz.2.2.2.2 b hb
    · have := hM b hb; have := hz.2.2.1; omega
  have hZp : ∀ S W o, Z S W → Z S (W.putObj L o) := by
    intro S W o hz
    obtain ⟨z1, z2, z3, z4, z5⟩ := hz
    exact ⟨z1, z2, by simpa using z3, fun b hb hne => (World.putObj_heap_other hne).trans (z4 b hb hne), fun b hb => by simpa using z5 b hb⟩
  have hZ0 : Z S0 W1 := ⟨fun b hb hs => by have := hS0 b hs; have := hM b hb; omega, fun b hb => (hRO b hb).2, Nat.le_refl _, fun _ _ _ => rfl, fun b hb => Nat.lt_of_lt_of_le (hS0 b hb) hw1⟩
  have hMS : ∀ S : Nat → Prop, ∀ b, M b → plusM S M b := fun S b hb => .inr hb
  refine (hseq L
    (fun k S W => I k (plusM S M) W ∧ W.heap[L]? = some (.loop (rec .ready none)) ∧ Z S W)
    (fun S W => ∃ c k, k < xs.length ∧ Ix c k (plusM S M) W ∧ W.heap[L]? = some (.loop (rec .done (some c))) ∧ Z S W)
    W1 ?_ ?_ hb1 ?_ ⟨hI1, hL1, hZ0⟩).mono ?_
  · rintro k S S' W W' ⟨hi, hl, hz⟩ hf
    exact ⟨hI k _ _ _ _ hi hf.plusM, hf.heap (hz.1 L hML) hl, hZ _ _ _ _ hz hf⟩
  · rintro S S' W W' ⟨c, k, hk, hi, hl, hz⟩ hf
    exact ⟨c, k, hk, hIx c k _ _ _ _ hi hf.plusM, hf.heap (hz.1 L hML) hl, hZ _ _ _ _ hz hf⟩
  · -- one round
    rintro k S W ⟨hi, hl, hz⟩ hk
    have hy := run_yield (P := P) (args := encs xs[k]) hl (by rw [hrec]; exact hps _)
    have hy' : (Instr.yield L (encs xs[k])).run P W = .ok (.round L fn ((ps.zip (encs xs[k])).foldl (fun tmps (t, v) => tmps.setIfInBounds t v) a.tmps) assign body) W := by
      rw [hrec] at hy; exact hy
    refine ⟨fn, _, assign, body, hy', roundIn_of_wpIn hfn (wpIn_mono (hassign L k (plusM S M) W hk (hMS S L hML) (hRS S W hz) (hSB S W hz) hi) ?_)⟩
    rintro e a₁ W2 hp
    cases e with
    | normal =>
      obtain ⟨hax, hk2⟩ := hp
      have hlt : L < W.heap.size := lt_of_heap hl
      have hl2 : W2.heap[L]? = some (.loop (rec .ready none)) := (hk2.block L hlt (.inr (.inr hML))).trans hl
      have hz2 := hZk _ _ _ hz hk2
      refine ⟨_, run_beginRound hl2 (hst _ _).1, ?_⟩
      obtain ⟨W3, hW3⟩ : ∃ W3, W3 = W2.putObj L (.loop { rec .ready none with state := .busy }) := ⟨_, rfl⟩
      rw [← hW3]
      have hl3 : W3.heap[L]? = some (.loop (rec .busy none)) := by
        rw [hW3, World.putObj_heap_same (lt_of_heap hl2), hrec]
      have hz3 : Z S W3 := by rw [hW3]; exact hZp _ _ _ hz2
      have hax3 : Ax k a₁ (plusM S M) W3 := by rw [hW3]; exact hAx k a₁ _ _ _ _ hax (Foreign.putObj _ _ _ (hMS S L hML))
      have hk3 : Kept (fun b => RO b ∨ S b) W W3 := by
        rw [hW3]
        refine Kept.trans (hk2.mono fun b hb => hb.elim .inl (fun h => .inr (.inl h))) (Kept.putObj _ _ _ _ ?_)
        rintro (h | h)
        · have := hRO _ h; omega
        · exact hz.1 L hML h
      refine wpIn_mono (hbody L k (plusM S M) a₁ W3 _ hk (hMS S L hML) hl3 (hRS S W3 hz3) (hSB S W3 hz3) hax3) ?_
      have fin : ∀ (jump : Option Code) (W4 : World), Kept (fun b => RO b ∨ plusM S M b) W3 W4 →
          (Instr.endRound L jump).run P W4 = .ok (.bool jump.isNone) (W4.putObj L (.loop (rec (if jump.isNone then .ready else .done) jump))) ∧
          (W4.putObj L (.loop (rec (if jump.isNone then .ready else .done) jump))).heap[L]? = some (.loop (rec (if jump.isNone then .ready else .done) jump)) ∧
          Z S (W4.putObj L (.loop (rec (if jump.isNone then .ready else .done) jump))) ∧
          Kept (fun b => RO b ∨ S b) W (W4.putObj L (.loop (rec (if jump.isNone then .ready else .done) jump))) := fun jump W4 hk4 => by
        have hl4 := (hk4.block L (lt_of_heap hl3) (.inr (.inr hML))).trans hl3
        have := run_endRound (P := P) jump hl4
        rw [hrec] at this
        rw [hrec]
        refine ⟨this, World.putObj_heap_same (lt_of_heap hl4), hZp _ _ _ (hZk _ _ _ hz3 hk4), (hk3.trans (hk4.mono fun b hb => hb.elim .inl (fun h => .inr (.inl h)))).trans (Kept.putObj _ _ _ _ ?_)⟩
        rintro (h | h)
        · have := hRO _ h; omega
        · exact hz.1 L hML h
      rintro e a3 W4 hp
      cases e with
      | normal =>
        obtain ⟨hk4, hi4⟩ := hp
        obtain ⟨hr, hl5, hz5, hk5⟩ := fin none W4 hk4
        exact ⟨_, _, hr, .inl ⟨rfl, ⟨hI _ _ _ _ _ hi4 (Foreign.putObj _ _ _ (hMS S L hML)), hl5, hz5⟩, hk5⟩⟩
      | ret =>
        obtain ⟨hk4, hi4⟩ := hp
        obtain ⟨hr, hl5, hz5, hk5⟩ := fin (some .ret) W4 hk4
        exact ⟨_, _, hr, .inr ⟨rfl, ⟨.ret, k, hk, hIx _ _ _ _ _ _ hi4 (Foreign.putObj _ _ _ (hMS S L hML)), hl5, hz5⟩, hk5⟩⟩
      | exit id =>
        obtain ⟨hk4, hi4⟩ := hp
        obtain ⟨hr, hl5, hz5, hk5⟩ := fin (some (.exit id)) W4 hk4
        exact ⟨_, _, hr, .inr ⟨rfl, ⟨.exit id, k, hk, hIx _ _ _ _ _ _ hi4 (Foreign.putObj _ _ _ (hMS S L hML)), hl5, hz5⟩, hk5⟩⟩
      | goto t =>
        obtain ⟨hk4, hi4⟩ := hp
        obtain ⟨hr, hl5, hz5, hk5⟩ := fin (some (.goto t)) W4 hk4
        exact ⟨_, _, hr, .inr ⟨rfl, ⟨.goto t, k, hk, hIx _ _ _ _ _ _ hi4 (Foreign.putObj _ _ _ (hMS S L hML)), hl5, hz5⟩, hk5⟩⟩
      | panic ch => exact hp.elim
      | outgrown => exact hp.elim
    | ret => exact hp.elim
    | exit id => exact hp.elim
    | goto t => exact hp.elim
    | panic ch => exact hp.elim
    | outgrown => exact hp.elim
  · rintro e W2 ⟨⟨v, rfl⟩, (⟨S', hi, hl, hz⟩ | ⟨S', c, k, hk, hi, hl, hz⟩)⟩
    · refine ⟨none, _, by have := run_endLoop (P := P) hl (by rw [(hst _ _).1]; simp); rw [(hst _ _).2] at this; exact this, ?_⟩
      exact hdone (plusM S' M) _ (hRS _ _ hz) (hMS _) (hI _ _ _ _ _ hi (Foreign.putObj _ _ _ (hMS _ L hML))) (fun b hb hne => (World.putObj_heap_other hne).trans (hz.2.2.2.1 b hb hne))
    · refine ⟨some c, _, by have := run_endLoop (P := P) hl (by rw [(hst _ _).1]; simp); rw [(hst _ _).2] at this; exact this, ?_⟩
      exact hstop c k (plusM S' M) _ (hRS _ _ hz) (hMS _) hk (hIx _ _ _ _ _ _ hi (Foreign.putObj _ _ _ (hMS _ L hML))) (fun b hb hne => (World.putObj_heap_other hne).trans (hz.2.2.2.1 b hb hne))

/-- **AN OUTERMOST RANGE OVER A FUNCTION.** -/
theorem wpIn_range {α : Type} {g : Operand} {ps : Array Tmp} {assign body : Code} {Q : Exit → Act → World → Prop} {a : Act} {w : World}
    (hro : F.round = none) (h1 : F.depth.isSome = true → 1 ≤ n) {gf : Nat} {lb : Array Value} (hg : a.eval g = .func (.func gf) #[] lb) (hFg : F.fn gf) (eg : ∀ args w, (callFunc gf args).run P w = .ok (.enter gf args) w)
    {encs : α → Array Value} {xs : List α} {S0 RO : Nat → Prop} (hseq : SeqIt F (n - 1) P gf lb encs xs S0 RO w) (hS0 : ∀ b, S0 b → b < w.heap.size) (hps : ∀ x, (encs x).size = ps.size)
    (hRO : ∀ b, RO b → b < w.heap.size ∧ ¬ S0 b)
    (I : Nat → (Nat → Prop) → World → Prop) (Ix : Code → Nat → (Nat → Prop) → World → Prop) (hI : ∀ k, Stable (I k)) (hIx : ∀ c k, Stable (Ix c k)) (h0 : I 0 S0 w)
    (Ax : Nat → Act → (Nat → Prop) → World → Prop) (hAx : ∀ k a₁, Stable (Ax k a₁))
    (hassign : ∀ (l k : Nat) (S : Nat → Prop) (W : World) (hk : k < xs.length), S l → (∀ b, RO b → ¬ S b) → (∀ b, S b → b < W.heap.size) → I k S W →
      assign.wpIn (F.inRound l) (n - 1 - 1) P (Exit.then (AssignEnd Ax (fun b => RO b ∨ S b) k S W) (fun _ _ _ => False)) { tmps := (ps.zip (encs xs[k])).foldl (fun t (p, v) => t.setIfInBounds p v) a.tmps, defers := [] } W)
    (hbody : ∀ (l k : Nat) (S : Nat → Prop) (a₁ : Act) (W : World) (r : Loop), k < xs.length → S l → W.heap[l]? = some (.loop r) → (∀ b, RO b → ¬ S b) → (∀ b, S b → b < W.heap.size) → Ax k a₁ S W →
      body.wpIn (F.inRound l) (n - 1 - 1) P (rangePostX (fun b => RO b ∨ S b) (I (k + 1)) (fun c => Ix c k) S W) a₁ W)
    (hdone : ∀ (D : Nat) (S : Nat → Prop) (W : World), w.heap.size ≤ D → S D → (∀ b, RO b → ¬ S b) → I xs.length S W → W.heap[D]? = some (.deferred (some [])) → Q .normal { a with defers := { target := .collected D, args := #[] } :: a.defers } W)
    (hstop : ∀ (D : Nat) (c : Code) (k : Nat) (S : Nat → Prop) (W : World), w.heap.size ≤ D → S D → (∀ b, RO b → ¬ S b) → k < xs.length → Ix c k S W → W.heap[D]? = some (.deferred (some [])) → c.wpIn F n P Q { a with defers := { target := .collected D, args := #[] } :: a.defers } W) :
    (Code.rangeFunc g ps assign body).wpIn F n P Q a w := by
  refine wpIn_rangeFunc ?_
  intro fn hfn
  rw [hro]
  obtain ⟨rec, hrec⟩ : ∃ rec : LoopState → Option Code → Loop, rec = fun st pe => { state := st, pending := pe, fn, tmps := a.tmps, params := ps, assign, body, defers := w.heap.size } := ⟨_, rfl⟩
  obtain ⟨W1, hW1⟩ : ∃ W1, (w.alloc (.deferred (some []))).alloc (.loop (rec .ready none)) = W1 := ⟨_, rfl⟩
  have hsz : W1.heap.size = w.heap.size + 2 := by rw [← hW1]; simp
  have hL1 : W1.heap[w.heap.size + 1]? = some (.loop (rec .ready none)) := by
    rw [← hW1]; have := World.alloc_heap_new (w.alloc (.deferred (some []))) (.loop (rec .ready none)); rwa [World.size_alloc] at this
  have hK1 : W1.heap[w.heap.size]? = some (.deferred (some [])) := by
    rw [← hW1]; exact (Below.heap_alloc _ _ _ (by simp)).trans (World.alloc_heap_new w _)
  have hb1 : Below w.heap.size w W1 := by
    rw [← hW1]; exact ((Below.refl _ w).alloc (Nat.le_refl _) _).alloc (by simp) _
  refine ⟨w.heap.size + 1, [{ target := .collected w.heap.size, args := #[] }], W1, { target := .fn (.func gf) lb, args := #[.func (.yield (w.heap.size + 1)) #[] #[]] }, W1, gf,
    #[.func (.yield (w.heap.size + 1)) #[] #[]] ++ lb, W1, ?_, ?_, ?_, ?_, h1, ?_⟩
  · rw [← hW1, hrec]; exact run_enterLoop_outer _ _ _ _ _
  · simp only [resolve, hg]
    simp [go_sem]
  · intro f' hf'; simp [Target.leads] at hf'; subst hf'; exact hFg
  · simp [invoke, go_sem, eg]
  · refine wpIn_range_core (M := fun b => b = w.heap.size ∨ b = w.heap.size + 1) hfn (by rw [hrec]) hseq hS0 hps hRO (.inr rfl) (fun b hb => by omega) hL1 hb1 I Ix hI hIx h0 Ax hAx hassign hbody ?_ ?_
    · intro S W hr hm hi hD
      exact hdone _ S W (Nat.le_refl _) (hm _ (.inl rfl)) hr hi ((hD _ (.inl rfl) (by omega)).trans hK1)
    · intro c k S W hr hm hk hi hD
      exact hstop _ c k S W (Nat.le_refl _) (hm _ (.inl rfl)) hr hk hi ((hD _ (.inl rfl) (by omega)).trans hK1)

/-- **A RANGE OVER A FUNCTION IN THE BODY OF ANOTHER ONE.** -/
theorem wpIn_rangeN {α : Type} {g : Operand} {ps : Array Tmp} {assign body : Code} {Q : Exit → Act → World → Prop} {a : Act} {w : World} {l₀ : Nat} {r₀ : Loop}
    (hro : F.round = some l₀) (hr₀ : w.heap[l₀]? = some (.loop r₀)) (h1 : F.depth.isSome = true → 1 ≤ n) {gf : Nat} {lb : Array Value} (hg : a.eval g = .func (.func gf) #[] lb) (hFg : F.fn gf) (eg : ∀ args w, (callFunc gf args).run P w = .ok (.enter gf args) w)
    {encs : α → Array Value} {xs : List α} {S0 RO : Nat → Prop} (hseq : SeqIt F (n - 1) P gf lb encs xs S0 RO w) (hS0 : ∀ b, S0 b → b < w.heap.size) (hps : ∀ x, (encs x).size = ps.size)
    (hRO : ∀ b, RO b → b < w.heap.size ∧ ¬ S0 b)
    (I : Nat → (Nat → Prop) → World → Prop) (Ix : Code → Nat → (Nat → Prop) → World → Prop) (hI : ∀ k, Stable (I k)) (hIx : ∀ c k, Stable (Ix c k)) (h0 : I 0 S0 w)
    (Ax : Nat → Act → (Nat → Prop) → World → Prop) (hAx : ∀ k a₁, Stable (Ax k a₁))
    (hassign : ∀ (l k : Nat) (S : Nat → Prop) (W : World) (hk : k < xs.length), S l → (∀ b, RO b → ¬ S b) → (∀ b, S b → b < W.heap.size) → I k S W →
      assign.wpIn (F.inRound l) (n - 1 - 1) P (Exit.then (AssignEnd Ax (fun b => RO b ∨ S b) k S W) (fun _ _ _ => False)) { tmps := (ps.zip (encs xs[k])).foldl (fun t (p, v) => t.setIfInBounds p v) a.tmps, defers := [] } W)
    (hbody : ∀ (l k : Nat) (S : Nat → Prop) (a₁ : Act) (W : World) (r : Loop), k < xs.length → S l → W.heap[l]? = some (.loop r) → (∀ b, RO b → ¬ S b) → (∀ b, S b → b < W.heap.size) → Ax k a₁ S W →
      body.wpIn (F.inRound l) (n - 1 - 1) P (rangePostX (fun b => RO b ∨ S b) (I (k + 1)) (fun c => Ix c k) S W) a₁ W)
    (hdone : ∀ (S : Nat → Prop) (W : World), (∀ b, RO b → ¬ S b) → I xs.length S W → Q .normal a W)
    (hstop : ∀ (c : Code) (k : Nat) (S : Nat → Prop) (W : World), (∀ b, RO b → ¬ S b) → k < xs.length → Ix c k S W → c.wpIn F n P Q a W) :
    (Code.rangeFunc g ps assign body).wpIn F n P Q a w := by
  refine wpIn_rangeFunc ?_
  intro fn hfn
  rw [hro]
  obtain ⟨rec, hrec⟩ : ∃ rec : LoopState → Option Code → Loop, rec = fun st pe => { state := st, pending := pe, fn, tmps := a.tmps, params := ps, assign, body, defers := r₀.defers } := ⟨_, rfl⟩
  obtain ⟨W1, hW1⟩ : ∃ W1, w.alloc (.loop (rec .ready none)) = W1 := ⟨_, rfl⟩
  have hsz : W1.heap.size = w.heap.size + 1 := by rw [← hW1]; simp
  have hL1 : W1.heap[w.heap.size]? = some (.loop (rec .ready none)) := by
    rw [← hW1]; exact World.alloc_heap_new _ _
  have hb1 : Below w.heap.size w W1 := by
    rw [← hW1]; exact (Below.refl _ w).alloc (Nat.le_refl _) _
  refine ⟨w.heap.size, [], W1, { target := .fn (.func gf) lb, args := #[.func (.yield w.heap.size) #[] #[]] }, W1, gf,
    #[.func (.yield w.heap.size) #[] #[]] ++ lb, W1, ?_, ?_, ?_, ?_, h1, ?_⟩
  · rw [← hW1, hrec]
    unfold Instr.enterLoop
    simp only [Sem.run_bind, run_getLoop hr₀, run_newObj_alloc, Result.andThen, Sem.run_pure]
  · simp only [resolve, hg]
    simp [go_sem]
  · intro f' hf'; simp [Target.leads] at hf'; subst hf'; exact hFg
  · simp [invoke, go_sem, eg]
  · refine wpIn_range_core (mark := []) (M := fun b => b = w.heap.size) hfn (by rw [hrec]) hseq hS0 hps hRO rfl (fun b hb => by omega) hL1 hb1 I Ix hI hIx h0 Ax hAx hassign hbody ?_ ?_
    · intro S W hr hm hi hD
      exact hdone S W hr hi
    · intro c k S W hr hm hk hi hD
      exact hstop c k S W hr hk hi

/-- The function's way out behind one outermost range over a function. -/
theorem post_mark {fn : Func} {R : Ending → World → Prop} {e : Exit} {tmps : Array Value} {D : Nat} {W : World} {v : Value} (he : e = .ret ∨ e = .normal)
    (hD : W.heap[D]? = some (.deferred (some []))) (hr : (results fn tmps).run P (W.putObj D (.deferred none)) = .ok v (W.putObj D (.deferred none))) (hR : R (.returned v) (W.putObj D (.deferred none))) :
    bodyPostM F n P fn R e { tmps := tmps, defers := [{ target := .collected D, args := #[] }] } W := by
  have h : LeavesInM F n P fn tmps R [{ target := .collected D, args := #[] }] .returning W :=
    ⟨by simp, .inl ⟨_, _, rfl, run_takeDeferred hD, ⟨v, hr, hR⟩⟩⟩
  rcases he with rfl | rfl
  · exact h
  · exact h

/-- .. and where none was entered. -/
theorem post_plain {fn : Func} {R : Ending → World → Prop} {e : Exit} {tmps : Array Value} {W : World} {v : Value} (he : e = .ret ∨ e = .normal)
    (hr : (results fn tmps).run P W = .ok v W) (hR : R (.returned v) W) :
    bodyPostM F n P fn R e { tmps := tmps, defers := [] } W := by
  rcases he with rfl | rfl
  · exact ⟨v, hr, hR⟩
  · exact ⟨v, hr, hR⟩

/-- Two marks. -/
theorem post_mark2 {fn : Func} {R : Ending → World → Prop} {e : Exit} {tmps : Array Value} {D E : Nat} {W : World} {v : Value} (he : e = .ret ∨ e = .normal)
    (hD : W.heap[D]? = some (.deferred (some []))) (hE : W.heap[E]? = some (.deferred (some []))) (hne : E ≠ D)
    (hr : (results fn tmps).run P ((W.putObj D (.deferred none)).putObj E (.deferred none)) = .ok v ((W.putObj D (.deferred none)).putObj E (.deferred none))) (hR : R (.returned v) ((W.putObj D (.deferred none)).putObj E (.deferred none))) :
    bodyPostM F n P fn R e { tmps := tmps, defers := [{ target := .collected D, args := #[] }, { target := .collected E, args := #[] }] } W := by
  have h : LeavesInM F n P fn tmps R [{ target := .collected D, args := #[] }, { target := .collected E, args := #[] }] .returning W :=
    ⟨by simp, .inl ⟨_, _, rfl, run_takeDeferred hD, ⟨by simp, .inl ⟨_, _, rfl, run_takeDeferred ((World.putObj_heap_other hne).trans hE), ⟨v, hr, hR⟩⟩⟩⟩⟩
  rcases he with rfl | rfl
  · exact h
  · exact h

theorem below_putObj {n : Nat} {w W : World} (h : Below n w W) {D : Nat} (hD : n ≤ D) (o : Obj) : Below n w (W.putObj D o) :=
  h.trans ⟨rfl, rfl, rfl, by simp, fun k hk => World.putObj_heap_other (by omega)⟩

end

/-! ### Numbers that came in -/
theorem nat_of_u64 {a : Int} (h : (Lit.int .u64 a).wf = true) : ∃ x : Nat, a = (x : Int) ∧ x < 2 ^ 64 := by
  simp [Lit.wf, IntKind.min, IntKind.max, IntKind.signed, IntKind.bits] at h
  exact ⟨a.toNat, by omega, by simp only [Nat.reducePow]; omega⟩
theorem nat_of_u8 {a : Int} (h : (Lit.int .u8 a).wf = true) : ∃ x : Nat, a = (x : Int) ∧ x < 256 := by
  simp [Lit.wf, IntKind.min, IntKind.max, IntKind.signed, IntKind.bits] at h
  exact ⟨a.toNat, by omega, by omega⟩
theorem bd_of_i64 {a : Int} (h : (Lit.int .i64 a).wf = true) : -9223372036854775808 ≤ a ∧ a ≤ 9223372036854775807 := by
  simp [Lit.wf, IntKind.min, IntKind.max, IntKind.signed, IntKind.bits] at h
  omega

/-! ### append on a row of one's own: which block it leaves -/
theorem append_where {P : Program} {w : World} (base : Nat) (t ty e : TypeId) (i : TypeInfo) (z : Value) (size bytes : Nat) (ht : P.underlying t = some (.slice e)) (hi : P.info? e = some i) (hz : i.zero = some z)
    (hsize : i.size = size) (hby : i.bytes = bytes) (v : Value) (n : Nat) (xs : List Value) (hown : w.ownsRow base e size v n xs)
    (a : Addr) (m c : Nat) (news : List Value) (hl : news.length = m * size) (hnews : ∀ j u, news[j]? = some u → w.cell? (a.add j) = some u) (h1 : ∀ u ∈ news, u.oneCell' = true)
    (h63 : n + m ≤ maxLen) (hbytes : (n + m) * bytes ≤ 140737488355328) (v' : Value) (w' : World) (hrun : (Builtin.append_ #[t, t] ty #[v, .slice (some a) m c]).run P w = .ok v' w') (hm : 0 < m) :
    v'.ownBlock = v.ownBlock ∨ v'.ownBlock = some w.heap.size := by
  subst hsize
  subst hby
  have hsmall : n + m ≤ 9223372036854775807 := by simp only [maxLen] at h63; omega
  rcases hown.2 with ⟨rfl, rfl⟩ | ⟨g, cap, cur, rfl, hbg, hg, hnc, hcm, hcs, htake⟩
  · have hr := run_append_nil (P := P) w t ty e i z ht hi hz a m c news hl hnews hm (by omega) (by have hb := hbytes; simp only [Nat.zero_add] at hb; omega)
    rw [hr] at hrun
    cases hrun
    exact .inr rfl
  · by_cases hroom : n + m ≤ cap
    · have hfit : n * i.size + news.length ≤ cur.size := by rw [hl, hcs, ← Nat.add_mul]; exact Nat.mul_le_mul_right _ hroom
      have hr := run_append_room (P := P) w t ty e i ht hi g n cap cur hg a m c news hl hnews h1 hroom hfit
      rw [hr] at hrun
      cases hrun
      exact .inl rfl
    · have holds : ∀ j u, xs[j]? = some u → w.cell? ((⟨g, 0, none⟩ : Addr).add j) = some u := hown.cells (g := g) rfl
      have hr := run_append_grow (P := P) w t ty e i z ht hi hz ⟨g, 0, none⟩ n cap xs hown.1 holds a m c news hl hnews (by omega) (by omega) (growslice_fits (by omega) hbytes)
      rw [hr] at hrun
      cases hrun
      exact .inr rfl

theorem wpListIn_append {F : Fence} {n : Nat} {P : Program} (w : World) {ops : Array Oper} {rest : List Oper} {o : Oper} {a : Act} {Q : Exit → Act → World → Prop}
    (hg : o.guard = none) (s x : Operand) (t : TypeId) (hop : o.op = Op.call { callee := Callee.builtin Builtin.append, args := #[s, x], argTypes := #[t, t] })
    (base : Nat) (e : TypeId) (i : TypeInfo) (z : Value) (size bytes : Nat) (h1 : P.underlying t = some (.slice e)) (h2 : P.info? e = some i) (h3 : i.zero = some z) (h4 : i.size = size) (h5 : i.bytes = bytes) (h6 : z.cells.size = size) (h7 : 0 < size)
    (v : Value) (k : Nat) (xs : List Value) (hs : a.eval s = v) (hown : w.ownsRow base e size v k xs) (ad : Addr) (m c : Nat) (news : List Value) (hx : a.eval x = .slice (some ad) m c) (hn : news.length = m * size)
    (hc : ∀ j u, news[j]? = some u → w.cell? (ad.add j) = some u) (h1c : ∀ u ∈ news, u.oneCell' = true) (b1 : k + m ≤ maxLen) (b2 : (k + m) * bytes ≤ 140737488355328) (b3 : base ≤ w.heap.size) (hm : 0 < m)
    (hK : ∀ v' w', w'.ownsRow base e size v' (k + m) (xs ++ news) → w.grownBy w' v.ownBlock → (v'.ownBlock = v.ownBlock ∨ v'.ownBlock = some w.heap.size) → wpListIn F n P ops Q rest (a.put o.dst v') w') :
    wpListIn F n P ops Q (o :: rest) a w := by
  refine wpListIn_plain hg fun K hK' => ?_
  obtain ⟨v', w', hrun, r1, r2, r3⟩ := run_append_own (P := P) w base t o.type e i z size bytes h1 h2 h3 h4 h5 h6 h7 v k xs hown ad m c news hn hc h1c b1 b2 b3
  have r4 := append_where base t o.type e i z size bytes h1 h2 h3 h4 h5 v k xs hown ad m c news hn hc h1c b1 b2 v' w' hrun hm
  refine ⟨?_, ?_⟩
  · simp [Oper.about, hop, resolve, Target.leads, Sem.run_pure]
  · rw [Oper.semAt_plain F _ _ (by rw [hop]; intro c hc'; cases hc')]
    simp [execOp, hop, resolve, invoke, builtin, hs, hx, hrun, Result.andThen]
    exact hK' _ _ (hK v' w' r1 r2 r4)

theorem wpList_append {P : Program} (w : World) {ops : Array Oper} {rest : List Oper} {o : Oper} {a : Act} {Q : Exit → Act → World → Prop}
    (hg : o.guard = none) (s x : Operand) (t : TypeId) (hop : o.op = Op.call { callee := Callee.builtin Builtin.append, args := #[s, x], argTypes := #[t, t] })
    (base : Nat) (e : TypeId) (i : TypeInfo) (z : Value) (size bytes : Nat) (h1 : P.underlying t = some (.slice e)) (h2 : P.info? e = some i) (h3 : i.zero = some z) (h4 : i.size = size) (h5 : i.bytes = bytes) (h6 : z.cells.size = size) (h7 : 0 < size)
    (v : Value) (k : Nat) (xs : List Value) (hs : a.eval s = v) (hown : w.ownsRow base e size v k xs) (ad : Addr) (m c : Nat) (news : List Value) (hx : a.eval x = .slice (some ad) m c) (hn : news.length = m * size)
    (hc : ∀ j u, news[j]? = some u → w.cell? (ad.add j) = some u) (h1c : ∀ u ∈ news, u.oneCell' = true) (b1 : k + m ≤ maxLen) (b2 : (k + m) * bytes ≤ 140737488355328) (b3 : base ≤ w.heap.size) (hm : 0 < m)
    (hK : ∀ v' w', w'.ownsRow base e size v' (k + m) (xs ++ news) → w.grownBy w' v.ownBlock → (v'.ownBlock = v.ownBlock ∨ v'.ownBlock = some w.heap.size) → wpList P ops Q rest (a.put o.dst v') w') :
    wpList P ops Q (o :: rest) a w := by
  refine wpList_plain hg fun K hK' => ?_
  obtain ⟨v', w', hrun, r1, r2, r3⟩ := run_append_own (P := P) w base t o.type e i z size bytes h1 h2 h3 h4 h5 h6 h7 v k xs hown ad m c news hn hc h1c b1 b2 b3
  have r4 := append_where base t o.type e i z size bytes h1 h2 h3 h4 h5 v k xs hown ad m c news hn hc h1c b1 b2 v' w' hrun hm
  unfold Oper.wp
  simp [execOp, hop, resolve, invoke, builtin, hs, hx, hrun, Result.andThen]
  exact hK' _ _ (hK v' w' r1 r2 r4)

theorem Own1.grown {p : Addr} {u : Value} {S : Nat → Prop} {W W' : World} {row : Option Nat} (h : Own1 p u S W) (hg : W.grownBy W' row) (hne : some p.block ≠ row) : Own1 p u S W' :=
  ⟨cell_of_heap (hg.block _ h.lt hne) h.cell, (World.frozen?_of_block (hg.block _ h.lt hne)).trans h.free, h.mine⟩
theorem Old.grown {n : Nat} {w W W' : World} {S : Nat → Prop} {row : Option Nat} (h : Old n w S W) (hg : W.grownBy W' row) (hr : ∀ k, row = some k → n ≤ k) : Old n w S W' :=
  ⟨h.below.grown hg (Nat.le_trans h.le h.below.size) hr, h.le, h.mine⟩
theorem OwnR.appended {base : Nat} {e : TypeId} {size : Nat} {v v' : Value} {n m : Nat} {xs ys : List Value} {S : Nat → Prop} {W W1 W2 : World} (h : OwnR base e size v n xs S W)
    (hown : W2.ownsRow base e size v' m ys) (hw : v'.ownBlock = v.ownBlock ∨ v'.ownBlock = some W1.heap.size) (hsz : W.heap.size ≤ W1.heap.size) (hS : ∀ b, S b → b < W.heap.size) : OwnR base e size v' m ys S W2 := by
  refine ⟨hown, fun k hk hs => ?_⟩
  rcases hw with hw | hw
  · exact h.mine k (hw.symm.trans hk) hs
  · rw [hw] at hk; cases hk; have := hS _ hs; omega
theorem OwnR.setBelow {base : Nat} {e : TypeId} {size : Nat} {v : Value} {n : Nat} {xs : List Value} {S : Nat → Prop} {W : World} (h : OwnR base e size v n xs S W) {a : Addr} (ha : a.block < base) (u : Value) : OwnR base e size v n xs S (W.setCell a u) :=
  ⟨ownsRow_setCell_below h.row ha u, h.mine⟩
theorem OwnR.lo {base : Nat} {e : TypeId} {size : Nat} {v : Value} {n : Nat} {xs : List Value} {S : Nat → Prop} {W : World} (h : OwnR base e size v n xs S W) : ∀ k, v.ownBlock = some k → base ≤ k := fun k hk => (h.row.lt k hk).1
theorem ownsRow_mono {w : World} {base base' : Nat} {e : TypeId} {size : Nat} {v : Value} {n : Nat} {xs : List Value} (h : w.ownsRow base e size v n xs) (hb : base' ≤ base) : w.ownsRow base' e size v n xs := by
  obtain ⟨h1, h2⟩ := h
  refine ⟨h1, h2.imp id ?_⟩
  rintro ⟨g, cap, cur, hv, hg, r⟩
  exact ⟨g, cap, cur, hv, by omega, r⟩
theorem ownsRow_put {w : World} {base : Nat} {e : TypeId} {size : Nat} {v : Value} {n : Nat} {xs : List Value} (h : w.ownsRow base e size v n xs) {D : Nat} (hD : ∀ k, v.ownBlock = some k → k ≠ D) (o : Obj) : (w.putObj D o).ownsRow base e size v n xs := by
  obtain ⟨h1, h2⟩ := h
  refine ⟨h1, h2.imp id ?_⟩
  rintro ⟨g, cap, cur, hv, hg, hh, r⟩
  exact ⟨g, cap, cur, hv, hg, (World.putObj_heap_other (hD g (by rw [hv]; rfl))).trans hh, r⟩

theorem ownsRow_next {w w' : World} {base : Nat} {e : TypeId} {size : Nat} {v : Value} {n : Nat} {xs : List Value} (h : w.ownsRow base e size v n xs) (hb : Below w.heap.size w w') : w'.ownsRow base e size v n xs := by
  obtain ⟨h1, h2⟩ := h
  refine ⟨h1, h2.imp id ?_⟩
  rintro ⟨g, cap, cur, hv, hg, hh, r⟩
  exact ⟨g, cap, cur, hv, hg, heap_below hb hh (lt_of_heap hh), r⟩

/-! ### A slice, by what it reads as -/
def Sl (w : World) (sp : Option Addr) (n : Nat) (vals : List Value) : Prop :=
  n = vals.length ∧ n ≤ maxLen ∧ (n = 0 ∨ ∃ b off, sp = some ⟨b, off, none⟩ ∧ ∀ j u, vals[j]? = some u → w.cell? ⟨b, off + j, none⟩ = some u)
theorem Sl.nil (w : World) (sp : Option Addr) : Sl w sp 0 [] := ⟨rfl, Nat.zero_le _, .inl rfl⟩
theorem Sl.keep {w w' : World} {sp : Option Addr} {n : Nat} {vals : List Value} (h : Sl w sp n vals) (hk : ∀ b o, b < w.heap.size → sp.map (·.block) = some b → w.heap[b]? = some o → w'.heap[b]? = some o) : Sl w' sp n vals := by
  obtain ⟨h1, h2, h3⟩ := h
  refine ⟨h1, h2, h3.imp id ?_⟩
  rintro ⟨b, off, rfl, hc⟩
  refine ⟨b, off, rfl, fun j u hu => ?_⟩
  have hcj := hc j u hu
  have hlt := lt_of_cell hcj
  exact cell_of_heap (W := w) ((hk b _ hlt rfl (Array.getElem?_eq_getElem hlt)).trans (Array.getElem?_eq_getElem hlt).symm) hcj
theorem Sl.below {w w' : World} {sp : Option Addr} {n : Nat} {vals : List Value} (h : Sl w sp n vals) (hb : Below w.heap.size w w') : Sl w' sp n vals :=
  h.keep fun b _ hlt _ ho => (hb.block b hlt).trans ho
theorem Sl.cell {w : World} {b off n : Nat} {vals : List Value} (h : Sl w (some ⟨b, off, none⟩) n vals) {j : Nat} {u : Value} (hu : vals[j]? = some u) : w.cell? ⟨b, off + j, none⟩ = some u := by
  obtain ⟨h1, _, h3⟩ := h
  rcases h3 with h3 | ⟨b', off', e, hc⟩
  · have : vals = [] := List.eq_nil_of_length_eq_zero (by omega)
    subst this; simp at hu
  · cases e; exact hc j u hu
theorem Sl.some' {w : World} {sp : Option Addr} {n : Nat} {vals : List Value} (h : Sl w sp n vals) (hn : 0 < n) : ∃ b off, sp = some ⟨b, off, none⟩ ∧ ∀ j u, vals[j]? = some u → w.cell? ⟨b, off + j, none⟩ = some u := by
  obtain ⟨_, _, h3⟩ := h
  exact h3.resolve_left (by omega)
theorem Sl.take {w : World} {sp : Option Addr} {n : Nat} {vals : List Value} (h : Sl w sp n vals) (m : Nat) (hm : m ≤ n) : Sl w sp m (vals.take m) := by
  obtain ⟨h1, h2, h3⟩ := h
  refine ⟨by simp; omega, by omega, ?_⟩
  by_cases h0 : m = 0
  · exact .inl h0
  · obtain ⟨b, off, e, hc⟩ := h3.resolve_left (by omega)
    refine .inr ⟨b, off, e, fun j u hu => hc j u ?_⟩
    rw [List.getElem?_take] at hu
    split at hu
    · exact hu
    · cases hu
theorem Sl.of_row {w : World} {base : Nat} {e : TypeId} {sp : Option Addr} {n cap m : Nat} {xs : List Value} (h : w.ownsRow base e 1 (.slice sp n cap) m xs) (hm : n ≤ maxLen) : Sl w sp n xs := by
  obtain ⟨h1, h2⟩ := h
  rcases h2 with ⟨hv, h0⟩ | ⟨g, cap', cur, hv, hg, hh, hle, hcap, hsz, ht⟩
  · cases hv; subst h0; exact ⟨by simpa using h1.symm, Nat.zero_le _, .inl rfl⟩
  · cases hv
    refine ⟨by simpa using h1.symm, hm, .inr ⟨g, 0, rfl, fun j u hu => ?_⟩⟩
    rw [Nat.zero_add]
    refine blk_cell hh ?_
    rw [← ht, List.getElem?_take] at hu
    split at hu
    · simpa using hu
    · cases hu
theorem sl_of_ints {W : World} {x : Addr} {len cap : Nat} {zs : List Int} {k : IntKind} (hz : zs.length = cap) (hl : len ≤ cap) (hm : cap ≤ maxLen)
    (hcell : ∀ i, i < zs.length → W.cell? (x.add i) = some (.int k (zs.getD i 0))) : Sl W (some x) len ((zs.take len).map (Value.int k)) := by
  refine ⟨by simp; omega, Nat.le_trans hl hm, ?_⟩
  by_cases h0 : len = 0
  · exact .inl h0
  · obtain ⟨b, off, spot⟩ := x
    have h1 := hcell 0 (by omega)
    have hspot : spot = none := by simpa [Addr.add] using World.cell?_spot h1
    subst hspot
    refine .inr ⟨b, off, rfl, fun j u hu => ?_⟩
    have hj : j < len := by
      have := (List.getElem?_eq_some_iff.1 hu).1
      simp at this; omega
    have h2 := hcell j (by omega)
    have hadd : (⟨b, off, none⟩ : Addr).add j = ⟨b, off + j, none⟩ := by unfold Addr.add; split <;> simp_all
    rw [hadd] at h2
    rw [h2]
    rw [List.getElem?_map, List.getElem?_take, if_pos hj, List.getElem?_eq_getElem (by omega)] at hu
    rw [List.getD_eq_getElem?_getD, List.getElem?_eq_getElem (by omega)]
    exact hu
/-- A row that a literal, or an array variable, lays. -/
theorem Sl.of_blk {w : World} {b : Nat} {cs : Array Value} {t : TypeId} {fz : Nat × Nat} (h : w.heap[b]? = some (.cells cs t fz)) (hm : cs.size ≤ maxLen) : Sl w (some ⟨b, 0, none⟩) cs.size cs.toList :=
  ⟨by simp, hm, .inr ⟨b, 0, rfl, fun j u hu => by rw [Nat.zero_add]; exact blk_cell h (by simpa using hu)⟩⟩

end Go.Proofs.YtifofdciablljaaDoor
