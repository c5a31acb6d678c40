/-
  Several texts of mine in one: Kit Base Common SlK Has Prs Flat Only Round RoundF Held RowLaw KitH KitS Marks RoundT RowMk Open OpenS OpenK.
-/
import Derived.RangeFuncNested
import Derived.RangeFuncBound
import Derived.RangeFuncCalls
import Derived.RangeFuncLeaves
import Derived.Shelf.Abstract
import Derived.Shelf.RegionOpen
import Derived.WalkKit
import Derived.OwnWalkIn
import Derived.TacticsInMore
import Derived.LoopNIn
import Derived.LoopIn
import Derived.Deep.Draws
import Derived.Maps.AppendAt
import Derived.RangeFuncBox
import Derived.Test.YtogeohjeabbmaaaDoorRows
import Derived.Deep.QuietTactic
import Derived.BigQuiet
import Derived.Lib.Hide
import Derived.Lib.BitFns
import Derived.Maps.Own
import Derived.Deep.OwnRows
import Derived.WalkSpells
import Derived.Deep.AppendLies
import Derived.RegionTactic
import Derived.Laws.Rows
import Derived.Laws.Tables
import Derived.StillTailTactics
import Derived.OrdersIn
import Derived.OrdersHeld
import Derived.Deep.RegionHeld
import Derived.Lib.AppendZeros
import Derived.Laws.CopyRow
import Derived.Laws.AppendOwn
import Derived.Laws.IdiomCopy
import Derived.Deep.Grids
import Derived.ProofKit
import Derived.OpenShut
import Derived.ChangeOld
import Derived.Lib.SmallJoins
import Derived.Deep.Fields
import Derived.Deep.Slices
/-
  My own small kit, over any program: a range over a function whose iterator keeps state of its own in private cells.
-/
namespace Go.Proofs.YtogeohjeabbmaaaDoor
open Go.RowKit

@[go_sem] theorem wide_fn (f : FuncId) : Fence.wide.fn f = True := rfl
@[go_sem] theorem wide_depth : Fence.wide.depth = none := rfl
@[go_sem] theorem wideR_fn (l : Nat) (f : FuncId) : (Fence.wide.inRound l).fn f = True := rfl
@[go_sem] theorem wideR_depth (l : Nat) : (Fence.wide.inRound l).depth = none := rfl
attribute [go_sem] Oper.semAt_some

/-- The blocks of S lie as they lay. -/
structure Kept (S : Nat → Prop) (W W' : World) : Prop where
  os : W'.os = W.os
  tape : W'.tape = W.tape
  output : W'.output = W.output
  size : W.heap.size ≤ W'.heap.size
  block : ∀ b, b < W.heap.size → S b → W'.heap[b]? = W.heap[b]?

/-- A step of somebody who owns S, and what he lays himself. -/
structure Foreign (S S' : Nat → Prop) (W W' : World) : Prop where
  os : W'.os = W.os
  tape : W'.tape = W.tape
  output : W'.output = W.output
  size : W.heap.size ≤ W'.heap.size
  sub : ∀ b, S b → S' b
  fresh : ∀ b, S' b → S b ∨ (W.heap.size ≤ b ∧ b < W'.heap.size)
  block : ∀ b, b < W.heap.size → ¬ S b → W'.heap[b]? = W.heap[b]?

def Stable (I : (Nat → Prop) → World → Prop) : Prop := ∀ S S' W W', I S W → Foreign S S' W W' → I S' W'

theorem Kept.refl (S : Nat → Prop) (W : World) : Kept S W W := ⟨rfl, rfl, rfl, Nat.le_refl _, fun _ _ _ => rfl⟩
theorem Kept.trans {S : Nat → Prop} {A B C : World} (h : Kept S A B) (k : Kept S B C) : Kept S A C :=
  ⟨k.os.trans h.os, k.tape.trans h.tape, k.output.trans h.output, Nat.le_trans h.size k.size, fun b hb hs => (k.block b (Nat.lt_of_lt_of_le hb h.size) hs).trans (h.block b hb hs)⟩
theorem Kept.mono {S S' : Nat → Prop} {A B : World} (h : Kept S A B) (hs : ∀ b, S' b → S b) : Kept S' A B :=
  ⟨h.os, h.tape, h.output, h.size, fun b hb hb' => h.block b hb (hs b hb')⟩
theorem Kept.drew (S : Nat → Prop) (W : World) : Kept S W W.drew := ⟨rfl, rfl, rfl, Nat.le_refl _, fun _ _ _ => rfl⟩
theorem Kept.alloc (S : Nat → Prop) (W : World) (o : Obj) : Kept S W (W.alloc o) := ⟨rfl, rfl, rfl, by simp, fun b hb _ => Below.heap_alloc _ _ _ hb⟩
theorem Kept.setCell (S : Nat → Prop) (W : World) (p : Addr) (u : Value) (hp : ¬ S p.block) : Kept S W (W.setCell p u) :=
  ⟨rfl, rfl, rfl, by simp [World.setCell], fun b _ hs => Below.heap_setCell _ _ _ _ (fun e => hp (e ▸ hs))⟩
theorem Kept.putObj (S : Nat → Prop) (W : World) (r : Nat) (o : Obj) (hp : ¬ S r) : Kept S W (W.putObj r o) :=
  ⟨rfl, rfl, rfl, by simp, fun b _ hs => World.putObj_heap_other (fun e => hp (e ▸ hs))⟩
theorem Kept.of_below {S : Nat → Prop} {A B : World} (h : Below A.heap.size A B) : Kept S A B :=
  ⟨h.os, h.tape, h.output, h.size, fun b hb _ => h.block b hb⟩
theorem Kept.below {n : Nat} {A B : World} (h : Kept (fun b => b < n) A B) (hn : n ≤ A.heap.size) : Below n A B :=
  ⟨h.os, h.tape, h.output, h.size, fun b hb => h.block b (Nat.lt_of_lt_of_le hb hn) hb⟩
theorem Kept.grown {S : Nat → Prop} {A B : World} {row : Option Nat} (h : A.grownBy B row) (hr : ∀ k, row = some k → ¬ S k) : Kept S A B :=
  ⟨h.os, h.tape, h.output, h.size, fun b hb hs => h.block b hb (fun e => hr b e.symm hs)⟩

theorem Foreign.cell {S S' : Nat → Prop} {W W' : World} (h : Foreign S S' W W') {p : Addr} {v : Value} (hp : ¬ S p.block) (hc : W.cell? p = some v) : W'.cell? p = some v := by
  have hb : p.block < W.heap.size := by
    refine Nat.lt_of_not_le fun hle => ?_
    simp [World.cell?, Array.getElem?_eq_none hle] at hc
  rw [World.cell?_of_block (w := W) (h.block _ hb hp)]; exact hc
theorem Foreign.not {S S' : Nat → Prop} {W W' : World} (h : Foreign S S' W W') {b : Nat} (hb : b < W.heap.size) (hp : ¬ S b) : ¬ S' b := by
  intro hs
  rcases h.fresh b hs with h1 | h1
  · exact hp h1
  · omega
theorem Foreign.heap' {S S' : Nat → Prop} {W W' : World} (h : Foreign S S' W W') {b : Nat} {o : Obj} (hp : ¬ S b) (ho : W.heap[b]? = some o) : W'.heap[b]? = some o :=
  (h.block b (Array.getElem?_eq_some_iff.1 ho).1 hp).trans ho
theorem Foreign.below {n : Nat} {S S' : Nat → Prop} {w W W' : World} (h : Foreign S S' W W') (hb : Below n w W) (hw : n ≤ w.heap.size) (hn : ∀ b, b < n → ¬ S b) : Below n w W' :=
  ⟨h.os.trans hb.os, h.tape.trans hb.tape, h.output.trans hb.output, Nat.le_trans hb.size h.size, fun b hk => (h.block b (by have := hb.size; omega) (hn b hk)).trans (hb.block b hk)⟩
theorem cell_setCell_same {W : World} {p : Addr} {v u : Value} (h : W.cell? p = some v) : (W.setCell p u).cell? p = some u := World.cell?_setCell_same' _ _ _ (by rw [h]; rfl)
theorem cell_of_heap {W W' : World} {p : Addr} {v : Value} (h : W'.heap[p.block]? = W.heap[p.block]?) (hc : W.cell? p = some v) : W'.cell? p = some v := by
  rw [World.cell?_of_block (w := W) h]; exact hc
theorem lt_of_cell {W : World} {p : Addr} {v : Value} (hc : W.cell? p = some v) : p.block < W.heap.size := by
  refine Nat.lt_of_not_le fun hle => ?_
  simp [World.cell?, Array.getElem?_eq_none hle] at hc
theorem blk_cell {W : World} {b i : Nat} {cs : Array Value} {t : TypeId} {fz : Nat × Nat} {v : Value} (h : W.heap[b]? = some (.cells cs t fz)) (hv : cs[i]? = some v) : W.cell? ⟨b, i, none⟩ = some v := by
  unfold World.cell?; simp only [h]; exact hv
theorem blk_free {W : World} {b : Nat} {cs : Array Value} {t : TypeId} (i : Nat) (h : W.heap[b]? = some (.cells cs t (0, 0))) : W.frozen? ⟨b, i, none⟩ = false := by
  unfold World.frozen?; simp only [h]; simp
theorem blk_set {W : World} {b i : Nat} {cs : Array Value} {t : TypeId} {fz : Nat × Nat} (v : Value) (h : W.heap[b]? = some (.cells cs t fz)) : (W.setCell ⟨b, i, none⟩ v).heap[b]? = some (.cells (cs.setIfInBounds i v) t fz) := by
  obtain ⟨hlt, hk⟩ := Array.getElem?_eq_some_iff.1 h
  show (W.heap.modify b _)[b]? = _
  rw [Array.getElem?_eq_getElem (by rw [Array.size_modify]; exact hlt), Array.getElem_modify_self, hk]
  rfl
/-- Rules for the walk's context: what is known of a cell is known behind a new block. -/
theorem keep_alloc (p : Addr) (v : Value) : ∀ (W : World) (o : Obj), W.cell? p = some v → (W.alloc o).cell? p = some v := fun W o h => cell_of_heap (Below.heap_alloc W o _ (lt_of_cell h)) h
theorem Kept.cell {S : Nat → Prop} {W W' : World} (h : Kept S W W') {p : Addr} {v : Value} (hp : S p.block) (hc : W.cell? p = some v) : W'.cell? p = some v :=
  cell_of_heap (h.block _ (lt_of_cell hc) hp) hc
theorem Kept.frozen {S : Nat → Prop} {W W' : World} (h : Kept S W W') {p : Addr} {v : Value} (hp : S p.block) (hc : W.cell? p = some v) : W'.frozen? p = W.frozen? p :=
  World.frozen?_of_block (h.block _ (lt_of_cell hc) hp)
theorem Foreign.refl (S : Nat → Prop) (W : World) : Foreign S S W W := ⟨rfl, rfl, rfl, Nat.le_refl _, fun _ h => h, fun _ h => .inl h, fun _ _ _ => rfl⟩
theorem Foreign.putObj {S : Nat → Prop} (W : World) (l : Nat) (o : Obj) (hl : S l) : Foreign S S W (W.putObj l o) :=
  ⟨rfl, rfl, rfl, by simp, fun _ h => h, fun _ h => .inl h, fun b _ hs => World.putObj_heap_other (fun e => hs (e ▸ hl))⟩
theorem Foreign.setCell {S : Nat → Prop} (W : World) (p : Addr) (u : Value) (hl : S p.block) : Foreign S S W (W.setCell p u) :=
  ⟨rfl, rfl, rfl, by simp [World.setCell], fun _ h => h, fun _ h => .inl h, fun b _ hs => Below.heap_setCell _ _ _ _ (fun e => hs (e ▸ hl))⟩
theorem Foreign.drew {S : Nat → Prop} (W : World) : Foreign S S W W.drew := ⟨rfl, rfl, rfl, Nat.le_refl _, fun _ h => h, fun _ h => .inl h, fun _ _ _ => rfl⟩
theorem Foreign.of_below {S : Nat → Prop} {W W' : World} (h : Below W.heap.size W W') : Foreign S S W W' :=
  ⟨h.os, h.tape, h.output, h.size, fun _ h => h, fun _ h => .inl h, fun b hb _ => h.block b hb⟩
/-- One new block, which is mine. -/
theorem Foreign.alloc {S : Nat → Prop} (W : World) (o : Obj) : Foreign S (fun b => S b ∨ b = W.heap.size) W (W.alloc o) :=
  ⟨rfl, rfl, rfl, by simp, fun _ h => .inl h, fun b h => h.elim .inl (fun e => .inr ⟨by omega, by simp; omega⟩), fun b hb _ => Below.heap_alloc _ _ _ hb⟩
theorem Foreign.trans {S S' S'' : Nat → Prop} {A B C : World} (h : Foreign S S' A B) (k : Foreign S' S'' B C) : Foreign S S'' A C :=
  ⟨k.os.trans h.os, k.tape.trans h.tape, k.output.trans h.output, Nat.le_trans h.size k.size, fun b hb => k.sub b (h.sub b hb),
   fun b hb => by
     have hh := h.size
     have hk := k.size
     rcases k.fresh b hb with h1 | h1
     · rcases h.fresh b h1 with h2 | h2
       · exact .inl h2
       · exact .inr ⟨h2.1, by omega⟩
     · exact .inr ⟨by omega, h1.2⟩,
   fun b hb hs => (k.block b (Nat.lt_of_lt_of_le hb h.size) (h.not hb hs)).trans (h.block b hb hs)⟩

theorem Kept.store {S : Nat → Prop} {n : Nat} (W : World) (p : Addr) (u : Value) (hp : ¬ S p.block) (hn : n ≤ p.block) : Kept (fun b => b < n ∨ S b) W (W.setCell p u) :=
  Kept.setCell _ _ _ _ (fun h => h.elim (fun h => by omega) hp)

/-- An element of a list, under a name that the walk leaves alone. -/
def nthN (l : List Nat) (k : Nat) : Nat := l.getD k 0
theorem nthN_eq {l : List Nat} {k : Nat} (h : k < l.length) : l[k] = nthN l k := by unfold nthN; rw [List.getD_eq_getElem?_getD, List.getElem?_eq_getElem h]; rfl
theorem nthN_mem {l : List Nat} {k : Nat} (h : k < l.length) : nthN l k ∈ l := by rw [← nthN_eq h]; exact List.getElem_mem h
/-- A world that fits 64 bits, under a name. -/
def U64 (x : Nat) : Prop := x < 2 ^ 64

/-! ### What I say of my own blocks -/
/-- My cell at p holds v. -/
structure Own1 (p : Addr) (v : Value) (S : Nat → Prop) (W : World) : Prop where
  cell : W.cell? p = some v
  free : W.frozen? p = false
  mine : ¬ S p.block
/-- What lay below n lies as it lay in w. -/
structure Old (n : Nat) (w : World) (S : Nat → Prop) (W : World) : Prop where
  below : Below n w W
  le : n ≤ w.heap.size
  mine : ∀ b, b < n → ¬ S b
/-- A row of my own. -/
structure OwnR (base : Nat) (e : TypeId) (size : Nat) (v : Value) (n : Nat) (xs : List Value) (S : Nat → Prop) (W : World) : Prop where
  row : W.ownsRow base e size v n xs
  mine : ∀ k, v.ownBlock = some k → ¬ S k

theorem Foreign.frozen {S S' : Nat → Prop} {W W' : World} (h : Foreign S S' W W') {p : Addr} (hb : p.block < W.heap.size) (hp : ¬ S p.block) : W'.frozen? p = W.frozen? p :=
  World.frozen?_of_block (h.block _ hb hp)
theorem Own1.lt {p : Addr} {v : Value} {S : Nat → Prop} {W : World} (h : Own1 p v S W) : p.block < W.heap.size := lt_of_cell h.cell
theorem Own1.stable (p : Addr) (v : Value) : Stable (Own1 p v) := fun _ _ _ _ h f =>
  ⟨f.cell h.mine h.cell, (f.frozen h.lt h.mine).trans h.free, f.not h.lt h.mine⟩
theorem Old.stable (n : Nat) (w : World) : Stable (Old n w) := fun _ _ _ _ h f =>
  ⟨f.below h.below h.le h.mine, h.le, fun b hb => f.not (by have := h.below.size; have := h.le; omega) (h.mine b hb)⟩
theorem OwnR.stable (base : Nat) (e : TypeId) (size : Nat) (v : Value) (n : Nat) (xs : List Value) : Stable (OwnR base e size v n xs) := fun S S' W W' h f => by
  refine ⟨?_, fun k hk => f.not (h.row.lt k hk).2 (h.mine k hk)⟩
  obtain ⟨h1, h2⟩ := h.row
  refine ⟨h1, ?_⟩
  rcases h2 with h2 | ⟨g, cap, cur, hv, hg, hh, r⟩
  · exact .inl h2
  · exact .inr ⟨g, cap, cur, hv, hg, f.heap' (h.mine g (by rw [hv]; rfl)) hh, r⟩
theorem Stable.and {I J : (Nat → Prop) → World → Prop} (h : Stable I) (k : Stable J) : Stable (fun S W => I S W ∧ J S W) := fun _ _ _ _ hs f => ⟨h _ _ _ _ hs.1 f, k _ _ _ _ hs.2 f⟩
theorem Stable.pure (p : Prop) : Stable (fun _ _ => p) := fun _ _ _ _ h _ => h
theorem Stable.ex {α : Type} {I : α → (Nat → Prop) → World → Prop} (h : ∀ a, Stable (I a)) : Stable (fun S W => ∃ a, I a S W) := fun _ _ _ _ ⟨a, hs⟩ f => ⟨a, h a _ _ _ _ hs f⟩
theorem Stable.or {I J : (Nat → Prop) → World → Prop} (h : Stable I) (k : Stable J) : Stable (fun S W => I S W ∨ J S W) := fun _ _ _ _ hs f => hs.imp (fun x => h _ _ _ _ x f) (fun x => k _ _ _ _ x f)

theorem Own1.new (S : Nat → Prop) (W : World) (v : Value) (t : TypeId) (hs : ¬ S W.heap.size) : Own1 ⟨W.heap.size, 0, none⟩ v S (W.alloc (.cells #[v] t)) := by
  have h : (W.alloc (.cells #[v] t)).heap[W.heap.size]? = some (.cells #[v] t) := World.alloc_heap_new _ _
  refine ⟨?_, ?_, hs⟩
  · unfold World.cell?; simp only [h]; rfl
  · unfold World.frozen?; simp only [h]; rfl
theorem Own1.alloc {p : Addr} {v : Value} {S : Nat → Prop} {W : World} (h : Own1 p v S W) (o : Obj) : Own1 p v S (W.alloc o) :=
  ⟨cell_of_heap (Below.heap_alloc _ _ _ h.lt) h.cell, (World.frozen?_of_block (Below.heap_alloc _ _ _ h.lt)).trans h.free, h.mine⟩
theorem Own1.drew {p : Addr} {v : Value} {S : Nat → Prop} {W : World} (h : Own1 p v S W) : Own1 p v S W.drew := ⟨h.cell, h.free, h.mine⟩
theorem Own1.set {p : Addr} {v : Value} {S : Nat → Prop} {W : World} (h : Own1 p v S W) (u : Value) : Own1 p u S (W.setCell p u) :=
  ⟨cell_setCell_same h.cell, (World.frozen?_setCell _ _ _ _).trans h.free, h.mine⟩
theorem Own1.other {p q : Addr} {v : Value} {S : Nat → Prop} {W : World} (h : Own1 p v S W) (u : Value) (hne : p.block ≠ q.block) : Own1 p v S (W.setCell q u) :=
  ⟨cell_of_heap (Below.heap_setCell _ _ _ _ hne) h.cell, (World.frozen?_setCell _ _ _ _).trans h.free, h.mine⟩
theorem Own1.below {p : Addr} {v : Value} {S : Nat → Prop} {W W' : World} (h : Own1 p v S W) (hb : Below W.heap.size W W') : Own1 p v S W' :=
  ⟨(hb.cell h.lt).trans h.cell, (hb.frozen h.lt).trans h.free, h.mine⟩
theorem Own1.put {p : Addr} {v : Value} {S : Nat → Prop} {W : World} (h : Own1 p v S W) {D : Nat} (hD : p.block ≠ D) (o : Obj) : Own1 p v S (W.putObj D o) :=
  ⟨cell_of_heap (World.putObj_heap_other hD) h.cell, (World.frozen?_of_block (World.putObj_heap_other hD)).trans h.free, h.mine⟩
theorem Own1.drewN {p : Addr} {v : Value} {S : Nat → Prop} {W : World} (h : Own1 p v S W) (q : Nat) : Own1 p v S (W.drewN q) := ⟨h.cell, h.free, h.mine⟩
theorem Old.drewN {n : Nat} {w W : World} {S : Nat → Prop} (h : Old n w S W) (q : Nat) : Old n w S (W.drewN q) := ⟨⟨h.below.os, h.below.tape, h.below.output, h.below.size, h.below.block⟩, h.le, h.mine⟩
theorem Kept.drewN (S : Nat → Prop) (W : World) (q : Nat) : Kept S W (W.drewN q) := ⟨rfl, rfl, rfl, Nat.le_refl _, fun _ _ _ => rfl⟩
theorem below_drewN' {n : Nat} (W : World) (q : Nat) : Below n W (W.drewN q) := ⟨rfl, rfl, rfl, Nat.le_refl _, fun _ _ => rfl⟩
theorem Old.alloc {n : Nat} {w W : World} {S : Nat → Prop} (h : Old n w S W) (o : Obj) : Old n w S (W.alloc o) := ⟨h.below.alloc (Nat.le_trans h.le h.below.size) _, h.le, h.mine⟩
theorem Old.drew {n : Nat} {w W : World} {S : Nat → Prop} (h : Old n w S W) : Old n w S W.drew := ⟨h.below.drew, h.le, h.mine⟩
theorem Old.set {n : Nat} {w W : World} {S : Nat → Prop} (h : Old n w S W) {p : Addr} (hp : n ≤ p.block) (u : Value) : Old n w S (W.setCell p u) := ⟨h.below.setCell hp _, h.le, h.mine⟩
theorem Old.next {n : Nat} {w W W' : World} {S : Nat → Prop} (h : Old n w S W) (hb : Below W.heap.size W W') : Old n w S W' := ⟨h.below.trans (hb.mono (Nat.le_trans h.le h.below.size)), h.le, h.mine⟩

/-- WHAT AN ITERATOR VALUE PROMISES: the function gf, with lb captured, tells xs, one by one, till it is told to stop. S0: the blocks that are its own. RO: blocks that the body leaves alone. -/
def SeqIt {α : Type} (F : Fence) (n : Nat) (P : Program) (gf : Nat) (lb : Array Value) (encs : α → Array Value) (xs : List α) (S0 RO : Nat → Prop) (w : World) : Prop :=
  ∀ (l : Nat) (J : Nat → (Nat → Prop) → World → Prop) (Jx : (Nat → Prop) → World → Prop) (W : World),
    (∀ k, Stable (J k)) → Stable Jx → Below w.heap.size w W →
    (∀ k S1 W1, J k S1 W1 → (hk : k < xs.length) → YieldAt F (n - 1) P l (encs xs[k]) W1 fun e W' =>
      (e = .returned (.bool true) ∧ J (k + 1) S1 W' ∧ Kept (fun b => RO b ∨ S1 b) W1 W') ∨ (e = .returned (.bool false) ∧ Jx S1 W' ∧ Kept (fun b => RO b ∨ S1 b) W1 W')) →
    J 0 S0 W →
    CallsIn F n P gf (#[.func (.yield l) #[] #[]] ++ lb) W fun e W' => (∃ v, e = .returned v) ∧ ((∃ S', J xs.length S' W') ∨ (∃ S', Jx S' W'))

/-- HOW A BODY MAY BE LEFT. -/
def rangePostX (Kp : Nat → Prop) (N : (Nat → Prop) → World → Prop) (Ix : Code → (Nat → Prop) → World → Prop) (S : Nat → Prop) (W : World) : Exit → Act → World → Prop
  | .normal, _, W' => Kept Kp W W' ∧ N S W'
  | .ret, _, W' => Kept Kp W W' ∧ Ix .ret S W'
  | .exit id, _, W' => Kept Kp W W' ∧ Ix (.exit id) S W'
  | .goto t, _, W' => Kept Kp W W' ∧ Ix (.goto t) S W'
  | .panic _, _, _ => False
  | .outgrown, _, _ => False

/-- The assignment to the loop's left sides: what it leaves. -/
def AssignEnd (Ax : Nat → Act → (Nat → Prop) → World → Prop) (Kp : Nat → Prop) (k : Nat) (S : Nat → Prop) (W : World) (a₁ : Act) (W₁ : World) : Prop := Ax k a₁ S W₁ ∧ Kept Kp W W₁
/-- The usual one: the temporaries alone turn. -/
def AxOf (a₁ : Nat → Act) (I : Nat → (Nat → Prop) → World → Prop) (k : Nat) (a : Act) (S : Nat → Prop) (W : World) : Prop := a = a₁ k ∧ I k S W
theorem AxOf.stable {a₁ : Nat → Act} {I : Nat → (Nat → Prop) → World → Prop} (h : ∀ k, Stable (I k)) (k : Nat) (a : Act) : Stable (AxOf a₁ I k a) := fun _ _ _ _ hs f => ⟨hs.1, h k _ _ _ _ hs.2 f⟩

section
variable {F : Fence} {n : Nat} {P : Program}

/-! ### Whole rows, loaded and stored -/
theorem wpList_store_row {ops : Array Oper} {rest : List Oper} {o : Oper} {a : Act} {w : World} {Q : Exit → Act → World → Prop} (hgd : o.guard = none) (ty : TypeId) (x y : Operand) (ho : o.op = .store ty x y)
    (g : Nat) (cells : Array Value) (hx : a.eval x = .pointer (some ⟨g, 0, none⟩)) (hy : a.eval y = .agg cells)
    (t : TypeId) (old : Array Value) (hg : w.heap[g]? = some (.cells old t (0, 0))) (hi : (P.info? ty).map (·.size) = some cells.size)
    (hold : old.size = cells.size) (h1 : cells.all (·.oneCell') = true)
    (h : wpList P ops Q rest (a.put o.dst undef) (w.setRow g cells)) : wpList P ops Q (o :: rest) a w :=
  wpList_plain hgd fun _ hK => wp_store_row ty x y ho g cells hx hy t old hg hi hold h1 (hK _ _ h)

theorem wpListIn_load_row {ops : Array Oper} {rest : List Oper} {o : Oper} {a : Act} {w : World} {Q : Exit → Act → World → Prop} (hgd : o.guard = none) (ty : TypeId) (x : Operand) (ho : o.op = .load ty x)
    (g : Nat) (hx : a.eval x = .pointer (some ⟨g, 0, none⟩)) (t : TypeId) (cs : Array Value) (fr : Nat × Nat) (d : TypeDesc) (hg : w.heap[g]? = some (.cells cs t fr))
    (hu : P.underlying ty = some d) (hd : (match d with | .struct _ | .array _ _ => true | _ => false) = true) (hi : (P.info? ty).map (·.size) = some cs.size)
    (h : wpListIn F n P ops Q rest (a.put o.dst (.agg cs)) w) : wpListIn F n P ops Q (o :: rest) a w :=
  wpListIn_plain hgd fun K hK => by
    refine ⟨fun f hf => ?_, ?_⟩
    · simp [Oper.about, ho] at hf
    · rw [Oper.semAt_plain F _ _ (by rw [ho]; simp)]
      unfold execOp
      simp only [ho, hx, Instr.loadAt, Instr.sureAddr, Sem.run_bind, Sem.run_pure, Result.andThen_ok, run_loadVar_row w g t ty cs fr d hg hu hd hi]
      exact hK _ _ h

theorem wpListIn_store_row {ops : Array Oper} {rest : List Oper} {o : Oper} {a : Act} {w : World} {Q : Exit → Act → World → Prop} (hgd : o.guard = none) (ty : TypeId) (x y : Operand) (ho : o.op = .store ty x y)
    (g : Nat) (cells : Array Value) (hx : a.eval x = .pointer (some ⟨g, 0, none⟩)) (hy : a.eval y = .agg cells)
    (t : TypeId) (old : Array Value) (hg : w.heap[g]? = some (.cells old t (0, 0))) (hi : (P.info? ty).map (·.size) = some cells.size)
    (hold : old.size = cells.size) (h1 : cells.all (·.oneCell') = true)
    (h : wpListIn F n P ops Q rest (a.put o.dst undef) (w.setRow g cells)) : wpListIn F n P ops Q (o :: rest) a w :=
  wpListIn_plain hgd fun K hK => by
    refine ⟨fun f hf => ?_, ?_⟩
    · simp [Oper.about, ho] at hf
    · rw [Oper.semAt_plain F _ _ (by rw [ho]; simp)]
      unfold execOp
      simp only [ho, hx, hy, Instr.storeAt, Instr.sureAddr, Sem.run_bind, Sem.run_pure, Result.andThen_ok, run_storeVar_row w g t ty old cells hg hi hold h1]
      exact hK _ _ h

theorem below_setRow' {B g : Nat} {w0 w : World} (hb : Below B w0 w) (hBg : B ≤ g) (cs : Array Value) : Below B w0 (w.setRow g cs) :=
  hb.trans ⟨rfl, rfl, rfl, by simp, fun k hk => setRow_other _ _ _ _ (by omega)⟩
theorem heap_below {B : Nat} {w w' : World} (hb : Below B w w') {b : Nat} {o : Obj} (h : w.heap[b]? = some o) (hlt : b < B) : w'.heap[b]? = some o := (hb.block b hlt).trans h

/-- The loop's own blocks put beside S. -/
def plusM (S M : Nat → Prop) : Nat → Prop := fun b => S b ∨ M b

theorem Foreign.plusM {S S' M : Nat → Prop} {W W' : World} (h : Foreign S S' W W') : Foreign (plusM S M) (plusM S' M) W W' :=
  ⟨h.os, h.tape, h.output, h.size, fun b hb => hb.elim (fun x => .inl (h.sub b x)) .inr,
   fun b hb => by
    rcases hb with hb | hb
    · rcases h.fresh b hb with h1 | h1
      · exact .inl (.inl h1)
      · exact .inr h1
    · exact .inl (.inr hb),
   fun b hb hs => h.block b hb (fun x => hs (.inl x))⟩

theorem Foreign.heap {S S' : Nat → Prop} {W W' : World} (h : Foreign S S' W W') {b : Nat} {o : Obj} (hp : ¬ S b) (ho : W.heap[b]? = some o) : W'.heap[b]? = some o :=
  (h.block b (Array.getElem?_eq_some_iff.1 ho).1 hp).trans ho

theorem lt_of_heap {W : World} {b : Nat} {o : Obj} (h : W.heap[b]? = some o) : b < W.heap.size := (Array.getElem?_eq_some_iff.1 h).1

/-- **A RANGE OVER A FUNCTION, whatever loop it stands in: the core.** -/
theorem wpIn_range_core {α : Type} {ps : Array Tmp} {assign body : Code} {Q : Exit → Act → World → Prop} {a : Act} {w W1 : World} {fn L dn : Nat} {mark : List Deferred} {rec : LoopState → Option Code → Loop}
    (hfn : F.fn fn) (hrec : rec = fun st pe => { state := st, pending := pe, fn, tmps := a.tmps, params := ps, assign, body, defers := dn })
    {gf : Nat} {lb : Array Value} {encs : α → Array Value} {xs : List α} {S0 RO M : Nat → Prop} (hseq : SeqIt F (n - 1) P gf lb encs xs S0 RO w) (hS0 : ∀ b, S0 b → b < w.heap.size) (hps : ∀ x, (encs x).size = ps.size)
    (hRO : ∀ b, RO b → b < w.heap.size ∧ ¬ S0 b)
    (hML : M L) (hM : ∀ b, M b → w.heap.size ≤ b ∧ b < W1.heap.size) (hL1 : W1.heap[L]? = some (.loop (rec .ready none))) (hb1 : Below w.heap.size w W1)
    (I : Nat → (Nat → Prop) → World → Prop) (Ix : Code → Nat → (Nat → Prop) → World → Prop) (hI : ∀ k, Stable (I k)) (hIx : ∀ c k, Stable (Ix c k)) (h0 : I 0 S0 w)
    (Ax : Nat → Act → (Nat → Prop) → World → Prop) (hAx : ∀ k a₁, Stable (Ax k a₁))
    (hassign : ∀ (l k : Nat) (S : Nat → Prop) (W : World) (hk : k < xs.length), S l → (∀ b, RO b → ¬ S b) → (∀ b, S b → b < W.heap.size) → I k S W →
      assign.wpIn (F.inRound l) (n - 1 - 1) P (Exit.then (AssignEnd Ax (fun b => RO b ∨ S b) k S W) (fun _ _ _ => False)) { tmps := (ps.zip (encs xs[k])).foldl (fun t (p, v) => t.setIfInBounds p v) a.tmps, defers := [] } W)
    (hbody : ∀ (l k : Nat) (S : Nat → Prop) (a₁ : Act) (W : World) (r : Loop), k < xs.length → S l → W.heap[l]? = some (.loop r) → (∀ b, RO b → ¬ S b) → (∀ b, S b → b < W.heap.size) → Ax k a₁ S W →
      body.wpIn (F.inRound l) (n - 1 - 1) P (rangePostX (fun b => RO b ∨ S b) (I (k + 1)) (fun c => Ix c k) S W) a₁ W)
    (hdone : ∀ (S : Nat → Prop) (W : World), (∀ b, RO b → ¬ S b) → (∀ b, M b → S b) → I xs.length S W → (∀ b, M b → b ≠ L → W.heap[b]? = W1.heap[b]?) → Q .normal { a with defers := mark ++ a.defers } W)
    (hstop : ∀ (c : Code) (k : Nat) (S : Nat → Prop) (W : World), (∀ b, RO b → ¬ S b) → (∀ b, M b → S b) → k < xs.length → Ix c k S W → (∀ b, M b → b ≠ L → W.heap[b]? = W1.heap[b]?) → c.wpIn F n P Q { a with defers := mark ++ a.defers } W) :
    CallsIn F (n - 1) P gf (#[.func (.yield L) #[] #[]] ++ lb) W1 (rangePost F n P L Q { a with defers := mark ++ a.defers }) := by
  have hst : ∀ st pe, (rec st pe).state = st ∧ (rec st pe).pending = pe := by intro st pe; rw [hrec]; exact ⟨rfl, rfl⟩
  have hw1 := hb1.size
  have hf1 : Foreign S0 (plusM S0 M) w W1 :=
    ⟨hb1.os, hb1.tape, hb1.output, hb1.size, fun b h => .inl h, fun b h => h.elim .inl (fun h => .inr (hM b h)), fun b hb _ => hb1.block b hb⟩
  have hI1 : I 0 (plusM S0 M) W1 := hI 0 _ _ _ _ h0 hf1
  have hLw := hM L hML
  -- beside I
  let Z : (Nat → Prop) → World → Prop := fun S W => (∀ b, M b → ¬ S b) ∧ (∀ b, RO b → ¬ S b) ∧ W1.heap.size ≤ W.heap.size ∧ (∀ b, M b → b ≠ L → W.heap[b]? = W1.heap[b]?) ∧ (∀ b, S b → b < W.heap.size)
  have hZ : Stable Z := by
    intro S S' W W' hz hf
    obtain ⟨z1, z2, z3, z4, z5⟩ := hz
    have hfs := hf.size
    refine ⟨fun b hb => hf.not (by have := hM b hb; omega) (z1 b hb), fun b hb => hf.not (by have := hRO b hb; omega) (z2 b hb), by omega, fun b hb hne => (hf.block b (by have := hM b hb; omega) (z1 b hb)).trans (z4 b hb hne), fun b hb => ?_⟩
    rcases hf.fresh b hb with h | h
    · have := z5 b h; omega
    · exact h.2
  have hRS : ∀ S W, Z S W → ∀ b, RO b → ¬ plusM S M b := by
    intro S W hz b hb hs
    rcases hs with hs | hs
    · exact hz.2.1 b hb hs
    · have := hM b hs; have := hRO b hb; omega
  -- the body's word leaves Z alone
  have hZk : ∀ S W W', Z S W → Kept (fun b => RO b ∨ plusM S M b) W W' → Z S W' := by
    intro S W W' hz hk
    obtain ⟨z1, z2, z3, z4, z5⟩ := hz
    exact ⟨z1, z2, Nat.le_trans z3 hk.size, fun b hb hne => (hk.block b (by have := hM b hb; omega) (.inr (.inr hb))).trans (z4 b hb hne), fun b hb => Nat.lt_of_lt_of_le (z5 b hb) hk.size⟩
  have hSB : ∀ S W, Z S W → ∀ b, plusM S M b → b < W.heap.size := by
    intro S W hz b hb
    rcases hb with hb | hb
    · exact hz.2.2.2.2 b hb
    · have := hM b hb; have := hz.2.2.1; omega
  have hZp : ∀ S W o, Z S W → Z S (W.putObj L o) := by
    intro S W o hz
    obtain ⟨z1, z2, z3, z4, z5⟩ := hz
    exact ⟨z1, z2, by simpa using z3, fun b hb hne => (World.putObj_heap_other hne).trans (z4 b hb hne), fun b hb => by simpa using z5 b hb⟩
  have hZ0 : Z S0 W1 := ⟨fun b hb hs => by have := hS0 b hs; have := hM b hb; omega, fun b hb => (hRO b hb).2, Nat.le_refl _, fun _ _ _ => rfl, fun b hb => Nat.lt_of_lt_of_le (hS0 b hb) hw1⟩
  have hMS : ∀ S : Nat → Prop, ∀ b, M b → plusM S M b := fun S b hb => .inr hb
  refine (hseq L
    (fun k S W => I k (plusM S M) W ∧ W.heap[L]? = some (.loop (rec .ready none)) ∧ Z S W)
    (fun S W => ∃ c k, k < xs.length ∧ Ix c k (plusM S M) W ∧ W.heap[L]? = some (.loop (rec .done (some c))) ∧ Z S W)
    W1 ?_ ?_ hb1 ?_ ⟨hI1, hL1, hZ0⟩).mono ?_
  · rintro k S S' W W' ⟨hi, hl, hz⟩ hf
    exact ⟨hI k _ _ _ _ hi hf.plusM, hf.heap (hz.1 L hML) hl, hZ _ _ _ _ hz hf⟩
  · rintro S S' W W' ⟨c, k, hk, hi, hl, hz⟩ hf
    exact ⟨c, k, hk, hIx c k _ _ _ _ hi hf.plusM, hf.heap (hz.1 L hML) hl, hZ _ _ _ _ hz hf⟩
  · -- one round
    rintro k S W ⟨hi, hl, hz⟩ hk
    have hy := run_yield (P := P) (args := encs xs[k]) hl (by rw [hrec]; exact hps _)
    have hy' : (Instr.yield L (encs xs[k])).run P W = .ok (.round L fn ((ps.zip (encs xs[k])).foldl (fun tmps (t, v) => tmps.setIfInBounds t v) a.tmps) assign body) W := by
      rw [hrec] at hy; exact hy
    refine ⟨fn, _, assign, body, hy', roundIn_of_wpIn hfn (wpIn_mono (hassign L k (plusM S M) W hk (hMS S L hML) (hRS S W hz) (hSB S W hz) hi) ?_)⟩
    rintro e a₁ W2 hp
    cases e with
    | normal =>
      obtain ⟨hax, hk2⟩ := hp
      have hlt : L < W.heap.size := lt_of_heap hl
      have hl2 : W2.heap[L]? = some (.loop (rec .ready none)) := (hk2.block L hlt (.inr (.inr hML))).trans hl
      have hz2 := hZk _ _ _ hz hk2
      refine ⟨_, run_beginRound hl2 (hst _ _).1, ?_⟩
      obtain ⟨W3, hW3⟩ : ∃ W3, W3 = W2.putObj L (.loop { rec .ready none with state := .busy }) := ⟨_, rfl⟩
      rw [← hW3]
      have hl3 : W3.heap[L]? = some (.loop (rec .busy none)) := by
        rw [hW3, World.putObj_heap_same (lt_of_heap hl2), hrec]
      have hz3 : Z S W3 := by rw [hW3]; exact hZp _ _ _ hz2
      have hax3 : Ax k a₁ (plusM S M) W3 := by rw [hW3]; exact hAx k a₁ _ _ _ _ hax (Foreign.putObj _ _ _ (hMS S L hML))
      have hk3 : Kept (fun b => RO b ∨ S b) W W3 := by
        rw [hW3]
        refine Kept.trans (hk2.mono fun b hb => hb.elim .inl (fun h => .inr (.inl h))) (Kept.putObj _ _ _ _ ?_)
        rintro (h | h)
        · have := hRO _ h; omega
        · exact hz.1 L hML h
      refine wpIn_mono (hbody L k (plusM S M) a₁ W3 _ hk (hMS S L hML) hl3 (hRS S W3 hz3) (hSB S W3 hz3) hax3) ?_
      have fin : ∀ (jump : Option Code) (W4 : World), Kept (fun b => RO b ∨ plusM S M b) W3 W4 →
          (Instr.endRound L jump).run P W4 = .ok (.bool jump.isNone) (W4.putObj L (.loop (rec (if jump.isNone then .ready else .done) jump))) ∧
          (W4.putObj L (.loop (rec (if jump.isNone then .ready else .done) jump))).heap[L]? = some (.loop (rec (if jump.isNone then .ready else .done) jump)) ∧
          Z S (W4.putObj L (.loop (rec (if jump.isNone then .ready else .done) jump))) ∧
          Kept (fun b => RO b ∨ S b) W (W4.putObj L (.loop (rec (if jump.isNone then .ready else .done) jump))) := fun jump W4 hk4 => by
        have hl4 := (hk4.block L (lt_of_heap hl3) (.inr (.inr hML))).trans hl3
        have := run_endRound (P := P) jump hl4
        rw [hrec] at this
        rw [hrec]
        refine ⟨this, World.putObj_heap_same (lt_of_heap hl4), hZp _ _ _ (hZk _ _ _ hz3 hk4), (hk3.trans (hk4.mono fun b hb => hb.elim .inl (fun h => .inr (.inl h)))).trans (Kept.putObj _ _ _ _ ?_)⟩
        rintro (h | h)
        · have := hRO _ h; omega
        · exact hz.1 L hML h
      rintro e a3 W4 hp
      cases e with
      | normal =>
        obtain ⟨hk4, hi4⟩ := hp
        obtain ⟨hr, hl5, hz5, hk5⟩ := fin none W4 hk4
        exact ⟨_, _, hr, .inl ⟨rfl, ⟨hI _ _ _ _ _ hi4 (Foreign.putObj _ _ _ (hMS S L hML)), hl5, hz5⟩, hk5⟩⟩
      | ret =>
        obtain ⟨hk4, hi4⟩ := hp
        obtain ⟨hr, hl5, hz5, hk5⟩ := fin (some .ret) W4 hk4
        exact ⟨_, _, hr, .inr ⟨rfl, ⟨.ret, k, hk, hIx _ _ _ _ _ _ hi4 (Foreign.putObj _ _ _ (hMS S L hML)), hl5, hz5⟩, hk5⟩⟩
      | exit id =>
        obtain ⟨hk4, hi4⟩ := hp
        obtain ⟨hr, hl5, hz5, hk5⟩ := fin (some (.exit id)) W4 hk4
        exact ⟨_, _, hr, .inr ⟨rfl, ⟨.exit id, k, hk, hIx _ _ _ _ _ _ hi4 (Foreign.putObj _ _ _ (hMS S L hML)), hl5, hz5⟩, hk5⟩⟩
      | goto t =>
        obtain ⟨hk4, hi4⟩ := hp
        obtain ⟨hr, hl5, hz5, hk5⟩ := fin (some (.goto t)) W4 hk4
        exact ⟨_, _, hr, .inr ⟨rfl, ⟨.goto t, k, hk, hIx _ _ _ _ _ _ hi4 (Foreign.putObj _ _ _ (hMS S L hML)), hl5, hz5⟩, hk5⟩⟩
      | panic ch => exact hp.elim
      | outgrown => exact hp.elim
    | ret => exact hp.elim
    | exit id => exact hp.elim
    | goto t => exact hp.elim
    | panic ch => exact hp.elim
    | outgrown => exact hp.elim
  · rintro e W2 ⟨⟨v, rfl⟩, (⟨S', hi, hl, hz⟩ | ⟨S', c, k, hk, hi, hl, hz⟩)⟩
    · refine ⟨none, _, by have := run_endLoop (P := P) hl (by rw [(hst _ _).1]; simp); rw [(hst _ _).2] at this; exact this, ?_⟩
      exact hdone (plusM S' M) _ (hRS _ _ hz) (hMS _) (hI _ _ _ _ _ hi (Foreign.putObj _ _ _ (hMS _ L hML))) (fun b hb hne => (World.putObj_heap_other hne).trans (hz.2.2.2.1 b hb hne))
    · refine ⟨some c, _, by have := run_endLoop (P := P) hl (by rw [(hst _ _).1]; simp); rw [(hst _ _).2] at this; exact this, ?_⟩
      exact hstop c k (plusM S' M) _ (hRS _ _ hz) (hMS _) hk (hIx _ _ _ _ _ _ hi (Foreign.putObj _ _ _ (hMS _ L hML))) (fun b hb hne => (World.putObj_heap_other hne).trans (hz.2.2.2.1 b hb hne))

/-- **AN OUTERMOST RANGE OVER A FUNCTION.** -/
theorem wpIn_range {α : Type} {g : Operand} {ps : Array Tmp} {assign body : Code} {Q : Exit → Act → World → Prop} {a : Act} {w : World}
    (hro : F.round = none) (h1 : F.depth.isSome = true → 1 ≤ n) {gf : Nat} {lb : Array Value} (hg : a.eval g = .func (.func gf) #[] lb) (hFg : F.fn gf) (eg : ∀ args w, (callFunc gf args).run P w = .ok (.enter gf args) w)
    {encs : α → Array Value} {xs : List α} {S0 RO : Nat → Prop} (hseq : SeqIt F (n - 1) P gf lb encs xs S0 RO w) (hS0 : ∀ b, S0 b → b < w.heap.size) (hps : ∀ x, (encs x).size = ps.size)
    (hRO : ∀ b, RO b → b < w.heap.size ∧ ¬ S0 b)
    (I : Nat → (Nat → Prop) → World → Prop) (Ix : Code → Nat → (Nat → Prop) → World → Prop) (hI : ∀ k, Stable (I k)) (hIx : ∀ c k, Stable (Ix c k)) (h0 : I 0 S0 w)
    (Ax : Nat → Act → (Nat → Prop) → World → Prop) (hAx : ∀ k a₁, Stable (Ax k a₁))
    (hassign : ∀ (l k : Nat) (S : Nat → Prop) (W : World) (hk : k < xs.length), S l → (∀ b, RO b → ¬ S b) → (∀ b, S b → b < W.heap.size) → I k S W →
      assign.wpIn (F.inRound l) (n - 1 - 1) P (Exit.then (AssignEnd Ax (fun b => RO b ∨ S b) k S W) (fun _ _ _ => False)) { tmps := (ps.zip (encs xs[k])).foldl (fun t (p, v) => t.setIfInBounds p v) a.tmps, defers := [] } W)
    (hbody : ∀ (l k : Nat) (S : Nat → Prop) (a₁ : Act) (W : World) (r : Loop), k < xs.length → S l → W.heap[l]? = some (.loop r) → (∀ b, RO b → ¬ S b) → (∀ b, S b → b < W.heap.size) → Ax k a₁ S W →
      body.wpIn (F.inRound l) (n - 1 - 1) P (rangePostX (fun b => RO b ∨ S b) (I (k + 1)) (fun c => Ix c k) S W) a₁ W)
    (hdone : ∀ (D : Nat) (S : Nat → Prop) (W : World), w.heap.size ≤ D → S D → (∀ b, RO b → ¬ S b) → I xs.length S W → W.heap[D]? = some (.deferred (some [])) → Q .normal { a with defers := { target := .collected D, args := #[] } :: a.defers } W)
    (hstop : ∀ (D : Nat) (c : Code) (k : Nat) (S : Nat → Prop) (W : World), w.heap.size ≤ D → S D → (∀ b, RO b → ¬ S b) → k < xs.length → Ix c k S W → W.heap[D]? = some (.deferred (some [])) → c.wpIn F n P Q { a with defers := { target := .collected D, args := #[] } :: a.defers } W) :
    (Code.rangeFunc g ps assign body).wpIn F n P Q a w := by
  refine wpIn_rangeFunc ?_
  intro fn hfn
  rw [hro]
  obtain ⟨rec, hrec⟩ : ∃ rec : LoopState → Option Code → Loop, rec = fun st pe => { state := st, pending := pe, fn, tmps := a.tmps, params := ps, assign, body, defers := w.heap.size } := ⟨_, rfl⟩
  obtain ⟨W1, hW1⟩ : ∃ W1, (w.alloc (.deferred (some []))).alloc (.loop (rec .ready none)) = W1 := ⟨_, rfl⟩
  have hsz : W1.heap.size = w.heap.size + 2 := by rw [← hW1]; simp
  have hL1 : W1.heap[w.heap.size + 1]? = some (.loop (rec .ready none)) := by
    rw [← hW1]; have := World.alloc_heap_new (w.alloc (.deferred (some []))) (.loop (rec .ready none)); rwa [World.size_alloc] at this
  have hK1 : W1.heap[w.heap.size]? = some (.deferred (some [])) := by
    rw [← hW1]; exact (Below.heap_alloc _ _ _ (by simp)).trans (World.alloc_heap_new w _)
  have hb1 : Below w.heap.size w W1 := by
    rw [← hW1]; exact ((Below.refl _ w).alloc (Nat.le_refl _) _).alloc (by simp) _
  refine ⟨w.heap.size + 1, [{ target := .collected w.heap.size, args := #[] }], W1, { target := .fn (.func gf) lb, args := #[.func (.yield (w.heap.size + 1)) #[] #[]] }, W1, gf,
    #[.func (.yield (w.heap.size + 1)) #[] #[]] ++ lb, W1, ?_, ?_, ?_, ?_, h1, ?_⟩
  · rw [← hW1, hrec]; exact run_enterLoop_outer _ _ _ _ _
  · simp only [resolve, hg]
    simp [go_sem]
  · intro f' hf'; simp [Target.leads] at hf'; subst hf'; exact hFg
  · simp [invoke, go_sem, eg]
  · refine wpIn_range_core (M := fun b => b = w.heap.size ∨ b = w.heap.size + 1) hfn (by rw [hrec]) hseq hS0 hps hRO (.inr rfl) (fun b hb => by omega) hL1 hb1 I Ix hI hIx h0 Ax hAx hassign hbody ?_ ?_
    · intro S W hr hm hi hD
      exact hdone _ S W (Nat.le_refl _) (hm _ (.inl rfl)) hr hi ((hD _ (.inl rfl) (by omega)).trans hK1)
    · intro c k S W hr hm hk hi hD
      exact hstop _ c k S W (Nat.le_refl _) (hm _ (.inl rfl)) hr hk hi ((hD _ (.inl rfl) (by omega)).trans hK1)

/-- **A RANGE OVER A FUNCTION IN THE BODY OF ANOTHER ONE.** -/
theorem wpIn_rangeN {α : Type} {g : Operand} {ps : Array Tmp} {assign body : Code} {Q : Exit → Act → World → Prop} {a : Act} {w : World} {l₀ : Nat} {r₀ : Loop}
    (hro : F.round = some l₀) (hr₀ : w.heap[l₀]? = some (.loop r₀)) (h1 : F.depth.isSome = true → 1 ≤ n) {gf : Nat} {lb : Array Value} (hg : a.eval g = .func (.func gf) #[] lb) (hFg : F.fn gf) (eg : ∀ args w, (callFunc gf args).run P w = .ok (.enter gf args) w)
    {encs : α → Array Value} {xs : List α} {S0 RO : Nat → Prop} (hseq : SeqIt F (n - 1) P gf lb encs xs S0 RO w) (hS0 : ∀ b, S0 b → b < w.heap.size) (hps : ∀ x, (encs x).size = ps.size)
    (hRO : ∀ b, RO b → b < w.heap.size ∧ ¬ S0 b)
    (I : Nat → (Nat → Prop) → World → Prop) (Ix : Code → Nat → (Nat → Prop) → World → Prop) (hI : ∀ k, Stable (I k)) (hIx : ∀ c k, Stable (Ix c k)) (h0 : I 0 S0 w)
    (Ax : Nat → Act → (Nat → Prop) → World → Prop) (hAx : ∀ k a₁, Stable (Ax k a₁))
    (hassign : ∀ (l k : Nat) (S : Nat → Prop) (W : World) (hk : k < xs.length), S l → (∀ b, RO b → ¬ S b) → (∀ b, S b → b < W.heap.size) → I k S W →
      assign.wpIn (F.inRound l) (n - 1 - 1) P (Exit.then (AssignEnd Ax (fun b => RO b ∨ S b) k S W) (fun _ _ _ => False)) { tmps := (ps.zip (encs xs[k])).foldl (fun t (p, v) => t.setIfInBounds p v) a.tmps, defers := [] } W)
    (hbody : ∀ (l k : Nat) (S : Nat → Prop) (a₁ : Act) (W : World) (r : Loop), k < xs.length → S l → W.heap[l]? = some (.loop r) → (∀ b, RO b → ¬ S b) → (∀ b, S b → b < W.heap.size) → Ax k a₁ S W →
      body.wpIn (F.inRound l) (n - 1 - 1) P (rangePostX (fun b => RO b ∨ S b) (I (k + 1)) (fun c => Ix c k) S W) a₁ W)
    (hdone : ∀ (S : Nat → Prop) (W : World), (∀ b, RO b → ¬ S b) → I xs.length S W → Q .normal a W)
    (hstop : ∀ (c : Code) (k : Nat) (S : Nat → Prop) (W : World), (∀ b, RO b → ¬ S b) → k < xs.length → Ix c k S W → c.wpIn F n P Q a W) :
    (Code.rangeFunc g ps assign body).wpIn F n P Q a w := by
  refine wpIn_rangeFunc ?_
  intro fn hfn
  rw [hro]
  obtain ⟨rec, hrec⟩ : ∃ rec : LoopState → Option Code → Loop, rec = fun st pe => { state := st, pending := pe, fn, tmps := a.tmps, params := ps, assign, body, defers := r₀.defers } := ⟨_, rfl⟩
  obtain ⟨W1, hW1⟩ : ∃ W1, w.alloc (.loop (rec .ready none)) = W1 := ⟨_, rfl⟩
  have hsz : W1.heap.size = w.heap.size + 1 := by rw [← hW1]; simp
  have hL1 : W1.heap[w.heap.size]? = some (.loop (rec .ready none)) := by
    rw [← hW1]; exact World.alloc_heap_new _ _
  have hb1 : Below w.heap.size w W1 := by
    rw [← hW1]; exact (Below.refl _ w).alloc (Nat.le_refl _) _
  refine ⟨w.heap.size, [], W1, { target := .fn (.func gf) lb, args := #[.func (.yield w.heap.size) #[] #[]] }, W1, gf,
    #[.func (.yield w.heap.size) #[] #[]] ++ lb, W1, ?_, ?_, ?_, ?_, h1, ?_⟩
  · rw [← hW1, hrec]
    unfold Instr.enterLoop
    simp only [Sem.run_bind, run_getLoop hr₀, run_newObj_alloc, Result.andThen, Sem.run_pure]
  · simp only [resolve, hg]
    simp [go_sem]
  · intro f' hf'; simp [Target.leads] at hf'; subst hf'; exact hFg
  · simp [invoke, go_sem, eg]
  · refine wpIn_range_core (mark := []) (M := fun b => b = w.heap.size) hfn (by rw [hrec]) hseq hS0 hps hRO rfl (fun b hb => by omega) hL1 hb1 I Ix hI hIx h0 Ax hAx hassign hbody ?_ ?_
    · intro S W hr hm hi hD
      exact hdone S W hr hi
    · intro c k S W hr hm hk hi hD
      exact hstop c k S W hr hk hi

/-- The function's way out behind one outermost range over a function. -/
theorem post_mark {fn : Func} {R : Ending → World → Prop} {e : Exit} {tmps : Array Value} {D : Nat} {W : World} {v : Value} (he : e = .ret ∨ e = .normal)
    (hD : W.heap[D]? = some (.deferred (some []))) (hr : (results fn tmps).run P (W.putObj D (.deferred none)) = .ok v (W.putObj D (.deferred none))) (hR : R (.returned v) (W.putObj D (.deferred none))) :
    bodyPostM F n P fn R e { tmps := tmps, defers := [{ target := .collected D, args := #[] }] } W := by
  have h : LeavesInM F n P fn tmps R [{ target := .collected D, args := #[] }] .returning W :=
    ⟨by simp, .inl ⟨_, _, rfl, run_takeDeferred hD, ⟨v, hr, hR⟩⟩⟩
  rcases he with rfl | rfl
  · exact h
  · exact h

/-- .. and where none was entered. -/
theorem post_plain {fn : Func} {R : Ending → World → Prop} {e : Exit} {tmps : Array Value} {W : World} {v : Value} (he : e = .ret ∨ e = .normal)
    (hr : (results fn tmps).run P W = .ok v W) (hR : R (.returned v) W) :
    bodyPostM F n P fn R e { tmps := tmps, defers := [] } W := by
  rcases he with rfl | rfl
  · exact ⟨v, hr, hR⟩
  · exact ⟨v, hr, hR⟩

/-- Two marks. -/
theorem post_mark2 {fn : Func} {R : Ending → World → Prop} {e : Exit} {tmps : Array Value} {D E : Nat} {W : World} {v : Value} (he : e = .ret ∨ e = .normal)
    (hD : W.heap[D]? = some (.deferred (some []))) (hE : W.heap[E]? = some (.deferred (some []))) (hne : E ≠ D)
    (hr : (results fn tmps).run P ((W.putObj D (.deferred none)).putObj E (.deferred none)) = .ok v ((W.putObj D (.deferred none)).putObj E (.deferred none))) (hR : R (.returned v) ((W.putObj D (.deferred none)).putObj E (.deferred none))) :
    bodyPostM F n P fn R e { tmps := tmps, defers := [{ target := .collected D, args := #[] }, { target := .collected E, args := #[] }] } W := by
  have h : LeavesInM F n P fn tmps R [{ target := .collected D, args := #[] }, { target := .collected E, args := #[] }] .returning W :=
    ⟨by simp, .inl ⟨_, _, rfl, run_takeDeferred hD, ⟨by simp, .inl ⟨_, _, rfl, run_takeDeferred ((World.putObj_heap_other hne).trans hE), ⟨v, hr, hR⟩⟩⟩⟩⟩
  rcases he with rfl | rfl
  · exact h
  · exact h

theorem below_putObj {n : Nat} {w W : World} (h : Below n w W) {D : Nat} (hD : n ≤ D) (o : Obj) : Below n w (W.putObj D o) :=
  h.trans ⟨rfl, rfl, rfl, by simp, fun k hk => World.putObj_heap_other (by omega)⟩

end

/-! ### Numbers that came in -/
theorem nat_of_u64 {a : Int} (h : (Lit.int .u64 a).wf = true) : ∃ x : Nat, a = (x : Int) ∧ x < 2 ^ 64 := by
  simp [Lit.wf, IntKind.min, IntKind.max, IntKind.signed, IntKind.bits] at h
  exact ⟨a.toNat, by omega, by simp only [Nat.reducePow]; omega⟩
theorem nat_of_u8 {a : Int} (h : (Lit.int .u8 a).wf = true) : ∃ x : Nat, a = (x : Int) ∧ x < 256 := by
  simp [Lit.wf, IntKind.min, IntKind.max, IntKind.signed, IntKind.bits] at h
  exact ⟨a.toNat, by omega, by omega⟩
theorem bd_of_i64 {a : Int} (h : (Lit.int .i64 a).wf = true) : -9223372036854775808 ≤ a ∧ a ≤ 9223372036854775807 := by
  simp [Lit.wf, IntKind.min, IntKind.max, IntKind.signed, IntKind.bits] at h
  omega

/-! ### append on a row of one's own: which block it leaves -/
theorem append_where {P : Program} {w : World} (base : Nat) (t ty e : TypeId) (i : TypeInfo) (z : Value) (size bytes : Nat) (ht : P.underlying t = some (.slice e)) (hi : P.info? e = some i) (hz : i.zero = some z)
    (hsize : i.size = size) (hby : i.bytes = bytes) (v : Value) (n : Nat) (xs : List Value) (hown : w.ownsRow base e size v n xs)
    (a : Addr) (m c : Nat) (news : List Value) (hl : news.length = m * size) (hnews : ∀ j u, news[j]? = some u → w.cell? (a.add j) = some u) (h1 : ∀ u ∈ news, u.oneCell' = true)
    (h63 : n + m ≤ maxLen) (hbytes : (n + m) * bytes ≤ 140737488355328) (v' : Value) (w' : World) (hrun : (Builtin.append_ #[t, t] ty #[v, .slice (some a) m c]).run P w = .ok v' w') (hm : 0 < m) :
    v'.ownBlock = v.ownBlock ∨ v'.ownBlock = some w.heap.size := by
  subst hsize
  subst hby
  have hsmall : n + m ≤ 9223372036854775807 := by simp only [maxLen] at h63; omega
  rcases hown.2 with ⟨rfl, rfl⟩ | ⟨g, cap, cur, rfl, hbg, hg, hnc, hcm, hcs, htake⟩
  · have hr := run_append_nil (P := P) w t ty e i z ht hi hz a m c news hl hnews hm (by omega) (by have hb := hbytes; simp only [Nat.zero_add] at hb; omega)
    rw [hr] at hrun
    cases hrun
    exact .inr rfl
  · by_cases hroom : n + m ≤ cap
    · have hfit : n * i.size + news.length ≤ cur.size := by rw [hl, hcs, ← Nat.add_mul]; exact Nat.mul_le_mul_right _ hroom
      have hr := run_append_room (P := P) w t ty e i ht hi g n cap cur hg a m c news hl hnews h1 hroom hfit
      rw [hr] at hrun
      cases hrun
      exact .inl rfl
    · have holds : ∀ j u, xs[j]? = some u → w.cell? ((⟨g, 0, none⟩ : Addr).add j) = some u := hown.cells (g := g) rfl
      have hr := run_append_grow (P := P) w t ty e i z ht hi hz ⟨g, 0, none⟩ n cap xs hown.1 holds a m c news hl hnews (by omega) (by omega) (growslice_fits (by omega) hbytes)
      rw [hr] at hrun
      cases hrun
      exact .inr rfl

theorem wpListIn_append {F : Fence} {n : Nat} {P : Program} (w : World) {ops : Array Oper} {rest : List Oper} {o : Oper} {a : Act} {Q : Exit → Act → World → Prop}
    (hg : o.guard = none) (s x : Operand) (t : TypeId) (hop : o.op = Op.call { callee := Callee.builtin Builtin.append, args := #[s, x], argTypes := #[t, t] })
    (base : Nat) (e : TypeId) (i : TypeInfo) (z : Value) (size bytes : Nat) (h1 : P.underlying t = some (.slice e)) (h2 : P.info? e = some i) (h3 : i.zero = some z) (h4 : i.size = size) (h5 : i.bytes = bytes) (h6 : z.cells.size = size) (h7 : 0 < size)
    (v : Value) (k : Nat) (xs : List Value) (hs : a.eval s = v) (hown : w.ownsRow base e size v k xs) (ad : Addr) (m c : Nat) (news : List Value) (hx : a.eval x = .slice (some ad) m c) (hn : news.length = m * size)
    (hc : ∀ j u, news[j]? = some u → w.cell? (ad.add j) = some u) (h1c : ∀ u ∈ news, u.oneCell' = true) (b1 : k + m ≤ maxLen) (b2 : (k + m) * bytes ≤ 140737488355328) (b3 : base ≤ w.heap.size) (hm : 0 < m)
    (hK : ∀ v' w', w'.ownsRow base e size v' (k + m) (xs ++ news) → w.grownBy w' v.ownBlock → (v'.ownBlock = v.ownBlock ∨ v'.ownBlock = some w.heap.size) → wpListIn F n P ops Q rest (a.put o.dst v') w') :
    wpListIn F n P ops Q (o :: rest) a w := by
  refine wpListIn_plain hg fun K hK' => ?_
  obtain ⟨v', w', hrun, r1, r2, r3⟩ := run_append_own (P := P) w base t o.type e i z size bytes h1 h2 h3 h4 h5 h6 h7 v k xs hown ad m c news hn hc h1c b1 b2 b3
  have r4 := append_where base t o.type e i z size bytes h1 h2 h3 h4 h5 v k xs hown ad m c news hn hc h1c b1 b2 v' w' hrun hm
  refine ⟨?_, ?_⟩
  · simp [Oper.about, hop, resolve, Target.leads, Sem.run_pure]
  · rw [Oper.semAt_plain F _ _ (by rw [hop]; intro c hc'; cases hc')]
    simp [execOp, hop, resolve, invoke, builtin, hs, hx, hrun, Result.andThen]
    exact hK' _ _ (hK v' w' r1 r2 r4)

theorem wpList_append {P : Program} (w : World) {ops : Array Oper} {rest : List Oper} {o : Oper} {a : Act} {Q : Exit → Act → World → Prop}
    (hg : o.guard = none) (s x : Operand) (t : TypeId) (hop : o.op = Op.call { callee := Callee.builtin Builtin.append, args := #[s, x], argTypes := #[t, t] })
    (base : Nat) (e : TypeId) (i : TypeInfo) (z : Value) (size bytes : Nat) (h1 : P.underlying t = some (.slice e)) (h2 : P.info? e = some i) (h3 : i.zero = some z) (h4 : i.size = size) (h5 : i.bytes = bytes) (h6 : z.cells.size = size) (h7 : 0 < size)
    (v : Value) (k : Nat) (xs : List Value) (hs : a.eval s = v) (hown : w.ownsRow base e size v k xs) (ad : Addr) (m c : Nat) (news : List Value) (hx : a.eval x = .slice (some ad) m c) (hn : news.length = m * size)
    (hc : ∀ j u, news[j]? = some u → w.cell? (ad.add j) = some u) (h1c : ∀ u ∈ news, u.oneCell' = true) (b1 : k + m ≤ maxLen) (b2 : (k + m) * bytes ≤ 140737488355328) (b3 : base ≤ w.heap.size) (hm : 0 < m)
    (hK : ∀ v' w', w'.ownsRow base e size v' (k + m) (xs ++ news) → w.grownBy w' v.ownBlock → (v'.ownBlock = v.ownBlock ∨ v'.ownBlock = some w.heap.size) → wpList P ops Q rest (a.put o.dst v') w') :
    wpList P ops Q (o :: rest) a w := by
  refine wpList_plain hg fun K hK' => ?_
  obtain ⟨v', w', hrun, r1, r2, r3⟩ := run_append_own (P := P) w base t o.type e i z size bytes h1 h2 h3 h4 h5 h6 h7 v k xs hown ad m c news hn hc h1c b1 b2 b3
  have r4 := append_where base t o.type e i z size bytes h1 h2 h3 h4 h5 v k xs hown ad m c news hn hc h1c b1 b2 v' w' hrun hm
  unfold Oper.wp
  simp [execOp, hop, resolve, invoke, builtin, hs, hx, hrun, Result.andThen]
  exact hK' _ _ (hK v' w' r1 r2 r4)

theorem Own1.grown {p : Addr} {u : Value} {S : Nat → Prop} {W W' : World} {row : Option Nat} (h : Own1 p u S W) (hg : W.grownBy W' row) (hne : some p.block ≠ row) : Own1 p u S W' :=
  ⟨cell_of_heap (hg.block _ h.lt hne) h.cell, (World.frozen?_of_block (hg.block _ h.lt hne)).trans h.free, h.mine⟩
theorem Old.grown {n : Nat} {w W W' : World} {S : Nat → Prop} {row : Option Nat} (h : Old n w S W) (hg : W.grownBy W' row) (hr : ∀ k, row = some k → n ≤ k) : Old n w S W' :=
  ⟨h.below.grown hg (Nat.le_trans h.le h.below.size) hr, h.le, h.mine⟩
theorem OwnR.appended {base : Nat} {e : TypeId} {size : Nat} {v v' : Value} {n m : Nat} {xs ys : List Value} {S : Nat → Prop} {W W1 W2 : World} (h : OwnR base e size v n xs S W)
    (hown : W2.ownsRow base e size v' m ys) (hw : v'.ownBlock = v.ownBlock ∨ v'.ownBlock = some W1.heap.size) (hsz : W.heap.size ≤ W1.heap.size) (hS : ∀ b, S b → b < W.heap.size) : OwnR base e size v' m ys S W2 := by
  refine ⟨hown, fun k hk hs => ?_⟩
  rcases hw with hw | hw
  · exact h.mine k (hw.symm.trans hk) hs
  · rw [hw] at hk; cases hk; have := hS _ hs; omega
theorem OwnR.setBelow {base : Nat} {e : TypeId} {size : Nat} {v : Value} {n : Nat} {xs : List Value} {S : Nat → Prop} {W : World} (h : OwnR base e size v n xs S W) {a : Addr} (ha : a.block < base) (u : Value) : OwnR base e size v n xs S (W.setCell a u) :=
  ⟨ownsRow_setCell_below h.row ha u, h.mine⟩
theorem OwnR.lo {base : Nat} {e : TypeId} {size : Nat} {v : Value} {n : Nat} {xs : List Value} {S : Nat → Prop} {W : World} (h : OwnR base e size v n xs S W) : ∀ k, v.ownBlock = some k → base ≤ k := fun k hk => (h.row.lt k hk).1
theorem ownsRow_mono {w : World} {base base' : Nat} {e : TypeId} {size : Nat} {v : Value} {n : Nat} {xs : List Value} (h : w.ownsRow base e size v n xs) (hb : base' ≤ base) : w.ownsRow base' e size v n xs := by
  obtain ⟨h1, h2⟩ := h
  refine ⟨h1, h2.imp id ?_⟩
  rintro ⟨g, cap, cur, hv, hg, r⟩
  exact ⟨g, cap, cur, hv, by omega, r⟩
theorem ownsRow_put {w : World} {base : Nat} {e : TypeId} {size : Nat} {v : Value} {n : Nat} {xs : List Value} (h : w.ownsRow base e size v n xs) {D : Nat} (hD : ∀ k, v.ownBlock = some k → k ≠ D) (o : Obj) : (w.putObj D o).ownsRow base e size v n xs := by
  obtain ⟨h1, h2⟩ := h
  refine ⟨h1, h2.imp id ?_⟩
  rintro ⟨g, cap, cur, hv, hg, hh, r⟩
  exact ⟨g, cap, cur, hv, hg, (World.putObj_heap_other (hD g (by rw [hv]; rfl))).trans hh, r⟩

theorem ownsRow_next {w w' : World} {base : Nat} {e : TypeId} {size : Nat} {v : Value} {n : Nat} {xs : List Value} (h : w.ownsRow base e size v n xs) (hb : Below w.heap.size w w') : w'.ownsRow base e size v n xs := by
  obtain ⟨h1, h2⟩ := h
  refine ⟨h1, h2.imp id ?_⟩
  rintro ⟨g, cap, cur, hv, hg, hh, r⟩
  exact ⟨g, cap, cur, hv, hg, heap_below hb hh (lt_of_heap hh), r⟩

/-! ### A slice, by what it reads as -/
def Sl (w : World) (sp : Option Addr) (n : Nat) (vals : List Value) : Prop :=
  n = vals.length ∧ n ≤ maxLen ∧ (n = 0 ∨ ∃ b off, sp = some ⟨b, off, none⟩ ∧ ∀ j u, vals[j]? = some u → w.cell? ⟨b, off + j, none⟩ = some u)
theorem Sl.nil (w : World) (sp : Option Addr) : Sl w sp 0 [] := ⟨rfl, Nat.zero_le _, .inl rfl⟩
theorem Sl.keep {w w' : World} {sp : Option Addr} {n : Nat} {vals : List Value} (h : Sl w sp n vals) (hk : ∀ b o, b < w.heap.size → sp.map (·.block) = some b → w.heap[b]? = some o → w'.heap[b]? = some o) : Sl w' sp n vals := by
  obtain ⟨h1, h2, h3⟩ := h
  refine ⟨h1, h2, h3.imp id ?_⟩
  rintro ⟨b, off, rfl, hc⟩
  refine ⟨b, off, rfl, fun j u hu => ?_⟩
  have hcj := hc j u hu
  have hlt := lt_of_cell hcj
  exact cell_of_heap (W := w) ((hk b _ hlt rfl (Array.getElem?_eq_getElem hlt)).trans (Array.getElem?_eq_getElem hlt).symm) hcj
theorem Sl.below {w w' : World} {sp : Option Addr} {n : Nat} {vals : List Value} (h : Sl w sp n vals) (hb : Below w.heap.size w w') : Sl w' sp n vals :=
  h.keep fun b _ hlt _ ho => (hb.block b hlt).trans ho
theorem Sl.cell {w : World} {b off n : Nat} {vals : List Value} (h : Sl w (some ⟨b, off, none⟩) n vals) {j : Nat} {u : Value} (hu : vals[j]? = some u) : w.cell? ⟨b, off + j, none⟩ = some u := by
  obtain ⟨h1, _, h3⟩ := h
  rcases h3 with h3 | ⟨b', off', e, hc⟩
  · have : vals = [] := List.eq_nil_of_length_eq_zero (by omega)
    subst this; simp at hu
  · cases e; exact hc j u hu
theorem Sl.some' {w : World} {sp : Option Addr} {n : Nat} {vals : List Value} (h : Sl w sp n vals) (hn : 0 < n) : ∃ b off, sp = some ⟨b, off, none⟩ ∧ ∀ j u, vals[j]? = some u → w.cell? ⟨b, off + j, none⟩ = some u := by
  obtain ⟨_, _, h3⟩ := h
  exact h3.resolve_left (by omega)
theorem Sl.take {w : World} {sp : Option Addr} {n : Nat} {vals : List Value} (h : Sl w sp n vals) (m : Nat) (hm : m ≤ n) : Sl w sp m (vals.take m) := by
  obtain ⟨h1, h2, h3⟩ := h
  refine ⟨by simp; omega, by omega, ?_⟩
  by_cases h0 : m = 0
  · exact .inl h0
  · obtain ⟨b, off, e, hc⟩ := h3.resolve_left (by omega)
    refine .inr ⟨b, off, e, fun j u hu => hc j u ?_⟩
    rw [List.getElem?_take] at hu
    split at hu
    · exact hu
    · cases hu
theorem Sl.of_row {w : World} {base : Nat} {e : TypeId} {sp : Option Addr} {n cap m : Nat} {xs : List Value} (h : w.ownsRow base e 1 (.slice sp n cap) m xs) (hm : n ≤ maxLen) : Sl w sp n xs := by
  obtain ⟨h1, h2⟩ := h
  rcases h2 with ⟨hv, h0⟩ | ⟨g, cap', cur, hv, hg, hh, hle, hcap, hsz, ht⟩
  · cases hv; subst h0; exact ⟨by simpa using h1.symm, Nat.zero_le _, .inl rfl⟩
  · cases hv
    refine ⟨by simpa using h1.symm, hm, .inr ⟨g, 0, rfl, fun j u hu => ?_⟩⟩
    rw [Nat.zero_add]
    refine blk_cell hh ?_
    rw [← ht, List.getElem?_take] at hu
    split at hu
    · simpa using hu
    · cases hu
theorem sl_of_ints {W : World} {x : Addr} {len cap : Nat} {zs : List Int} {k : IntKind} (hz : zs.length = cap) (hl : len ≤ cap) (hm : cap ≤ maxLen)
    (hcell : ∀ i, i < zs.length → W.cell? (x.add i) = some (.int k (zs.getD i 0))) : Sl W (some x) len ((zs.take len).map (Value.int k)) := by
  refine ⟨by simp; omega, Nat.le_trans hl hm, ?_⟩
  by_cases h0 : len = 0
  · exact .inl h0
  · obtain ⟨b, off, spot⟩ := x
    have h1 := hcell 0 (by omega)
    have hspot : spot = none := by simpa [Addr.add] using World.cell?_spot h1
    subst hspot
    refine .inr ⟨b, off, rfl, fun j u hu => ?_⟩
    have hj : j < len := by
      have := (List.getElem?_eq_some_iff.1 hu).1
      simp at this; omega
    have h2 := hcell j (by omega)
    have hadd : (⟨b, off, none⟩ : Addr).add j = ⟨b, off + j, none⟩ := by unfold Addr.add; split <;> simp_all
    rw [hadd] at h2
    rw [h2]
    rw [List.getElem?_map, List.getElem?_take, if_pos hj, List.getElem?_eq_getElem (by omega)] at hu
    rw [List.getD_eq_getElem?_getD, List.getElem?_eq_getElem (by omega)]
    exact hu
/-- A row that a literal, or an array variable, lays. -/
theorem Sl.of_blk {w : World} {b : Nat} {cs : Array Value} {t : TypeId} {fz : Nat × Nat} (h : w.heap[b]? = some (.cells cs t fz)) (hm : cs.size ≤ maxLen) : Sl w (some ⟨b, 0, none⟩) cs.size cs.toList :=
  ⟨by simp, hm, .inr ⟨b, 0, rfl, fun j u hu => by rw [Nat.zero_add]; exact blk_cell h (by simpa using hu)⟩⟩

end Go.Proofs.YtogeohjeabbmaaaDoor

/-
  Small words for walks.
-/
set_option linter.unusedSimpArgs false
set_option linter.unusedVariables false
namespace Go.Proofs.YtogeohjeabbmaaaDoor
open Go.RowKit

theorem ret_u64 {a b : Int} (h : a = b) : Ending.returned (.int .u64 a) = .returned (.int .u64 b) := by rw [h]
theorem ret_u8 {a b : Int} (h : a = b) : Ending.returned (.int .u8 a) = .returned (.int .u8 b) := by rw [h]
theorem ret_i64 {a b : Int} (h : a = b) : Ending.returned (.int .i64 a) = .returned (.int .i64 b) := by rw [h]
theorem ret_bool {a b : Bool} (h : a = b) : Ending.returned (.bool a) = .returned (.bool b) := by rw [h]
theorem wrap_u64_nat (x : Nat) (h : x < 2 ^ 64) : IntKind.u64.wrap (x : Int) = (x : Int) := by rw [IntKind.wrap_u64]; omega
theorem and_u64_lit (x c : Nat) (hx : x < 2 ^ 64) (hc : c < 2 ^ 64) : bits .and .u64 (x : Int) (c : Int) = ((x &&& c : Nat) : Int) := u64_and_nat _ _ (by simpa using hx) (by simpa using hc)
theorem or_u64_lit (x c : Nat) (hx : x < 2 ^ 64) (hc : c < 2 ^ 64) : bits .or .u64 (x : Int) (c : Int) = ((x ||| c : Nat) : Int) := u64_or_nat _ _ (by simpa using hx) (by simpa using hc)
theorem xor_u64_lit (x c : Nat) (hx : x < 2 ^ 64) (hc : c < 2 ^ 64) : bits .xor .u64 (x : Int) (c : Int) = ((x ^^^ c : Nat) : Int) := u64_xor_nat _ _ (by simpa using hx) (by simpa using hc)
end Go.Proofs.YtogeohjeabbmaaaDoor

/-
  Words that all parts use: rows of numbers, as slices read.
-/
set_option linter.unusedSimpArgs false
set_option linter.unusedVariables false
namespace Go.Proofs.YtogeohjeabbmaaaDoor
open Go.RowKit

def u64s (l : List Nat) : List Value := l.map fun (b : Nat) => .int .u64 (b : Int)
def W64 (l : List Nat) : Prop := ∀ k ∈ l, k < 2 ^ 64

theorem Sl.foreign {S S' : Nat → Prop} {W W' : World} {sp : Option Addr} {n : Nat} {vals : List Value} (h : Sl W sp n vals) (hf : Foreign S S' W W') (hS : ∀ c, sp.map (·.block) = some c → ¬ S c) : Sl W' sp n vals :=
  h.keep fun b o hb hs ho => (hf.block b hb (hS b hs)).trans ho
theorem Sl.kept {S : Nat → Prop} {W W' : World} {sp : Option Addr} {n : Nat} {vals : List Value} (h : Sl W sp n vals) (hk : Kept S W W') (hS : ∀ c, sp.map (·.block) = some c → S c) : Sl W' sp n vals :=
  h.keep fun b o hb hs ho => (hk.block b hb (hS b hs)).trans ho
theorem u64s_at {keys : List Nat} {j : Nat} (h : j < keys.length) : (u64s keys)[j]? = some (.int .u64 (nthN keys j)) := by
  unfold u64s; rw [List.getElem?_map, List.getElem?_eq_getElem h, nthN_eq h]; rfl

theorem wf_i64 {x : Int} (h : -9223372036854775808 ≤ x) (h' : x ≤ 9223372036854775807) : (Lit.int .i64 x).wf = true := by
  have h1 : IntKind.i64.min = -9223372036854775808 := rfl
  have h2 : IntKind.i64.max = 9223372036854775807 := rfl
  simp only [Lit.wf, h1, h2, Bool.and_eq_true, decide_eq_true_eq]; omega
def nats (zs : List Int) : List Nat := zs.map Int.toNat
theorem u64s_nats {zs : List Int} (hz : ∀ z ∈ zs, (Lit.int .u64 z).wf = true) : zs.map (Value.int .u64) = u64s (nats zs) := by
  unfold u64s nats
  rw [List.map_map]
  refine List.map_congr_left fun z hm => ?_
  obtain ⟨x, rfl, _⟩ := nat_of_u64 (hz z hm)
  simp
theorem nats_w64 {zs : List Int} (hz : ∀ z ∈ zs, (Lit.int .u64 z).wf = true) : W64 (nats zs) := by
  intro k hk
  unfold nats at hk
  obtain ⟨z, hm, rfl⟩ := List.mem_map.1 hk
  obtain ⟨x, rfl, hx⟩ := nat_of_u64 (hz z hm)
  simpa using hx
theorem ne_self (x : Nat) : ((x : Int) != (x : Int)) = false := by simp
theorem len_nats {zs : List Int} {w : World} {sp : Option Addr} {n : Nat} (h : Sl w sp n (u64s (nats zs))) : n = (nats zs).length := by
  have := h.1; simpa [u64s] using this
def nthZ (l : List Int) (k : Nat) : Int := l.getD k 0
theorem nthZ_eq {l : List Int} {k : Nat} (h : k < l.length) : l[k] = nthZ l k := by unfold nthZ; rw [List.getD_eq_getElem?_getD, List.getElem?_eq_getElem h]; rfl
theorem nthZ_mem {l : List Int} {k : Nat} (h : k < l.length) : nthZ l k ∈ l := by rw [← nthZ_eq h]; exact List.getElem_mem h
theorem i64s_at {zs : List Int} {j : Nat} {c : IntKind} (h : j < zs.length) : (zs.map (Value.int c))[j]? = some (.int c (nthZ zs j)) := by
  rw [List.getElem?_map, List.getElem?_eq_getElem h, nthZ_eq h]; rfl

theorem oneCell_ints (k : IntKind) (l : List Int) : ∀ v ∈ l.map (Value.int k), v.oneCell' = true := by intro v hv; obtain ⟨x, _, rfl⟩ := List.mem_map.1 hv; rfl
theorem oneCell_u64s (l : List Nat) : ∀ v ∈ u64s l, v.oneCell' = true := by intro v hv; obtain ⟨x, _, rfl⟩ := List.mem_map.1 hv; rfl
theorem u64s_length (l : List Nat) : (u64s l).length = l.length := by simp [u64s]
theorem u64s_take (l : List Nat) (m : Nat) : (u64s l).take m = u64s (l.take m) := by unfold u64s; rw [List.map_take]
theorem u64s_snoc (l : List Nat) (x : Nat) : u64s (l ++ [x]) = u64s l ++ [.int .u64 x] := by unfold u64s; rw [List.map_append]; rfl
theorem u64s_ints (l : List Nat) : u64s l = (l.map Int.ofNat).map (Value.int .u64) := by unfold u64s; rw [List.map_map]; rfl
theorem row_slice' {w : World} {base : Nat} {e : TypeId} {size : Nat} {v : Value} {n : Nat} {xs : List Value} (h : w.ownsRow base e size v n xs) : ∃ sp cap, v = .slice sp n cap := by
  rcases h.2 with ⟨h1, h0⟩ | ⟨g, cap, cur, h1, _⟩
  · subst h0; exact ⟨_, _, h1⟩
  · exact ⟨_, _, h1⟩
theorem row_nil' {w : World} {base : Nat} {e : TypeId} {size : Nat} {sp : Option Addr} {m n cap : Nat} {xs : List Value} (h : w.ownsRow base e size (.slice sp m cap) n xs) : sp = none → cap = 0 := by
  intro e
  rcases h.2 with ⟨h1, h0⟩ | ⟨g, cap, cur, h1, _⟩
  · injection h1
  · injection h1 with h1; rw [e] at h1; cases h1
theorem below_next {a b c : World} (h : Below a.heap.size a b) (h1 : Below b.heap.size b c) : Below a.heap.size a c := h.trans (h1.mono h.size)
/-- The first place at which something holds; -1: none. -/
def idxZ (p : Int → Bool) (l : List Int) : Int := if l.findIdx p < l.length then (l.findIdx p : Int) else -1
theorem idxZ_hit {p : Int → Bool} {l : List Int} {k : Nat} (hk : k < l.length) (hno : ∀ j, j < k → p (nthZ l j) = false) (h : p (nthZ l k) = true) : idxZ p l = (k : Int) := by
  have e : l.findIdx p = k := by
    refine (List.findIdx_eq hk).2 ⟨by rw [nthZ_eq hk]; exact h, fun j hj => ?_⟩
    rw [nthZ_eq (by omega)]; exact hno j hj
  unfold idxZ; rw [e, if_pos hk]
theorem idxZ_none {p : Int → Bool} {l : List Int} (hno : ∀ j, j < l.length → p (nthZ l j) = false) : idxZ p l = -1 := by
  unfold idxZ
  rw [if_neg]
  intro h
  have := List.findIdx_getElem (w := h)
  rw [nthZ_eq h, hno _ h] at this
  cases this
end Go.Proofs.YtogeohjeabbmaaaDoor

/-
  Slices of elements of k cells, by what they read as; append onto a row of one's own from such a slice.
-/
set_option linter.unusedSimpArgs false
set_option linter.unusedVariables false
namespace Go.Proofs.YtogeohjeabbmaaaDoor
open Go.RowKit

def SlK (w : World) (k : Nat) (sp : Option Addr) (n : Nat) (vals : List Value) : Prop :=
  vals.length = n * k ∧ n ≤ maxLen ∧ (n = 0 ∨ ∃ b off, sp = some ⟨b, off, none⟩ ∧ ∀ j u, vals[j]? = some u → w.cell? ⟨b, off + j, none⟩ = some u)
theorem SlK.nil (w : World) (k : Nat) (sp : Option Addr) : SlK w k sp 0 [] := ⟨by simp, Nat.zero_le _, .inl rfl⟩
theorem SlK.keep {w w' : World} {k : Nat} {sp : Option Addr} {n : Nat} {vals : List Value} (h : SlK w k sp n vals) (hk : ∀ b o, b < w.heap.size → sp.map (·.block) = some b → w.heap[b]? = some o → w'.heap[b]? = some o) : SlK w' k sp n vals := by
  obtain ⟨h1, h2, h3⟩ := h
  refine ⟨h1, h2, h3.imp id ?_⟩
  rintro ⟨b, off, rfl, hc⟩
  refine ⟨b, off, rfl, fun j u hu => ?_⟩
  have hcj := hc j u hu
  have hlt := lt_of_cell hcj
  exact cell_of_heap (W := w) ((hk b _ hlt rfl (Array.getElem?_eq_getElem hlt)).trans (Array.getElem?_eq_getElem hlt).symm) hcj
theorem SlK.below {w w' : World} {k : Nat} {sp : Option Addr} {n : Nat} {vals : List Value} (h : SlK w k sp n vals) (hb : Below w.heap.size w w') : SlK w' k sp n vals :=
  h.keep fun b _ hlt _ ho => (hb.block b hlt).trans ho
theorem SlK.some' {w : World} {k : Nat} {sp : Option Addr} {n : Nat} {vals : List Value} (h : SlK w k sp n vals) (hn : 0 < n) : ∃ b off, sp = some ⟨b, off, none⟩ ∧ ∀ j u, vals[j]? = some u → w.cell? ⟨b, off + j, none⟩ = some u := by
  obtain ⟨_, _, h3⟩ := h
  exact h3.resolve_left (by omega)
theorem SlK.take {w : World} {k : Nat} {sp : Option Addr} {n : Nat} {vals : List Value} (h : SlK w k sp n vals) (m : Nat) (hm : m ≤ n) : SlK w k sp m (vals.take (m * k)) := by
  obtain ⟨h1, h2, h3⟩ := h
  refine ⟨?_, by omega, ?_⟩
  · rw [List.length_take, h1]; exact Nat.min_eq_left (Nat.mul_le_mul_right _ hm)
  · by_cases h0 : m = 0
    · exact .inl h0
    · obtain ⟨b, off, e, hc⟩ := h3.resolve_left (by omega)
      refine .inr ⟨b, off, e, fun j u hu => hc j u ?_⟩
      rw [List.getElem?_take] at hu
      split at hu
      · exact hu
      · cases hu
theorem SlK.of_row {w : World} {k base : Nat} {e : TypeId} {sp : Option Addr} {n cap m : Nat} {xs : List Value} (h : w.ownsRow base e k (.slice sp n cap) m xs) (hm : n ≤ maxLen) : SlK w k sp n xs := by
  obtain ⟨h1, h2⟩ := h
  rcases h2 with ⟨hv, h0⟩ | ⟨g, cap', cur, hv, hg, hh, hle, hcap, hsz, ht⟩
  · cases hv; subst h0; exact ⟨h1, Nat.zero_le _, .inl rfl⟩
  · cases hv
    refine ⟨h1, hm, .inr ⟨g, 0, rfl, fun j u hu => ?_⟩⟩
    rw [Nat.zero_add]
    refine blk_cell hh ?_
    rw [← ht, List.getElem?_take] at hu
    split at hu
    · simpa using hu
    · cases hu
theorem SlK.of_blk {w : World} {b k n : Nat} {cs : Array Value} {t : TypeId} {fz : Nat × Nat} (h : w.heap[b]? = some (.cells cs t fz)) (hn : cs.size = n * k) (hm : n ≤ maxLen) : SlK w k (some ⟨b, 0, none⟩) n cs.toList :=
  ⟨by simpa using hn, hm, .inr ⟨b, 0, rfl, fun j u hu => by rw [Nat.zero_add]; exact blk_cell h (by simpa using hu)⟩⟩
theorem SlK.of_sl {w : World} {sp : Option Addr} {n : Nat} {vals : List Value} (h : Sl w sp n vals) : SlK w 1 sp n vals := ⟨by rw [Nat.mul_one]; exact h.1.symm, h.2⟩
theorem SlK.sl {w : World} {sp : Option Addr} {n : Nat} {vals : List Value} (h : SlK w 1 sp n vals) : Sl w sp n vals := ⟨by have := h.1; omega, h.2⟩
theorem SlK.drew {w : World} {k : Nat} {sp : Option Addr} {n : Nat} {vals : List Value} (h : SlK w k sp n vals) : SlK w.drew k sp n vals := h
/-- A cell of one of its elements. -/
theorem SlK.cell {w : World} {k b off n : Nat} {vals : List Value} (h : SlK w k (some ⟨b, off, none⟩) n vals) {j : Nat} {u : Value} (hu : vals[j]? = some u) : w.cell? ⟨b, off + j, none⟩ = some u := by
  obtain ⟨h1, _, h3⟩ := h
  rcases h3 with h3 | ⟨b', off', e, hc⟩
  · have : vals = [] := List.eq_nil_of_length_eq_zero (by rw [h1, h3]; simp)
    subst this; simp at hu
  · cases e; exact hc j u hu

section
variable {P : Program} (w : World)
theorem run_append_of_nil' (base : Nat) (t ty e : TypeId) (i : TypeInfo) (size : Nat) (ht : P.underlying t = some (.slice e)) (hi : P.info? e = some i)
    (v : Value) (n : Nat) (xs : List Value) (hown : w.ownsRow base e size v n xs) (c : Nat) : (Builtin.append_ #[t, t] ty #[v, .slice none 0 c]).run P w = .ok v w := by
  rcases hown.2 with ⟨rfl, rfl⟩ | ⟨g, cap, cur, rfl, _, _, hnc, _⟩
  · simp [Builtin.append_, run_underlying ht, sizeOf, typeInfo, hi, Builtin.lenOf, Builtin.firstCells]
  · simp [Builtin.append_, run_underlying ht, sizeOf, typeInfo, hi, Builtin.lenOf, Builtin.firstCells, hnc, storeCells]
theorem run_append_slk (base : Nat) (t ty e : TypeId) (i : TypeInfo) (z : Value) (size bytes : Nat) (ht : P.underlying t = some (.slice e)) (hi : P.info? e = some i) (hz : i.zero = some z)
    (hsize : i.size = size) (hby : i.bytes = bytes) (hzs : z.cells.size = size) (hsz : 0 < size)
    (v : Value) (n : Nat) (xs : List Value) (hown : w.ownsRow base e size v n xs)
    (A : Option Addr) (m c : Nat) (news : List Value) (hr : SlK w size A m news) (h1 : ∀ u ∈ news, u.oneCell' = true)
    (h63 : n + m ≤ maxLen) (hbytes : (n + m) * bytes ≤ 140737488355328) (hbase : base ≤ w.heap.size) :
    ∃ v' w', (Builtin.append_ #[t, t] ty #[v, .slice A m c]).run P w = .ok v' w' ∧ w'.ownsRow base e size v' (n + m) (xs ++ news) ∧ w.grownBy w' v.ownBlock ∧
      (v'.ownBlock = v.ownBlock ∨ v'.ownBlock = some w.heap.size) := by
  obtain ⟨q1, q2, q3⟩ := hr
  cases A with
  | none =>
    have hm : m = 0 := by
      rcases q3 with h0 | ⟨b, off, e, _⟩
      · exact h0
      · cases e
    subst hm
    have hn : news = [] := List.eq_nil_of_length_eq_zero (by simpa using q1)
    subst hn
    exact ⟨v, w, run_append_of_nil' w base t ty e i size ht hi v n xs hown c, by simpa using hown, World.grownBy.refl w _, .inl rfl⟩
  | some ad =>
    have hcells : ∀ j u, news[j]? = some u → w.cell? (ad.add j) = some u := by
      intro j u hu
      rcases q3 with h0 | ⟨b, off, e, hc⟩
      · subst h0
        have hn : news = [] := List.eq_nil_of_length_eq_zero (by simpa using q1)
        subst hn
        simp at hu
      · cases e
        have hadd : (⟨b, off, none⟩ : Addr).add j = ⟨b, off + j, none⟩ := by unfold Addr.add; split <;> simp_all
        rw [hadd]
        exact hc j u hu
    obtain ⟨v', w', hrun, h2, h3, _, h5⟩ := run_append_own_at (P := P) w base t ty e i z size bytes ht hi hz hsize hby hzs hsz v n xs hown ad m c news q1 hcells h1 h63 hbytes hbase
    exact ⟨v', w', hrun, h2, h3, h5⟩
theorem wp_append_slk {o : Oper} {a : Act} {K : Act → World → Prop} {Q : Exit → Act → World → Prop} (s x : Operand) (t : TypeId)
    (ho : o.op = .call { callee := .builtin .append, args := #[s, x], argTypes := #[t, t] })
    (base : Nat) (e : TypeId) (i : TypeInfo) (z : Value) (size bytes : Nat) (ht : P.underlying t = some (.slice e)) (hi : P.info? e = some i) (hz : i.zero = some z)
    (hsize : i.size = size) (hby : i.bytes = bytes) (hzs : z.cells.size = size) (hsz : 0 < size)
    (v : Value) (n : Nat) (xs : List Value) (hs : a.eval s = v) (hown : w.ownsRow base e size v n xs)
    (A : Option Addr) (m c : Nat) (news : List Value) (hx : a.eval x = .slice A m c) (hr : SlK w size A m news) (h1 : ∀ u ∈ news, u.oneCell' = true)
    (h63 : n + m ≤ maxLen) (hbytes : (n + m) * bytes ≤ 140737488355328) (hbase : base ≤ w.heap.size)
    (h : ∀ v' w', w'.ownsRow base e size v' (n + m) (xs ++ news) → w.grownBy w' v.ownBlock → (v'.ownBlock = v.ownBlock ∨ v'.ownBlock = some w.heap.size) → K (a.put o.dst v') w') : o.wp P a w K Q := by
  obtain ⟨v', w', hrun, h2, h3, h4⟩ := run_append_slk (P := P) w base t o.type e i z size bytes ht hi hz hsize hby hzs hsz v n xs hown A m c news hr h1 h63 hbytes hbase
  unfold Oper.wp execOp
  simp only [ho, resolve, invoke, builtin, Sem.run_bind, Sem.run_pure, Result.andThen_ok, List.map_toArray, List.map_cons, List.map_nil, hs, hx, hrun]
  exact h v' w' h2 h3 h4
theorem wpList_append_slk {ops : Array Oper} {rest : List Oper} {o : Oper} {a : Act} {Q : Exit → Act → World → Prop} (hgd : o.guard = none) (s x : Operand) (t : TypeId)
    (ho : o.op = .call { callee := .builtin .append, args := #[s, x], argTypes := #[t, t] })
    (base : Nat) (e : TypeId) (i : TypeInfo) (z : Value) (size bytes : Nat) (ht : P.underlying t = some (.slice e)) (hi : P.info? e = some i) (hz : i.zero = some z)
    (hsize : i.size = size) (hby : i.bytes = bytes) (hzs : z.cells.size = size) (hsz : 0 < size)
    (v : Value) (n : Nat) (xs : List Value) (hs : a.eval s = v) (hown : w.ownsRow base e size v n xs)
    (A : Option Addr) (m c : Nat) (news : List Value) (hx : a.eval x = .slice A m c) (hr : SlK w size A m news) (h1 : ∀ u ∈ news, u.oneCell' = true)
    (h63 : n + m ≤ maxLen) (hbytes : (n + m) * bytes ≤ 140737488355328) (hbase : base ≤ w.heap.size)
    (h : ∀ v' w', w'.ownsRow base e size v' (n + m) (xs ++ news) → w.grownBy w' v.ownBlock → (v'.ownBlock = v.ownBlock ∨ v'.ownBlock = some w.heap.size) → wpList P ops Q rest (a.put o.dst v') w') : wpList P ops Q (o :: rest) a w :=
  wpList_plain hgd fun _ hK => wp_append_slk w s x t ho base e i z size bytes ht hi hz hsize hby hzs hsz v n xs hs hown A m c news hx hr h1 h63 hbytes hbase fun v' w' h2 h3 h4 => hK _ _ (h v' w' h2 h3 h4)
theorem step_append_slk {ops : Array Oper} {o : Oper} {a : Act} {K : Act → World → Prop} {Q : Exit → Act → World → Prop} {E : Prop} (hgd : o.guard = none) (s x : Operand) (t : TypeId)
    (ho : o.op = .call { callee := .builtin .append, args := #[s, x], argTypes := #[t, t] })
    (base : Nat) (e : TypeId) (i : TypeInfo) (z : Value) (size bytes : Nat) (ht : P.underlying t = some (.slice e)) (hi : P.info? e = some i) (hz : i.zero = some z)
    (hsize : i.size = size) (hby : i.bytes = bytes) (hzs : z.cells.size = size) (hsz : 0 < size)
    (v : Value) (n : Nat) (xs : List Value) (hs : a.eval s = v) (hown : w.ownsRow base e size v n xs)
    (A : Option Addr) (m c : Nat) (news : List Value) (hx : a.eval x = .slice A m c) (hr : SlK w size A m news) (h1 : ∀ u ∈ news, u.oneCell' = true)
    (h63 : n + m ≤ maxLen) (hbytes : (n + m) * bytes ≤ 140737488355328) (hbase : base ≤ w.heap.size)
    (h : ∀ v' w', w'.ownsRow base e size v' (n + m) (xs ++ news) → w.grownBy w' v.ownBlock → (v'.ownBlock = v.ownBlock ∨ v'.ownBlock = some w.heap.size) → K (a.put o.dst v') w') :
    if Region.wanted o (yielded ops a.tmps) = true then Oper.wp P o a w K Q else E := by
  have hw : Region.wanted o (yielded ops a.tmps) = true := by simp [Region.wanted, hgd]
  rw [if_pos hw]
  exact wp_append_slk w s x t ho base e i z size bytes ht hi hz hsize hby hzs hsz v n xs hs hown A m c news hx hr h1 h63 hbytes hbase h
end
theorem wpListIn_append_slk {F : Fence} {nn : Nat} {P : Program} (w : World) {ops : Array Oper} {rest : List Oper} {o : Oper} {a : Act} {Q : Exit → Act → World → Prop}
    (hg : o.guard = none) (s x : Operand) (t : TypeId) (hop : o.op = Op.call { callee := Callee.builtin Builtin.append, args := #[s, x], argTypes := #[t, t] })
    (base : Nat) (e : TypeId) (i : TypeInfo) (z : Value) (size bytes : Nat) (ht : P.underlying t = some (.slice e)) (hi : P.info? e = some i) (hz : i.zero = some z)
    (hsize : i.size = size) (hby : i.bytes = bytes) (hzs : z.cells.size = size) (hsz : 0 < size)
    (v : Value) (n : Nat) (xs : List Value) (hs : a.eval s = v) (hown : w.ownsRow base e size v n xs)
    (A : Option Addr) (m c : Nat) (news : List Value) (hx : a.eval x = .slice A m c) (hr : SlK w size A m news) (h1 : ∀ u ∈ news, u.oneCell' = true)
    (h63 : n + m ≤ maxLen) (hbytes : (n + m) * bytes ≤ 140737488355328) (hbase : base ≤ w.heap.size)
    (h : ∀ v' w', w'.ownsRow base e size v' (n + m) (xs ++ news) → w.grownBy w' v.ownBlock → (v'.ownBlock = v.ownBlock ∨ v'.ownBlock = some w.heap.size) → wpListIn F nn P ops Q rest (a.put o.dst v') w') :
    wpListIn F nn P ops Q (o :: rest) a w := by
  refine wpListIn_plain hg fun K hK' => ?_
  obtain ⟨v', w', hrun, h2, h3, h4⟩ := run_append_slk (P := P) w base t o.type e i z size bytes ht hi hz hsize hby hzs hsz v n xs hown A m c news hr h1 h63 hbytes hbase
  refine ⟨?_, ?_⟩
  · simp [Oper.about, hop, resolve, Target.leads, Sem.run_pure]
  · rw [Oper.semAt_plain F _ _ (by rw [hop]; intro c hc'; cases hc')]
    simp [execOp, hop, resolve, invoke, builtin, hs, hx, hrun, Result.andThen]
    exact hK' _ _ (h v' w' h2 h3 h4)
/-- A load of a whole row, behind a guard that holds. -/
theorem wpList_load_row_w {P : Program} {ops : Array Oper} {rest : List Oper} {o : Oper} {a : Act} {w : World} {Q : Exit → Act → World → Prop} (hw : Region.wanted o (yielded ops a.tmps) = true) (ty : TypeId) (x : Operand) (ho : o.op = .load ty x)
    (g : Nat) (hx : a.eval x = .pointer (some ⟨g, 0, none⟩)) (t : TypeId) (cs : Array Value) (fr : Nat × Nat) (d : TypeDesc) (hg : w.heap[g]? = some (.cells cs t fr))
    (hu : P.underlying ty = some d) (hd : (match d with | .struct _ | .array _ _ => true | _ => false) = true) (hi : (P.info? ty).map (·.size) = some cs.size)
    (h : wpList P ops Q rest (a.put o.dst (.agg cs)) w) : wpList P ops Q (o :: rest) a w :=
  wpList_step fun K hK => by rw [if_pos hw]; exact wp_load_row ty x ho g hx t cs fr d hg hu hd hi (hK _ _ h)
/-- What the new value looks like. -/
theorem row_form {w : World} {base : Nat} {e : TypeId} {size : Nat} {v : Value} {n : Nat} {xs : List Value} (h : w.ownsRow base e size v n xs) : ∃ sp cap, v = .slice sp n cap ∧ n ≤ cap ∧ (sp = none → cap = 0) ∧ (∀ a, sp = some a → base ≤ a.block ∧ a.block < w.heap.size ∧ a.spot = none) := by
  rcases h.2 with ⟨rfl, rfl⟩ | ⟨g, cap, cur, rfl, hb, hh, hle, _⟩
  · exact ⟨none, 0, rfl, Nat.le_refl _, fun _ => rfl, fun a e => (by cases e)⟩
  · exact ⟨_, cap, rfl, hle, fun e => (by cases e), fun a e => (by cases e; exact ⟨hb, lt_of_heap hh, rfl⟩)⟩
end Go.Proofs.YtogeohjeabbmaaaDoor

/-
  Blocks of one's own, all in one list: the newest first.
-/
set_option linter.unusedSimpArgs false
set_option linter.unusedVariables false
namespace Go.Proofs.YtogeohjeabbmaaaDoor
open Go.RowKit

abbrev Blk3 := Nat × Array Value × TypeId
def HasL (W : World) : List Blk3 → Prop
  | [] => True
  | x :: l => W.heap[x.1]? = some (.cells x.2.1 x.2.2 (0, 0)) ∧ HasL W l
theorem HasL.mem {W : World} : ∀ {l : List Blk3}, HasL W l → ∀ x ∈ l, W.heap[x.1]? = some (.cells x.2.1 x.2.2 (0, 0))
  | [], _, x, hx => by cases hx
  | y :: l, h, x, hx => by
    rcases List.mem_cons.1 hx with e | hx
    · rw [e]; exact h.1
    · exact HasL.mem h.2 x hx
theorem HasL.of {W : World} : ∀ {l : List Blk3}, (∀ x ∈ l, W.heap[x.1]? = some (.cells x.2.1 x.2.2 (0, 0))) → HasL W l
  | [], _ => trivial
  | y :: l, h => ⟨h y (List.mem_cons_self ..), HasL.of fun x hx => h x (List.mem_cons_of_mem _ hx)⟩
/-- These blocks are mine since w0, the newest first, and hold what the list says; all that lay in w0 lies as it lay. -/
structure Hs (w0 : World) (l : List Blk3) (W : World) : Prop where
  rows : HasL W l
  old : Below w0.heap.size w0 W
  low : ∀ x ∈ l, w0.heap.size ≤ x.1
  desc : l.Pairwise fun x y => y.1 < x.1
theorem Hs.nil (w0 : World) : Hs w0 [] w0 := ⟨trivial, Below.refl _ _, fun x hx => (by cases hx), List.Pairwise.nil⟩
theorem Hs.next {w0 : World} {l : List Blk3} {W W' : World} (h : Hs w0 l W) (hb : Below W.heap.size W W') : Hs w0 l W' :=
  ⟨HasL.of fun x hx => heap_below hb (h.rows.mem x hx) (lt_of_heap (h.rows.mem x hx)), below_next h.old hb, h.low, h.desc⟩
theorem Hs.drew {w0 : World} {l : List Blk3} {W : World} (h : Hs w0 l W) : Hs w0 l W.drew := ⟨HasL.of fun x hx => h.rows.mem x hx, Below.drew h.old, h.low, h.desc⟩
theorem Hs.drewN {w0 : World} {l : List Blk3} {W : World} (h : Hs w0 l W) (n : Nat) : Hs w0 l (W.drewN n) := ⟨HasL.of fun x hx => h.rows.mem x hx, h.old.trans (below_drewN' _ _), h.low, h.desc⟩
theorem Hs.lt {w0 : World} {l : List Blk3} {W : World} (h : Hs w0 l W) : ∀ x ∈ l, x.1 < W.heap.size := fun x hx => lt_of_heap (h.rows.mem x hx)
theorem Hs.new {w0 : World} {l : List Blk3} {W : World} (h : Hs w0 l W) (cs : Array Value) (t : TypeId) : Hs w0 ((W.heap.size, cs, t) :: l) (W.alloc (.cells cs t)) := by
  have hn := h.next ((Below.refl _ W).alloc (Nat.le_refl _) (.cells cs t))
  refine ⟨⟨World.alloc_heap_new _ _, hn.rows⟩, hn.old, fun x hx => ?_, List.Pairwise.cons (fun x hx => h.lt x hx) h.desc⟩
  rcases List.mem_cons.1 hx with e | hx
  · rw [e]; exact h.old.size
  · exact h.low x hx
/-- One more, of which the heap tells. -/
theorem Hs.more {w0 : World} {l : List Blk3} {W W' : World} (h : Hs w0 l W) (hb : Below W.heap.size W W') {b : Nat} {cs : Array Value} {t : TypeId} (hg : W'.heap[b]? = some (.cells cs t (0, 0))) (hlo : W.heap.size ≤ b) : Hs w0 ((b, cs, t) :: l) W' := by
  have hn := h.next hb
  refine ⟨⟨hg, hn.rows⟩, hn.old, fun x hx => ?_, List.Pairwise.cons (fun x hx => Nat.lt_of_lt_of_le (h.lt x hx) hlo) h.desc⟩
  rcases List.mem_cons.1 hx with e | hx
  · rw [e]; exact Nat.le_trans h.old.size hlo
  · exact h.low x hx
theorem Hs.tail {w0 : World} {x : Blk3} {l : List Blk3} {W : World} (h : Hs w0 (x :: l) W) : Hs w0 l W := ⟨h.rows.2, h.old, fun y hy => h.low y (List.mem_cons_of_mem _ hy), h.desc.tail⟩
/-- One of them turned, whatever the heap did besides to what is not mine and not old. -/
theorem Hs.turn {w0 : World} {l : List Blk3} {W W' : World} (h : Hs w0 l W) (i : Nat) {b : Nat} {old new : Array Value} {t : TypeId} (hi : l[i]? = some (b, old, t)) (hg : W'.heap[b]? = some (.cells new t (0, 0)))
    (ho : ∀ k, k ≠ b → W'.heap[k]? = W.heap[k]?) (hsz : W.heap.size ≤ W'.heap.size) (hos : W'.os = W.os) (ht : W'.tape = W.tape) (hu : W'.output = W.output) : Hs w0 (l.set i (b, new, t)) W' := by
  have hil : i < l.length := (List.getElem?_eq_some_iff.1 hi).1
  have hib : l[i]'hil = (b, old, t) := (List.getElem?_eq_some_iff.1 hi).2
  have hm : (b, old, t) ∈ l := by rw [← hib]; exact List.getElem_mem _
  have hne : ∀ j (hj : j < l.length), j ≠ i → (l[j]'hj).1 ≠ b := by
    intro j hj hji
    have hp := List.pairwise_iff_getElem.1 h.desc
    rcases Nat.lt_or_gt_of_ne hji with hlt | hlt
    · have := hp j i hj hil hlt; rw [hib] at this; simp only at this; omega
    · have := hp i j hil hj hlt; rw [hib] at this; simp only at this; omega
  have hlo := h.low _ hm
  refine ⟨HasL.of fun x hx => ?_, ⟨hos.trans h.old.os, ht.trans h.old.tape, hu.trans h.old.output, Nat.le_trans h.old.size hsz, fun k hk => (ho k (by simp only at hlo; omega)).trans (h.old.block k hk)⟩, fun x hx => ?_, ?_⟩
  · obtain ⟨j, hj, rfl⟩ := List.mem_iff_getElem.1 hx
    rw [List.length_set] at hj
    rw [List.getElem_set]
    split
    · exact hg
    · rename_i hij
      exact (ho _ (hne j hj (fun e => hij e.symm))).trans (h.rows.mem _ (List.getElem_mem _))
  · obtain ⟨j, hj, rfl⟩ := List.mem_iff_getElem.1 hx
    rw [List.length_set] at hj
    rw [List.getElem_set]
    split
    · exact hlo
    · exact h.low _ (List.getElem_mem _)
  · refine List.pairwise_iff_getElem.2 fun a c ha hc hac => ?_
    rw [List.length_set] at ha hc
    have hp := List.pairwise_iff_getElem.1 h.desc a c ha hc hac
    rw [List.getElem_set, List.getElem_set]
    split
    · rename_i e; subst e
      rw [if_neg (by omega)]
      rw [hib] at hp
      exact hp
    · split
      · rename_i e; subst e
        rw [hib] at hp
        exact hp
      · exact hp
theorem Hs.set {w0 : World} {l : List Blk3} {W : World} (h : Hs w0 l W) (i : Nat) {b : Nat} {old : Array Value} {t : TypeId} (hi : l[i]? = some (b, old, t)) (new : Array Value) : Hs w0 (l.set i (b, new, t)) (W.setRow b new) :=
  h.turn i hi (setRow_heap _ _ _ _ _ _ (h.rows.mem _ (List.mem_of_getElem? hi))) (fun k hk => setRow_other _ _ _ _ hk) (by simp) rfl rfl rfl
theorem Hs.put {w0 : World} {l : List Blk3} {W : World} (h : Hs w0 l W) (i : Nat) {b : Nat} {old : Array Value} {t : TypeId} (hi : l[i]? = some (b, old, t)) (j : Nat) (v : Value) : Hs w0 (l.set i (b, old.setIfInBounds j v, t)) (W.setCell ⟨b, j, none⟩ v) :=
  h.turn i hi (blk_set _ (h.rows.mem _ (List.mem_of_getElem? hi))) (fun k hk => Below.heap_setCell _ _ _ _ hk) (by simp [World.setCell]) rfl rfl rfl
/-- The cells of a block of two. -/
theorem Hs.two {w0 : World} {l : List Blk3} {W : World} (h : Hs w0 l W) {b : Nat} {u v : Value} {t : TypeId} (hm : (b, (#[u, v] : Array Value), t) ∈ l) : W.cell? ⟨b, 0, none⟩ = some u ∧ W.cell? ⟨b, 1, none⟩ = some v :=
  ⟨blk_cell (h.rows.mem _ hm) rfl, blk_cell (h.rows.mem _ hm) rfl⟩
theorem Hs.new2 {w0 : World} {l : List Blk3} {W : World} (h : Hs w0 l W) (cs cs' : Array Value) (t t' : TypeId) : Hs w0 ((W.heap.size + 1, cs', t') :: (W.heap.size, cs, t) :: l) ((W.alloc (.cells cs t)).alloc (.cells cs' t')) :=
  (h.new cs t).more ((Below.refl _ _).alloc (Nat.le_refl _) _) (heap_alloc2_new W _ _) (by simp)
end Go.Proofs.YtogeohjeabbmaaaDoor

/-
  Slices of arrays of two words, as they read; slices.Clone there.
-/
set_option linter.unusedSimpArgs false
set_option linter.unusedVariables false
namespace Go.Proofs.YtogeohjeabbmaaaDoor
open Go.RowKit

def prs (ks : List (Nat × Nat)) : List Value := ks.flatMap fun p => [.int .u64 (p.1 : Int), .int .u64 (p.2 : Int)]
def nthP (ks : List (Nat × Nat)) (k : Nat) : Nat × Nat := ks.getD k (0, 0)
def P64 (ks : List (Nat × Nat)) : Prop := ∀ p ∈ ks, p.1 < 2 ^ 64 ∧ p.2 < 2 ^ 64
theorem nthP_eq {l : List (Nat × Nat)} {k : Nat} (h : k < l.length) : l[k] = nthP l k := by unfold nthP; rw [List.getD_eq_getElem?_getD, List.getElem?_eq_getElem h]; rfl
theorem nthP_mem {l : List (Nat × Nat)} {k : Nat} (h : k < l.length) : nthP l k ∈ l := by rw [← nthP_eq h]; exact List.getElem_mem h
theorem prs_length (ks : List (Nat × Nat)) : (prs ks).length = ks.length * 2 := by
  induction ks with
  | nil => rfl
  | cons p l ih => unfold prs at *; rw [List.flatMap_cons, List.length_append, ih]; simp; omega
theorem prs_append (a b : List (Nat × Nat)) : prs (a ++ b) = prs a ++ prs b := by unfold prs; rw [List.flatMap_append]
theorem prs_one (ks : List (Nat × Nat)) : ∀ v ∈ prs ks, v.oneCell' = true := by
  intro v hv
  unfold prs at hv
  obtain ⟨p, _, hp⟩ := List.mem_flatMap.1 hv
  simp at hp
  rcases hp with rfl | rfl <;> rfl
theorem prs_at {ks : List (Nat × Nat)} {k : Nat} (h : k < ks.length) : (prs ks)[k * 2]? = some (.int .u64 ((nthP ks k).1 : Int)) ∧ (prs ks)[k * 2 + 1]? = some (.int .u64 ((nthP ks k).2 : Int)) := by
  induction ks generalizing k with
  | nil => simp at h
  | cons p l ih =>
    cases k with
    | zero => exact ⟨rfl, rfl⟩
    | succ k =>
      have := ih (k := k) (by simpa using h)
      unfold prs at this ⊢
      rw [List.flatMap_cons]
      rw [show (k + 1) * 2 = k * 2 + 2 by omega, show k * 2 + 2 + 1 = (k * 2 + 1) + 2 by omega]
      exact this
theorem prs_take (ks : List (Nat × Nat)) (m : Nat) : (prs ks).take (m * 2) = prs (ks.take m) := by
  induction ks generalizing m with
  | nil => simp [prs]
  | cons p l ih =>
    cases m with
    | zero => simp [prs]
    | succ m =>
      have := ih m
      unfold prs at this ⊢
      rw [List.flatMap_cons, List.take_succ_cons, List.flatMap_cons, ← this, show (m + 1) * 2 = m * 2 + 2 by omega]
      rfl
/-! ### slices.Clone at [][2]uint64: 2 cells an element -/
end Go.Proofs.YtogeohjeabbmaaaDoor

/-
  Rows of elements that take k cells each, as they read.
-/
set_option linter.unusedSimpArgs false
set_option linter.unusedVariables false
namespace Go.Proofs.YtogeohjeabbmaaaDoor
open Go.RowKit

theorem flat_at {α : Type} {f : α → List Value} {k : Nat} (hf : ∀ x, (f x).length = k) {l : List α} {j i : Nat} {x : α} (hj : l[j]? = some x) (hi : i < k) : (l.flatMap f)[j * k + i]? = (f x)[i]? := by
  induction l generalizing j with
  | nil => simp at hj
  | cons y l ih =>
    rw [List.flatMap_cons]
    cases j with
    | zero =>
      have e : y = x := by simpa using hj
      subst e
      rw [Nat.zero_mul, Nat.zero_add, List.getElem?_append_left (by rw [hf]; exact hi)]
    | succ j =>
      rw [List.getElem?_append_right (by rw [hf, Nat.succ_mul]; omega), hf, show (j + 1) * k + i - k = j * k + i by rw [Nat.succ_mul]; omega]
      exact ih (by simpa using hj)
theorem flat_len {α : Type} {f : α → List Value} {k : Nat} (hf : ∀ x, (f x).length = k) (l : List α) : (l.flatMap f).length = l.length * k := by
  induction l with
  | nil => simp
  | cons y l ih => rw [List.flatMap_cons, List.length_append, ih, hf, List.length_cons, Nat.succ_mul]; omega
theorem flat_take {α : Type} {f : α → List Value} {k : Nat} (hf : ∀ x, (f x).length = k) (l : List α) (m : Nat) : (l.flatMap f).take (m * k) = (l.take m).flatMap f := by
  induction l generalizing m with
  | nil => simp
  | cons y l ih =>
    cases m with
    | zero => simp
    | succ m =>
      rw [List.flatMap_cons, List.take_succ_cons, List.flatMap_cons, ← ih m]
      have e : (m + 1) * k = (f y).length + m * k := by rw [hf, Nat.succ_mul]; omega
      rw [e, List.take_append, List.take_of_length_le (by omega)]
      congr 2; omega
theorem flat_drop {α : Type} {f : α → List Value} {k : Nat} (hf : ∀ x, (f x).length = k) (l : List α) (m : Nat) : (l.flatMap f).drop (m * k) = (l.drop m).flatMap f := by
  induction l generalizing m with
  | nil => simp
  | cons y l ih =>
    cases m with
    | zero => simp
    | succ m =>
      rw [List.flatMap_cons, List.drop_succ_cons, ← ih m]
      have e : (m + 1) * k = (f y).length + m * k := by rw [hf, Nat.succ_mul]; omega
      rw [e, List.drop_append, List.drop_eq_nil_of_le (by omega), List.nil_append]
      congr 1; omega
theorem flat_one {α : Type} {f : α → List Value} (h : ∀ x, ∀ v ∈ f x, v.oneCell' = true) (l : List α) : ∀ v ∈ l.flatMap f, v.oneCell' = true := by
  intro v hv
  obtain ⟨x, _, hx⟩ := List.mem_flatMap.1 hv
  exact h x v hx
theorem slk_len {α : Type} {f : α → List Value} {k : Nat} (hf : ∀ x, (f x).length = k) (hk : 0 < k) {w : World} {sp : Option Addr} {n : Nat} {l : List α} (h : SlK w k sp n (l.flatMap f)) : n = l.length := by
  have h1 := h.1
  rw [flat_len hf] at h1
  exact (Nat.eq_of_mul_eq_mul_right hk h1).symm
theorem slk_some {w : World} {k : Nat} {sp : Option Addr} {n : Nat} {vals : List Value} (h : SlK w k sp n vals) (hn : 0 < n) : ∃ b off, sp = some ⟨b, off, none⟩ := by
  obtain ⟨b, off, e, _⟩ := h.some' hn; exact ⟨b, off, e⟩
/-- A cell of an element. -/
theorem slk_cell {α : Type} {f : α → List Value} {k : Nat} (hf : ∀ x, (f x).length = k) {w : World} {b off n : Nat} {l : List α} (h : SlK w k (some ⟨b, off, none⟩) n (l.flatMap f)) {j i : Nat} {x : α} {v : Value} (hj : l[j]? = some x) (hi : i < k) (hv : (f x)[i]? = some v) :
    w.cell? ⟨b, off + j * k + i, none⟩ = some v := by
  have := h.cell (j := j * k + i) (u := v) (by rw [flat_at hf hj hi]; exact hv)
  rwa [← Nat.add_assoc] at this
theorem slk_cell0 {α : Type} {f : α → List Value} {k : Nat} (hf : ∀ x, (f x).length = k) {w : World} {b off n : Nat} {l : List α} (h : SlK w k (some ⟨b, off, none⟩) n (l.flatMap f)) {j : Nat} {x : α} {v : Value} (hj : l[j]? = some x) (hk : 0 < k) (hv : (f x)[0]? = some v) :
    w.cell? ⟨b, off + j * k, none⟩ = some v := slk_cell hf h hj hk hv
end Go.Proofs.YtogeohjeabbmaaaDoor

/-
  Of the blocks that were there one alone turned.
-/
set_option linter.unusedSimpArgs false
set_option linter.unusedVariables false
namespace Go.Proofs.YtogeohjeabbmaaaDoor
open Go.RowKit

def OnlyB (g : Nat) (w w' : World) : Prop := (∀ B, B ≤ g → Below B w w') ∧ ∀ b, b ≠ g → b < w.heap.size → w'.heap[b]? = w.heap[b]?
theorem OnlyB.refl (g : Nat) (w : World) : OnlyB g w w := ⟨fun B _ => Below.refl _ _, fun _ _ _ => rfl⟩
theorem OnlyB.old {g : Nat} {w w1 w' : World} (h1 : Below w.heap.size w w1) (h : OnlyB g w1 w') (hg : g < w.heap.size) : OnlyB g w w' :=
  ⟨fun B hB => (h1.mono (by omega)).trans (h.1 B hB), fun b hb hlt => (h.2 b hb (Nat.lt_of_lt_of_le hlt h1.size)).trans (h1.block b hlt)⟩
theorem OnlyB.size {g : Nat} {w w' : World} (h : OnlyB g w w') : w.heap.size ≤ w'.heap.size := (h.1 0 (Nat.zero_le _)).size
theorem OnlyB.new {g : Nat} {w w1 w' : World} (h : OnlyB g w w1) (h1 : Below w1.heap.size w1 w') (hg : g < w.heap.size) : OnlyB g w w' :=
  ⟨fun B hB => (h.1 B hB).trans (h1.mono (by have := h.size; omega)), fun b hb hlt => (h1.block b (by have := h.size; omega)).trans (h.2 b hb hlt)⟩
theorem OnlyB.trans {g : Nat} {w w1 w' : World} (h : OnlyB g w w1) (h1 : OnlyB g w1 w') : OnlyB g w w' :=
  ⟨fun B hB => (h.1 B hB).trans (h1.1 B hB), fun b hb hlt => (h1.2 b hb (by have := h.size; omega)).trans (h.2 b hb hlt)⟩
theorem OnlyB.set {g : Nat} {w w1 : World} (h : OnlyB g w w1) (i : Nat) (v : Value) : OnlyB g w (w1.setCell ⟨g, i, none⟩ v) :=
  ⟨fun B hB => (h.1 B hB).setCell hB _, fun b hb hlt => (Below.heap_setCell _ _ _ _ hb).trans (h.2 b hb hlt)⟩
theorem OnlyB.drewN {g : Nat} {w w1 : World} (h : OnlyB g w w1) (n : Nat) : OnlyB g w (w1.drewN n) :=
  ⟨fun B hB => (h.1 B hB).trans (below_drewN' _ _), h.2⟩
theorem OnlyB.drew {g : Nat} {w w1 : World} (h : OnlyB g w w1) : OnlyB g w w1.drew := ⟨fun B hB => (h.1 B hB).drew, h.2⟩
theorem OnlyB.below {g : Nat} {w w1 : World} (h : OnlyB g w w1) {B : Nat} (hB : B ≤ g) : Below B w w1 := h.1 B hB
theorem OnlyB.heap {g b : Nat} {w w1 : World} {o : Obj} (h : OnlyB g w w1) (hb : b ≠ g) (ho : w.heap[b]? = some o) : w1.heap[b]? = some o := (h.2 b hb (lt_of_heap ho)).trans ho
end Go.Proofs.YtogeohjeabbmaaaDoor

/-
  A region that draws its order, in the body of a range over a function: quiet reads ahead of one tail.
-/
set_option linter.unusedSimpArgs false
set_option linter.unusedVariables false
namespace Go.Proofs.YtogeohjeabbmaaaDoor
open Go.RowKit

def noDefer : Op → Bool
  | .defer _ => false
  | _ => true
theorem opIn_of_op {l n : Nat} {P : Program} {o : Oper} {a : Act} {w : World} {K : Act → World → Prop} {Q : Exit → Act → World → Prop} (hd : noDefer o.op = true) (h : o.wp P a w K Q) :
    o.wpIn (Fence.wide.inRound l) n P a w K Q := by
  refine ⟨fun _ _ => trivial, ?_⟩
  rw [Fence.inRound_round, Oper.semAt_eq _ _ _ (fun c hc => by rw [hc] at hd; cases hd)]
  unfold Oper.wp at h
  generalize (execOp a.eval o).run P w = r at *
  have hdep : (Fence.wide.inRound l).depth.isSome = true → 1 ≤ n := fun hh => by simp [Fence.wide] at hh
  cases r with
  | ok x w' =>
    cases x <;> simp only [Oper.upon, Oper.uponIn] at h ⊢ <;>
      first
        | exact h
        | exact ⟨hdep, CallsIn.inRound l (callsIn_wide.2 h)⟩
        | exact ⟨hdep, fun c cs _ => let ⟨v, w', r, s⟩ := h c cs; ⟨v, w', r, stepsIn_wide.2 s⟩⟩
  | halt x w' => cases x <;> simp only [Oper.upon, Oper.uponIn] at h ⊢ <;> exact h
theorem opsIn_of_ops {l n : Nat} {P : Program} {ops : Array Oper} {Q : Exit → Act → World → Prop} {i : Nat} {K K' : Act → World → Prop} {a : Act} {w : World} (hd : ops.all (fun o => noDefer o.op) = true) (hL : ¬ LetsOut Q)
    (hK : ∀ a w, K a w → K' a w) (h : wpOp P ops Q i K a w) : wpOpIn (Fence.wide.inRound l) n P ops Q i K' a w := by
  unfold wpOp at h
  unfold wpOpIn
  cases ho : ops[i]? with
  | none => simp only [ho] at h ⊢; exact hK _ _ h
  | some o =>
    simp only [ho] at h ⊢
    have hdo : noDefer o.op = true := by
      obtain ⟨hi, e⟩ := Array.getElem?_eq_some_iff.1 ho
      have := Array.all_eq_true.1 hd i hi
      rw [e] at this; exact this
    split
    · rename_i hw
      simp only [hw, if_true] at h
      rcases h with h | h
      · exact opIn_of_op hdo (Oper.wp_mono hK h)
      · exact absurd h.2 hL
    · rename_i hw
      simp only [hw] at h
      exact ⟨fun _ _ => trivial, hK _ _ h⟩
theorem anyIn_of_any {l n : Nat} {P : Program} {md : Region.Mode} {ops : Array Oper} {Q : Exit → Act → World → Prop} (hd : ops.all (fun o => noDefer o.op) = true) (hL : ¬ LetsOut Q) :
    ∀ (fuel : Nat) (listed : Array Bool) (a : Act) (w : World), wpAny P md ops Q fuel listed a w → wpAnyIn (Fence.wide.inRound l) n P md ops Q fuel listed a w
  | 0, _, _, _, h => h
  | fuel + 1, listed, a, w, h => ⟨h.1, fun i hi => opsIn_of_ops hd hL (fun a w => anyIn_of_any hd hL fuel _ a w) (h.2 i hi)⟩

/-- Quiet reads and calls, then one tail. -/
theorem wpIn_round_still_tail {l n : Nat} {P : Program} {id : Nat} {Q : Exit → Act → World → Prop} {a : Act} {w : World} {ol : List Oper} (k : Nat) (hm : P.follows .mixedOrders = true) (hB : Region.lexTailB .any ol.toArray k = true)
    (hd : ol.toArray.all (fun o => noDefer o.op) = true) (hL : ¬ LetsOut Q)
    (h : wpStill P ol.toArray { w with drawn := w.drawn + 1 } (fun a' => wpList P ol.toArray Q (ol.drop k) a' { w with drawn := w.drawn + 1 }) (ol.take k) a) :
    (Code.region id ol.toArray true).wpIn (Fence.wide.inRound l) n P Q a w := by
  simp only [Region.lexTailB, Bool.and_eq_true, decide_eq_true_eq] at hB
  obtain ⟨⟨⟨⟨hsel, hn⟩, hs⟩, hc⟩, hlex⟩ := hB
  have hn' : k < ol.length := by simpa using hn
  have htl : (ol.take k).length = k := by simp; omega
  have hdl : (ol.drop k).length = ol.toArray.size - k := by simp
  have inv0 : HeadInv .any ol.toArray k (Array.replicate ol.toArray.size false) :=
    ⟨by simp, fun j oj _ hl => (by rw [getD_replicate_false] at hl; cases hl), fun t _ ht => getD_in (by simpa using ht) (getD_replicate_false _ _)⟩
  have H := wpAnyL_lex (md := .any) (g := ol.toArray.size - k) hsel hs hc hn (ol.take k) 0 _ a (fun j hj => by
    have hj' : j < k := by rw [htl] at hj; exact hj
    simp [hj']) (by simpa using htl) inv0 (by rw [htl]; exact hlex) h
  refine wpIn_region_any hm (anyIn_of_any hd hL _ _ _ _ ?_)
  have := wpAny_of_head (Q' := Q) (g := ol.toArray.size - k) (fun listed a' hLs => by
    have := wpAny_of_seq (md := .any) (Q' := Q) (ol.drop k) k listed a' { w with drawn := w.drawn + 1 } (fun j => by simp [List.getElem?_drop]) (by rw [hdl]; exact hLs.1) hLs.2
    rwa [hdl] at this) _ _ _ H
  rw [htl, show k + (ol.toArray.size - k) = ol.toArray.size by omega] at this
  exact this
theorem rangePost_noLet {Kp : Nat → Prop} {N : (Nat → Prop) → World → Prop} {Ix : Code → (Nat → Prop) → World → Prop} {S : Nat → Prop} {W : World} : ¬ LetsOut (rangePostX Kp N Ix S W) := by
  rintro ⟨_, _, h⟩; exact h
end Go.Proofs.YtogeohjeabbmaaaDoor

/-
  A region that draws its order and ends by writing a cell that it reads: the condition is held up to its last operation.
-/
set_option linter.unusedSimpArgs false
set_option linter.unusedVariables false
namespace Go.Proofs.YtogeohjeabbmaaaDoor
open Go.RowKit

section
variable {P : Program} {ops : Array Oper} {Q : Exit → Act → World → Prop} {md : Region.Mode} {S : World → Prop} {L : Nat}

/-- Whatever order is picked, S holds behind every operation but number L. -/
def wpAnyF (P : Program) (md : Region.Mode) (ops : Array Oper) (Q : Exit → Act → World → Prop) (S : World → Prop) (L : Nat) : Nat → Array Bool → Act → World → Prop
  | 0, listed, a, w => Region.ready md ops listed = [] ∧ Q .normal a w
  | fuel + 1, listed, a, w =>
    (Region.ready md ops listed = [] → Q .normal a w) ∧
    ∀ i ∈ Region.ready md ops listed, wpOp P ops Q i (fun a' w' => (i ≠ L → S w') ∧ wpAnyF P md ops Q S L fuel (listed.setIfInBounds i true) a' w') a w
theorem wpAny_of_heldF : ∀ (fuel : Nat) (listed : Array Bool) (a : Act) (w : World), wpAnyF P md ops Q S L fuel listed a w → wpAny P md ops Q fuel listed a w
  | 0, _, _, _, h => h
  | fuel + 1, _, _, _, h => ⟨h.1, fun i hi => wpOp_mono (fun a' w' h' => wpAny_of_heldF fuel _ a' w' h'.2) (h.2 i hi)⟩
theorem wpAnyF_first {i : Nat} {oi : Oper} {v : Value} (hi : ops[i]? = some oi) (hsel : ∀ (j : Nat) (o : Oper) cs b, ops[j]? = some o → o.op ≠ .select cs b)
    (hQ : ∀ c a w, Q (.panic c) (a.put oi.dst v) w → Q (.panic c) a w) (hL : ∀ oL, ops[L]? = some oL → ∃ e ∈ oL.after, Region.binds md e = true ∧ e.on = i) :
    ∀ (fuel : Nat) (listed : Array Bool) (a : Act) (w : World),
      (∀ j oj, ops[j]? = some oj → j ≠ i → listed.getD j true = false → (∀ e ∈ oj.after, Region.binds md e = true → e.on ≠ i) → oi.apart ops oj = true) →
      i ∈ Region.ready md ops listed → YieldsIf P ops S oi v a → S w →
      wpAnyF P md ops Q S L fuel (listed.setIfInBounds i true) (a.put oi.dst v) w → wpAnyF P md ops Q S L (fuel + 1) listed a w := by
  intro fuel
  induction fuel with
  | zero =>
    intro listed a w _ hr hy hS H
    refine ⟨fun h => (by rw [h] at hr; cases hr), fun j hj => ?_⟩
    by_cases hji : j = i
    · subst hji; exact hy.wpOp hi hS ⟨fun _ => hS, H⟩
    · have := ready_mono hj hji
      rw [H.1] at this
      cases this
  | succ fuel ih =>
    intro listed a w hfree hr hy hS H
    refine ⟨fun h => (by rw [h] at hr; cases hr), fun j hj => ?_⟩
    by_cases hji : j = i
    · subst hji; exact hy.wpOp hi hS ⟨fun _ => hS, H⟩
    · have h1 := H.2 j (ready_mono hj hji)
      obtain ⟨hjun, oj, hoj, hall⟩ := mem_ready.1 hj
      have hnot : ∀ e ∈ oj.after, Region.binds md e = true → e.on ≠ i := fun e he hb heq => by
        have h1 := hall e he hb
        have h0 := (mem_ready.1 hr).1
        rw [heq] at h1
        rcases Nat.lt_or_ge i listed.size with h' | h'
        · simp [h'] at h0 h1; rw [h0] at h1; cases h1
        · simp [Array.getElem?_eq_none h'] at h1
      have hjL : j ≠ L := fun e => by
        subst e
        obtain ⟨e1, he, hb, hon⟩ := hL oj hoj
        exact hnot e1 he hb hon
      have h2 := wpOp_putIf hoj (hfree j oj hoj hji hjun hnot) (fun cs b => hsel i oi cs b hi) (fun cs b => hsel j oj cs b hoj) hQ hy h1
      have hfree' : ∀ k ok, ops[k]? = some ok → k ≠ i → (listed.setIfInBounds j true).getD k true = false →
          (∀ e ∈ ok.after, Region.binds md e = true → e.on ≠ i) → oi.apart ops ok = true := fun k ok hk hki hun hno => by
        refine hfree k ok hk hki ?_ hno
        by_cases hjk : j = k
        · subst hjk; exact hjun
        · rw [getD_set_ne true hjk] at hun; exact hun
      refine wpOp_mono (fun a' w' h3 => ⟨fun _ => h3.2.1 hjL, ih (listed.setIfInBounds j true) a' w' hfree' (ready_mono hr (Ne.symm hji)) h3.1 (h3.2.1 hjL) ?_⟩) h2
      rw [Array.setIfInBounds_comm _ _ hji]
      exact h3.2.2
/-- Number L waits for number i. -/
def waitsB (md : Region.Mode) (ops : Array Oper) (L i : Nat) : Bool := match ops[L]? with | some o => o.after.any (fun e => Region.binds md e && e.on == i) | none => true
theorem waits_spec {md : Region.Mode} {ops : Array Oper} {L i : Nat} (h : waitsB md ops L i = true) : ∀ oL, ops[L]? = some oL → ∃ e ∈ oL.after, Region.binds md e = true ∧ e.on = i := by
  intro oL ho
  unfold waitsB at h
  rw [ho] at h
  obtain ⟨k, hk, h2⟩ := Array.any_eq_true.1 h
  simp only [Bool.and_eq_true, beq_iff_eq] at h2
  exact ⟨_, Array.getElem_mem hk, h2.1, h2.2⟩
theorem wpAnyF_take {i : Nat} {oi : Oper} {v : Value} {fuel : Nat} {listed : Array Bool} {a : Act} {w : World} (hi : ops[i]? = some oi)
    (hs : Region.noSelect ops = true) (hf : Region.free md ops listed i = true) (hr : (Region.ready md ops listed).contains i = true) (hL : waitsB md ops L i = true)
    (hQ : ∀ c a w, Q (.panic c) (a.put oi.dst v) w → Q (.panic c) a w) (hy : YieldsIf P ops S oi v a) (hS : S w)
    (h : wpAnyF P md ops Q S L fuel (listed.setIfInBounds i true) (a.put oi.dst v) w) : wpAnyF P md ops Q S L (fuel + 1) listed a w :=
  wpAnyF_first hi (Region.noSelect_spec hs) hQ (waits_spec hL) fuel listed a w (Region.free_spec hi hf) (by simpa using hr) hy hS h
theorem wpAnyF_one {i : Nat} {o : Oper} {fuel : Nat} {listed : Array Bool} {a : Act} {w : World} (hr : Region.ready md ops listed = [i]) (ho : ops[i]? = some o)
    (h : ∀ K' : Act → World → Prop, Shut (∀ a w, (i ≠ L → S w) → wpAnyF P md ops Q S L fuel (listed.setIfInBounds i true) a w → K' a w) → if Region.wanted o (yielded ops a.tmps) = true then Oper.wp P o a w K' Q else K' (a.put o.dst undef) w) :
    wpAnyF P md ops Q S L (fuel + 1) listed a w :=
  ⟨fun h0 => absurd (hr ▸ h0) (by simp), fun j hj => by
    rw [hr] at hj
    have : j = i := by simpa using hj
    subst this
    exact wpOp_step ho (fun K' hK => h K' (fun a w hS hW => hK a w ⟨hS, hW⟩))⟩
theorem wpAnyF_done {listed : Array Bool} {a : Act} {w : World} (hr : Region.ready md ops listed = []) (h : Q .normal a w) :
    ∀ fuel, wpAnyF P md ops Q S L fuel listed a w
  | 0 => ⟨hr, h⟩
  | _ + 1 => ⟨fun _ => h, by rw [hr]; simp⟩
end
/-- In the body of a range over a function. -/
theorem wpIn_round_heldF {l n : Nat} {P : Program} {id : Nat} {Q : Exit → Act → World → Prop} {a : Act} {w : World} {ol : List Oper} (S : World → Prop) (L : Nat) (hm : P.follows .mixedOrders = true)
    (hd : ol.toArray.all (fun o => noDefer o.op) = true) (hL : ¬ LetsOut Q)
    (h : wpAnyF P .any ol.toArray Q S L ol.toArray.size (Array.replicate ol.toArray.size false) a w.drew) :
    (Code.region id ol.toArray true).wpIn (Fence.wide.inRound l) n P Q a w :=
  wpIn_region_any hm (anyIn_of_any hd hL _ _ _ _ (wpAny_of_heldF _ _ _ _ h))
theorem inBlock_noLet {id : Nat} {Q : Exit → Act → World → Prop} (h : ¬ LetsOut Q) : ¬ LetsOut (Exit.inBlock id Q) := by
  rintro ⟨a, w, h'⟩; exact h ⟨a, w, h'⟩
end Go.Proofs.YtogeohjeabbmaaaDoor

/-
  Drawing regions that hold some memory, walked operation by operation; rows; structs that are built.
-/
set_option linter.unusedSimpArgs false
set_option linter.unusedVariables false
set_option maxRecDepth 100000
namespace Go.Proofs.YtogeohjeabbmaaaDoor
open Go.RowKit

theorem wpList_build_agg {P : Program} {ops : Array Oper} {rest : List Oper} {o : Oper} {a : Act} {w : World} {Q : Exit → Act → World → Prop} (hgd : o.guard = none) (t : TypeId) (parts : Array (Nat × Operand)) (ho : o.op = .build t parts) (cells : Array Value)
    (vals : List (Nat × Value)) (hv : parts.toList.map (fun (i, x) => (i, a.eval x)) = vals) (hb : P.built t vals = some cells) (h : wpList P ops Q rest (a.put o.dst (.agg cells)) w) : wpList P ops Q (o :: rest) a w :=
  wpList_plain hgd fun _ hK => by
    have hv' : (parts.map fun (i, x) => (i, a.eval x)).toList = vals := by rw [Array.toList_map]; exact hv
    subst hv'
    unfold Oper.wp execOp
    simp only [ho, Sem.run_bind, run_build w t _ cells hb, Result.andThen_ok]
    exact hK _ _ h

theorem wp_region_heldF {P : Program} {id : Nat} {Q : Exit → Act → World → Prop} {a : Act} {w : World} {ol : List Oper} (S : World → Prop) (L : Nat) (hm : P.follows .mixedOrders = true)
    (h : wpAnyF P .any ol.toArray Q S L ol.toArray.size (Array.replicate ol.toArray.size false) a w.drew) :
    (Code.region id ol.toArray true).wp P Q a w := wp_region_any hm (wpAny_of_heldF _ _ _ _ h)
theorem run_load_agg {P : Program} {e : Operand → Value} {o : Oper} {w : World} {ty : TypeId} {x : Operand} (ho : o.op = .load ty x) {g : Nat} (hx : e x = .pointer (some ⟨g, 0, none⟩)) {t : TypeId} {cs : Array Value} {fr : Nat × Nat} {d : TypeDesc}
    (hg : w.heap[g]? = some (.cells cs t fr)) (hu : P.underlying ty = some d) (hd : (match d with | .struct _ | .array _ _ => true | _ => false) = true) (hi : (P.info? ty).map (·.size) = some cs.size) : (execOp e o).run P w = .ok (.value (.agg cs)) w := by
  unfold execOp
  simp only [ho, hx, Instr.loadAt, Instr.sureAddr, Sem.run_bind, Sem.run_pure, Result.andThen_ok, run_loadVar_row w g t ty cs fr d hg hu hd hi]

/-- The same post, but for a panic. -/
def noPanic (Q : Exit → Act → World → Prop) : Exit → Act → World → Prop
  | .panic _, _, _ => False
  | .normal, a, w => Q .normal a w
  | .ret, a, w => Q .ret a w
  | .exit id, a, w => Q (.exit id) a w
  | .goto l, a, w => Q (.goto l) a w
  | .outgrown, a, w => Q .outgrown a w
theorem noPanic_imp {Q : Exit → Act → World → Prop} : ∀ e a w, noPanic Q e a w → Q e a w
  | .panic _, _, _, h => h.elim
  | .normal, _, _, h => h
  | .ret, _, _, h => h
  | .exit _, _, _, h => h
  | .goto _, _, _, h => h
  | .outgrown, _, _, h => h
theorem noPanic_normal {Q : Exit → Act → World → Prop} {a : Act} {w : World} (h : Q .normal a w) : noPanic Q .normal a w := h
theorem wp_region_heldQ {P : Program} {id : Nat} {Q : Exit → Act → World → Prop} {a : Act} {w : World} {ol : List Oper} (S : World → Prop) (L : Nat) (hm : P.follows .mixedOrders = true)
    (h : wpAnyF P .any ol.toArray (noPanic Q) S L ol.toArray.size (Array.replicate ol.toArray.size false) a w.drew) :
    (Code.region id ol.toArray true).wp P Q a w := wp_mono (wp_region_heldF S L hm h) noPanic_imp
section
variable {P : Program} {ops : Array Oper} {Q : Exit → Act → World → Prop} {md : Region.Mode} {S : World → Prop} {L : Nat}
/-- Two are ready: either may be first. -/
theorem wpAnyF_two {i j : Nat} {o o' : Oper} {fuel : Nat} {listed : Array Bool} {a : Act} {w : World} (hr : Region.ready md ops listed = [i, j]) (ho : ops[i]? = some o) (ho' : ops[j]? = some o')
    (h : ∀ K' : Act → World → Prop, Shut (∀ a w, (i ≠ L → S w) → wpAnyF P md ops Q S L fuel (listed.setIfInBounds i true) a w → K' a w) → if Region.wanted o (yielded ops a.tmps) = true then Oper.wp P o a w K' Q else K' (a.put o.dst undef) w)
    (h' : ∀ K' : Act → World → Prop, Shut (∀ a w, (j ≠ L → S w) → wpAnyF P md ops Q S L fuel (listed.setIfInBounds j true) a w → K' a w) → if Region.wanted o' (yielded ops a.tmps) = true then Oper.wp P o' a w K' Q else K' (a.put o'.dst undef) w) :
    wpAnyF P md ops Q S L (fuel + 1) listed a w :=
  ⟨fun h0 => absurd (hr ▸ h0) (by simp), fun k hk => by
    rw [hr] at hk
    rcases List.mem_cons.1 hk with rfl | hk
    · exact wpOp_step ho (fun K' hK => h K' (fun a w hS hW => hK a w ⟨hS, hW⟩))
    · have : k = j := by simpa using hk
      subst this
      exact wpOp_step ho' (fun K' hK => h' K' (fun a w hS hW => hK a w ⟨hS, hW⟩))⟩
end
theorem step_store_row {P : Program} {ops : Array Oper} {o : Oper} {a : Act} {w : World} {K : Act → World → Prop} {Q : Exit → Act → World → Prop} {E : Prop} (hgd : o.guard = none) (ty : TypeId) (x y : Operand) (ho : o.op = .store ty x y)
    (g : Nat) (cells : Array Value) (hx : a.eval x = .pointer (some ⟨g, 0, none⟩)) (hy : a.eval y = .agg cells)
    (t : TypeId) (old : Array Value) (hg : w.heap[g]? = some (.cells old t (0, 0))) (hi : (P.info? ty).map (·.size) = some cells.size)
    (hold : old.size = cells.size) (h1 : cells.all (·.oneCell') = true)
    (h : K (a.put o.dst undef) (w.setRow g cells)) : if Region.wanted o (yielded ops a.tmps) = true then Oper.wp P o a w K Q else E := by
  rw [if_pos (by unfold Region.wanted; rw [hgd])]
  exact wp_store_row ty x y ho g cells hx hy t old hg hi hold h1 h
theorem step_binop {P : Program} {ops : Array Oper} {o : Oper} {a : Act} {w : World} {K : Act → World → Prop} {Q : Exit → Act → World → Prop} {E : Prop} (hgd : o.guard = none) (b : BinOp) (t ty : TypeId) (x y : Operand) (ho : o.op = .binOp b t x y ty)
    {v : Value} (heq : (eqGuard b t x y (a.eval x) (a.eval y)).run P w = .ok () w) (hrun : (binOp b t (a.eval x) (a.eval y)).run P w = .ok v w) (h : K (a.put o.dst v) w) : if Region.wanted o (yielded ops a.tmps) = true then Oper.wp P o a w K Q else E := by
  rw [if_pos (by unfold Region.wanted; rw [hgd])]
  unfold Oper.wp execOp
  simp only [ho, Sem.run_bind, heq, hrun, Result.andThen_ok]
  exact h
theorem run_build_agg {P : Program} {e : Operand → Value} {o : Oper} {w : World} {t : TypeId} {parts : Array (Nat × Operand)} {vals : List (Nat × Value)} {cells : Array Value} (ho : o.op = .build t parts) (hv : parts.toList.map (fun (i, x) => (i, e x)) = vals) (hb : P.built t vals = some cells) :
    (execOp e o).run P w = .ok (.value (.agg cells)) w := by
  have hv' : (parts.map fun (i, x) => (i, e x)).toList = vals := by rw [Array.toList_map]; exact hv
  subst hv'
  unfold execOp
  simp only [ho, Sem.run_bind, run_build w t _ cells hb, Result.andThen_ok]
  rfl
theorem guard_agg {P : Program} {t : TypeId} (e : P.eqGuardType P.depth t = false) (op : BinOp) (x y : Operand) (s u : Array Value) (w : World) : (eqGuard op t x y (.agg s) (.agg u)).run P w = .ok () w := by
  unfold eqGuard
  split <;> simp [Sem.run_bind, e]

theorem wpList_binop {P : Program} {ops : Array Oper} {rest : List Oper} {o : Oper} {a : Act} {w : World} {Q : Exit → Act → World → Prop} (hgd : o.guard = none) (b : BinOp) (t ty : TypeId) (x y : Operand) (ho : o.op = .binOp b t x y ty)
    {v : Value} (heq : (eqGuard b t x y (a.eval x) (a.eval y)).run P w = .ok () w) (hrun : (binOp b t (a.eval x) (a.eval y)).run P w = .ok v w) (h : wpList P ops Q rest (a.put o.dst v) w) : wpList P ops Q (o :: rest) a w :=
  wpList_plain hgd fun K hK => by
    unfold Oper.wp execOp
    simp only [ho, Sem.run_bind, heq, hrun, Result.andThen_ok]
    exact hK _ _ h

theorem row_block {w : World} {base : Nat} {e : TypeId} {size : Nat} {sp : Option Addr} {cap n : Nat} {xs : List Value} (h : w.ownsRow base e size (.slice sp n cap) n xs) (hn : 0 < n) :
    ∃ g cur, sp = some ⟨g, 0, none⟩ ∧ base ≤ g ∧ w.heap[g]? = some (.cells cur e (0, 0)) ∧ n ≤ cap ∧ cap ≤ maxLen ∧ cur.size = cap * size ∧ cur.toList.take (n * size) = xs := by
  rcases h.2 with ⟨hv, h0⟩ | ⟨g, cap', cur, hv, hb, hg, h1, h2, h3, h4⟩
  · omega
  · cases hv
    exact ⟨g, cur, rfl, hb, hg, h1, h2, h3, h4⟩
theorem row_cap {w : World} {base : Nat} {e : TypeId} {size : Nat} {sp : Option Addr} {cap n : Nat} {xs : List Value} (h : w.ownsRow base e size (.slice sp n cap) n xs) : sp = none → cap = 0 := by
  rintro rfl
  rcases h.2 with ⟨hv, h0⟩ | ⟨g, cap', cur, hv, _⟩
  · cases hv; rfl
  · cases hv
end Go.Proofs.YtogeohjeabbmaaaDoor

/-
  append of zeros, and copy, at rows whose elements take several cells.
-/
set_option linter.unusedSimpArgs false
set_option linter.unusedVariables false
namespace Go.Proofs.YtogeohjeabbmaaaDoor
open Go.RowKit

section
variable {P : Program}
theorem run_append_zeros_grow (w : World) (t tn ty e : TypeId) (i : TypeInfo) (z : Value) (k kn : IntKind) (ht : P.underlying t = some (.slice e)) (htn : P.underlying tn = some (.int kn)) (hi : P.info? e = some i) (hz : i.zero = some z)
    (b : Addr) (sLen sCap : Nat) (olds : List Value) (hlo : olds.length = sLen * i.size) (holds : ∀ j v, olds[j]? = some v → w.cell? (b.add j) = some v)
    (m : Nat) (h0 : 0 < m) (hs : 0 < i.size) (hg : sCap < sLen + m) (h63 : sLen + m ≤ 4611686018427387904) (hm48 : m * i.bytes ≤ 140737488355328) (hfit : Builtin.nextslicecap (sLen + m) sCap * i.bytes ≤ 281474976710656) :
    (Builtin.append_ #[t, tn] ty #[.slice (some b) sLen sCap, .int k m]).run P w =
      .ok (.slice (some ⟨w.heap.size, 0, none⟩) (sLen + m) (grownCap w (sLen + m) sCap e))
        (w.drew.alloc (.cells (olds.toArray ++ Builtin.zeroCells z.cells m ++ Builtin.zeroCells z.cells (grownCap w (sLen + m) sCap e - (sLen + m))) e)) := by
  have hn : ¬ (sLen + m ≤ sCap) := by omega
  have hm : m ≠ 0 := by omega
  have hw : IntKind.i64.wrap (m : Int) = m := by rw [IntKind.wrap_i64]; omega
  have h63' : ¬ (9223372036854775807 < (m : Int)) := by omega
  have h63'' : ¬ (9223372036854775807 < ((sLen : Int) + (m : Int))) := by omega
  have h48' : ¬ (281474976710656 < Builtin.nextslicecap (sLen + m) sCap * i.bytes) := by omega
  have h48i : ¬ (281474976710656 < (m : Int) * (i.bytes : Int)) := by
    rw [← Int.natCast_mul]
    omega
  have hneg : ¬ ((m : Int) < 0) := by omega
  have hns : ¬ (m * i.size = 0) := Nat.mul_ne_zero hm (by omega)
  have hfo := run_firstCells_some (P := P) w.drew i.size sLen b sLen sCap olds hlo (by simpa using holds)
  simp [Builtin.append_, run_underlying ht, run_underlying htn, sizeOf, typeInfo, zeroValue, hi, hz, asInt, asIntOf, hw, hm, hn, hneg, hns, h63', h63'', h48', h48i, Question.forced, hfo, newRow, grownCap, Builtin.lenOf]
  try (congr 2; apply Array.ext'; simp [List.append_assoc])
theorem run_copy_rowk (w : World) (dT sT ty elem : TypeId) (K g o dLen dCap : Nat) (a : Addr) (sLen sCap : Nat) (cur : Array Value) (t : TypeId) (cs : List Value)
    (hu : P.underlying dT = some (.slice elem)) (hs : (P.info? elem).map (·.size) = some K)
    (hg : w.heap[g]? = some (.cells cur t (0, 0))) (hn : cs.length = Nat.min sLen dLen * K)
    (hsrc : ∀ j v, cs[j]? = some v → w.cell? (a.add j) = some v) (hfit : o + cs.length ≤ cur.size) (h1 : ∀ v ∈ cs, v.oneCell' = true) :
    (Builtin.copy_ #[dT, sT] ty #[.slice (some ⟨g, o, none⟩) dLen dCap, .slice (some a) sLen sCap]).run P w =
      .ok (goInt (Nat.min sLen dLen)) (w.setRow g (cur.toList.take o ++ cs ++ cur.toList.drop (o + cs.length)).toArray) := by
  have hl := run_loadCells_list (P := P) w a cs hsrc
  have hst := run_storeCells_at P g o t cs 0 cur w hg (by simpa using hfit) h1
  cases hq : P.info? elem with
  | none => simp [hq] at hs
  | some i =>
    have hi : i.size = K := by simpa [hq] using hs
    simp [Builtin.copy_, run_underlying hu, Builtin.lenOf, Builtin.firstCells, sizeOf, typeInfo, hq, hi, ← hn, hl, hst]
theorem wp_copy_run' (w : World) {o : Oper} {a : Act} {K : Act → World → Prop} {Q : Exit → Act → World → Prop} (d s : Operand) (t t' : TypeId)
    (ho : o.op = .call { callee := .builtin .copy, args := #[d, s], argTypes := #[t, t'] }) (v u : Value) (hd : a.eval d = v) (hs : a.eval s = u) {v' : Value} {w' : World}
    (hr : (Builtin.copy_ #[t, t'] o.type #[v, u]).run P w = .ok v' w') (h : K (a.put o.dst v') w') : o.wp P a w K Q := by
  unfold Oper.wp execOp
  simp only [ho, resolve, invoke, builtin, Sem.run_bind, Sem.run_pure, Result.andThen_ok, List.map_toArray, List.map_cons, List.map_nil, hd, hs, hr]
  exact h
theorem wpList_copy_run' (w : World) {ops : Array Oper} {rest : List Oper} {o : Oper} {a : Act} {Q : Exit → Act → World → Prop} (hgd : o.guard = none) (d s : Operand) (t t' : TypeId)
    (ho : o.op = .call { callee := .builtin .copy, args := #[d, s], argTypes := #[t, t'] }) (v u : Value) (hd : a.eval d = v) (hs : a.eval s = u) {v' : Value} {w' : World}
    (hr : (Builtin.copy_ #[t, t'] o.type #[v, u]).run P w = .ok v' w') (h : wpList P ops Q rest (a.put o.dst v') w') : wpList P ops Q (o :: rest) a w :=
  wpList_plain hgd fun _ hK => wp_copy_run' w d s t t' ho v u hd hs hr (hK _ _ h)
theorem step_copy_run' {ops : Array Oper} {o : Oper} {a : Act} {w : World} {K : Act → World → Prop} {Q : Exit → Act → World → Prop} {E : Prop}
    (hg : o.guard = none) (d x : Operand) (dT sT : TypeId) (hop : o.op = Op.call { callee := Callee.builtin Builtin.copy, args := #[d, x], argTypes := #[dT, sT] })
    (v u : Value) (hd : a.eval d = v) (hx : a.eval x = u) {v' : Value} {w' : World} (hr : (Builtin.copy_ #[dT, sT] o.type #[v, u]).run P w = .ok v' w') (hK : K (a.put o.dst v') w') :
    if Region.wanted o (yielded ops a.tmps) = true then Oper.wp P o a w K Q else E := by
  have hw : Region.wanted o (yielded ops a.tmps) = true := by simp [Region.wanted, hg]
  rw [if_pos hw]
  exact wp_copy_run' w d x dT sT hop v u hd hx hr hK
end
end Go.Proofs.YtogeohjeabbmaaaDoor

/-
  Ranges over functions whose iterator tells values out of memory of its own, which the body may read: what was told so far is a list, and what the iterator says of it stands beside it.
-/
set_option linter.unusedVariables false
set_option linter.unusedSimpArgs false
namespace Go.Proofs.YtogeohjeabbmaaaDoor
open Go.RowKit

abbrev Vs := List (Array Value)

/-- WHAT AN ITERATOR VALUE PROMISES: it tells N times, and Y holds of what it has told so far, at each telling and at the end. S0: the blocks that are its own. RO: blocks that the body leaves alone. -/
def SeqItH (F : Fence) (n : Nat) (P : Program) (gf : Nat) (lb : Array Value) (N : Nat) (Y : Vs → (Nat → Prop) → World → Prop) (S0 RO : Nat → Prop) (w : World) : Prop :=
  ∀ (l : Nat) (J Jx : Vs → (Nat → Prop) → World → Prop) (W : World),
    (∀ vs, Stable (J vs)) → (∀ vs, Stable (Jx vs)) → Below w.heap.size w W →
    (∀ vs v S1 W1, J vs S1 W1 → vs.length < N → Y (vs ++ [v]) S1 W1 → YieldAt F (n - 1) P l v W1 fun e W' =>
      (e = .returned (.bool true) ∧ J (vs ++ [v]) S1 W' ∧ Kept (fun b => RO b ∨ S1 b) W1 W') ∨ (e = .returned (.bool false) ∧ Jx (vs ++ [v]) S1 W' ∧ Kept (fun b => RO b ∨ S1 b) W1 W')) →
    J [] S0 W →
    CallsIn F n P gf (#[.func (.yield l) #[] #[]] ++ lb) W fun e W' => (∃ v, e = .returned v) ∧ ((∃ S' vs, vs.length = N ∧ Y vs S' W' ∧ J vs S' W') ∨ (∃ S' vs, Y vs S' W' ∧ Jx vs S' W'))

/-- A body leaves what the iterator says alone. -/
def KeepsY (RO : Nat → Prop) (Y : Vs → (Nat → Prop) → World → Prop) : Prop := ∀ vs S W W', Y vs S W → Kept (fun b => RO b ∨ S b) W W' → Y vs S W'

section
variable {F : Fence} {n : Nat} {P : Program}

theorem wpIn_range_coreH {ps : Array Tmp} {assign body : Code} {Q : Exit → Act → World → Prop} {a : Act} {w W1 : World} {fn L dn : Nat} {mark : List Deferred} {rec : LoopState → Option Code → Loop}
    (hfn : F.fn fn) (hrec : rec = fun st pe => { state := st, pending := pe, fn, tmps := a.tmps, params := ps, assign, body, defers := dn })
    {gf : Nat} {lb : Array Value} {N : Nat} {Y : Vs → (Nat → Prop) → World → Prop} {S0 RO M : Nat → Prop} (hseq : SeqItH F (n - 1) P gf lb N Y S0 RO w) (hY : KeepsY RO Y) (hS0 : ∀ b, S0 b → b < w.heap.size) (hps : ∀ vs v S W, Y (vs ++ [v]) S W → v.size = ps.size)
    (hRO : ∀ b, RO b → b < w.heap.size ∧ ¬ S0 b)
    (hML : M L) (hM : ∀ b, M b → w.heap.size ≤ b ∧ b < W1.heap.size) (hL1 : W1.heap[L]? = some (.loop (rec .ready none))) (hb1 : Below w.heap.size w W1)
    (I : Vs → (Nat → Prop) → World → Prop) (Ix : Code → Vs → (Nat → Prop) → World → Prop) (hI : ∀ vs, Stable (I vs)) (hIx : ∀ c vs, Stable (Ix c vs)) (h0 : I [] S0 w)
    (Ax : Vs → Array Value → Act → (Nat → Prop) → World → Prop) (hAx : ∀ vs v a₁, Stable (Ax vs v a₁))
    (hassign : ∀ (l : Nat) (vs : Vs) (v : Array Value) (S S1 : Nat → Prop) (W : World), vs.length < N → S l → (∀ b, S1 b → S b) → (∀ b, RO b → ¬ S b) → (∀ b, S b → b < W.heap.size) → Y (vs ++ [v]) S1 W → I vs S W →
      assign.wpIn (F.inRound l) (n - 1 - 1) P (Exit.then (fun a₁ W₁ => Ax vs v a₁ S W₁ ∧ Kept (fun b => RO b ∨ S b) W W₁) (fun _ _ _ => False)) { tmps := (ps.zip v).foldl (fun t (p, v) => t.setIfInBounds p v) a.tmps, defers := [] } W)
    (hbody : ∀ (l : Nat) (vs : Vs) (v : Array Value) (S S1 : Nat → Prop) (a₁ : Act) (W : World) (r : Loop), vs.length < N → S l → (∀ b, S1 b → S b) → W.heap[l]? = some (.loop r) → (∀ b, RO b → ¬ S b) → (∀ b, S b → b < W.heap.size) → Y (vs ++ [v]) S1 W → Ax vs v a₁ S W →
      body.wpIn (F.inRound l) (n - 1 - 1) P (rangePostX (fun b => RO b ∨ S b) (I (vs ++ [v])) (fun c => Ix c (vs ++ [v])) S W) a₁ W)
    (hdone : ∀ (S S1 : Nat → Prop) (vs : Vs) (W : World), (∀ b, RO b → ¬ S b) → (∀ b, M b → S b) → (∀ b, S1 b → S b) → (∀ b, M b → ¬ S1 b) → vs.length = N → Y vs S1 W → I vs S W → (∀ b, M b → b ≠ L → W.heap[b]? = W1.heap[b]?) → Q .normal { a with defers := mark ++ a.defers } W)
    (hstop : ∀ (c : Code) (vs : Vs) (S S1 : Nat → Prop) (W : World), (∀ b, RO b → ¬ S b) → (∀ b, M b → S b) → (∀ b, S1 b → S b) → (∀ b, M b → ¬ S1 b) → Y vs S1 W → Ix c vs S W → (∀ b, M b → b ≠ L → W.heap[b]? = W1.heap[b]?) → c.wpIn F n P Q { a with defers := mark ++ a.defers } W) :
    CallsIn F (n - 1) P gf (#[.func (.yield L) #[] #[]] ++ lb) W1 (rangePost F n P L Q { a with defers := mark ++ a.defers }) := by
  have hst : ∀ st pe, (rec st pe).state = st ∧ (rec st pe).pending = pe := by intro st pe; rw [hrec]; exact ⟨rfl, rfl⟩
  have hw1 := hb1.size
  have hf1 : Foreign S0 (plusM S0 M) w W1 :=
    ⟨hb1.os, hb1.tape, hb1.output, hb1.size, fun b h => .inl h, fun b h => h.elim .inl (fun h => .inr (hM b h)), fun b hb _ => hb1.block b hb⟩
  have hI1 : I [] (plusM S0 M) W1 := hI [] _ _ _ _ h0 hf1
  have hLw := hM L hML
  -- beside I
  let Z : (Nat → Prop) → World → Prop := fun S W => (∀ b, M b → ¬ S b) ∧ (∀ b, RO b → ¬ S b) ∧ W1.heap.size ≤ W.heap.size ∧ (∀ b, M b → b ≠ L → W.heap[b]? = W1.heap[b]?) ∧ (∀ b, S b → b < W.heap.size)
  have hZ : Stable Z := by
    intro S S' W W' hz hf
    obtain ⟨z1, z2, z3, z4, z5⟩ := hz
    have hfs := hf.size
    refine ⟨fun b hb => hf.not (by have := hM b hb; omega) (z1 b hb), fun b hb => hf.not (by have := hRO b hb; omega) (z2 b hb), by omega, fun b hb hne => (hf.block b (by have := hM b hb; omega) (z1 b hb)).trans (z4 b hb hne), fun b hb => ?_⟩
    rcases hf.fresh b hb with h | h
    · have := z5 b h; omega
    · exact h.2
  have hRS : ∀ S W, Z S W → ∀ b, RO b → ¬ plusM S M b := by
    intro S W hz b hb hs
    rcases hs with hs | hs
    · exact hz.2.1 b hb hs
    · have := hM b hs; have := hRO b hb; omega
  -- the body's word leaves Z alone
  have hZk : ∀ S W W', Z S W → Kept (fun b => RO b ∨ plusM S M b) W W' → Z S W' := by
    intro S W W' hz hk
    obtain ⟨z1, z2, z3, z4, z5⟩ := hz
    exact ⟨z1, z2, Nat.le_trans z3 hk.size, fun b hb hne => (hk.block b (by have := hM b hb; omega) (.inr (.inr hb))).trans (z4 b hb hne), fun b hb => Nat.lt_of_lt_of_le (z5 b hb) hk.size⟩
  have hSB : ∀ S W, Z S W → ∀ b, plusM S M b → b < W.heap.size := by
    intro S W hz b hb
    rcases hb with hb | hb
    · exact hz.2.2.2.2 b hb
    · have := hM b hb; have := hz.2.2.1; omega
  have hZp : ∀ S W o, Z S W → Z S (W.putObj L o) := by
    intro S W o hz
    obtain ⟨z1, z2, z3, z4, z5⟩ := hz
    exact ⟨z1, z2, by simpa using z3, fun b hb hne => (World.putObj_heap_other hne).trans (z4 b hb hne), fun b hb => by simpa using z5 b hb⟩
  have hZ0 : Z S0 W1 := ⟨fun b hb hs => by have := hS0 b hs; have := hM b hb; omega, fun b hb => (hRO b hb).2, Nat.le_refl _, fun _ _ _ => rfl, fun b hb => Nat.lt_of_lt_of_le (hS0 b hb) hw1⟩
  have hMS : ∀ S : Nat → Prop, ∀ b, M b → plusM S M b := fun S b hb => .inr hb
  have hLn : ∀ S W, Z S W → ¬ (RO L ∨ S L) := by
    rintro S W hz (h | h)
    · have := hRO _ h; omega
    · exact hz.1 L hML h
  refine (hseq L
    (fun vs S W => I vs (plusM S M) W ∧ W.heap[L]? = some (.loop (rec .ready none)) ∧ Z S W)
    (fun vs S W => ∃ c, Ix c vs (plusM S M) W ∧ W.heap[L]? = some (.loop (rec .done (some c))) ∧ Z S W)
    W1 ?_ ?_ hb1 ?_ ⟨hI1, hL1, hZ0⟩).mono ?_
  · rintro k S S' W W' ⟨hi, hl, hz⟩ hf
    exact ⟨hI k _ _ _ _ hi hf.plusM, hf.heap (hz.1 L hML) hl, hZ _ _ _ _ hz hf⟩
  · rintro vs S S' W W' ⟨c, hi, hl, hz⟩ hf
    exact ⟨c, hIx c vs _ _ _ _ hi hf.plusM, hf.heap (hz.1 L hML) hl, hZ _ _ _ _ hz hf⟩
  · -- one round
    rintro vs v S W ⟨hi, hl, hz⟩ hk hYv
    have hsub : ∀ b, S b → plusM S M b := fun b hb => .inl hb
    have hy := run_yield (P := P) (args := v) hl (by rw [hrec]; exact hps _ _ _ _ hYv)
    have hy' : (Instr.yield L v).run P W = .ok (.round L fn ((ps.zip v).foldl (fun tmps (t, v) => tmps.setIfInBounds t v) a.tmps) assign body) W := by
      rw [hrec] at hy; exact hy
    refine ⟨fn, _, assign, body, hy', roundIn_of_wpIn hfn (wpIn_mono (hassign L vs v (plusM S M) S W hk (hMS S L hML) hsub (hRS S W hz) (hSB S W hz) hYv hi) ?_)⟩
    rintro e a₁ W2 hp
    cases e with
    | normal =>
      obtain ⟨hax, hk2⟩ := hp
      have hlt : L < W.heap.size := lt_of_heap hl
      have hl2 : W2.heap[L]? = some (.loop (rec .ready none)) := (hk2.block L hlt (.inr (.inr hML))).trans hl
      have hz2 := hZk _ _ _ hz hk2
      refine ⟨_, run_beginRound hl2 (hst _ _).1, ?_⟩
      obtain ⟨W3, hW3⟩ : ∃ W3, W3 = W2.putObj L (.loop { rec .ready none with state := .busy }) := ⟨_, rfl⟩
      rw [← hW3]
      have hl3 : W3.heap[L]? = some (.loop (rec .busy none)) := by
        rw [hW3, World.putObj_heap_same (lt_of_heap hl2), hrec]
      have hz3 : Z S W3 := by rw [hW3]; exact hZp _ _ _ hz2
      have hax3 : Ax vs v a₁ (plusM S M) W3 := by rw [hW3]; exact hAx vs v a₁ _ _ _ _ hax (Foreign.putObj _ _ _ (hMS S L hML))
      have hk3 : Kept (fun b => RO b ∨ S b) W W3 := by
        rw [hW3]
        exact Kept.trans (hk2.mono fun b hb => hb.elim .inl (fun h => .inr (.inl h))) (Kept.putObj _ _ _ _ (hLn _ _ hz))
      refine wpIn_mono (hbody L vs v (plusM S M) S a₁ W3 _ hk (hMS S L hML) hsub hl3 (hRS S W3 hz3) (hSB S W3 hz3) (hY _ _ _ _ hYv hk3) hax3) ?_
      have fin : ∀ (jump : Option Code) (W4 : World), Kept (fun b => RO b ∨ plusM S M b) W3 W4 →
          (Instr.endRound L jump).run P W4 = .ok (.bool jump.isNone) (W4.putObj L (.loop (rec (if jump.isNone then .ready else .done) jump))) ∧
          (W4.putObj L (.loop (rec (if jump.isNone then .ready else .done) jump))).heap[L]? = some (.loop (rec (if jump.isNone then .ready else .done) jump)) ∧
          Z S (W4.putObj L (.loop (rec (if jump.isNone then .ready else .done) jump))) ∧
          Kept (fun b => RO b ∨ S b) W (W4.putObj L (.loop (rec (if jump.isNone then .ready else .done) jump))) := fun jump W4 hk4 => by
        have hl4 := (hk4.block L (lt_of_heap hl3) (.inr (.inr hML))).trans hl3
        have := run_endRound (P := P) jump hl4
        rw [hrec] at this
        rw [hrec]
        exact ⟨this, World.putObj_heap_same (lt_of_heap hl4), hZp _ _ _ (hZk _ _ _ hz3 hk4), (hk3.trans (hk4.mono fun b hb => hb.elim .inl (fun h => .inr (.inl h)))).trans (Kept.putObj _ _ _ _ (hLn _ _ hz))⟩
      rintro e a3 W4 hp
      cases e with
      | normal =>
        obtain ⟨hk4, hi4⟩ := hp
        obtain ⟨hr, hl5, hz5, hk5⟩ := fin none W4 hk4
        exact ⟨_, _, hr, .inl ⟨rfl, ⟨hI _ _ _ _ _ hi4 (Foreign.putObj _ _ _ (hMS S L hML)), hl5, hz5⟩, hk5⟩⟩
      | ret =>
        obtain ⟨hk4, hi4⟩ := hp
        obtain ⟨hr, hl5, hz5, hk5⟩ := fin (some .ret) W4 hk4
        exact ⟨_, _, hr, .inr ⟨rfl, ⟨.ret, hIx _ _ _ _ _ _ hi4 (Foreign.putObj _ _ _ (hMS S L hML)), hl5, hz5⟩, hk5⟩⟩
      | exit id =>
        obtain ⟨hk4, hi4⟩ := hp
        obtain ⟨hr, hl5, hz5, hk5⟩ := fin (some (.exit id)) W4 hk4
        exact ⟨_, _, hr, .inr ⟨rfl, ⟨.exit id, hIx _ _ _ _ _ _ hi4 (Foreign.putObj _ _ _ (hMS S L hML)), hl5, hz5⟩, hk5⟩⟩
      | goto t =>
        obtain ⟨hk4, hi4⟩ := hp
        obtain ⟨hr, hl5, hz5, hk5⟩ := fin (some (.goto t)) W4 hk4
        exact ⟨_, _, hr, .inr ⟨rfl, ⟨.goto t, hIx _ _ _ _ _ _ hi4 (Foreign.putObj _ _ _ (hMS S L hML)), hl5, hz5⟩, hk5⟩⟩
      | panic ch => exact hp.elim
      | outgrown => exact hp.elim
    | ret => exact hp.elim
    | exit id => exact hp.elim
    | goto t => exact hp.elim
    | panic ch => exact hp.elim
    | outgrown => exact hp.elim
  · rintro e W2 ⟨⟨v, rfl⟩, (⟨S', vs, hn, hy, hi, hl, hz⟩ | ⟨S', vs, hy, c, hi, hl, hz⟩)⟩
    · refine ⟨none, _, by have := run_endLoop (P := P) hl (by rw [(hst _ _).1]; simp); rw [(hst _ _).2] at this; exact this, ?_⟩
      exact hdone (plusM S' M) S' vs _ (hRS _ _ hz) (hMS _) (fun b hb => .inl hb) hz.1 hn (hY _ _ _ _ hy (Kept.putObj _ _ _ _ (hLn _ _ hz))) (hI _ _ _ _ _ hi (Foreign.putObj _ _ _ (hMS _ L hML))) (fun b hb hne => (World.putObj_heap_other hne).trans (hz.2.2.2.1 b hb hne))
    · refine ⟨some c, _, by have := run_endLoop (P := P) hl (by rw [(hst _ _).1]; simp); rw [(hst _ _).2] at this; exact this, ?_⟩
      exact hstop c vs (plusM S' M) S' _ (hRS _ _ hz) (hMS _) (fun b hb => .inl hb) hz.1 (hY _ _ _ _ hy (Kept.putObj _ _ _ _ (hLn _ _ hz))) (hIx _ _ _ _ _ _ hi (Foreign.putObj _ _ _ (hMS _ L hML))) (fun b hb hne => (World.putObj_heap_other hne).trans (hz.2.2.2.1 b hb hne))

/-- **AN OUTERMOST RANGE OVER A FUNCTION.** -/
theorem wpIn_rangeH {g : Operand} {ps : Array Tmp} {assign body : Code} {Q : Exit → Act → World → Prop} {a : Act} {w : World}
    (hro : F.round = none) (h1 : F.depth.isSome = true → 1 ≤ n) {gf : Nat} {lb : Array Value} (hg : a.eval g = .func (.func gf) #[] lb) (hFg : F.fn gf) (eg : ∀ args w, (callFunc gf args).run P w = .ok (.enter gf args) w)
    {N : Nat} {Y : Vs → (Nat → Prop) → World → Prop} {S0 RO : Nat → Prop} (hseq : SeqItH F (n - 1) P gf lb N Y S0 RO w) (hY : KeepsY RO Y) (hS0 : ∀ b, S0 b → b < w.heap.size) (hps : ∀ vs v S W, Y (vs ++ [v]) S W → v.size = ps.size)
    (hRO : ∀ b, RO b → b < w.heap.size ∧ ¬ S0 b)
    (I : Vs → (Nat → Prop) → World → Prop) (Ix : Code → Vs → (Nat → Prop) → World → Prop) (hI : ∀ vs, Stable (I vs)) (hIx : ∀ c vs, Stable (Ix c vs)) (h0 : I [] S0 w)
    (Ax : Vs → Array Value → Act → (Nat → Prop) → World → Prop) (hAx : ∀ vs v a₁, Stable (Ax vs v a₁))
    (hassign : ∀ (l : Nat) (vs : Vs) (v : Array Value) (S S1 : Nat → Prop) (W : World), vs.length < N → S l → (∀ b, S1 b → S b) → (∀ b, RO b → ¬ S b) → (∀ b, S b → b < W.heap.size) → Y (vs ++ [v]) S1 W → I vs S W →
      assign.wpIn (F.inRound l) (n - 1 - 1) P (Exit.then (fun a₁ W₁ => Ax vs v a₁ S W₁ ∧ Kept (fun b => RO b ∨ S b) W W₁) (fun _ _ _ => False)) { tmps := (ps.zip v).foldl (fun t (p, v) => t.setIfInBounds p v) a.tmps, defers := [] } W)
    (hbody : ∀ (l : Nat) (vs : Vs) (v : Array Value) (S S1 : Nat → Prop) (a₁ : Act) (W : World) (r : Loop), vs.length < N → S l → (∀ b, S1 b → S b) → W.heap[l]? = some (.loop r) → (∀ b, RO b → ¬ S b) → (∀ b, S b → b < W.heap.size) → Y (vs ++ [v]) S1 W → Ax vs v a₁ S W →
      body.wpIn (F.inRound l) (n - 1 - 1) P (rangePostX (fun b => RO b ∨ S b) (I (vs ++ [v])) (fun c => Ix c (vs ++ [v])) S W) a₁ W)
    (hdone : ∀ (D : Nat) (S S1 : Nat → Prop) (vs : Vs) (W : World), w.heap.size ≤ D → S D → (∀ b, RO b → ¬ S b) → (∀ b, S1 b → S b) → ¬ S1 D → vs.length = N → Y vs S1 W → I vs S W → W.heap[D]? = some (.deferred (some [])) → Q .normal { a with defers := { target := .collected D, args := #[] } :: a.defers } W)
    (hstop : ∀ (D : Nat) (c : Code) (vs : Vs) (S S1 : Nat → Prop) (W : World), w.heap.size ≤ D → S D → (∀ b, RO b → ¬ S b) → (∀ b, S1 b → S b) → ¬ S1 D → Y vs S1 W → Ix c vs S W → W.heap[D]? = some (.deferred (some [])) → c.wpIn F n P Q { a with defers := { target := .collected D, args := #[] } :: a.defers } W) :
    (Code.rangeFunc g ps assign body).wpIn F n P Q a w := by
  refine wpIn_rangeFunc ?_
  intro fn hfn
  rw [hro]
  obtain ⟨rec, hrec⟩ : ∃ rec : LoopState → Option Code → Loop, rec = fun st pe => { state := st, pending := pe, fn, tmps := a.tmps, params := ps, assign, body, defers := w.heap.size } := ⟨_, rfl⟩
  obtain ⟨W1, hW1⟩ : ∃ W1, (w.alloc (.deferred (some []))).alloc (.loop (rec .ready none)) = W1 := ⟨_, rfl⟩
  have hsz : W1.heap.size = w.heap.size + 2 := by rw [← hW1]; simp
  have hL1 : W1.heap[w.heap.size + 1]? = some (.loop (rec .ready none)) := by
    rw [← hW1]; have := World.alloc_heap_new (w.alloc (.deferred (some []))) (.loop (rec .ready none)); rwa [World.size_alloc] at this
  have hK1 : W1.heap[w.heap.size]? = some (.deferred (some [])) := by
    rw [← hW1]; exact (Below.heap_alloc _ _ _ (by simp)).trans (World.alloc_heap_new w _)
  have hb1 : Below w.heap.size w W1 := by
    rw [← hW1]; exact ((Below.refl _ w).alloc (Nat.le_refl _) _).alloc (by simp) _
  refine ⟨w.heap.size + 1, [{ target := .collected w.heap.size, args := #[] }], W1, { target := .fn (.func gf) lb, args := #[.func (.yield (w.heap.size + 1)) #[] #[]] }, W1, gf,
    #[.func (.yield (w.heap.size + 1)) #[] #[]] ++ lb, W1, ?_, ?_, ?_, ?_, h1, ?_⟩
  · rw [← hW1, hrec]; exact run_enterLoop_outer _ _ _ _ _
  · simp only [resolve, hg]
    simp [go_sem]
  · intro f' hf'; simp [Target.leads] at hf'; subst hf'; exact hFg
  · simp [invoke, go_sem, eg]
  · refine wpIn_range_coreH (M := fun b => b = w.heap.size ∨ b = w.heap.size + 1) hfn (by rw [hrec]) hseq hY hS0 hps hRO (.inr rfl) (fun b hb => by omega) hL1 hb1 I Ix hI hIx h0 Ax hAx hassign hbody ?_ ?_
    · intro S S1 vs W hr hm hs hn1 hn hy hi hD
      exact hdone _ S S1 vs W (Nat.le_refl _) (hm _ (.inl rfl)) hr hs (hn1 _ (.inl rfl)) hn hy hi ((hD _ (.inl rfl) (by omega)).trans hK1)
    · intro c vs S S1 W hr hm hs hn1 hy hi hD
      exact hstop _ c vs S S1 W (Nat.le_refl _) (hm _ (.inl rfl)) hr hs (hn1 _ (.inl rfl)) hy hi ((hD _ (.inl rfl) (by omega)).trans hK1)

/-- **A RANGE OVER A FUNCTION IN THE BODY OF ANOTHER ONE.** -/
theorem wpIn_rangeNH {g : Operand} {ps : Array Tmp} {assign body : Code} {Q : Exit → Act → World → Prop} {a : Act} {w : World} {l₀ : Nat} {r₀ : Loop}
    (hro : F.round = some l₀) (hr₀ : w.heap[l₀]? = some (.loop r₀)) (h1 : F.depth.isSome = true → 1 ≤ n) {gf : Nat} {lb : Array Value} (hg : a.eval g = .func (.func gf) #[] lb) (hFg : F.fn gf) (eg : ∀ args w, (callFunc gf args).run P w = .ok (.enter gf args) w)
    {N : Nat} {Y : Vs → (Nat → Prop) → World → Prop} {S0 RO : Nat → Prop} (hseq : SeqItH F (n - 1) P gf lb N Y S0 RO w) (hY : KeepsY RO Y) (hS0 : ∀ b, S0 b → b < w.heap.size) (hps : ∀ vs v S W, Y (vs ++ [v]) S W → v.size = ps.size)
    (hRO : ∀ b, RO b → b < w.heap.size ∧ ¬ S0 b)
    (I : Vs → (Nat → Prop) → World → Prop) (Ix : Code → Vs → (Nat → Prop) → World → Prop) (hI : ∀ vs, Stable (I vs)) (hIx : ∀ c vs, Stable (Ix c vs)) (h0 : I [] S0 w)
    (Ax : Vs → Array Value → Act → (Nat → Prop) → World → Prop) (hAx : ∀ vs v a₁, Stable (Ax vs v a₁))
    (hassign : ∀ (l : Nat) (vs : Vs) (v : Array Value) (S S1 : Nat → Prop) (W : World), vs.length < N → S l → (∀ b, S1 b → S b) → (∀ b, RO b → ¬ S b) → (∀ b, S b → b < W.heap.size) → Y (vs ++ [v]) S1 W → I vs S W →
      assign.wpIn (F.inRound l) (n - 1 - 1) P (Exit.then (fun a₁ W₁ => Ax vs v a₁ S W₁ ∧ Kept (fun b => RO b ∨ S b) W W₁) (fun _ _ _ => False)) { tmps := (ps.zip v).foldl (fun t (p, v) => t.setIfInBounds p v) a.tmps, defers := [] } W)
    (hbody : ∀ (l : Nat) (vs : Vs) (v : Array Value) (S S1 : Nat → Prop) (a₁ : Act) (W : World) (r : Loop), vs.length < N → S l → (∀ b, S1 b → S b) → W.heap[l]? = some (.loop r) → (∀ b, RO b → ¬ S b) → (∀ b, S b → b < W.heap.size) → Y (vs ++ [v]) S1 W → Ax vs v a₁ S W →
      body.wpIn (F.inRound l) (n - 1 - 1) P (rangePostX (fun b => RO b ∨ S b) (I (vs ++ [v])) (fun c => Ix c (vs ++ [v])) S W) a₁ W)
    (hdone : ∀ (S S1 : Nat → Prop) (vs : Vs) (W : World), (∀ b, RO b → ¬ S b) → (∀ b, S1 b → S b) → vs.length = N → Y vs S1 W → I vs S W → Q .normal a W)
    (hstop : ∀ (c : Code) (vs : Vs) (S S1 : Nat → Prop) (W : World), (∀ b, RO b → ¬ S b) → (∀ b, S1 b → S b) → Y vs S1 W → Ix c vs S W → c.wpIn F n P Q a W) :
    (Code.rangeFunc g ps assign body).wpIn F n P Q a w := by
  refine wpIn_rangeFunc ?_
  intro fn hfn
  rw [hro]
  obtain ⟨rec, hrec⟩ : ∃ rec : LoopState → Option Code → Loop, rec = fun st pe => { state := st, pending := pe, fn, tmps := a.tmps, params := ps, assign, body, defers := r₀.defers } := ⟨_, rfl⟩
  obtain ⟨W1, hW1⟩ : ∃ W1, w.alloc (.loop (rec .ready none)) = W1 := ⟨_, rfl⟩
  have hsz : W1.heap.size = w.heap.size + 1 := by rw [← hW1]; simp
  have hL1 : W1.heap[w.heap.size]? = some (.loop (rec .ready none)) := by
    rw [← hW1]; exact World.alloc_heap_new _ _
  have hb1 : Below w.heap.size w W1 := by
    rw [← hW1]; exact (Below.refl _ w).alloc (Nat.le_refl _) _
  refine ⟨w.heap.size, [], W1, { target := .fn (.func gf) lb, args := #[.func (.yield w.heap.size) #[] #[]] }, W1, gf,
    #[.func (.yield w.heap.size) #[] #[]] ++ lb, W1, ?_, ?_, ?_, ?_, h1, ?_⟩
  · rw [← hW1, hrec]
    unfold Instr.enterLoop
    simp only [Sem.run_bind, run_getLoop hr₀, run_newObj_alloc, Result.andThen, Sem.run_pure]
  · simp only [resolve, hg]
    simp [go_sem]
  · intro f' hf'; simp [Target.leads] at hf'; subst hf'; exact hFg
  · simp [invoke, go_sem, eg]
  · refine wpIn_range_coreH (mark := []) (M := fun b => b = w.heap.size) hfn (by rw [hrec]) hseq hY hS0 hps hRO rfl (fun b hb => by omega) hL1 hb1 I Ix hI hIx h0 Ax hAx hassign hbody ?_ ?_
    · intro S S1 vs W hr hm hs hn1 hn hy hi hD
      exact hdone S S1 vs W hr hs hn hy hi
    · intro c vs S S1 W hr hm hs hn1 hy hi hD
      exact hstop c vs S S1 W hr hs hy hi
end
end Go.Proofs.YtogeohjeabbmaaaDoor

/-
  Ranges over functions whose body never goes on: one element at most is told.
-/
set_option linter.unusedVariables false
set_option linter.unusedSimpArgs false
namespace Go.Proofs.YtogeohjeabbmaaaDoor
open Go.RowKit

/-- WHAT AN ITERATOR VALUE PROMISES A BODY THAT NEVER GOES ON: it tells N times, and Y holds of what it has told so far, at each telling and at the end. S0: the blocks that are its own. RO: blocks that the body leaves alone. -/
def SeqItS (F : Fence) (n : Nat) (P : Program) (gf : Nat) (lb : Array Value) (N : Nat) (Y : Vs → (Nat → Prop) → World → Prop) (S0 RO : Nat → Prop) (w : World) : Prop :=
  ∀ (l : Nat) (J Jx : Vs → (Nat → Prop) → World → Prop) (W : World),
    (∀ vs v S1 W1, ¬ J (vs ++ [v]) S1 W1) → (∀ vs, Stable (J vs)) → (∀ vs, Stable (Jx vs)) → Below w.heap.size w W →
    (∀ vs v S1 W1, J vs S1 W1 → vs.length < N → Y (vs ++ [v]) S1 W1 → YieldAt F (n - 1) P l v W1 fun e W' =>
      (e = .returned (.bool true) ∧ J (vs ++ [v]) S1 W' ∧ Kept (fun b => RO b ∨ S1 b) W1 W') ∨ (e = .returned (.bool false) ∧ Jx (vs ++ [v]) S1 W' ∧ Kept (fun b => RO b ∨ S1 b) W1 W')) →
    J [] S0 W →
    CallsIn F n P gf (#[.func (.yield l) #[] #[]] ++ lb) W fun e W' => (∃ v, e = .returned v) ∧ ((∃ S' vs, vs.length = N ∧ Y vs S' W' ∧ J vs S' W') ∨ (∃ S' vs, Y vs S' W' ∧ Jx vs S' W'))

section
variable {F : Fence} {n : Nat} {P : Program}

theorem wpIn_range_coreS {ps : Array Tmp} {assign body : Code} {Q : Exit → Act → World → Prop} {a : Act} {w W1 : World} {fn L dn : Nat} {mark : List Deferred} {rec : LoopState → Option Code → Loop}
    (hfn : F.fn fn) (hrec : rec = fun st pe => { state := st, pending := pe, fn, tmps := a.tmps, params := ps, assign, body, defers := dn })
    {gf : Nat} {lb : Array Value} {N : Nat} {Y : Vs → (Nat → Prop) → World → Prop} {S0 RO M : Nat → Prop} (hseq : SeqItS F (n - 1) P gf lb N Y S0 RO w) (hY : KeepsY RO Y) (hS0 : ∀ b, S0 b → b < w.heap.size) (hps : ∀ vs v S W, Y (vs ++ [v]) S W → v.size = ps.size)
    (hRO : ∀ b, RO b → b < w.heap.size ∧ ¬ S0 b)
    (hML : M L) (hM : ∀ b, M b → w.heap.size ≤ b ∧ b < W1.heap.size) (hL1 : W1.heap[L]? = some (.loop (rec .ready none))) (hb1 : Below w.heap.size w W1)
    (I : Vs → (Nat → Prop) → World → Prop) (Ix : Code → Vs → (Nat → Prop) → World → Prop) (hno : ∀ vs v S W, ¬ I (vs ++ [v]) S W) (hI : ∀ vs, Stable (I vs)) (hIx : ∀ c vs, Stable (Ix c vs)) (h0 : I [] S0 w)
    (Ax : Vs → Array Value → Act → (Nat → Prop) → World → Prop) (hAx : ∀ vs v a₁, Stable (Ax vs v a₁))
    (hassign : ∀ (l : Nat) (vs : Vs) (v : Array Value) (S S1 : Nat → Prop) (W : World), vs.length < N → S l → (∀ b, S1 b → S b) → (∀ b, RO b → ¬ S b) → (∀ b, S b → b < W.heap.size) → Y (vs ++ [v]) S1 W → I vs S W →
      assign.wpIn (F.inRound l) (n - 1 - 1) P (Exit.then (fun a₁ W₁ => Ax vs v a₁ S W₁ ∧ Kept (fun b => RO b ∨ S b) W W₁) (fun _ _ _ => False)) { tmps := (ps.zip v).foldl (fun t (p, v) => t.setIfInBounds p v) a.tmps, defers := [] } W)
    (hbody : ∀ (l : Nat) (vs : Vs) (v : Array Value) (S S1 : Nat → Prop) (a₁ : Act) (W : World) (r : Loop), vs.length < N → S l → (∀ b, S1 b → S b) → W.heap[l]? = some (.loop r) → (∀ b, RO b → ¬ S b) → (∀ b, S b → b < W.heap.size) → Y (vs ++ [v]) S1 W → Ax vs v a₁ S W →
      body.wpIn (F.inRound l) (n - 1 - 1) P (rangePostX (fun b => RO b ∨ S b) (I (vs ++ [v])) (fun c => Ix c (vs ++ [v])) S W) a₁ W)
    (hdone : ∀ (S S1 : Nat → Prop) (vs : Vs) (W : World), (∀ b, RO b → ¬ S b) → (∀ b, M b → S b) → (∀ b, S1 b → S b) → (∀ b, M b → ¬ S1 b) → vs.length = N → Y vs S1 W → I vs S W → (∀ b, M b → b ≠ L → W.heap[b]? = W1.heap[b]?) → Q .normal { a with defers := mark ++ a.defers } W)
    (hstop : ∀ (c : Code) (vs : Vs) (S S1 : Nat → Prop) (W : World), (∀ b, RO b → ¬ S b) → (∀ b, M b → S b) → (∀ b, S1 b → S b) → (∀ b, M b → ¬ S1 b) → Y vs S1 W → Ix c vs S W → (∀ b, M b → b ≠ L → W.heap[b]? = W1.heap[b]?) → c.wpIn F n P Q { a with defers := mark ++ a.defers } W) :
    CallsIn F (n - 1) P gf (#[.func (.yield L) #[] #[]] ++ lb) W1 (rangePost F n P L Q { a with defers := mark ++ a.defers }) := by
  have hst : ∀ st pe, (rec st pe).state = st ∧ (rec st pe).pending = pe := by intro st pe; rw [hrec]; exact ⟨rfl, rfl⟩
  have hw1 := hb1.size
  have hf1 : Foreign S0 (plusM S0 M) w W1 :=
    ⟨hb1.os, hb1.tape, hb1.output, hb1.size, fun b h => .inl h, fun b h => h.elim .inl (fun h => .inr (hM b h)), fun b hb _ => hb1.block b hb⟩
  have hI1 : I [] (plusM S0 M) W1 := hI [] _ _ _ _ h0 hf1
  have hLw := hM L hML
  -- beside I
  let Z : (Nat → Prop) → World → Prop := fun S W => (∀ b, M b → ¬ S b) ∧ (∀ b, RO b → ¬ S b) ∧ W1.heap.size ≤ W.heap.size ∧ (∀ b, M b → b ≠ L → W.heap[b]? = W1.heap[b]?) ∧ (∀ b, S b → b < W.heap.size)
  have hZ : Stable Z := by
    intro S S' W W' hz hf
    obtain ⟨z1, z2, z3, z4, z5⟩ := hz
    have hfs := hf.size
    refine ⟨fun b hb => hf.not (by have := hM b hb; omega) (z1 b hb), fun b hb => hf.not (by have := hRO b hb; omega) (z2 b hb), by omega, fun b hb hne => (hf.block b (by have := hM b hb; omega) (z1 b hb)).trans (z4 b hb hne), fun b hb => ?_⟩
    rcases hf.fresh b hb with h | h
    · have := z5 b h; omega
    · exact h.2
  have hRS : ∀ S W, Z S W → ∀ b, RO b → ¬ plusM S M b := by
    intro S W hz b hb hs
    rcases hs with hs | hs
    · exact hz.2.1 b hb hs
    · have := hM b hs; have := hRO b hb; omega
  -- the body's word leaves Z alone
  have hZk : ∀ S W W', Z S W → Kept (fun b => RO b ∨ plusM S M b) W W' → Z S W' := by
    intro S W W' hz hk
    obtain ⟨z1, z2, z3, z4, z5⟩ := hz
    exact ⟨z1, z2, Nat.le_trans z3 hk.size, fun b hb hne => (hk.block b (by have := hM b hb; omega) (.inr (.inr hb))).trans (z4 b hb hne), fun b hb => Nat.lt_of_lt_of_le (z5 b hb) hk.size⟩
  have hSB : ∀ S W, Z S W → ∀ b, plusM S M b → b < W.heap.size := by
    intro S W hz b hb
    rcases hb with hb | hb
    · exact hz.2.2.2.2 b hb
    · have := hM b hb; have := hz.2.2.1; omega
  have hZp : ∀ S W o, Z S W → Z S (W.putObj L o) := by
    intro S W o hz
    obtain ⟨z1, z2, z3, z4, z5⟩ := hz
    exact ⟨z1, z2, by simpa using z3, fun b hb hne => (World.putObj_heap_other hne).trans (z4 b hb hne), fun b hb => by simpa using z5 b hb⟩
  have hZ0 : Z S0 W1 := ⟨fun b hb hs => by have := hS0 b hs; have := hM b hb; omega, fun b hb => (hRO b hb).2, Nat.le_refl _, fun _ _ _ => rfl, fun b hb => Nat.lt_of_lt_of_le (hS0 b hb) hw1⟩
  have hMS : ∀ S : Nat → Prop, ∀ b, M b → plusM S M b := fun S b hb => .inr hb
  have hLn : ∀ S W, Z S W → ¬ (RO L ∨ S L) := by
    rintro S W hz (h | h)
    · have := hRO _ h; omega
    · exact hz.1 L hML h
  refine (hseq L
    (fun vs S W => I vs (plusM S M) W ∧ W.heap[L]? = some (.loop (rec .ready none)) ∧ Z S W)
    (fun vs S W => ∃ c, Ix c vs (plusM S M) W ∧ W.heap[L]? = some (.loop (rec .done (some c))) ∧ Z S W)
    W1 (fun vs v S W h => hno vs v _ W h.1) ?_ ?_ hb1 ?_ ⟨hI1, hL1, hZ0⟩).mono ?_
  · rintro k S S' W W' ⟨hi, hl, hz⟩ hf
    exact ⟨hI k _ _ _ _ hi hf.plusM, hf.heap (hz.1 L hML) hl, hZ _ _ _ _ hz hf⟩
  · rintro vs S S' W W' ⟨c, hi, hl, hz⟩ hf
    exact ⟨c, hIx c vs _ _ _ _ hi hf.plusM, hf.heap (hz.1 L hML) hl, hZ _ _ _ _ hz hf⟩
  · -- one round
    rintro vs v S W ⟨hi, hl, hz⟩ hk hYv
    have hsub : ∀ b, S b → plusM S M b := fun b hb => .inl hb
    have hy := run_yield (P := P) (args := v) hl (by rw [hrec]; exact hps _ _ _ _ hYv)
    have hy' : (Instr.yield L v).run P W = .ok (.round L fn ((ps.zip v).foldl (fun tmps (t, v) => tmps.setIfInBounds t v) a.tmps) assign body) W := by
      rw [hrec] at hy; exact hy
    refine ⟨fn, _, assign, body, hy', roundIn_of_wpIn hfn (wpIn_mono (hassign L vs v (plusM S M) S W hk (hMS S L hML) hsub (hRS S W hz) (hSB S W hz) hYv hi) ?_)⟩
    rintro e a₁ W2 hp
    cases e with
    | normal =>
      obtain ⟨hax, hk2⟩ := hp
      have hlt : L < W.heap.size := lt_of_heap hl
      have hl2 : W2.heap[L]? = some (.loop (rec .ready none)) := (hk2.block L hlt (.inr (.inr hML))).trans hl
      have hz2 := hZk _ _ _ hz hk2
      refine ⟨_, run_beginRound hl2 (hst _ _).1, ?_⟩
      obtain ⟨W3, hW3⟩ : ∃ W3, W3 = W2.putObj L (.loop { rec .ready none with state := .busy }) := ⟨_, rfl⟩
      rw [← hW3]
      have hl3 : W3.heap[L]? = some (.loop (rec .busy none)) := by
        rw [hW3, World.putObj_heap_same (lt_of_heap hl2), hrec]
      have hz3 : Z S W3 := by rw [hW3]; exact hZp _ _ _ hz2
      have hax3 : Ax vs v a₁ (plusM S M) W3 := by rw [hW3]; exact hAx vs v a₁ _ _ _ _ hax (Foreign.putObj _ _ _ (hMS S L hML))
      have hk3 : Kept (fun b => RO b ∨ S b) W W3 := by
        rw [hW3]
        exact Kept.trans (hk2.mono fun b hb => hb.elim .inl (fun h => .inr (.inl h))) (Kept.putObj _ _ _ _ (hLn _ _ hz))
      refine wpIn_mono (hbody L vs v (plusM S M) S a₁ W3 _ hk (hMS S L hML) hsub hl3 (hRS S W3 hz3) (hSB S W3 hz3) (hY _ _ _ _ hYv hk3) hax3) ?_
      have fin : ∀ (jump : Option Code) (W4 : World), Kept (fun b => RO b ∨ plusM S M b) W3 W4 →
          (Instr.endRound L jump).run P W4 = .ok (.bool jump.isNone) (W4.putObj L (.loop (rec (if jump.isNone then .ready else .done) jump))) ∧
          (W4.putObj L (.loop (rec (if jump.isNone then .ready else .done) jump))).heap[L]? = some (.loop (rec (if jump.isNone then .ready else .done) jump)) ∧
          Z S (W4.putObj L (.loop (rec (if jump.isNone then .ready else .done) jump))) ∧
          Kept (fun b => RO b ∨ S b) W (W4.putObj L (.loop (rec (if jump.isNone then .ready else .done) jump))) := fun jump W4 hk4 => by
        have hl4 := (hk4.block L (lt_of_heap hl3) (.inr (.inr hML))).trans hl3
        have := run_endRound (P := P) jump hl4
        rw [hrec] at this
        rw [hrec]
        exact ⟨this, World.putObj_heap_same (lt_of_heap hl4), hZp _ _ _ (hZk _ _ _ hz3 hk4), (hk3.trans (hk4.mono fun b hb => hb.elim .inl (fun h => .inr (.inl h)))).trans (Kept.putObj _ _ _ _ (hLn _ _ hz))⟩
      rintro e a3 W4 hp
      cases e with
      | normal =>
        obtain ⟨hk4, hi4⟩ := hp
        obtain ⟨hr, hl5, hz5, hk5⟩ := fin none W4 hk4
        exact ⟨_, _, hr, .inl ⟨rfl, ⟨hI _ _ _ _ _ hi4 (Foreign.putObj _ _ _ (hMS S L hML)), hl5, hz5⟩, hk5⟩⟩
      | ret =>
        obtain ⟨hk4, hi4⟩ := hp
        obtain ⟨hr, hl5, hz5, hk5⟩ := fin (some .ret) W4 hk4
        exact ⟨_, _, hr, .inr ⟨rfl, ⟨.ret, hIx _ _ _ _ _ _ hi4 (Foreign.putObj _ _ _ (hMS S L hML)), hl5, hz5⟩, hk5⟩⟩
      | exit id =>
        obtain ⟨hk4, hi4⟩ := hp
        obtain ⟨hr, hl5, hz5, hk5⟩ := fin (some (.exit id)) W4 hk4
        exact ⟨_, _, hr, .inr ⟨rfl, ⟨.exit id, hIx _ _ _ _ _ _ hi4 (Foreign.putObj _ _ _ (hMS S L hML)), hl5, hz5⟩, hk5⟩⟩
      | goto t =>
        obtain ⟨hk4, hi4⟩ := hp
        obtain ⟨hr, hl5, hz5, hk5⟩ := fin (some (.goto t)) W4 hk4
        exact ⟨_, _, hr, .inr ⟨rfl, ⟨.goto t, hIx _ _ _ _ _ _ hi4 (Foreign.putObj _ _ _ (hMS S L hML)), hl5, hz5⟩, hk5⟩⟩
      | panic ch => exact hp.elim
      | outgrown => exact hp.elim
    | ret => exact hp.elim
    | exit id => exact hp.elim
    | goto t => exact hp.elim
    | panic ch => exact hp.elim
    | outgrown => exact hp.elim
  · rintro e W2 ⟨⟨v, rfl⟩, (⟨S', vs, hn, hy, hi, hl, hz⟩ | ⟨S', vs, hy, c, hi, hl, hz⟩)⟩
    · refine ⟨none, _, by have := run_endLoop (P := P) hl (by rw [(hst _ _).1]; simp); rw [(hst _ _).2] at this; exact this, ?_⟩
      exact hdone (plusM S' M) S' vs _ (hRS _ _ hz) (hMS _) (fun b hb => .inl hb) hz.1 hn (hY _ _ _ _ hy (Kept.putObj _ _ _ _ (hLn _ _ hz))) (hI _ _ _ _ _ hi (Foreign.putObj _ _ _ (hMS _ L hML))) (fun b hb hne => (World.putObj_heap_other hne).trans (hz.2.2.2.1 b hb hne))
    · refine ⟨some c, _, by have := run_endLoop (P := P) hl (by rw [(hst _ _).1]; simp); rw [(hst _ _).2] at this; exact this, ?_⟩
      exact hstop c vs (plusM S' M) S' _ (hRS _ _ hz) (hMS _) (fun b hb => .inl hb) hz.1 (hY _ _ _ _ hy (Kept.putObj _ _ _ _ (hLn _ _ hz))) (hIx _ _ _ _ _ _ hi (Foreign.putObj _ _ _ (hMS _ L hML))) (fun b hb hne => (World.putObj_heap_other hne).trans (hz.2.2.2.1 b hb hne))

/-- **AN OUTERMOST RANGE OVER A FUNCTION.** -/
theorem wpIn_rangeS {g : Operand} {ps : Array Tmp} {assign body : Code} {Q : Exit → Act → World → Prop} {a : Act} {w : World}
    (hro : F.round = none) (h1 : F.depth.isSome = true → 1 ≤ n) {gf : Nat} {lb : Array Value} (hg : a.eval g = .func (.func gf) #[] lb) (hFg : F.fn gf) (eg : ∀ args w, (callFunc gf args).run P w = .ok (.enter gf args) w)
    {N : Nat} {Y : Vs → (Nat → Prop) → World → Prop} {S0 RO : Nat → Prop} (hseq : SeqItS F (n - 1) P gf lb N Y S0 RO w) (hY : KeepsY RO Y) (hS0 : ∀ b, S0 b → b < w.heap.size) (hps : ∀ vs v S W, Y (vs ++ [v]) S W → v.size = ps.size)
    (hRO : ∀ b, RO b → b < w.heap.size ∧ ¬ S0 b)
    (I : Vs → (Nat → Prop) → World → Prop) (Ix : Code → Vs → (Nat → Prop) → World → Prop) (hno : ∀ vs v S W, ¬ I (vs ++ [v]) S W) (hI : ∀ vs, Stable (I vs)) (hIx : ∀ c vs, Stable (Ix c vs)) (h0 : I [] S0 w)
    (Ax : Vs → Array Value → Act → (Nat → Prop) → World → Prop) (hAx : ∀ vs v a₁, Stable (Ax vs v a₁))
    (hassign : ∀ (l : Nat) (vs : Vs) (v : Array Value) (S S1 : Nat → Prop) (W : World), vs.length < N → S l → (∀ b, S1 b → S b) → (∀ b, RO b → ¬ S b) → (∀ b, S b → b < W.heap.size) → Y (vs ++ [v]) S1 W → I vs S W →
      assign.wpIn (F.inRound l) (n - 1 - 1) P (Exit.then (fun a₁ W₁ => Ax vs v a₁ S W₁ ∧ Kept (fun b => RO b ∨ S b) W W₁) (fun _ _ _ => False)) { tmps := (ps.zip v).foldl (fun t (p, v) => t.setIfInBounds p v) a.tmps, defers := [] } W)
    (hbody : ∀ (l : Nat) (vs : Vs) (v : Array Value) (S S1 : Nat → Prop) (a₁ : Act) (W : World) (r : Loop), vs.length < N → S l → (∀ b, S1 b → S b) → W.heap[l]? = some (.loop r) → (∀ b, RO b → ¬ S b) → (∀ b, S b → b < W.heap.size) → Y (vs ++ [v]) S1 W → Ax vs v a₁ S W →
      body.wpIn (F.inRound l) (n - 1 - 1) P (rangePostX (fun b => RO b ∨ S b) (I (vs ++ [v])) (fun c => Ix c (vs ++ [v])) S W) a₁ W)
    (hdone : ∀ (D : Nat) (S S1 : Nat → Prop) (vs : Vs) (W : World), w.heap.size ≤ D → S D → (∀ b, RO b → ¬ S b) → (∀ b, S1 b → S b) → ¬ S1 D → vs.length = N → Y vs S1 W → I vs S W → W.heap[D]? = some (.deferred (some [])) → Q .normal { a with defers := { target := .collected D, args := #[] } :: a.defers } W)
    (hstop : ∀ (D : Nat) (c : Code) (vs : Vs) (S S1 : Nat → Prop) (W : World), w.heap.size ≤ D → S D → (∀ b, RO b → ¬ S b) → (∀ b, S1 b → S b) → ¬ S1 D → Y vs S1 W → Ix c vs S W → W.heap[D]? = some (.deferred (some [])) → c.wpIn F n P Q { a with defers := { target := .collected D, args := #[] } :: a.defers } W) :
    (Code.rangeFunc g ps assign body).wpIn F n P Q a w := by
  refine wpIn_rangeFunc ?_
  intro fn hfn
  rw [hro]
  obtain ⟨rec, hrec⟩ : ∃ rec : LoopState → Option Code → Loop, rec = fun st pe => { state := st, pending := pe, fn, tmps := a.tmps, params := ps, assign, body, defers := w.heap.size } := ⟨_, rfl⟩
  obtain ⟨W1, hW1⟩ : ∃ W1, (w.alloc (.deferred (some []))).alloc (.loop (rec .ready none)) = W1 := ⟨_, rfl⟩
  have hsz : W1.heap.size = w.heap.size + 2 := by rw [← hW1]; simp
  have hL1 : W1.heap[w.heap.size + 1]? = some (.loop (rec .ready none)) := by
    rw [← hW1]; have := World.alloc_heap_new (w.alloc (.deferred (some []))) (.loop (rec .ready none)); rwa [World.size_alloc] at this
  have hK1 : W1.heap[w.heap.size]? = some (.deferred (some [])) := by
    rw [← hW1]; exact (Below.heap_alloc _ _ _ (by simp)).trans (World.alloc_heap_new w _)
  have hb1 : Below w.heap.size w W1 := by
    rw [← hW1]; exact ((Below.refl _ w).alloc (Nat.le_refl _) _).alloc (by simp) _
  refine ⟨w.heap.size + 1, [{ target := .collected w.heap.size, args := #[] }], W1, { target := .fn (.func gf) lb, args := #[.func (.yield (w.heap.size + 1)) #[] #[]] }, W1, gf,
    #[.func (.yield (w.heap.size + 1)) #[] #[]] ++ lb, W1, ?_, ?_, ?_, ?_, h1, ?_⟩
  · rw [← hW1, hrec]; exact run_enterLoop_outer _ _ _ _ _
  · simp only [resolve, hg]
    simp [go_sem]
  · intro f' hf'; simp [Target.leads] at hf'; subst hf'; exact hFg
  · simp [invoke, go_sem, eg]
  · refine wpIn_range_coreS (M := fun b => b = w.heap.size ∨ b = w.heap.size + 1) hfn (by rw [hrec]) hseq hY hS0 hps hRO (.inr rfl) (fun b hb => by omega) hL1 hb1 I Ix hno hI hIx h0 Ax hAx hassign hbody ?_ ?_
    · intro S S1 vs W hr hm hs hn1 hn hy hi hD
      exact hdone _ S S1 vs W (Nat.le_refl _) (hm _ (.inl rfl)) hr hs (hn1 _ (.inl rfl)) hn hy hi ((hD _ (.inl rfl) (by omega)).trans hK1)
    · intro c vs S S1 W hr hm hs hn1 hy hi hD
      exact hstop _ c vs S S1 W (Nat.le_refl _) (hm _ (.inl rfl)) hr hs (hn1 _ (.inl rfl)) hy hi ((hD _ (.inl rfl) (by omega)).trans hK1)

end
end Go.Proofs.YtogeohjeabbmaaaDoor

/-
  A function's way out behind any number of ranges over functions.
-/
set_option linter.unusedSimpArgs false
set_option linter.unusedVariables false
namespace Go.Proofs.YtogeohjeabbmaaaDoor
open Go.RowKit

def marksOf (bs : List Nat) : List Deferred := bs.map fun D => { target := .collected D, args := #[] }
def shutAll (bs : List Nat) (W : World) : World := bs.foldl (fun W D => W.putObj D (.deferred none)) W
theorem shutAll_other {b : Nat} : ∀ {bs : List Nat} {W : World}, b ∉ bs → (shutAll bs W).heap[b]? = W.heap[b]?
  | [], _, _ => rfl
  | D :: bs, W, h => by
    have h1 : b ≠ D := fun e => h (by rw [e]; exact List.mem_cons_self ..)
    show (shutAll bs (W.putObj D (.deferred none))).heap[b]? = _
    rw [shutAll_other (fun hb => h (List.mem_cons_of_mem _ hb)), World.putObj_heap_other h1]
theorem below_shutAll {n : Nat} {w : World} : ∀ {bs : List Nat} {W : World}, Below n w W → (∀ D ∈ bs, n ≤ D) → Below n w (shutAll bs W)
  | [], _, h, _ => h
  | D :: bs, W, h, hD => below_shutAll (bs := bs) (below_putObj h (hD D (List.mem_cons_self ..)) _) (fun D' h' => hD D' (List.mem_cons_of_mem _ h'))
theorem leaves_marks {F : Fence} {n : Nat} {P : Program} {fn : Func} {R : Ending → World → Prop} {tmps : Array Value} {v : Value} : ∀ {bs : List Nat} {W : World}, bs.Nodup → (∀ D ∈ bs, W.heap[D]? = some (.deferred (some []))) →
    (results fn tmps).run P (shutAll bs W) = .ok v (shutAll bs W) → R (.returned v) (shutAll bs W) → LeavesInM F n P fn tmps R (marksOf bs) .returning W
  | [], W, _, _, hr, hR => ⟨v, hr, hR⟩
  | D :: bs, W, hnd, hD, hr, hR => by
    obtain ⟨h1, h2⟩ := List.nodup_cons.1 hnd
    refine ⟨by simp, .inl ⟨_, _, rfl, run_takeDeferred (hD D (List.mem_cons_self ..)), leaves_marks (bs := bs) h2 (fun D' h' => ?_) hr hR⟩⟩
    exact (World.putObj_heap_other (fun (e : D' = D) => h1 (by rw [← e]; exact h'))).trans (hD D' (List.mem_cons_of_mem _ h'))
theorem post_marks {F : Fence} {n : Nat} {P : Program} {fn : Func} {R : Ending → World → Prop} {e : Exit} {tmps : Array Value} {bs : List Nat} {W : World} {v : Value} (he : e = .ret ∨ e = .normal) (hnd : bs.Nodup)
    (hD : ∀ D ∈ bs, W.heap[D]? = some (.deferred (some []))) (hr : (results fn tmps).run P (shutAll bs W) = .ok v (shutAll bs W)) (hR : R (.returned v) (shutAll bs W)) :
    bodyPostM F n P fn R e { tmps := tmps, defers := marksOf bs } W := by
  have h := leaves_marks (F := F) (n := n) hnd hD hr hR
  rcases he with rfl | rfl
  · exact h
  · exact h
end Go.Proofs.YtogeohjeabbmaaaDoor

/-
  A region that draws its order and writes two cells that it reads: each cell's word is held till its store has come.
-/
set_option linter.unusedSimpArgs false
set_option linter.unusedVariables false
namespace Go.Proofs.YtogeohjeabbmaaaDoor
open Go.RowKit

/-- What is held: U1 till number d1 has come, U2 till number d2 has, R always. -/
structure Held2 where
  d1 : Nat
  U1 : World → Prop
  d2 : Nat
  U2 : World → Prop
  R : World → Prop
def Held2.at (H : Held2) (listed : Array Bool) (w : World) : Prop := (listed.getD H.d1 true = false → H.U1 w) ∧ (listed.getD H.d2 true = false → H.U2 w) ∧ H.R w
theorem Held2.unset {H : Held2} {listed : Array Bool} {i : Nat} {w : World} (h1 : i ≠ H.d1) (h2 : i ≠ H.d2) (h : H.at (listed.setIfInBounds i true) w) : H.at listed w := by
  obtain ⟨a, b, c⟩ := h
  rw [getD_set_ne true h1] at a
  rw [getD_set_ne true h2] at b
  exact ⟨a, b, c⟩
section
variable {P : Program} {ops : Array Oper} {Q : Exit → Act → World → Prop} {md : Region.Mode} {H : Held2}
def wpAnyT (P : Program) (md : Region.Mode) (ops : Array Oper) (Q : Exit → Act → World → Prop) (H : Held2) : Nat → Array Bool → Act → World → Prop
  | 0, listed, a, w => Region.ready md ops listed = [] ∧ Q .normal a w
  | fuel + 1, listed, a, w =>
    (Region.ready md ops listed = [] → Q .normal a w) ∧
    ∀ i ∈ Region.ready md ops listed, wpOp P ops Q i (fun a' w' => H.at (listed.setIfInBounds i true) w' ∧ wpAnyT P md ops Q H fuel (listed.setIfInBounds i true) a' w') a w
theorem wpAny_of_heldT : ∀ (fuel : Nat) (listed : Array Bool) (a : Act) (w : World), wpAnyT P md ops Q H fuel listed a w → wpAny P md ops Q fuel listed a w
  | 0, _, _, _, h => h
  | fuel + 1, _, _, _, h => ⟨h.1, fun i hi => wpOp_mono (fun a' w' h' => wpAny_of_heldT fuel _ a' w' h'.2) (h.2 i hi)⟩
/-- What number i may lean on. -/
def Held2.use (H : Held2) (b1 b2 : Bool) (w : World) : Prop := (b1 = true → H.U1 w) ∧ (b2 = true → H.U2 w) ∧ H.R w
theorem wpAnyT_first {i : Nat} {oi : Oper} {v : Value} {b1 b2 : Bool} (hi : ops[i]? = some oi) (hsel : ∀ (j : Nat) (o : Oper) cs b, ops[j]? = some o → o.op ≠ .select cs b)
    (hQ : ∀ c a w, Q (.panic c) (a.put oi.dst v) w → Q (.panic c) a w) (hn1 : i ≠ H.d1) (hn2 : i ≠ H.d2)
    (hL1 : b1 = true → ∀ oL, ops[H.d1]? = some oL → ∃ e ∈ oL.after, Region.binds md e = true ∧ e.on = i)
    (hL2 : b2 = true → ∀ oL, ops[H.d2]? = some oL → ∃ e ∈ oL.after, Region.binds md e = true ∧ e.on = i) :
    ∀ (fuel : Nat) (listed : Array Bool) (a : Act) (w : World),
      (∀ j oj, ops[j]? = some oj → j ≠ i → listed.getD j true = false → (∀ e ∈ oj.after, Region.binds md e = true → e.on ≠ i) → oi.apart ops oj = true) →
      i ∈ Region.ready md ops listed → YieldsIf P ops (H.use b1 b2) oi v a → H.at listed w → (b1 = true → listed.getD H.d1 true = false) → (b2 = true → listed.getD H.d2 true = false) →
      wpAnyT P md ops Q H fuel (listed.setIfInBounds i true) (a.put oi.dst v) w → wpAnyT P md ops Q H (fuel + 1) listed a w := by
  intro fuel
  induction fuel with
  | zero =>
    intro listed a w _ hr hy hS l1 l2 Hx
    have hu : H.use b1 b2 w := ⟨fun h => hS.1 (l1 h), fun h => hS.2.1 (l2 h), hS.2.2⟩
    refine ⟨fun h => (by rw [h] at hr; cases hr), fun j hj => ?_⟩
    by_cases hji : j = i
    · subst hji
      refine hy.wpOp hi hu ⟨?_, Hx⟩
      refine ⟨fun h => hS.1 (by rwa [getD_set_ne true hn1] at h), fun h => hS.2.1 (by rwa [getD_set_ne true hn2] at h), hS.2.2⟩
    · have := ready_mono hj hji
      rw [Hx.1] at this
      cases this
  | succ fuel ih =>
    intro listed a w hfree hr hy hS l1 l2 Hx
    have hu : H.use b1 b2 w := ⟨fun h => hS.1 (l1 h), fun h => hS.2.1 (l2 h), hS.2.2⟩
    refine ⟨fun h => (by rw [h] at hr; cases hr), fun j hj => ?_⟩
    by_cases hji : j = i
    · subst hji
      refine hy.wpOp hi hu ⟨?_, Hx⟩
      refine ⟨fun h => hS.1 (by rwa [getD_set_ne true hn1] at h), fun h => hS.2.1 (by rwa [getD_set_ne true hn2] at h), hS.2.2⟩
    · have h1 := Hx.2 j (ready_mono hj hji)
      obtain ⟨hjun, oj, hoj, hall⟩ := mem_ready.1 hj
      have hnot : ∀ e ∈ oj.after, Region.binds md e = true → e.on ≠ i := fun e he hb heq => by
        have h1 := hall e he hb
        have h0 := (mem_ready.1 hr).1
        rw [heq] at h1
        rcases Nat.lt_or_ge i listed.size with h' | h'
        · simp [h'] at h0 h1; rw [h0] at h1; cases h1
        · simp [Array.getElem?_eq_none h'] at h1
      have hj1 : b1 = true → j ≠ H.d1 := fun hb e => by
        obtain ⟨e1, he, hb, hon⟩ := hL1 hb oj (e ▸ hoj)
        exact hnot e1 he hb hon
      have hj2 : b2 = true → j ≠ H.d2 := fun hb e => by
        obtain ⟨e1, he, hb, hon⟩ := hL2 hb oj (e ▸ hoj)
        exact hnot e1 he hb hon
      have h2 := wpOp_putIf hoj (hfree j oj hoj hji hjun hnot) (fun cs b => hsel i oi cs b hi) (fun cs b => hsel j oj cs b hoj) hQ hy h1
      have hfree' : ∀ k ok, ops[k]? = some ok → k ≠ i → (listed.setIfInBounds j true).getD k true = false →
          (∀ e ∈ ok.after, Region.binds md e = true → e.on ≠ i) → oi.apart ops ok = true := fun k ok hk hki hun hno => by
        refine hfree k ok hk hki ?_ hno
        by_cases hjk : j = k
        · subst hjk; exact hjun
        · rw [getD_set_ne true hjk] at hun; exact hun
      refine wpOp_mono (fun a' w' h3 => ?_) h2
      have hAt : H.at (listed.setIfInBounds j true) w' := by
        have := h3.2.1
        rw [Array.setIfInBounds_comm _ _ (Ne.symm hji)] at this
        exact Held2.unset hn1 hn2 this
      refine ⟨hAt, ih (listed.setIfInBounds j true) a' w' hfree' (ready_mono hr (Ne.symm hji)) h3.1 hAt (fun h => by rw [getD_set_ne true (hj1 h)]; exact l1 h) (fun h => by rw [getD_set_ne true (hj2 h)]; exact l2 h) ?_⟩
      rw [Array.setIfInBounds_comm _ _ hji]
      exact h3.2.2
/-- May number i lean on the words? -/
def leans (md : Region.Mode) (ops : Array Oper) (d i : Nat) (listed : Array Bool) (b : Bool) : Bool := !b || (waitsB md ops d i && !listed.getD d true)
theorem wpAnyT_take {i : Nat} {oi : Oper} {v : Value} (b1 b2 : Bool) {fuel : Nat} {listed : Array Bool} {a : Act} {w : World} (hi : ops[i]? = some oi)
    (hs : Region.noSelect ops = true) (hf : Region.free md ops listed i = true) (hr : (Region.ready md ops listed).contains i = true)
    (hb : (i != H.d1 && i != H.d2 && leans md ops H.d1 i listed b1 && leans md ops H.d2 i listed b2) = true)
    (hQ : ∀ c a w, Q (.panic c) (a.put oi.dst v) w → Q (.panic c) a w) (hy : YieldsIf P ops (H.use b1 b2) oi v a) (hS : H.at listed w)
    (h : wpAnyT P md ops Q H fuel (listed.setIfInBounds i true) (a.put oi.dst v) w) : wpAnyT P md ops Q H (fuel + 1) listed a w := by
  simp only [Bool.and_eq_true, bne_iff_ne] at hb
  obtain ⟨⟨⟨h1, h2⟩, h3⟩, h4⟩ := hb
  have k3 : b1 = true → waitsB md ops H.d1 i = true ∧ listed.getD H.d1 true = false := fun e => by subst e; unfold leans at h3; simpa using h3
  have k4 : b2 = true → waitsB md ops H.d2 i = true ∧ listed.getD H.d2 true = false := fun e => by subst e; unfold leans at h4; simpa using h4
  exact wpAnyT_first hi (Region.noSelect_spec hs) hQ h1 h2 (fun e => waits_spec (k3 e).1) (fun e => waits_spec (k4 e).1) fuel listed a w (Region.free_spec hi hf) (by simpa using hr) hy hS (fun e => (k3 e).2) (fun e => (k4 e).2) h
theorem wpAnyT_one {i : Nat} {o : Oper} {fuel : Nat} {listed : Array Bool} {a : Act} {w : World} (hr : Region.ready md ops listed = [i]) (ho : ops[i]? = some o)
    (h : ∀ K' : Act → World → Prop, Shut (∀ a w, H.at (listed.setIfInBounds i true) w → wpAnyT P md ops Q H fuel (listed.setIfInBounds i true) a w → K' a w) → if Region.wanted o (yielded ops a.tmps) = true then Oper.wp P o a w K' Q else K' (a.put o.dst undef) w) :
    wpAnyT P md ops Q H (fuel + 1) listed a w :=
  ⟨fun h0 => absurd (hr ▸ h0) (by simp), fun j hj => by
    rw [hr] at hj
    have : j = i := by simpa using hj
    subst this
    exact wpOp_step ho (fun K' hK => h K' (fun a w hS hW => hK a w ⟨hS, hW⟩))⟩
theorem wpAnyT_done {listed : Array Bool} {a : Act} {w : World} (hr : Region.ready md ops listed = []) (h : Q .normal a w) :
    ∀ fuel, wpAnyT P md ops Q H fuel listed a w
  | 0 => ⟨hr, h⟩
  | _ + 1 => ⟨fun _ => h, by rw [hr]; simp⟩
end
/-- In the body of a range over a function. -/
theorem wpIn_round_heldT {l n : Nat} {P : Program} {id : Nat} {Q : Exit → Act → World → Prop} {a : Act} {w : World} {ol : List Oper} (H : Held2) (hm : P.follows .mixedOrders = true)
    (hd : ol.toArray.all (fun o => noDefer o.op) = true) (hL : ¬ LetsOut Q)
    (h : wpAnyT P .any ol.toArray Q H ol.toArray.size (Array.replicate ol.toArray.size false) a w.drew) :
    (Code.region id ol.toArray true).wpIn (Fence.wide.inRound l) n P Q a w :=
  wpIn_region_any hm (anyIn_of_any hd hL _ _ _ _ (wpAny_of_heldT _ _ _ _ h))
end Go.Proofs.YtogeohjeabbmaaaDoor

/-
  make, and copy of nothing, at rows whose elements take several cells.
-/
set_option linter.unusedSimpArgs false
set_option linter.unusedVariables false
namespace Go.Proofs.YtogeohjeabbmaaaDoor
open Go.RowKit

section
variable {P : Program}
theorem run_copy_none_k (w : World) (dT sT ty elem : TypeId) (d a : Option Addr) (dLen dCap sLen sCap K : Nat) (hu : P.underlying dT = some (.slice elem)) (hs : (P.info? elem).map (·.size) = some K) (hn : Nat.min sLen dLen = 0) :
    (Builtin.copy_ #[dT, sT] ty #[.slice d dLen dCap, .slice a sLen sCap]).run P w = .ok (goInt 0) w := by
  cases hq : P.info? elem with
  | none => simp [hq] at hs
  | some i =>
    have hl : ∀ (x : Addr), (loadCells x 0).run P w = .ok #[] w := fun x => by simpa using run_loadCells_list (P := P) w x [] (by simp)
    cases d <;> cases a <;> simp [Builtin.copy_, run_underlying hu, Builtin.lenOf, Builtin.firstCells, sizeOf, typeInfo, hq, hn, storeCells, hl]
theorem run_make_rowk (t e : TypeId) (i : TypeInfo) (z : Value) (ht : P.underlying t = some (.slice e)) (hi : P.info? e = some i) (hz : i.zero = some z)
    (k1 k2 : IntKind) (n : Nat) (hn : n ≤ maxLen) (hb : i.bytes * n ≤ 281474976710656) (w : World) :
    (Instr.makeSlice t (.int k1 n) (.int k2 n)).run P w = .ok (.slice (some ⟨w.heap.size, 0, none⟩) n n) (w.alloc (.cells (madeCells z.cells (n * i.size)) e)) := by
  have hb' : (i.bytes : Int) * (n : Int) ≤ 281474976710656 := by
    have h : ((i.bytes * n : Nat) : Int) ≤ 281474976710656 := by omega
    rwa [Int.natCast_mul] at h
  unfold maxLen at hn
  have hr := run_make (P := P) w t e i z ht hi hz k1 k2 n n (by omega) (Int.le_refl _) hb' (by omega)
  simp only [Int.toNat_natCast] at hr
  exact hr
end
end Go.Proofs.YtogeohjeabbmaaaDoor

/-
  Arguments that are arrays of two, opened.
-/
namespace Go.Proofs.YtogeohjeabbmaaaDoor
open Go.ChangeShapes Go.WideShapes Go.RowKit Go.Joins Go.Deep
variable {H : Type} {enc : TypeId × Value → H} {P : Program} {w : World} {base : Nat} {spare : Nat → Bool} {held : Bool}

theorem okWide_arr {r : Reach} {b0 n : Nat} {t e : TypeId} {v : Value} (ht : P.underlying t = some (.array n e)) (h : Value.okWide P w r b0 t v) : ∃ cs, v = .agg cs ∧ cs.size = P.cellsOf t := by
  simp only [Value.okWide, ht] at h
  obtain ⟨cs, h1, h2, _⟩ := h
  exact ⟨cs, h1, h2⟩
theorem open_arr2 {r : Reach} {b0 : Nat} {t e : TypeId} {v : Value} {d : DataW H} {p : List MemPlace} (hs : P.underlying t = some (.array 2 e)) (hC : P.cellsOf t = 2) (hE : P.cellsOf e = 1)
    (hv : Value.okWide P w r b0 t v) (h : DataW.Trod enc P w base spare held t v d p) :
    ∃ (v0 v1 : Value) (y0 y1 : DataW H × List MemPlace) (n : Nat), v = .agg #[v0, v1] ∧ d = .agg [y0.1, y1.1] ∧ p = y0.2 ++ y1.2 ∧
      DataW.trod enc P w base spare held n e [v0] = some y0 ∧ DataW.trod enc P w base spare held n e [v1] = some y1 := by
  obtain ⟨cs, rfl, hsz⟩ := okWide_arr hs hv
  obtain ⟨c0, c1, rfl⟩ := array2 (hsz.trans hC)
  obtain ⟨fuel, hf⟩ := h
  obtain ⟨xs, m, _, hx, _, hl, hg⟩ := DataW.trod_array hs hf
  match xs, hl with
  | [y0, y1], _ =>
    simp only [Prod.mk.injEq] at hx
    have h0 := hg 0 (by decide)
    have h1 := hg 1 (by decide)
    rw [hE] at h0 h1
    exact ⟨c0, c1, y0, y1, m, rfl, by simpa using hx.1, by simpa using hx.2, by simpa [Value.cells] using h0, by simpa [Value.cells] using h1⟩
theorem sl_of_bools {W : World} {x : Addr} {len cap : Nat} {B : Nat → Bool} (hl : len ≤ cap) (hm : cap ≤ maxLen)
    (hcell : ∀ i, i < cap → W.cell? (x.add i) = some (.bool (B i))) : Sl W (some x) len (((List.range len).map B).map Value.bool) := by
  refine ⟨by simp, Nat.le_trans hl hm, ?_⟩
  by_cases h0 : len = 0
  · exact .inl h0
  · obtain ⟨b, off, spot⟩ := x
    have h1 := hcell 0 (by omega)
    have hspot : spot = none := by simpa [Addr.add] using World.cell?_spot h1
    subst hspot
    refine .inr ⟨b, off, rfl, fun j u hu => ?_⟩
    have hj : j < len := by
      have := (List.getElem?_eq_some_iff.1 hu).1
      simpa using this
    have h2 := hcell j (by omega)
    have hadd : (⟨b, off, none⟩ : Addr).add j = ⟨b, off + j, none⟩ := by unfold Addr.add; split <;> simp_all
    rw [hadd] at h2
    rw [h2]
    rw [List.getElem?_map, List.getElem?_map, List.getElem?_range hj] at hu
    exact hu
end Go.Proofs.YtogeohjeabbmaaaDoor

/-
  Structs by value, opened; slices of structs and of arrays, opened.
-/
set_option linter.unusedSimpArgs false
set_option linter.unusedVariables false
namespace Go.Proofs.YtogeohjeabbmaaaDoor
open Go.ChangeShapes Go.WideShapes Go.RowKit Go.Joins Go.Deep
variable {H : Type} {enc : TypeId × Value → H} {P : Program} {w : World} {base : Nat} {spare : Nat → Bool} {held : Bool}

theorem open_cells {r : Reach} {b0 : Nat} {t : TypeId} {fs : Array Field} {v : Value} {d : DataW H} {p : List MemPlace} (hs : P.underlying t = some (.struct fs)) (hone : oneCellFields P fs = true) (hC : P.cellsOf t = fs.size)
    (hv : Value.okWide P w r b0 t v) (h : DataW.Trod enc P w base spare held t v d p) :
    ∃ cs : List Value, v = .agg cs.toArray ∧ cs.length = fs.size ∧ ∀ (j : Nat) (f : Field), fs[j]? = some f → ∃ (c : Value) (n : Nat) (y : DataW H × List MemPlace), cs[j]? = some c ∧ DataW.trod enc P w base spare held n f.type [c] = some y := by
  obtain ⟨⟨cs⟩, rfl, hsz⟩ := okWide_struct hs hv
  have hsz' : cs.length = fs.size := by have := hsz.trans hC; simpa using this
  obtain ⟨fuel, hf⟩ := h
  obtain ⟨xs, n, _, hx, _, hl, hg⟩ := DataW.trod_struct hs hf
  refine ⟨cs, rfl, hsz', fun j f hj => ?_⟩
  have hjl : j < fs.size := (Array.getElem?_eq_some_iff.1 hj).1
  obtain ⟨ho, hk⟩ := hone_of hone j f hj
  have h1 := hg j f hj
  rw [ho, hk] at h1
  simp only [Value.cells] at h1
  have e : (cs.drop j).take 1 = [cs[j]'(by omega)] := by
    rw [List.drop_eq_getElem_cons (by omega)]; rfl
  rw [e, List.getElem?_eq_getElem (by omega)] at h1
  exact ⟨cs[j]'(by omega), n, _, List.getElem?_eq_getElem (by omega), h1⟩
theorem field_int {fs : Array Field} {cs : List Value} (hf : ∀ (j : Nat) (f : Field), fs[j]? = some f → ∃ (c : Value) (n : Nat) (y : DataW H × List MemPlace), cs[j]? = some c ∧ DataW.trod enc P w base spare held n f.type [c] = some y)
    (j : Nat) (t : TypeId) (k : IntKind) (hj : (fs[j]?).map (·.type) = some t) (ht : P.underlying t = some (.int k)) : ∃ z, cs[j]? = some (.int k z) ∧ (Lit.int k z).wf = true := by
  cases hfj : fs[j]? with
  | none => rw [hfj] at hj; cases hj
  | some f =>
    rw [hfj] at hj
    obtain ⟨c, n, y, hc, ht'⟩ := hf j f hfj
    have ef : f.type = t := by simpa using hj
    rw [ef] at ht'
    obtain ⟨z, hz, _, hw⟩ := DataW.trod_int ht ht'
    obtain rfl : c = .int k z := by simpa using hz
    exact ⟨z, hc, hw⟩
theorem field_bool {fs : Array Field} {cs : List Value} (hf : ∀ (j : Nat) (f : Field), fs[j]? = some f → ∃ (c : Value) (n : Nat) (y : DataW H × List MemPlace), cs[j]? = some c ∧ DataW.trod enc P w base spare held n f.type [c] = some y)
    (j : Nat) (t : TypeId) (hj : (fs[j]?).map (·.type) = some t) (ht : P.underlying t = some .bool) : ∃ z, cs[j]? = some (.bool z) := by
  cases hfj : fs[j]? with
  | none => rw [hfj] at hj; cases hj
  | some f =>
    rw [hfj] at hj
    obtain ⟨c, n, y, hc, ht'⟩ := hf j f hfj
    have ef : f.type = t := by simpa using hj
    rw [ef] at ht'
    obtain ⟨z, hz, _⟩ := DataW.trod_bool ht ht'
    obtain rfl : c = .bool z := by simpa using hz
    exact ⟨z, hc⟩
theorem wf_i64' {x : Int} (h : (Lit.int .i64 x).wf = true) : -9223372036854775808 ≤ x ∧ x ≤ 9223372036854775807 := by
  have h1 : IntKind.i64.min = -9223372036854775808 := rfl
  have h2 : IntKind.i64.max = 9223372036854775807 := rfl
  simp only [Lit.wf, h1, h2, Bool.and_eq_true, decide_eq_true_eq] at h; omega
end Go.Proofs.YtogeohjeabbmaaaDoor

/-
  Slices whose elements take several cells, opened.
-/
set_option linter.unusedSimpArgs false
set_option linter.unusedVariables false
set_option maxRecDepth 100000
namespace Go.Proofs.YtogeohjeabbmaaaDoor
open Go.ChangeShapes Go.WideShapes Go.RowKit Go.Joins Go.Deep
variable {H : Type} {enc : TypeId × Value → H} {P : Program} {w : World} {base : Nat} {spare : Nat → Bool} {held : Bool}

theorem flatMap_len {α β : Type} {f : α → List β} {K : Nat} (hk : ∀ x, (f x).length = K) (l : List α) : (l.flatMap f).length = l.length * K := by
  induction l with
  | nil => simp
  | cons a l ih => rw [List.flatMap_cons, List.length_append, ih, hk, List.length_cons, Nat.add_mul]; omega
theorem flatMap_get {α β : Type} {f : α → List β} {K : Nat} (hk : ∀ x, (f x).length = K) (l : List α) (i r : Nat) (hr : r < K) (hi : i < l.length) : (l.flatMap f)[i * K + r]? = (f l[i])[r]? := by
  induction l generalizing i with
  | nil => simp at hi
  | cons a l ih =>
    rw [List.flatMap_cons]
    cases i with
    | zero => rw [Nat.zero_mul, Nat.zero_add, List.getElem?_append_left (by rw [hk]; exact hr)]; rfl
    | succ i =>
      rw [List.getElem?_append_right (by rw [hk, Nat.add_mul]; omega), hk, show (i + 1) * K + r - K = i * K + r by rw [Nat.add_mul]; omega]
      exact ih i (by simpa using hi)
theorem pick_list {α : Type} {p : Nat → α → Prop} (m : Nat) (h : ∀ i, i < m → ∃ x, p i x) : ∃ xs : List α, xs.length = m ∧ ∀ i (hi : i < xs.length), p i xs[i] := by
  induction m with
  | zero => exact ⟨[], rfl, fun i hi => by simp at hi⟩
  | succ m ih =>
    obtain ⟨xs, hl, hx⟩ := ih fun i hi => h i (by omega)
    obtain ⟨x, hp⟩ := h m (by omega)
    refine ⟨xs ++ [x], by simp [hl], fun i hi => ?_⟩
    by_cases hlt : i < xs.length
    · rw [List.getElem_append_left hlt]; exact hx i hlt
    · have e : i = xs.length := by simp at hi; omega
      subst e
      simp
      rw [hl]; exact hp
theorem open_slice_k {α : Type} {r : Reach} {b0 : Nat} {t e : TypeId} {v : Value} {d : DataW H} {p : List MemPlace} (f : α → List Value) (K : Nat) (ok : α → Prop) (hk : ∀ x, (f x).length = K) (hK : 0 < K) (ht : P.underlying t = some (.slice e)) (hC : P.cellsOf e = K)
    (hE : ∀ (n : Nat) (cs' : List Value) (y : DataW H × List MemPlace), cs'.length = K → DataW.trod enc P w base spare held n e cs' = some y → ∃ x, cs' = f x ∧ ok x)
    (hv : Value.okWide P w r b0 t v) (h : DataW.Trod enc P w base spare held t v d p) :
    ∃ (sp : Option Addr) (len cap : Nat) (xs : List α), v = .slice sp len cap ∧ SlK w K sp len (xs.flatMap f) ∧ len = xs.length ∧ (∀ x ∈ xs, ok x) ∧ (sp = none → cap = 0) ∧ len ≤ cap := by
  obtain ⟨sp, len, cap, rfl⟩ := okWide_slice ht hv
  obtain ⟨fuel, hf⟩ := h
  rcases open_slice ht hf with ⟨hcs, _⟩ | ⟨a, len', cap', m, n, D, Pl, hcs, _, hl, hm, hmm, _, hx⟩
  · simp [Value.cells] at hcs
    obtain ⟨rfl, rfl, rfl⟩ := hcs
    exact ⟨none, 0, 0, [], rfl, SlK.nil _ _ _, rfl, fun x hx => (by cases hx), fun _ => rfl, Nat.le_refl _⟩
  · simp [Value.cells] at hcs
    obtain ⟨rfl, rfl, rfl⟩ := hcs
    have hlm : len ≤ m := by rw [hmm]; split <;> omega
    rw [hC] at hx
    obtain ⟨xs, hxl, hxs⟩ := pick_list (p := fun i x => w.cells? base (a.add (i * K)) K = some (f x) ∧ ok x) len (fun i hi => by
      obtain ⟨cs', h1, h2⟩ := hx i (by omega)
      obtain ⟨_, hlen, _⟩ := World.cells?_some h1
      obtain ⟨x, rfl, hok⟩ := hE n cs' _ hlen h2
      exact ⟨x, h1, hok⟩)
    refine ⟨some a, len, cap, xs, rfl, ⟨by rw [flatMap_len hk, hxl], Nat.le_trans hl hm, ?_⟩, hxl.symm, fun x hx => ?_, fun h => (by cases h), hl⟩
    · by_cases h0 : len = 0
      · exact .inl h0
      · obtain ⟨b, off, spot⟩ := a
        have h1 := (World.cells?_some (hxs 0 (by omega)).1).2.2 0 hK
        have h2 : (f (xs[0]'(by omega)))[0]? = some ((f (xs[0]'(by omega)))[0]'(by rw [hk]; exact hK)) := List.getElem?_eq_getElem _
        have hspot : spot = none := by
          have := World.cell?_spot (h1.trans h2)
          simpa [Addr.add] using this
        subst hspot
        refine .inr ⟨b, off, rfl, fun j u hu => ?_⟩
        have hadd : ∀ q, (⟨b, off, none⟩ : Addr).add q = ⟨b, off + q, none⟩ := fun q => by unfold Addr.add; split <;> simp_all
        have hadd2 : ∀ q s, (⟨b, q, none⟩ : Addr).add s = ⟨b, q + s, none⟩ := fun q s => by unfold Addr.add; split <;> simp_all
        have hj : j < xs.length * K := by
          have := (List.getElem?_eq_some_iff.1 hu).1
          rwa [flatMap_len hk] at this
        have hq : j / K < xs.length := (Nat.div_lt_iff_lt_mul hK).2 hj
        have hr : j % K < K := Nat.mod_lt _ hK
        have hd : j / K * K + j % K = j := by rw [Nat.mul_comm]; exact Nat.div_add_mod j K
        have h3 := (World.cells?_some (hxs (j / K) hq).1).2.2 (j % K) hr
        rw [hadd, hadd2, Nat.add_assoc, hd] at h3
        rw [h3, ← flatMap_get hk xs (j / K) (j % K) hr hq, hd]
        exact hu
    · obtain ⟨i, hi, rfl⟩ := List.mem_iff_getElem.1 hx
      exact (hxs i hi).2
/-- A slice of arrays of two words. -/
theorem open_prs {r : Reach} {b0 : Nat} {t e u : TypeId} {v : Value} {d : DataW H} {p : List MemPlace} (ht : P.underlying t = some (.slice e)) (he : P.underlying e = some (.array 2 u)) (hu : P.underlying u = some (.int .u64)) (hCe : P.cellsOf e = 2) (hCu : P.cellsOf u = 1)
    (hv : Value.okWide P w r b0 t v) (h : DataW.Trod enc P w base spare held t v d p) :
    ∃ (sp : Option Addr) (len cap : Nat) (ks : List (Nat × Nat)), v = .slice sp len cap ∧ SlK w 2 sp len (prs ks) ∧ P64 ks ∧ (sp = none → cap = 0) ∧ len ≤ cap := by
  obtain ⟨sp, len, cap, xs, hv', hS, _, hok, hn, hl⟩ := open_slice_k (fun p : Nat × Nat => [.int .u64 (p.1 : Int), .int .u64 (p.2 : Int)]) 2 (fun p => p.1 < 2 ^ 64 ∧ p.2 < 2 ^ 64) (fun _ => rfl) (by decide) ht hCe (fun n cs' y hl2 hy => by
    obtain ⟨ys, m, _, hx, _, hl', hg⟩ := DataW.trod_array he hy
    match cs', hl2 with
    | [c0, c1], _ =>
      match ys, hl' with
      | [y0, y1], _ =>
        have h0 := hg 0 (by decide)
        have h1 := hg 1 (by decide)
        rw [hCu] at h0 h1
        have h0' : DataW.trod enc P w base spare held m u [c0] = some y0 := by simpa using h0
        have h1' : DataW.trod enc P w base spare held m u [c1] = some y1 := by simpa using h1
        obtain ⟨z0, e0, _, w0⟩ := DataW.trod_int hu h0'
        obtain ⟨z1, e1, _, w1⟩ := DataW.trod_int hu h1'
        obtain ⟨n0, rfl, b0⟩ := nat_of_u64 w0
        obtain ⟨n1, rfl, b1⟩ := nat_of_u64 w1
        simp at e0 e1
        subst e0 e1
        exact ⟨(n0, n1), rfl, b0, b1⟩) hv h
  exact ⟨sp, len, cap, xs, hv', hS, hok, hn, hl⟩
end Go.Proofs.YtogeohjeabbmaaaDoor

