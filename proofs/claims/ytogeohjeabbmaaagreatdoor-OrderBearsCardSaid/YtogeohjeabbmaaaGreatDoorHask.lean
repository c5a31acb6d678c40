/-
 Blocks of one's own beside an iterator that tells out of memory of its own.
-/
import Derived.Test.YtogeohjeabbmaaaGreatDoorY1
set_option linter.unusedSimpArgs false
set_option linter.unusedVariables false
set_option maxRecDepth 100000
namespace Go.Proofs.YtogeohjeabbmaaaGreatDoor
open Go.RowKit

theorem HasL.foreign' {S S' : Nat → Prop} {W W' : World} {L : List Blk3} (h : HasL W L) (hm : ∀ x ∈ L, ¬ S x.1) (hf : Foreign S S' W W') : HasL W' L ∧ ∀ x ∈ L, ¬ S' x.1 :=
 ⟨HasL.of fun x hx => hf.heap' (hm x hx) (h.mem x hx), fun x hx => hf.not (lt_of_heap (h.mem x hx)) (hm x hx)⟩
/-- Between rounds: the blocks L are the function's own, S the iterator's, RO is read. -/
structure HsS (w0 : World) (RO : Nat → Prop) (B : Nat) (L : List Blk3) (S : Nat → Prop) (W : World) : Prop where
 hs : Hs w0 L W
 sz : B ≤ W.heap.size
 mine : ∀ x ∈ L, ¬ S x.1
 ro : ∀ x ∈ L, ¬ RO x.1
 old : ∀ b, S b → w0.heap.size ≤ b
theorem HsS.stable (w0 : World) (RO : Nat → Prop) (B : Nat) (L : List Blk3) : Stable (HsS w0 RO B L) := by
 rintro S S' W W' ⟨h, hsz, h1, h2, h3⟩ hf
 obtain ⟨g1, g2⟩ := h.rows.foreign' h1 hf
 have hz := h.old.size
 have hb : Below w0.heap.size w0 W' := hf.below h.old (Nat.le_refl _) fun b hb hs => by have := h3 b hs; omega
 refine ⟨⟨g1, hb, h.low, h.desc⟩, Nat.le_trans hsz hf.size, g2, h2, fun b hb => ?_⟩
 rcases hf.fresh b hb with h | h
 ·
  exact h3 b h
 ·
  omega
/-- Within a round: the same, since the round began in Wb. -/
structure HsK (w0 : World) (X : Nat → Prop) (L : List Blk3) (Wb W : World) : Prop where
 hs : Hs w0 L W
 mine : ∀ x ∈ L, ¬ X x.1
 kept : Kept X Wb W
 lim : ∀ b, X b → b < Wb.heap.size
theorem HsS.start {w0 : World} {RO S : Nat → Prop} {B : Nat} {L : List Blk3} {W : World} (h : HsS w0 RO B L S W) (hS : ∀ b, S b → b < W.heap.size) (hR : ∀ b, RO b → b < B) : HsK w0 (fun b => RO b ∨ S b) L W W :=
 ⟨h.hs, fun x hx e => e.elim (h.ro x hx) (h.mine x hx), Kept.refl _ _, fun b hb => hb.elim (fun h' => Nat.lt_of_lt_of_le (hR b h') h.sz) (hS b)⟩
section
variable {w0 : World} {X : Nat → Prop} {L : List Blk3} {Wb W W' : World}
theorem HsK.next (h : HsK w0 X L Wb W) (hb : Below W.heap.size W W') : HsK w0 X L Wb W' := ⟨h.hs.next hb, h.mine, h.kept.trans (Kept.of_below hb), h.lim⟩
theorem HsK.drewN (h : HsK w0 X L Wb W) (n : Nat) : HsK w0 X L Wb (W.drewN n) := h.next (below_drewN' _ _)
theorem HsK.drew (h : HsK w0 X L Wb W) : HsK w0 X L Wb W.drew := h.next (Below.drew (Below.refl _ _))
theorem HsK.new (h : HsK w0 X L Wb W) (cs : Array Value) (t : TypeId) : HsK w0 X ((W.heap.size, cs, t) :: L) Wb (W.alloc (.cells cs t)) :=
 ⟨h.hs.new cs t, fun x hx => by
  rcases List.mem_cons.1 hx with rfl | hx
  ·
   intro e; have := h.lim _ e; have := h.kept.size; simp only at *; omega
  ·
   exact h.mine x hx, h.kept.trans (Kept.alloc _ _ _), h.lim⟩
theorem HsK.mem_set (h : ∀ x ∈ L, ¬ X x.1) {i b : Nat} {old new : Array Value} {t : TypeId} (hi : L[i]? = some (b, old, t)) : ∀ x ∈ L.set i (b, new, t), ¬ X x.1 := fun x hx => by
 rcases List.mem_or_eq_of_mem_set hx with hx | rfl
 ·
  exact h x hx
 ·
  exact (h _ (List.mem_of_getElem? hi) : ¬ X b)
theorem HsK.put (h : HsK w0 X L Wb W) (i : Nat) {b : Nat} {old : Array Value} {t : TypeId} (hi : L[i]? = some (b, old, t)) (j : Nat) (v : Value) : HsK w0 X (L.set i (b, old.setIfInBounds j v, t)) Wb (W.setCell ⟨b, j, none⟩ v) :=
 ⟨h.hs.put i hi j v, HsK.mem_set h.mine hi, h.kept.trans (Kept.setCell _ _ _ _ (h.mine _ (List.mem_of_getElem? hi))), h.lim⟩
theorem HsK.tail {x : Blk3} (h : HsK w0 X (x :: L) Wb W) : HsK w0 X L Wb W := ⟨h.hs.tail, fun y hy => h.mine y (List.mem_cons_of_mem _ hy), h.kept, h.lim⟩
theorem Kept.setRow' (S : Nat → Prop) (W : World) (b : Nat) (cs : Array Value) (h : ¬ S b) : Kept S W (W.setRow b cs) :=
 ⟨rfl, rfl, rfl, by simp, fun k _ hk => setRow_other _ _ _ _ (fun e => h (e ▸ hk))⟩
theorem HsK.set (h : HsK w0 X L Wb W) (i : Nat) {b : Nat} {old : Array Value} {t : TypeId} (hi : L[i]? = some (b, old, t)) (new : Array Value) : HsK w0 X (L.set i (b, new, t)) Wb (W.setRow b new) :=
 ⟨h.hs.set i hi new, HsK.mem_set h.mine hi, h.kept.trans (Kept.setRow' _ _ _ _ (h.mine _ (List.mem_of_getElem? hi))), h.lim⟩
theorem Hs.grown' {w0 : World} {l : List Blk3} {W W' : World} (h : Hs w0 l W) {row : Option Nat} (hg : W.grownBy W' row) (hr : ∀ k, row = some k → w0.heap.size ≤ k ∧ ∀ x ∈ l, x.1 ≠ k) : Hs w0 l W' :=
 ⟨HasL.of fun x hx => (hg.block x.1 (lt_of_heap (h.rows.mem x hx)) (fun e => (hr x.1 e.symm).2 x hx rfl)).trans (h.rows.mem x hx), h.old.grown hg h.old.size (fun k hk => (hr k hk).1), h.low, h.desc⟩
theorem HsK.grown (h : HsK w0 X L Wb W) {row : Option Nat} (hg : W.grownBy W' row) (hr : ∀ k, row = some k → w0.heap.size ≤ k ∧ (∀ x ∈ L, x.1 ≠ k) ∧ ¬ X k) : HsK w0 X L Wb W' :=
 ⟨h.hs.grown' hg fun k hk => ⟨(hr k hk).1, (hr k hk).2.1⟩, h.mine, h.kept.trans (Kept.grown hg fun k hk => (hr k hk).2.2), h.lim⟩
end
end Go.Proofs.YtogeohjeabbmaaaGreatDoor
