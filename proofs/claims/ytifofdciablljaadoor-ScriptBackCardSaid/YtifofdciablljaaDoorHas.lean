/-
  Blocks of one's own, all in one list: the newest first.
-/
import Derived.Test.YtifofdciablljaaDoorSlK
import Derived.Laws.Tables
set_option linter.unusedSimpArgs false
set_option linter.unusedVariables false
namespace Go.Proofs.YtifofdciablljaaDoor
open Go.RowKit

abbrev Blk3 := Nat × Array Value × TypeId
def HasL (W : World) : List Blk3 → Prop
  | [] => True
  | x :: l => W.heap[x.1]? = some (.cells x.2.1 x.2.2 (0, 0)) ∧ HasL W l
theorem HasL.mem {W : World} : ∀ {l : List Blk3}, HasL W l → ∀ x ∈ l, W.heap[x.1]? = some (.cells x.2.1 x.2.2 (0, 0))
  | [], _, x, hx => by cases hx
  | y :: l, h, x, hx => by
    rcases List.mem_cons.1 hx with e | hx
    · rw [e]; exact h.1
    · exact HasL.mem h.2 x hx
theorem HasL.of {W : World} : ∀ {l : List Blk3}, (∀ x ∈ l, W.heap[x.1]? = some (.cells x.2.1 x.2.2 (0, 0))) → HasL W l
  | [], _ => trivial
  | y :: l, h => ⟨h y (List.mem_cons_self ..), HasL.of fun x hx => h x (List.mem_cons_of_mem _ hx)⟩
/-- These blocks are mine since w0, the newest first, and hold what the list says; all that lay in w0 lies as it lay. -/
structure Hs (w0 : World) (l : List Blk3) (W : World) : Prop where
  rows : HasL W l
  old : Below w0.heap.size w0 W
  low : ∀ x ∈ l, w0.heap.size ≤ x.1
  desc : l.Pairwise fun x y => y.1 < x.1
theorem Hs.nil (w0 : World) : Hs w0 [] w0 := ⟨trivial, Below.refl _ _, fun x hx => (by cases hx), List.Pairwise.nil⟩
theorem Hs.next {w0 : World} {l : List Blk3} {W W' : World} (h : Hs w0 l W) (hb : Below W.heap.size W W') : Hs w0 l W' :=
  ⟨HasL.of fun x hx => heap_below hb (h.rows.mem x hx) (lt_of_heap (h.rows.mem x hx)), below_next h.old hb, h.low, h.desc⟩
theorem Hs.drew {w0 : World} {l : List Blk3} {W : World} (h : Hs w0 l W) : Hs w0 l W.drew := ⟨HasL.of fun x hx => h.rows.mem x hx, Below.drew h.old, h.low, h.desc⟩
theorem Hs.drewN {w0 : World} {l : List Blk3} {W : World} (h : Hs w0 l W) (n : Nat) : Hs w0 l (W.drewN n) := ⟨HasL.of fun x hx => h.rows.mem x hx, h.old.trans (below_drewN' _ _), h.low, h.desc⟩
theorem Hs.lt {w0 : World} {l : List Blk3} {W : World} (h : Hs w0 l W) : ∀ x ∈ l, x.1 < W.heap.size := fun x hx => lt_of_heap (h.rows.mem x hx)
theorem Hs.new {w0 : World} {l : List Blk3} {W : World} (h : Hs w0 l W) (cs : Array Value) (t : TypeId) : Hs w0 ((W.heap.size, cs, t) :: l) (W.alloc (.cells cs t)) := by
  have hn := h.next ((Below.refl _ W).alloc (Nat.le_refl _) (.cells cs t))
  refine ⟨⟨World.alloc_heap_new _ _, hn.rows⟩, hn.old, fun x hx => ?_, List.Pairwise.cons (fun x hx => h.lt x hx) h.desc⟩
  rcases List.mem_cons.1 hx with e | hx
  · rw [e]; exact h.old.size
  · exact h.low x hx
/-- One more, of which the heap tells. -/
theorem Hs.more {w0 : World} {l : List Blk3} {W W' : World} (h : Hs w0 l W) (hb : Below W.heap.size W W') {b : Nat} {cs : Array Value} {t : TypeId} (hg : W'.heap[b]? = some (.cells cs t (0, 0))) (hlo : W.heap.size ≤ b) : Hs w0 ((b, cs, t) :: l) W' := by
  have hn := h.next hb
  refine ⟨⟨hg, hn.rows⟩, hn.old, fun x hx => ?_, List.Pairwise.cons (fun x hx => Nat.lt_of_lt_of_le (h.lt x hx) hlo) h.desc⟩
  rcases List.mem_cons.1 hx with e | hx
  · rw [e]; exact Nat.le_trans h.old.size hlo
  · exact h.low x hx
theorem Hs.tail {w0 : World} {x : Blk3} {l : List Blk3} {W : World} (h : Hs w0 (x :: l) W) : Hs w0 l W := ⟨h.rows.2, h.old, fun y hy => h.low y (List.mem_cons_of_mem _ hy), h.desc.tail⟩
/-- One of them turned, whatever the heap did besides to what is not mine and not old. -/
theorem Hs.turn {w0 : World} {l : List Blk3} {W W' : World} (h : Hs w0 l W) (i : Nat) {b : Nat} {old new : Array Value} {t : TypeId} (hi : l[i]? = some (b, old, t)) (hg : W'.heap[b]? = some (.cells new t (0, 0)))
    (ho : ∀ k, k ≠ b → W'.heap[k]? = W.heap[k]?) (hsz : W.heap.size ≤ W'.heap.size) (hos : W'.os = W.os) (ht : W'.tape = W.tape) (hu : W'.output = W.output) : Hs w0 (l.set i (b, new, t)) W' := by
  have hil : i < l.length := (List.getElem?_eq_some_iff.1 hi).1
  have hib : l[i]'hil = (b, old, t) := (List.getElem?_eq_some_iff.1 hi).2
  have hm : (b, old, t) ∈ l := by rw [← hib]; exact List.getElem_mem _
  have hne : ∀ j (hj : j < l.length), j ≠ i → (l[j]'hj).1 ≠ b := by
    intro j hj hji
    have hp := List.pairwise_iff_getElem.1 h.desc
    rcases Nat.lt_or_gt_of_ne hji with hlt | hlt
    · have := hp j i hj hil hlt; rw [hib] at this; simp only at this; omega
    · have := hp i j hil hj hlt; rw [hib] at this; simp only at this; omega
  have hlo := h.low _ hm
  refine ⟨HasL.of fun x hx => ?_, ⟨hos.trans h.old.os, ht.trans h.old.tape, hu.trans h.old.output, Nat.le_trans h.old.size hsz, fun k hk => (ho k (by simp only at hlo; omega)).trans (h.old.block k hk)⟩, fun x hx => ?_, ?_⟩
  · obtain ⟨j, hj, rfl⟩ := List.mem_iff_getElem.1 hx
    rw [List.length_set] at hj
    rw [List.getElem_set]
    split
    · exact hg
    · rename_i hij
      exact (ho _ (hne j hj (fun e => hij e.symm))).trans (h.rows.mem _ (List.getElem_mem _))
  · obtain ⟨j, hj, rfl⟩ := List.mem_iff_getElem.1 hx
    rw [List.length_set] at hj
    rw [List.getElem_set]
    split
    · exact hlo
    · exact h.low _ (List.getElem_mem _)
  · refine List.pairwise_iff_getElem.2 fun a c ha hc hac => ?_
    rw [List.length_set] at ha hc
    have hp := List.pairwise_iff_getElem.1 h.desc a c ha hc hac
    rw [List.getElem_set, List.getElem_set]
    split
    · rename_i e; subst e
      rw [if_neg (by omega)]
      rw [hib] at hp
      exact hp
    · split
      · rename_i e; subst e
        rw [hib] at hp
        exact hp
      · exact hp
theorem Hs.set {w0 : World} {l : List Blk3} {W : World} (h : Hs w0 l W) (i : Nat) {b : Nat} {old : Array Value} {t : TypeId} (hi : l[i]? = some (b, old, t)) (new : Array Value) : Hs w0 (l.set i (b, new, t)) (W.setRow b new) :=
  h.turn i hi (setRow_heap _ _ _ _ _ _ (h.rows.mem _ (List.mem_of_getElem? hi))) (fun k hk => setRow_other _ _ _ _ hk) (by simp) rfl rfl rfl
theorem Hs.put {w0 : World} {l : List Blk3} {W : World} (h : Hs w0 l W) (i : Nat) {b : Nat} {old : Array Value} {t : TypeId} (hi : l[i]? = some (b, old, t)) (j : Nat) (v : Value) : Hs w0 (l.set i (b, old.setIfInBounds j v, t)) (W.setCell ⟨b, j, none⟩ v) :=
  h.turn i hi (blk_set _ (h.rows.mem _ (List.mem_of_getElem? hi))) (fun k hk => Below.heap_setCell _ _ _ _ hk) (by simp [World.setCell]) rfl rfl rfl
/-- The cells of a block of two. -/
theorem Hs.two {w0 : World} {l : List Blk3} {W : World} (h : Hs w0 l W) {b : Nat} {u v : Value} {t : TypeId} (hm : (b, (#[u, v] : Array Value), t) ∈ l) : W.cell? ⟨b, 0, none⟩ = some u ∧ W.cell? ⟨b, 1, none⟩ = some v :=
  ⟨blk_cell (h.rows.mem _ hm) rfl, blk_cell (h.rows.mem _ hm) rfl⟩
theorem Hs.new2 {w0 : World} {l : List Blk3} {W : World} (h : Hs w0 l W) (cs cs' : Array Value) (t t' : TypeId) : Hs w0 ((W.heap.size + 1, cs', t') :: (W.heap.size, cs, t) :: l) ((W.alloc (.cells cs t)).alloc (.cells cs' t')) :=
  (h.new cs t).more ((Below.refl _ _).alloc (Nat.le_refl _) _) (heap_alloc2_new W _ _) (by simp)
end Go.Proofs.YtifofdciablljaaDoor
