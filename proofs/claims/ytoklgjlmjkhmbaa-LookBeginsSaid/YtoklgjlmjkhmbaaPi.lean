/-
  Several texts of mine in one: SlK Has Eq64 Prs Takes Runs BegPure Open OpenS OpenSg.
-/
import Derived.Test.YtoklgjlmjkhmbaaPa
import Derived.Maps.AppendAt
import Derived.Deep.AppendLies
import Derived.RegionTactic
import Derived.Laws.Rows
import Derived.Laws.Tables
import Derived.Deep.QuietTactic
import Derived.BigQuiet
import Derived.Deep.LoopGhost
import Derived.Test.YtoklgjlmjkhmbaaPh
import Derived.Deep.Cut
import Derived.Deep.CutRange
import Derived.Deep.RegionHeld3
import Derived.Laws.StructEq
import Derived.Test.YtoklgjlmjkhmbaaPc
import Derived.Test.YtoklgjlmjkhmbaaRows
import Derived.Deep.Grids
import Derived.WalkKit
import Derived.ProofKit
import Derived.OpenShut
import Derived.ChangeOld
import Derived.Lib.SmallJoins
import Derived.Deep.Fields
import Derived.Deep.Slices
/-
  Slices of elements of k cells, by what they read as; append onto a row of one's own from such a slice.
-/
set_option linter.unusedSimpArgs false
set_option linter.unusedVariables false
namespace Go.Proofs.Ytoklgjlmjkhmbaa
open Go.RowKit

def SlK (w : World) (k : Nat) (sp : Option Addr) (n : Nat) (vals : List Value) : Prop :=
  vals.length = n * k ∧ n ≤ maxLen ∧ (n = 0 ∨ ∃ b off, sp = some ⟨b, off, none⟩ ∧ ∀ j u, vals[j]? = some u → w.cell? ⟨b, off + j, none⟩ = some u)
theorem SlK.nil (w : World) (k : Nat) (sp : Option Addr) : SlK w k sp 0 [] := ⟨by simp, Nat.zero_le _, .inl rfl⟩
theorem SlK.keep {w w' : World} {k : Nat} {sp : Option Addr} {n : Nat} {vals : List Value} (h : SlK w k sp n vals) (hk : ∀ b o, b < w.heap.size → sp.map (·.block) = some b → w.heap[b]? = some o → w'.heap[b]? = some o) : SlK w' k sp n vals := by
  obtain ⟨h1, h2, h3⟩ := h
  refine ⟨h1, h2, h3.imp id ?_⟩
  rintro ⟨b, off, rfl, hc⟩
  refine ⟨b, off, rfl, fun j u hu => ?_⟩
  have hcj := hc j u hu
  have hlt := lt_of_cell hcj
  exact cell_of_heap (W := w) ((hk b _ hlt rfl (Array.getElem?_eq_getElem hlt)).trans (Array.getElem?_eq_getElem hlt).symm) hcj
theorem SlK.below {w w' : World} {k : Nat} {sp : Option Addr} {n : Nat} {vals : List Value} (h : SlK w k sp n vals) (hb : Below w.heap.size w w') : SlK w' k sp n vals :=
  h.keep fun b _ hlt _ ho => (hb.block b hlt).trans ho
theorem SlK.some' {w : World} {k : Nat} {sp : Option Addr} {n : Nat} {vals : List Value} (h : SlK w k sp n vals) (hn : 0 < n) : ∃ b off, sp = some ⟨b, off, none⟩ ∧ ∀ j u, vals[j]? = some u → w.cell? ⟨b, off + j, none⟩ = some u := by
  obtain ⟨_, _, h3⟩ := h
  exact h3.resolve_left (by omega)
theorem SlK.take {w : World} {k : Nat} {sp : Option Addr} {n : Nat} {vals : List Value} (h : SlK w k sp n vals) (m : Nat) (hm : m ≤ n) : SlK w k sp m (vals.take (m * k)) := by
  obtain ⟨h1, h2, h3⟩ := h
  refine ⟨?_, by omega, ?_⟩
  · rw [List.length_take, h1]; exact Nat.min_eq_left (Nat.mul_le_mul_right _ hm)
  · by_cases h0 : m = 0
    · exact .inl h0
    · obtain ⟨b, off, e, hc⟩ := h3.resolve_left (by omega)
      refine .inr ⟨b, off, e, fun j u hu => hc j u ?_⟩
      rw [List.getElem?_take] at hu
      split at hu
      · exact hu
      · cases hu
theorem SlK.of_row {w : World} {k base : Nat} {e : TypeId} {sp : Option Addr} {n cap m : Nat} {xs : List Value} (h : w.ownsRow base e k (.slice sp n cap) m xs) (hm : n ≤ maxLen) : SlK w k sp n xs := by
  obtain ⟨h1, h2⟩ := h
  rcases h2 with ⟨hv, h0⟩ | ⟨g, cap', cur, hv, hg, hh, hle, hcap, hsz, ht⟩
  · cases hv; subst h0; exact ⟨h1, Nat.zero_le _, .inl rfl⟩
  · cases hv
    refine ⟨h1, hm, .inr ⟨g, 0, rfl, fun j u hu => ?_⟩⟩
    rw [Nat.zero_add]
    refine blk_cell hh ?_
    rw [← ht, List.getElem?_take] at hu
    split at hu
    · simpa using hu
    · cases hu
theorem SlK.of_blk {w : World} {b k n : Nat} {cs : Array Value} {t : TypeId} {fz : Nat × Nat} (h : w.heap[b]? = some (.cells cs t fz)) (hn : cs.size = n * k) (hm : n ≤ maxLen) : SlK w k (some ⟨b, 0, none⟩) n cs.toList :=
  ⟨by simpa using hn, hm, .inr ⟨b, 0, rfl, fun j u hu => by rw [Nat.zero_add]; exact blk_cell h (by simpa using hu)⟩⟩
theorem SlK.of_sl {w : World} {sp : Option Addr} {n : Nat} {vals : List Value} (h : Sl w sp n vals) : SlK w 1 sp n vals := ⟨by rw [Nat.mul_one]; exact h.1.symm, h.2⟩
theorem SlK.sl {w : World} {sp : Option Addr} {n : Nat} {vals : List Value} (h : SlK w 1 sp n vals) : Sl w sp n vals := ⟨by have := h.1; omega, h.2⟩
theorem SlK.drew {w : World} {k : Nat} {sp : Option Addr} {n : Nat} {vals : List Value} (h : SlK w k sp n vals) : SlK w.drew k sp n vals := h
/-- A cell of one of its elements. -/
theorem SlK.cell {w : World} {k b off n : Nat} {vals : List Value} (h : SlK w k (some ⟨b, off, none⟩) n vals) {j : Nat} {u : Value} (hu : vals[j]? = some u) : w.cell? ⟨b, off + j, none⟩ = some u := by
  obtain ⟨h1, _, h3⟩ := h
  rcases h3 with h3 | ⟨b', off', e, hc⟩
  · have : vals = [] := List.eq_nil_of_length_eq_zero (by rw [h1, h3]; simp)
    subst this; simp at hu
  · cases e; exact hc j u hu

section
variable {P : Program} (w : World)
theorem run_append_of_nil' (base : Nat) (t ty e : TypeId) (i : TypeInfo) (size : Nat) (ht : P.underlying t = some (.slice e)) (hi : P.info? e = some i)
    (v : Value) (n : Nat) (xs : List Value) (hown : w.ownsRow base e size v n xs) (c : Nat) : (Builtin.append_ #[t, t] ty #[v, .slice none 0 c]).run P w = .ok v w := by
  rcases hown.2 with ⟨rfl, rfl⟩ | ⟨g, cap, cur, rfl, _, _, hnc, _⟩
  · simp [Builtin.append_, run_underlying ht, sizeOf, typeInfo, hi, Builtin.lenOf, Builtin.firstCells]
  · simp [Builtin.append_, run_underlying ht, sizeOf, typeInfo, hi, Builtin.lenOf, Builtin.firstCells, hnc, storeCells]
theorem run_append_slk (base : Nat) (t ty e : TypeId) (i : TypeInfo) (z : Value) (size bytes : Nat) (ht : P.underlying t = some (.slice e)) (hi : P.info? e = some i) (hz : i.zero = some z)
    (hsize : i.size = size) (hby : i.bytes = bytes) (hzs : z.cells.size = size) (hsz : 0 < size)
    (v : Value) (n : Nat) (xs : List Value) (hown : w.ownsRow base e size v n xs)
    (A : Option Addr) (m c : Nat) (news : List Value) (hr : SlK w size A m news) (h1 : ∀ u ∈ news, u.oneCell' = true)
    (h63 : n + m ≤ maxLen) (hbytes : (n + m) * bytes ≤ 140737488355328) (hbase : base ≤ w.heap.size) :
    ∃ v' w', (Builtin.append_ #[t, t] ty #[v, .slice A m c]).run P w = .ok v' w' ∧ w'.ownsRow base e size v' (n + m) (xs ++ news) ∧ w.grownBy w' v.ownBlock ∧
      (v'.ownBlock = v.ownBlock ∨ v'.ownBlock = some w.heap.size) := by
  obtain ⟨q1, q2, q3⟩ := hr
  cases A with
  | none =>
    have hm : m = 0 := by
      rcases q3 with h0 | ⟨b, off, e, _⟩
      · exact h0
      · cases e
    subst hm
    have hn : news = [] := List.eq_nil_of_length_eq_zero (by simpa using q1)
    subst hn
    exact ⟨v, w, run_append_of_nil' w base t ty e i size ht hi v n xs hown c, by simpa using hown, World.grownBy.refl w _, .inl rfl⟩
  | some ad =>
    have hcells : ∀ j u, news[j]? = some u → w.cell? (ad.add j) = some u := by
      intro j u hu
      rcases q3 with h0 | ⟨b, off, e, hc⟩
      · subst h0
        have hn : news = [] := List.eq_nil_of_length_eq_zero (by simpa using q1)
        subst hn
        simp at hu
      · cases e
        have hadd : (⟨b, off, none⟩ : Addr).add j = ⟨b, off + j, none⟩ := by unfold Addr.add; split <;> simp_all
        rw [hadd]
        exact hc j u hu
    obtain ⟨v', w', hrun, h2, h3, _, h5⟩ := run_append_own_at (P := P) w base t ty e i z size bytes ht hi hz hsize hby hzs hsz v n xs hown ad m c news q1 hcells h1 h63 hbytes hbase
    exact ⟨v', w', hrun, h2, h3, h5⟩
theorem wp_append_slk {o : Oper} {a : Act} {K : Act → World → Prop} {Q : Exit → Act → World → Prop} (s x : Operand) (t : TypeId)
    (ho : o.op = .call { callee := .builtin .append, args := #[s, x], argTypes := #[t, t] })
    (base : Nat) (e : TypeId) (i : TypeInfo) (z : Value) (size bytes : Nat) (ht : P.underlying t = some (.slice e)) (hi : P.info? e = some i) (hz : i.zero = some z)
    (hsize : i.size = size) (hby : i.bytes = bytes) (hzs : z.cells.size = size) (hsz : 0 < size)
    (v : Value) (n : Nat) (xs : List Value) (hs : a.eval s = v) (hown : w.ownsRow base e size v n xs)
    (A : Option Addr) (m c : Nat) (news : List Value) (hx : a.eval x = .slice A m c) (hr : SlK w size A m news) (h1 : ∀ u ∈ news, u.oneCell' = true)
    (h63 : n + m ≤ maxLen) (hbytes : (n + m) * bytes ≤ 140737488355328) (hbase : base ≤ w.heap.size)
    (h : ∀ v' w', w'.ownsRow base e size v' (n + m) (xs ++ news) → w.grownBy w' v.ownBlock → (v'.ownBlock = v.ownBlock ∨ v'.ownBlock = some w.heap.size) → K (a.put o.dst v') w') : o.wp P a w K Q := by
  obtain ⟨v', w', hrun, h2, h3, h4⟩ := run_append_slk (P := P) w base t o.type e i z size bytes ht hi hz hsize hby hzs hsz v n xs hown A m c news hr h1 h63 hbytes hbase
  unfold Oper.wp execOp
  simp only [ho, resolve, invoke, builtin, Sem.run_bind, Sem.run_pure, Result.andThen_ok, List.map_toArray, List.map_cons, List.map_nil, hs, hx, hrun]
  exact h v' w' h2 h3 h4
theorem wpList_append_slk {ops : Array Oper} {rest : List Oper} {o : Oper} {a : Act} {Q : Exit → Act → World → Prop} (hgd : o.guard = none) (s x : Operand) (t : TypeId)
    (ho : o.op = .call { callee := .builtin .append, args := #[s, x], argTypes := #[t, t] })
    (base : Nat) (e : TypeId) (i : TypeInfo) (z : Value) (size bytes : Nat) (ht : P.underlying t = some (.slice e)) (hi : P.info? e = some i) (hz : i.zero = some z)
    (hsize : i.size = size) (hby : i.bytes = bytes) (hzs : z.cells.size = size) (hsz : 0 < size)
    (v : Value) (n : Nat) (xs : List Value) (hs : a.eval s = v) (hown : w.ownsRow base e size v n xs)
    (A : Option Addr) (m c : Nat) (news : List Value) (hx : a.eval x = .slice A m c) (hr : SlK w size A m news) (h1 : ∀ u ∈ news, u.oneCell' = true)
    (h63 : n + m ≤ maxLen) (hbytes : (n + m) * bytes ≤ 140737488355328) (hbase : base ≤ w.heap.size)
    (h : ∀ v' w', w'.ownsRow base e size v' (n + m) (xs ++ news) → w.grownBy w' v.ownBlock → (v'.ownBlock = v.ownBlock ∨ v'.ownBlock = some w.heap.size) → wpList P ops Q rest (a.put o.dst v') w') : wpList P ops Q (o :: rest) a w :=
  wpList_plain hgd fun _ hK => wp_append_slk w s x t ho base e i z size bytes ht hi hz hsize hby hzs hsz v n xs hs hown A m c news hx hr h1 h63 hbytes hbase fun v' w' h2 h3 h4 => hK _ _ (h v' w' h2 h3 h4)
theorem step_append_slk {ops : Array Oper} {o : Oper} {a : Act} {K : Act → World → Prop} {Q : Exit → Act → World → Prop} {E : Prop} (hgd : o.guard = none) (s x : Operand) (t : TypeId)
    (ho : o.op = .call { callee := .builtin .append, args := #[s, x], argTypes := #[t, t] })
    (base : Nat) (e : TypeId) (i : TypeInfo) (z : Value) (size bytes : Nat) (ht : P.underlying t = some (.slice e)) (hi : P.info? e = some i) (hz : i.zero = some z)
    (hsize : i.size = size) (hby : i.bytes = bytes) (hzs : z.cells.size = size) (hsz : 0 < size)
    (v : Value) (n : Nat) (xs : List Value) (hs : a.eval s = v) (hown : w.ownsRow base e size v n xs)
    (A : Option Addr) (m c : Nat) (news : List Value) (hx : a.eval x = .slice A m c) (hr : SlK w size A m news) (h1 : ∀ u ∈ news, u.oneCell' = true)
    (h63 : n + m ≤ maxLen) (hbytes : (n + m) * bytes ≤ 140737488355328) (hbase : base ≤ w.heap.size)
    (h : ∀ v' w', w'.ownsRow base e size v' (n + m) (xs ++ news) → w.grownBy w' v.ownBlock → (v'.ownBlock = v.ownBlock ∨ v'.ownBlock = some w.heap.size) → K (a.put o.dst v') w') :
    if Region.wanted o (yielded ops a.tmps) = true then Oper.wp P o a w K Q else E := by
  have hw : Region.wanted o (yielded ops a.tmps) = true := by simp [Region.wanted, hgd]
  rw [if_pos hw]
  exact wp_append_slk w s x t ho base e i z size bytes ht hi hz hsize hby hzs hsz v n xs hs hown A m c news hx hr h1 h63 hbytes hbase h
end
theorem wpListIn_append_slk {F : Fence} {nn : Nat} {P : Program} (w : World) {ops : Array Oper} {rest : List Oper} {o : Oper} {a : Act} {Q : Exit → Act → World → Prop}
    (hg : o.guard = none) (s x : Operand) (t : TypeId) (hop : o.op = Op.call { callee := Callee.builtin Builtin.append, args := #[s, x], argTypes := #[t, t] })
    (base : Nat) (e : TypeId) (i : TypeInfo) (z : Value) (size bytes : Nat) (ht : P.underlying t = some (.slice e)) (hi : P.info? e = some i) (hz : i.zero = some z)
    (hsize : i.size = size) (hby : i.bytes = bytes) (hzs : z.cells.size = size) (hsz : 0 < size)
    (v : Value) (n : Nat) (xs : List Value) (hs : a.eval s = v) (hown : w.ownsRow base e size v n xs)
    (A : Option Addr) (m c : Nat) (news : List Value) (hx : a.eval x = .slice A m c) (hr : SlK w size A m news) (h1 : ∀ u ∈ news, u.oneCell' = true)
    (h63 : n + m ≤ maxLen) (hbytes : (n + m) * bytes ≤ 140737488355328) (hbase : base ≤ w.heap.size)
    (h : ∀ v' w', w'.ownsRow base e size v' (n + m) (xs ++ news) → w.grownBy w' v.ownBlock → (v'.ownBlock = v.ownBlock ∨ v'.ownBlock = some w.heap.size) → wpListIn F nn P ops Q rest (a.put o.dst v') w') :
    wpListIn F nn P ops Q (o :: rest) a w := by
  refine wpListIn_plain hg fun K hK' => ?_
  obtain ⟨v', w', hrun, h2, h3, h4⟩ := run_append_slk (P := P) w base t o.type e i z size bytes ht hi hz hsize hby hzs hsz v n xs hown A m c news hr h1 h63 hbytes hbase
  refine ⟨?_, ?_⟩
  · simp [Oper.about, hop, resolve, Target.leads, Sem.run_pure]
  · rw [Oper.semAt_plain F _ _ (by rw [hop]; intro c hc'; cases hc')]
    simp [execOp, hop, resolve, invoke, builtin, hs, hx, hrun, Result.andThen]
    exact hK' _ _ (h v' w' h2 h3 h4)
/-- A load of a whole row, behind a guard that holds. -/
theorem wpList_load_row_w {P : Program} {ops : Array Oper} {rest : List Oper} {o : Oper} {a : Act} {w : World} {Q : Exit → Act → World → Prop} (hw : Region.wanted o (yielded ops a.tmps) = true) (ty : TypeId) (x : Operand) (ho : o.op = .load ty x)
    (g : Nat) (hx : a.eval x = .pointer (some ⟨g, 0, none⟩)) (t : TypeId) (cs : Array Value) (fr : Nat × Nat) (d : TypeDesc) (hg : w.heap[g]? = some (.cells cs t fr))
    (hu : P.underlying ty = some d) (hd : (match d with | .struct _ | .array _ _ => true | _ => false) = true) (hi : (P.info? ty).map (·.size) = some cs.size)
    (h : wpList P ops Q rest (a.put o.dst (.agg cs)) w) : wpList P ops Q (o :: rest) a w :=
  wpList_step fun K hK => by rw [if_pos hw]; exact wp_load_row ty x ho g hx t cs fr d hg hu hd hi (hK _ _ h)
/-- What the new value looks like. -/
theorem row_form {w : World} {base : Nat} {e : TypeId} {size : Nat} {v : Value} {n : Nat} {xs : List Value} (h : w.ownsRow base e size v n xs) : ∃ sp cap, v = .slice sp n cap ∧ n ≤ cap ∧ (sp = none → cap = 0) ∧ (∀ a, sp = some a → base ≤ a.block ∧ a.block < w.heap.size ∧ a.spot = none) := by
  rcases h.2 with ⟨rfl, rfl⟩ | ⟨g, cap, cur, rfl, hb, hh, hle, _⟩
  · exact ⟨none, 0, rfl, Nat.le_refl _, fun _ => rfl, fun a e => (by cases e)⟩
  · exact ⟨_, cap, rfl, hle, fun e => (by cases e), fun a e => (by cases e; exact ⟨hb, lt_of_heap hh, rfl⟩)⟩
end Go.Proofs.Ytoklgjlmjkhmbaa

/-
  Blocks of one's own, all in one list: the newest first.
-/
set_option linter.unusedSimpArgs false
set_option linter.unusedVariables false
namespace Go.Proofs.Ytoklgjlmjkhmbaa
open Go.RowKit

abbrev Blk3 := Nat × Array Value × TypeId
def HasL (W : World) : List Blk3 → Prop
  | [] => True
  | x :: l => W.heap[x.1]? = some (.cells x.2.1 x.2.2 (0, 0)) ∧ HasL W l
theorem HasL.mem {W : World} : ∀ {l : List Blk3}, HasL W l → ∀ x ∈ l, W.heap[x.1]? = some (.cells x.2.1 x.2.2 (0, 0))
  | [], _, x, hx => by cases hx
  | y :: l, h, x, hx => by
    rcases List.mem_cons.1 hx with e | hx
    · rw [e]; exact h.1
    · exact HasL.mem h.2 x hx
theorem HasL.of {W : World} : ∀ {l : List Blk3}, (∀ x ∈ l, W.heap[x.1]? = some (.cells x.2.1 x.2.2 (0, 0))) → HasL W l
  | [], _ => trivial
  | y :: l, h => ⟨h y (List.mem_cons_self ..), HasL.of fun x hx => h x (List.mem_cons_of_mem _ hx)⟩
/-- These blocks are mine since w0, the newest first, and hold what the list says; all that lay in w0 lies as it lay. -/
structure Hs (w0 : World) (l : List Blk3) (W : World) : Prop where
  rows : HasL W l
  old : Below w0.heap.size w0 W
  low : ∀ x ∈ l, w0.heap.size ≤ x.1
  desc : l.Pairwise fun x y => y.1 < x.1
theorem Hs.nil (w0 : World) : Hs w0 [] w0 := ⟨trivial, Below.refl _ _, fun x hx => (by cases hx), List.Pairwise.nil⟩
theorem Hs.next {w0 : World} {l : List Blk3} {W W' : World} (h : Hs w0 l W) (hb : Below W.heap.size W W') : Hs w0 l W' :=
  ⟨HasL.of fun x hx => heap_below hb (h.rows.mem x hx) (lt_of_heap (h.rows.mem x hx)), below_next h.old hb, h.low, h.desc⟩
theorem Hs.drew {w0 : World} {l : List Blk3} {W : World} (h : Hs w0 l W) : Hs w0 l W.drew := ⟨HasL.of fun x hx => h.rows.mem x hx, Below.drew h.old, h.low, h.desc⟩
theorem Hs.drewN {w0 : World} {l : List Blk3} {W : World} (h : Hs w0 l W) (n : Nat) : Hs w0 l (W.drewN n) := ⟨HasL.of fun x hx => h.rows.mem x hx, h.old.trans (below_drewN' _ _), h.low, h.desc⟩
theorem Hs.lt {w0 : World} {l : List Blk3} {W : World} (h : Hs w0 l W) : ∀ x ∈ l, x.1 < W.heap.size := fun x hx => lt_of_heap (h.rows.mem x hx)
theorem Hs.new {w0 : World} {l : List Blk3} {W : World} (h : Hs w0 l W) (cs : Array Value) (t : TypeId) : Hs w0 ((W.heap.size, cs, t) :: l) (W.alloc (.cells cs t)) := by
  have hn := h.next ((Below.refl _ W).alloc (Nat.le_refl _) (.cells cs t))
  refine ⟨⟨World.alloc_heap_new _ _, hn.rows⟩, hn.old, fun x hx => ?_, List.Pairwise.cons (fun x hx => h.lt x hx) h.desc⟩
  rcases List.mem_cons.1 hx with e | hx
  · rw [e]; exact h.old.size
  · exact h.low x hx
/-- One more, of which the heap tells. -/
theorem Hs.more {w0 : World} {l : List Blk3} {W W' : World} (h : Hs w0 l W) (hb : Below W.heap.size W W') {b : Nat} {cs : Array Value} {t : TypeId} (hg : W'.heap[b]? = some (.cells cs t (0, 0))) (hlo : W.heap.size ≤ b) : Hs w0 ((b, cs, t) :: l) W' := by
  have hn := h.next hb
  refine ⟨⟨hg, hn.rows⟩, hn.old, fun x hx => ?_, List.Pairwise.cons (fun x hx => Nat.lt_of_lt_of_le (h.lt x hx) hlo) h.desc⟩
  rcases List.mem_cons.1 hx with e | hx
  · rw [e]; exact Nat.le_trans h.old.size hlo
  · exact h.low x hx
theorem Hs.tail {w0 : World} {x : Blk3} {l : List Blk3} {W : World} (h : Hs w0 (x :: l) W) : Hs w0 l W := ⟨h.rows.2, h.old, fun y hy => h.low y (List.mem_cons_of_mem _ hy), h.desc.tail⟩
/-- One of them turned, whatever the heap did besides to what is not mine and not old. -/
theorem Hs.turn {w0 : World} {l : List Blk3} {W W' : World} (h : Hs w0 l W) (i : Nat) {b : Nat} {old new : Array Value} {t : TypeId} (hi : l[i]? = some (b, old, t)) (hg : W'.heap[b]? = some (.cells new t (0, 0)))
    (ho : ∀ k, k ≠ b → W'.heap[k]? = W.heap[k]?) (hsz : W.heap.size ≤ W'.heap.size) (hos : W'.os = W.os) (ht : W'.tape = W.tape) (hu : W'.output = W.output) : Hs w0 (l.set i (b, new, t)) W' := by
  have hil : i < l.length := (List.getElem?_eq_some_iff.1 hi).1
  have hib : l[i]'hil = (b, old, t) := (List.getElem?_eq_some_iff.1 hi).2
  have hm : (b, old, t) ∈ l := by rw [← hib]; exact List.getElem_mem _
  have hne : ∀ j (hj : j < l.length), j ≠ i → (l[j]'hj).1 ≠ b := by
    intro j hj hji
    have hp := List.pairwise_iff_getElem.1 h.desc
    rcases Nat.lt_or_gt_of_ne hji with hlt | hlt
    · have := hp j i hj hil hlt; rw [hib] at this; simp only at this; omega
    · have := hp i j hil hj hlt; rw [hib] at this; simp only at this; omega
  have hlo := h.low _ hm
  refine ⟨HasL.of fun x hx => ?_, ⟨hos.trans h.old.os, ht.trans h.old.tape, hu.trans h.old.output, Nat.le_trans h.old.size hsz, fun k hk => (ho k (by simp only at hlo; omega)).trans (h.old.block k hk)⟩, fun x hx => ?_, ?_⟩
  · obtain ⟨j, hj, rfl⟩ := List.mem_iff_getElem.1 hx
    rw [List.length_set] at hj
    rw [List.getElem_set]
    split
    · exact hg
    · rename_i hij
      exact (ho _ (hne j hj (fun e => hij e.symm))).trans (h.rows.mem _ (List.getElem_mem _))
  · obtain ⟨j, hj, rfl⟩ := List.mem_iff_getElem.1 hx
    rw [List.length_set] at hj
    rw [List.getElem_set]
    split
    · exact hlo
    · exact h.low _ (List.getElem_mem _)
  · refine List.pairwise_iff_getElem.2 fun a c ha hc hac => ?_
    rw [List.length_set] at ha hc
    have hp := List.pairwise_iff_getElem.1 h.desc a c ha hc hac
    rw [List.getElem_set, List.getElem_set]
    split
    · rename_i e; subst e
      rw [if_neg (by omega)]
      rw [hib] at hp
      exact hp
    · split
      · rename_i e; subst e
        rw [hib] at hp
        exact hp
      · exact hp
theorem Hs.set {w0 : World} {l : List Blk3} {W : World} (h : Hs w0 l W) (i : Nat) {b : Nat} {old : Array Value} {t : TypeId} (hi : l[i]? = some (b, old, t)) (new : Array Value) : Hs w0 (l.set i (b, new, t)) (W.setRow b new) :=
  h.turn i hi (setRow_heap _ _ _ _ _ _ (h.rows.mem _ (List.mem_of_getElem? hi))) (fun k hk => setRow_other _ _ _ _ hk) (by simp) rfl rfl rfl
theorem Hs.put {w0 : World} {l : List Blk3} {W : World} (h : Hs w0 l W) (i : Nat) {b : Nat} {old : Array Value} {t : TypeId} (hi : l[i]? = some (b, old, t)) (j : Nat) (v : Value) : Hs w0 (l.set i (b, old.setIfInBounds j v, t)) (W.setCell ⟨b, j, none⟩ v) :=
  h.turn i hi (blk_set _ (h.rows.mem _ (List.mem_of_getElem? hi))) (fun k hk => Below.heap_setCell _ _ _ _ hk) (by simp [World.setCell]) rfl rfl rfl
/-- The cells of a block of two. -/
theorem Hs.two {w0 : World} {l : List Blk3} {W : World} (h : Hs w0 l W) {b : Nat} {u v : Value} {t : TypeId} (hm : (b, (#[u, v] : Array Value), t) ∈ l) : W.cell? ⟨b, 0, none⟩ = some u ∧ W.cell? ⟨b, 1, none⟩ = some v :=
  ⟨blk_cell (h.rows.mem _ hm) rfl, blk_cell (h.rows.mem _ hm) rfl⟩
theorem Hs.new2 {w0 : World} {l : List Blk3} {W : World} (h : Hs w0 l W) (cs cs' : Array Value) (t t' : TypeId) : Hs w0 ((W.heap.size + 1, cs', t') :: (W.heap.size, cs, t) :: l) ((W.alloc (.cells cs t)).alloc (.cells cs' t')) :=
  (h.new cs t).more ((Below.refl _ _).alloc (Nat.le_refl _) _) (heap_alloc2_new W _ _) (by simp)
end Go.Proofs.Ytoklgjlmjkhmbaa

/-
  slices.Equal at rows of words.
-/
set_option linter.unusedSimpArgs false
set_option linter.unusedVariables false
set_option maxRecDepth 100000
namespace Go.Proofs.Ytoklgjlmjkhmbaa
open Go.RowKit

/-! ### slices.Equal at []uint64, of one kind of numbers -/
theorem equal64_any (sp sp' : Option Addr) (n n' cap cap' : Nat) (l l' : List Int) (w : World) (h : Sl w sp n (l.map (Value.int .u64))) (h' : Sl w sp' n' (l'.map (Value.int .u64))) :
    Calls Try.prog 18 #[.slice sp n cap, .slice sp' n' cap'] w fun e w' => e = .returned (.bool (l == l')) ∧ ∃ d, w' = w.drewN d := by
  have hlen : n = l.length := by have := h.1; simpa using this
  have hlen' : n' = l'.length := by have := h'.1; simpa using this
  have hmax := h.2.1
  unfold maxLen at hmax
  by_cases hnn : n = n'
  · subst hnn
    have hne : ((n : Int) != (n : Int)) = false := by simp
    have hlen'h := Lib.hid hlen
    have hlen''h := Lib.hid hlen'
    have h'h := Lib.hid h
    have h''h := Lib.hid h'
    clear hlen hlen' h h'
    go_enter Try.func18, Try.ntmps18
    go_wp2
    go_loopg [13] n (fun q i wr => ∃ k : Nat, k + q = n ∧ i = .int .i64 k ∧ (∀ j, j < k → nthZ l j = nthZ l' j) ∧ ∃ d, wr = w.drewN d)
    case atStart => exact ⟨0, by omega, rfl, fun j hj => by omega, 0, rfl⟩
    case round =>
      obtain ⟨k, hk, rfl, hall, d, rfl⟩ := hrel
      have hkn : k ≤ n := by omega
      have hk'h := Lib.hid hk
      have hall'h := Lib.hid hall
      clear hk hall
      by_cases hlt : k < n
      · obtain ⟨b, off, rfl, hc1⟩ := h'h.out.some' (by omega)
        obtain ⟨b', off', rfl, hc2⟩ := h''h.out.some' (by omega)
        have hkl : k < l.length := by have := hlen'h.out; omega
        have hkl' : k < l'.length := by have := hlen''h.out; omega
        have c1 := hc1 k _ (i64s_at hkl)
        have c2 := hc2 k _ (i64s_at hkl')
        have c1' : ∀ q, (w.drewN q).cell? ⟨b, off + k, none⟩ = some (.int .u64 (nthZ l k)) := fun q => c1
        have c2' : ∀ q, (w.drewN q).cell? ⟨b', off' + k, none⟩ = some (.int .u64 (nthZ l' k)) := fun q => c2
        have i1 : (k : Int) < (n : Int) := by omega
        have i2 : (0 : Int) ≤ (k : Int) := by omega
        clear hc1 hc2
        by_cases he : nthZ l k = nthZ l' k
        · have hx : (nthZ l k != nthZ l' k) = false := by simp [he]
          have he'h := Lib.hid he
          clear he
          go_wp2_with fail
          go_quiet (fail)
          go_wp2
          go_roundg (gk - 1)
          case measure => have := hk'h.out; omega
          case rel =>
            refine ⟨k + 1, by have := hk'h.out; omega, by go_num, fun j hj => ?_, d + nq, rfl⟩
            by_cases e : j = k
            · rw [e]; exact he'h.out
            · exact hall'h.out j (by omega)
        · have hx : (nthZ l k != nthZ l' k) = true := by simp [he]
          have hf : (l == l') = false := by
            rw [beq_eq_false_iff_ne]; intro e; exact he (by rw [e])
          have he'h := Lib.hid he
          have hf'h := Lib.hid hf
          clear he hf
          go_wp2_with fail
          go_quiet (fail)
          go_wp2
          go_ret
          exact ⟨ret_bool hf'h.out.symm, d + nq, by first | rfl | exact World.drewN_drewN ..⟩
      · have hn : ¬ (k : Int) < (n : Int) := by omega
        have ht : (l == l') = true := by
          rw [beq_iff_eq]
          refine List.ext_getElem (by have := hlen'h.out; have := hlen''h.out; omega) fun j h1 h2 => ?_
          rw [nthZ_eq h1, nthZ_eq h2]
          exact hall'h.out j (by have := hlen'h.out; omega)
        have ht'h := Lib.hid ht
        clear ht
        go_wp2
        go_ret
        exact ⟨ret_bool ht'h.out.symm, d, rfl⟩
  · have hne : ((n : Int) != (n' : Int)) = true := by simp; omega
    have hf : (l == l') = false := by
      rw [beq_eq_false_iff_ne]; intro e; subst e; omega
    have hlen'h := Lib.hid hlen
    have hlen''h := Lib.hid hlen'
    have h'h := Lib.hid h
    have h''h := Lib.hid h'
    have hnn'h := Lib.hid hnn
    have hf'h := Lib.hid hf
    clear hlen hlen' h h' hnn hf
    go_enter Try.func18, Try.ntmps18
    go_wp2
    go_ret
    exact ⟨ret_bool hf'h.out.symm, 0, rfl⟩
theorem same64 (sp sp' : Option Addr) (n cap cap' : Nat) (l : List Nat) (w : World) (h : Sl w sp n (u64s l)) (h' : Sl w sp' n (u64s l)) :
    Calls Try.prog 18 #[.slice sp n cap, .slice sp' n cap'] w fun e w' => e = .returned (.bool true) ∧ ∃ d, w' = w.drewN d := by
  rw [u64s_ints] at h h'
  have := equal64_any sp sp' n n cap cap' _ _ w h h'
  rwa [beq_self_eq_true] at this
end Go.Proofs.Ytoklgjlmjkhmbaa

/-
  Slices of arrays of two words, as they read; slices.Clone there.
-/
set_option linter.unusedSimpArgs false
set_option linter.unusedVariables false
namespace Go.Proofs.Ytoklgjlmjkhmbaa
open Go.RowKit

def prs (ks : List (Nat × Nat)) : List Value := ks.flatMap fun p => [.int .u64 (p.1 : Int), .int .u64 (p.2 : Int)]
def nthP (ks : List (Nat × Nat)) (k : Nat) : Nat × Nat := ks.getD k (0, 0)
def P64 (ks : List (Nat × Nat)) : Prop := ∀ p ∈ ks, p.1 < 2 ^ 64 ∧ p.2 < 2 ^ 64
theorem nthP_eq {l : List (Nat × Nat)} {k : Nat} (h : k < l.length) : l[k] = nthP l k := by unfold nthP; rw [List.getD_eq_getElem?_getD, List.getElem?_eq_getElem h]; rfl
theorem nthP_mem {l : List (Nat × Nat)} {k : Nat} (h : k < l.length) : nthP l k ∈ l := by rw [← nthP_eq h]; exact List.getElem_mem h
theorem prs_length (ks : List (Nat × Nat)) : (prs ks).length = ks.length * 2 := by
  induction ks with
  | nil => rfl
  | cons p l ih => unfold prs at *; rw [List.flatMap_cons, List.length_append, ih]; simp; omega
theorem prs_append (a b : List (Nat × Nat)) : prs (a ++ b) = prs a ++ prs b := by unfold prs; rw [List.flatMap_append]
theorem prs_one (ks : List (Nat × Nat)) : ∀ v ∈ prs ks, v.oneCell' = true := by
  intro v hv
  unfold prs at hv
  obtain ⟨p, _, hp⟩ := List.mem_flatMap.1 hv
  simp at hp
  rcases hp with rfl | rfl <;> rfl
theorem prs_at {ks : List (Nat × Nat)} {k : Nat} (h : k < ks.length) : (prs ks)[k * 2]? = some (.int .u64 ((nthP ks k).1 : Int)) ∧ (prs ks)[k * 2 + 1]? = some (.int .u64 ((nthP ks k).2 : Int)) := by
  induction ks generalizing k with
  | nil => simp at h
  | cons p l ih =>
    cases k with
    | zero => exact ⟨rfl, rfl⟩
    | succ k =>
      have := ih (k := k) (by simpa using h)
      unfold prs at this ⊢
      rw [List.flatMap_cons]
      rw [show (k + 1) * 2 = k * 2 + 2 by omega, show k * 2 + 2 + 1 = (k * 2 + 1) + 2 by omega]
      exact this
theorem prs_take (ks : List (Nat × Nat)) (m : Nat) : (prs ks).take (m * 2) = prs (ks.take m) := by
  induction ks generalizing m with
  | nil => simp [prs]
  | cons p l ih =>
    cases m with
    | zero => simp [prs]
    | succ m =>
      have := ih m
      unfold prs at this ⊢
      rw [List.flatMap_cons, List.take_succ_cons, List.flatMap_cons, ← this, show (m + 1) * 2 = m * 2 + 2 by omega]
      rfl
/-! ### slices.Clone at [][2]uint64: 2 cells an element -/
theorem info_clone2 : (Try.prog.info? 30).map (fun i => (i.zero, i.size, i.bytes)) = some (some (.agg #[.int .u64 0, .int .u64 0]), 2, 16) := by kernel_rfl
theorem clone2_nil (w : World) : Calls Try.prog 11 #[.slice none 0 0] w fun e w' => e = .returned (.slice none 0 0) ∧ w' = w := by
  have hnil := Lib.run_eql_slice_nil (P := Try.prog)
  go_enter Try.func11, Try.ntmps11
  go_wp2
  go_ret
  exact ⟨rfl, rfl⟩
theorem clone2_some (ad : Addr) (n cap : Nat) (vs : List Value) (w : World) (hn : n ≤ 4096) (hone : ∀ v ∈ vs, v.oneCell' = true) (h : SlK w 2 (some ad) n vs) :
    Calls Try.prog 11 #[.slice (some ad) n cap] w fun e w' => ∃ sp' cap', e = .returned (.slice sp' n cap') ∧ Below w.heap.size w w' ∧ w'.ownsRow w.heap.size 30 2 (.slice sp' n cap') n vs := by
  have hnil := Lib.run_eql_slice_nil (P := Try.prog)
  obtain ⟨i0, hi, hz0, hz1, hz2⟩ := info_parts info_clone2
  have hown0 : (w.alloc (.cells #[] 30)).ownsRow w.heap.size 30 2 (.slice (some ⟨w.heap.size, 0, none⟩) 0 0) 0 [] :=
    ⟨by simp, .inr ⟨w.heap.size, 0, #[], rfl, Nat.le_refl _, World.alloc_heap_new _ _, Nat.le_refl _, Nat.zero_le _, by simp, by simp⟩⟩
  have hS2 : SlK (w.alloc (.cells #[] 30)) 2 (some ad) n vs := h.below ((Below.refl _ w).alloc (Nat.le_refl _) _)
  have hS2'h := Lib.hid hS2
  have hone'h := Lib.hid hone
  clear hS2 hone
  clear h
  go_enter Try.func11, Try.ntmps11
  go_wp2_with (at_builtin; refine wpList_append_slk _ rfl (.tmp 5) (.tmp 6) 23 rfl w.heap.size 30 i0 (.agg #[.int .u64 0, .int .u64 0]) 2 16 Try.underlying23 hi hz0 hz1 hz2 rfl (by decide) _ 0 [] rfl hown0 (some ad) n cap vs rfl hS2'h.out hone'h.out (by unfold maxLen; omega) (by omega) (by simp) ?_; intro v' w1 hown' hgrow hwh)
  rw [Nat.zero_add, List.nil_append] at hown'
  obtain ⟨sp', cap', rfl⟩ := row_slice' hown'
  have hown''h := Lib.hid hown'
  have hwh'h := Lib.hid hwh
  clear hown' hwh
  go_wp2
  go_ret
  exact ⟨sp', cap', rfl, ((Below.refl _ w).alloc (Nat.le_refl _) _).grown hgrow (by simp) (fun j hj => by cases hj; exact Nat.le_refl _), hown''h.out⟩
theorem clone2_any (sp : Option Addr) (n cap : Nat) (vs : List Value) (w : World) (hn : n ≤ 4096) (hone : ∀ v ∈ vs, v.oneCell' = true) (hc : sp = none → cap = 0) (h : SlK w 2 sp n vs) :
    Calls Try.prog 11 #[.slice sp n cap] w fun e w' => ∃ sp' cap', e = .returned (.slice sp' n cap') ∧ Below w.heap.size w w' ∧ w'.ownsRow w.heap.size 30 2 (.slice sp' n cap') n vs := by
  cases sp with
  | some ad => exact clone2_some ad n cap vs w hn hone h
  | none =>
    obtain rfl : cap = 0 := hc rfl
    have h0 : n = 0 := by
      rcases h.2.2 with h0 | ⟨b, off, he, _⟩
      · exact h0
      · cases he
    subst h0
    have hl : vs = [] := List.eq_nil_of_length_eq_zero (by have := h.1; simpa using this)
    refine (clone2_nil w).mono ?_
    rintro e w' ⟨rfl, rfl⟩
    exact ⟨none, 0, rfl, Below.refl _ _, by rw [hl]; exact World.ownsRow_nil _ _ _ _⟩
end Go.Proofs.Ytoklgjlmjkhmbaa

/-
  LookTakes: the head.
-/
set_option linter.unusedSimpArgs false
set_option linter.unusedVariables false
set_option maxRecDepth 100000
namespace Go.Proofs.Ytoklgjlmjkhmbaa
open Go.RowKit

theorem eq_sg (s : Sg) (w : World) : (Op.equalIn 10000 33 (.agg (sgA s)) (.agg (sgA s))).run Try.prog w = .ok true w := by
  rw [show (10000 : Nat) = 9999 + 1 from rfl, run_equalIn_struct]
  · simp [go_sem, sgA]
  · kernel_rfl
  · kernel_rfl
theorem eql_sg (s : Sg) (w : World) : (binOp .eql 33 (.agg (sgA s)) (.agg (sgA s))).run Try.prog w = .ok (.bool true) w := by
  rw [run_eql_struct, eq_sg]; rfl
theorem neq_sg (s : Sg) (w : World) : (binOp .neq 33 (.agg (sgA s)) (.agg (sgA s))).run Try.prog w = .ok (.bool false) w := by
  rw [run_neq_struct, eq_sg]; rfl
theorem takes_min (n m : Nat) (h : m = min n 8) : (if (8 : Int) < (n : Int) then (8 : Int) else (n : Int)) = (m : Int) := by
  split <;> omega
theorem own_lit (W : World) (t : TypeId) (n : Nat) (vs : Array Value) (hn : vs.size = n) (hm : n ≤ maxLen) : (W.alloc (.cells vs t)).ownsRow W.heap.size t 1 (.slice (some ⟨W.heap.size, 0, none⟩) n n) n vs.toList :=
  ⟨by simp [hn], .inr ⟨W.heap.size, n, vs, rfl, Nat.le_refl _, World.alloc_heap_new _ _, Nat.le_refl _, hm, by simp [hn], by rw [Nat.mul_one, ← hn]; exact List.take_of_length_le (by simp)⟩⟩
end Go.Proofs.Ytoklgjlmjkhmbaa

/-
  LookRuns: the head.
-/
set_option linter.unusedSimpArgs false
set_option linter.unusedVariables false
set_option maxRecDepth 100000
namespace Go.Proofs.Ytoklgjlmjkhmbaa
open Go.RowKit

theorem most_yes (sp : Option Addr) (n cap : Nat) (ws : List Nat) (slab hash : Nat) (w : World) (h64 : W64 ws) (hS : Sl w sp n (u64s ws)) (hn : 1 ≤ n ∧ n ≤ 8192) (ht : thereB n slab = true) (hh : hash < 2 ^ 64) :
    Calls Try.prog 14 #[.slice sp n cap, .int .i64 slab, .int .u64 hash] w fun e w' => e = .returned (.tuple #[.int .i64 (mostS ws slab hash), .int .i64 0]) ∧ Below w.heap.size w w' := by
  by_cases hev : nthN ws (16 + 40 * slab) % 2 = 1
  · have := most_odd sp n cap ws slab hash w h64 hS hn ht hev
    have e : mostS ws slab hash = 1 := by unfold mostS; rw [if_pos hev]
    rw [e]; exact this
  · exact most_even sp n cap ws slab hash w h64 hS hn ht hh hev
theorem rmost_yes (sp : Option Addr) (n cap : Nat) (ws : List Nat) (slab hash : Nat) (w : World) (h64 : W64 ws) (hS : Sl w sp n (u64s ws)) (hn : 1 ≤ n ∧ n ≤ 8192) (ht : thereB n slab = true) (hh : hash < 2 ^ 64) :
    Calls Try.prog 17 #[.slice sp n cap, .int .i64 slab, .int .u64 hash] w fun e w' => e = .returned (.int .i64 (mostS ws slab hash)) ∧ Below w.heap.size w w' := by
  by_cases hev : nthN ws (16 + 40 * slab) % 2 = 1
  · have := rmost_odd sp n cap ws slab hash w h64 hS hn ht hev
    have e : mostS ws slab hash = 1 := by unfold mostS; rw [if_pos hev]
    rw [e]; exact this
  · exact rmost_even sp n cap ws slab hash w h64 hS hn ht hh hev
set_option maxHeartbeats 2000000 in
theorem most_noZ (sp : Option Addr) (n cap : Nat) (z slab : Int) (hash : Nat) (w : World) (hz : z ≠ 0) (T : ∀ w, Calls Try.prog 36 #[.slice sp n cap, .int .i64 slab] w fun e w' => e = .returned (.int .i64 z) ∧ w' = w) :
    Calls Try.prog 14 #[.slice sp n cap, .int .i64 slab, .int .u64 hash] w fun e w' => e = .returned (.tuple #[.int .i64 0, .int .i64 z]) ∧ Below w.heap.size w w' := by
  have hb0 : Below w.heap.size w (((w.alloc (.cells #[.slice sp n cap] 22)).alloc (.cells #[.int .i64 slab] 3)).alloc (.cells #[.int .u64 hash] 29)) := (((Below.refl _ _).alloc (Nat.le_refl _) _).alloc (by simp) _).alloc (by simp; omega) _
  have hz' : (z == 0) = false := by simp [hz]
  have T'h := Lib.hid T
  have hb0'h := Lib.hid hb0
  clear T hb0
  refine (callsIn_wide (n := 0)).1 ?_
  refine callsIn_of_wp_marks Try.func14 rfl trivial ?_
  simp only [Try.ntmps14, List.size_toArray, List.length_cons, List.length_nil, Nat.reduceAdd, Nat.reduceSub, Array.replicate_succ, Array.replicate_zero, List.push_toArray, List.append_toArray, List.nil_append, List.cons_append]
  refine wpIn_wide.2 ?_
  go_wp2_with (first | (go_at_call 36; refine (T'h.out _).mono ?_; rintro e w1 ⟨rfl, rfl⟩))
  refine post_plain (.inl rfl) (results_tmp2 rfl _ _ _) ⟨rfl, hb0'h.out⟩
end Go.Proofs.Ytoklgjlmjkhmbaa

/-
  LookBegins: what holds from load to load, in plain Lean.
-/
set_option linter.unusedSimpArgs false
set_option linter.unusedVariables false
namespace Go.Proofs.Ytoklgjlmjkhmbaa
open Go.RowKit

def cntM (m : Nat) : Nat := (lanesOf m).length
theorem cntM_drop : ∀ m : Fin 256, m.val ≠ 0 → cntM (dropM m.val) + 1 = cntM m.val := by decide +kernel
theorem cntM_le (m : Nat) : cntM m ≤ 8 := length_lanesOf m
theorem cntM_pos : ∀ m : Fin 256, m.val ≠ 0 → 1 ≤ cntM m.val := by decide +kernel
def remR (s : Sg) : Nat := if s.phase = 1 then (2 - s.grp.toNat) * 9 + 2 else if s.phase = 2 then cntM s.left + (1 - s.grp.toNat) * 9 + 2 else if s.phase = 3 then 2 else if s.phase = 4 then 1 else 0
theorem remR_on {s : Sg} (hg : 0 ≤ s.grp ∧ s.grp ≤ 1) : remR (onS s) ≤ cntM s.left + (1 - s.grp.toNat) * 9 + 2 ∧ 1 ≤ (onS s).phase ∧ (onS s).phase ≤ 4 ∧ (onS s).began = s.began := by
  unfold onS
  split
  · refine ⟨?_, by simp, by simp, rfl⟩
    unfold remR; simp
  · split
    · refine ⟨?_, by simp, by simp, rfl⟩
      unfold remR; simp
    · rename_i h1 h2
      have hg1 : s.grp ≠ 1 := fun e => h2 (.inr e)
      have hg0 : s.grp = 0 := by omega
      refine ⟨?_, by simp, by simp, rfl⟩
      unfold remR; simp [hg0]
theorem remR_take {s : Sg} {w : Nat} (h : SgOk s) (hr : SgRight s) (h1 : 1 ≤ s.phase) (h3 : s.phase ≤ 3) : remR (takeS s w) + 1 ≤ remR s ∧ 1 ≤ (takeS s w).phase ∧ (takeS s w).phase ≤ 4 ∧ (takeS s w).began = s.began := by
  have hg := hr.grp
  have hl := h.left
  have q0 : s.phase ≠ 0 := by omega
  unfold takeS
  rw [if_neg q0]
  by_cases p1 : s.phase = 1
  · rw [if_pos p1]
    obtain ⟨a, b, c, d⟩ := remR_on (s := { s with ctrl := w, left := equalM w (s.hash % 128) }) hg
    have e : remR s = (2 - s.grp.toNat) * 9 + 2 := by unfold remR; rw [if_pos p1]
    have := cntM_le (equalM w (s.hash % 128))
    simp only at a
    refine ⟨by rw [e]; omega, b, c, d⟩
  · rw [if_neg p1]
    by_cases p2 : s.phase = 2
    · rw [if_pos p2]
      have h0 : s.left ≠ 0 := by
        rcases hr.left with h | h
        · exact h
        · exact absurd p2 h.1
      have e : remR s = cntM s.left + (1 - s.grp.toNat) * 9 + 2 := by unfold remR; rw [if_neg p1, if_pos p2]
      have hp := cntM_pos ⟨s.left, hl⟩ h0
      have hd := cntM_drop ⟨s.left, hl⟩ h0
      simp only at hp hd
      split
      · refine ⟨?_, by simp, by simp, rfl⟩
        have e2 : remR { s with phase := 3 } = 2 := by unfold remR; simp
        rw [e2, e]; omega
      · obtain ⟨a, b, c, d⟩ := remR_on (s := { s with left := dropM s.left }) hg
        simp only at a
        refine ⟨by rw [e]; omega, b, c, d⟩
    · rw [if_neg p2]
      have p3 : s.phase = 3 := by omega
      rw [if_pos p3]
      refine ⟨?_, by simp, by simp, rfl⟩
      unfold remR; simp [p3]
/-- Behind so many loads. -/
inductive BegI (k0 k1 first last loads : Nat) (s : Sg) : Prop where
  | new (h0 : loads = 0) (hs : s = beginS 0 k0 k1) (hf : first = 0) : BegI k0 k1 first last loads s
  | odd (h1 : loads = 1) (hf : first % 2 = 1) (hp : s.phase = 6) : BegI k0 k1 first last loads s
  | on (h1 : 1 ≤ loads) (hf : first % 2 = 0) (hb : s.began = first) (hp : 1 ≤ s.phase) (hp4 : s.phase ≤ 4) (hl : loads + remR s ≤ 21) : BegI k0 k1 first last loads s
  | over (h1 : 1 ≤ loads) (hf : first % 2 = 0) (hb : s.began = first) (hp : (s.phase = 5 ∧ first = last) ∨ (s.phase = 6 ∧ first ≠ last)) (hl : loads ≤ 21) : BegI k0 k1 first last loads s
theorem BegI.step {k0 k1 first last loads : Nat} {s : Sg} (i : BegI k0 k1 first last loads s) (h : SgOk s) (hr : SgRight s) (hh : hasS s = true) (w : Nat) :
    BegI k0 k1 (if loads = 0 then w else first) w (loads + 1) (takeS s w) := by
  have h4 : s.phase ≤ 4 := by simpa [hasS] using hh
  cases i with
  | new h0 hs hf =>
    subst hs
    rw [if_pos h0]
    have e : takeS (beginS 0 k0 k1) w = if w % 2 = 1 then { beginS 0 k0 k1 with phase := 6 } else { beginS 0 k0 k1 with phase := 1, began := w, grp := 0 } := rfl
    rw [e]
    split
    · exact .odd (by omega) ‹_› rfl
    · exact .on (by omega) (by omega) rfl (by simp) (by simp) (by rw [h0]; unfold remR; simp)
  | odd h1 hf hp => omega
  | on h1 hf hb hp hp4 hl =>
    rw [if_neg (by omega)]
    by_cases q4 : s.phase = 4
    · have e : takeS s w = { s with phase := if w = s.began then 5 else 6 } := by
        unfold takeS
        rw [if_neg (by omega), if_neg (by omega), if_neg (by omega), if_neg (by omega)]
      have er : remR s = 1 := by unfold remR; simp [q4]
      rw [e]
      refine .over (by omega) hf hb ?_ (by omega)
      by_cases hw : w = s.began
      · exact .inl ⟨by simp [hw], by omega⟩
      · exact .inr ⟨by simp [hw], by omega⟩
    · obtain ⟨a, b, c, d⟩ := remR_take (w := w) h hr hp (by omega)
      exact .on (by omega) hf (d.trans hb) b c (by omega)
  | over h1 hf hb hp hl => rcases hp with ⟨hp, _⟩ | ⟨hp, _⟩ <;> omega
theorem BegI.few {k0 k1 first last loads : Nat} {s : Sg} (i : BegI k0 k1 first last loads s) (hr : SgRight s) (hh : hasS s = true) : loads ≤ 20 := by
  have h4 : s.phase ≤ 4 := by simpa [hasS] using hh
  cases i with
  | new h0 hs hf => omega
  | odd h1 hf hp => omega
  | on h1 hf hb hp hp4 hl =>
    have : 1 ≤ remR s := by
      unfold remR
      split
      · omega
      · split
        · omega
        · split
          · omega
          · rw [if_pos (by omega)]; omega
    omega
  | over h1 hf hb hp hl => rcases hp with ⟨hp, _⟩ | ⟨hp, _⟩ <;> omega
/-- What the statement asks at its end. -/
def begEnd (first last loads : Nat) (s : Sg) : Prop :=
  (first % 2 = 1 → s.phase = 6 ∧ loads = 1) ∧ (first % 2 = 0 → s.began = first ∧ loads ≤ 21 ∧ ((s.phase = 5 ∧ first = last) ∨ (s.phase = 6 ∧ first ≠ last)))
theorem BegI.fin {k0 k1 first last loads : Nat} {s : Sg} (i : BegI k0 k1 first last loads s) (hh : hasS s = false) : begEnd first last loads s := by
  have h4 : ¬ s.phase ≤ 4 := by simpa [hasS] using hh
  cases i with
  | new h0 hs hf => subst hs; exact absurd (by simp [beginS]) h4
  | odd h1 hf hp => exact ⟨fun _ => ⟨hp, h1⟩, fun h => by omega⟩
  | on h1 hf hb hp hp4 hl => omega
  | over h1 hf hb hp hl => exact ⟨fun h => by omega, fun _ => ⟨hb, hl, hp⟩⟩
end Go.Proofs.Ytoklgjlmjkhmbaa

/-
  Arguments that are arrays of two, opened.
-/
namespace Go.Proofs.Ytoklgjlmjkhmbaa
open Go.ChangeShapes Go.WideShapes Go.RowKit Go.Joins Go.Deep
variable {H : Type} {enc : TypeId × Value → H} {P : Program} {w : World} {base : Nat} {spare : Nat → Bool} {held : Bool}

theorem okWide_arr {r : Reach} {b0 n : Nat} {t e : TypeId} {v : Value} (ht : P.underlying t = some (.array n e)) (h : Value.okWide P w r b0 t v) : ∃ cs, v = .agg cs ∧ cs.size = P.cellsOf t := by
  simp only [Value.okWide, ht] at h
  obtain ⟨cs, h1, h2, _⟩ := h
  exact ⟨cs, h1, h2⟩
theorem open_arr2 {r : Reach} {b0 : Nat} {t e : TypeId} {v : Value} {d : DataW H} {p : List MemPlace} (hs : P.underlying t = some (.array 2 e)) (hC : P.cellsOf t = 2) (hE : P.cellsOf e = 1)
    (hv : Value.okWide P w r b0 t v) (h : DataW.Trod enc P w base spare held t v d p) :
    ∃ (v0 v1 : Value) (y0 y1 : DataW H × List MemPlace) (n : Nat), v = .agg #[v0, v1] ∧ d = .agg [y0.1, y1.1] ∧ p = y0.2 ++ y1.2 ∧
      DataW.trod enc P w base spare held n e [v0] = some y0 ∧ DataW.trod enc P w base spare held n e [v1] = some y1 := by
  obtain ⟨cs, rfl, hsz⟩ := okWide_arr hs hv
  obtain ⟨c0, c1, rfl⟩ := array2 (hsz.trans hC)
  obtain ⟨fuel, hf⟩ := h
  obtain ⟨xs, m, _, hx, _, hl, hg⟩ := DataW.trod_array hs hf
  match xs, hl with
  | [y0, y1], _ =>
    simp only [Prod.mk.injEq] at hx
    have h0 := hg 0 (by decide)
    have h1 := hg 1 (by decide)
    rw [hE] at h0 h1
    exact ⟨c0, c1, y0, y1, m, rfl, by simpa using hx.1, by simpa using hx.2, by simpa [Value.cells] using h0, by simpa [Value.cells] using h1⟩
theorem sl_of_bools {W : World} {x : Addr} {len cap : Nat} {B : Nat → Bool} (hl : len ≤ cap) (hm : cap ≤ maxLen)
    (hcell : ∀ i, i < cap → W.cell? (x.add i) = some (.bool (B i))) : Sl W (some x) len (((List.range len).map B).map Value.bool) := by
  refine ⟨by simp, Nat.le_trans hl hm, ?_⟩
  by_cases h0 : len = 0
  · exact .inl h0
  · obtain ⟨b, off, spot⟩ := x
    have h1 := hcell 0 (by omega)
    have hspot : spot = none := by simpa [Addr.add] using World.cell?_spot h1
    subst hspot
    refine .inr ⟨b, off, rfl, fun j u hu => ?_⟩
    have hj : j < len := by
      have := (List.getElem?_eq_some_iff.1 hu).1
      simpa using this
    have h2 := hcell j (by omega)
    have hadd : (⟨b, off, none⟩ : Addr).add j = ⟨b, off + j, none⟩ := by unfold Addr.add; split <;> simp_all
    rw [hadd] at h2
    rw [h2]
    rw [List.getElem?_map, List.getElem?_map, List.getElem?_range hj] at hu
    exact hu
end Go.Proofs.Ytoklgjlmjkhmbaa

/-
  Structs by value, opened; slices of structs and of arrays, opened.
-/
set_option linter.unusedSimpArgs false
set_option linter.unusedVariables false
namespace Go.Proofs.Ytoklgjlmjkhmbaa
open Go.ChangeShapes Go.WideShapes Go.RowKit Go.Joins Go.Deep
variable {H : Type} {enc : TypeId × Value → H} {P : Program} {w : World} {base : Nat} {spare : Nat → Bool} {held : Bool}

theorem open_cells {r : Reach} {b0 : Nat} {t : TypeId} {fs : Array Field} {v : Value} {d : DataW H} {p : List MemPlace} (hs : P.underlying t = some (.struct fs)) (hone : oneCellFields P fs = true) (hC : P.cellsOf t = fs.size)
    (hv : Value.okWide P w r b0 t v) (h : DataW.Trod enc P w base spare held t v d p) :
    ∃ cs : List Value, v = .agg cs.toArray ∧ cs.length = fs.size ∧ ∀ (j : Nat) (f : Field), fs[j]? = some f → ∃ (c : Value) (n : Nat) (y : DataW H × List MemPlace), cs[j]? = some c ∧ DataW.trod enc P w base spare held n f.type [c] = some y := by
  obtain ⟨⟨cs⟩, rfl, hsz⟩ := okWide_struct hs hv
  have hsz' : cs.length = fs.size := by have := hsz.trans hC; simpa using this
  obtain ⟨fuel, hf⟩ := h
  obtain ⟨xs, n, _, hx, _, hl, hg⟩ := DataW.trod_struct hs hf
  refine ⟨cs, rfl, hsz', fun j f hj => ?_⟩
  have hjl : j < fs.size := (Array.getElem?_eq_some_iff.1 hj).1
  obtain ⟨ho, hk⟩ := hone_of hone j f hj
  have h1 := hg j f hj
  rw [ho, hk] at h1
  simp only [Value.cells] at h1
  have e : (cs.drop j).take 1 = [cs[j]'(by omega)] := by
    rw [List.drop_eq_getElem_cons (by omega)]; rfl
  rw [e, List.getElem?_eq_getElem (by omega)] at h1
  exact ⟨cs[j]'(by omega), n, _, List.getElem?_eq_getElem (by omega), h1⟩
theorem field_int {fs : Array Field} {cs : List Value} (hf : ∀ (j : Nat) (f : Field), fs[j]? = some f → ∃ (c : Value) (n : Nat) (y : DataW H × List MemPlace), cs[j]? = some c ∧ DataW.trod enc P w base spare held n f.type [c] = some y)
    (j : Nat) (t : TypeId) (k : IntKind) (hj : (fs[j]?).map (·.type) = some t) (ht : P.underlying t = some (.int k)) : ∃ z, cs[j]? = some (.int k z) ∧ (Lit.int k z).wf = true := by
  cases hfj : fs[j]? with
  | none => rw [hfj] at hj; cases hj
  | some f =>
    rw [hfj] at hj
    obtain ⟨c, n, y, hc, ht'⟩ := hf j f hfj
    have ef : f.type = t := by simpa using hj
    rw [ef] at ht'
    obtain ⟨z, hz, _, hw⟩ := DataW.trod_int ht ht'
    obtain rfl : c = .int k z := by simpa using hz
    exact ⟨z, hc, hw⟩
theorem field_bool {fs : Array Field} {cs : List Value} (hf : ∀ (j : Nat) (f : Field), fs[j]? = some f → ∃ (c : Value) (n : Nat) (y : DataW H × List MemPlace), cs[j]? = some c ∧ DataW.trod enc P w base spare held n f.type [c] = some y)
    (j : Nat) (t : TypeId) (hj : (fs[j]?).map (·.type) = some t) (ht : P.underlying t = some .bool) : ∃ z, cs[j]? = some (.bool z) := by
  cases hfj : fs[j]? with
  | none => rw [hfj] at hj; cases hj
  | some f =>
    rw [hfj] at hj
    obtain ⟨c, n, y, hc, ht'⟩ := hf j f hfj
    have ef : f.type = t := by simpa using hj
    rw [ef] at ht'
    obtain ⟨z, hz, _⟩ := DataW.trod_bool ht ht'
    obtain rfl : c = .bool z := by simpa using hz
    exact ⟨z, hc⟩
theorem wf_i64' {x : Int} (h : (Lit.int .i64 x).wf = true) : -9223372036854775808 ≤ x ∧ x ≤ 9223372036854775807 := by
  have h1 : IntKind.i64.min = -9223372036854775808 := rfl
  have h2 : IntKind.i64.max = 9223372036854775807 := rfl
  simp only [Lit.wf, h1, h2, Bool.and_eq_true, decide_eq_true_eq] at h; omega
end Go.Proofs.Ytoklgjlmjkhmbaa

/-
  An argument that is a Sight, opened.
-/
set_option linter.unusedSimpArgs false
set_option linter.unusedVariables false
set_option maxRecDepth 100000
namespace Go.Proofs.Ytoklgjlmjkhmbaa
open Go.ChangeShapes Go.WideShapes Go.RowKit Go.Joins Go.Deep
variable {H : Type} {enc : TypeId × Value → H} {w : World} {base : Nat} {spare : Nat → Bool} {held : Bool}

theorem list10 {cs : List Value} {c0 c1 c2 c3 c4 c5 c6 c7 c8 c9 : Value} (hl : cs.length = 10) (h0 : cs[0]? = some c0) (h1 : cs[1]? = some c1) (h2 : cs[2]? = some c2) (h3 : cs[3]? = some c3) (h4 : cs[4]? = some c4) (h5 : cs[5]? = some c5) (h6 : cs[6]? = some c6) (h7 : cs[7]? = some c7) (h8 : cs[8]? = some c8) (h9 : cs[9]? = some c9) : cs = [c0, c1, c2, c3, c4, c5, c6, c7, c8, c9] := by
  match cs, hl with
  | [a0, a1, a2, a3, a4, a5, a6, a7, a8, a9], _ => simp at h0 h1 h2 h3 h4 h5 h6 h7 h8 h9; subst_vars; rfl
theorem open_sight {r : Reach} {b0 : Nat} {v : Value} {d : DataW H} {p : List MemPlace} (hv : Value.okWide Try.prog w r b0 33 v) (h : DataW.Trod enc Try.prog w base spare held 33 v d p) : ∃ s : Sg, v = .agg (sgA s) ∧ SgOk s := by
  obtain ⟨cs, rfl, hl, hf⟩ := open_cells Try.underlying33 (by kernel_rfl) (by kernel_rfl) hv h
  have hl10 : cs.length = 10 := hl
  obtain ⟨z0, e0, w0⟩ := field_int hf 0 3 .i64 rfl Try.underlying3
  obtain ⟨z1, e1, w1⟩ := field_int hf 1 3 .i64 rfl Try.underlying3
  obtain ⟨z2, e2, w2⟩ := field_int hf 2 29 .u64 rfl Try.underlying29
  obtain ⟨z3, e3, w3⟩ := field_int hf 3 29 .u64 rfl Try.underlying29
  obtain ⟨z4, e4, w4⟩ := field_int hf 4 29 .u64 rfl Try.underlying29
  obtain ⟨z5, e5, w5⟩ := field_int hf 5 3 .i64 rfl Try.underlying3
  obtain ⟨z6, e6, w6⟩ := field_int hf 6 29 .u64 rfl Try.underlying29
  obtain ⟨z7, e7, w7⟩ := field_int hf 7 31 .u8 rfl Try.underlying31
  obtain ⟨z8, e8, w8⟩ := field_int hf 8 29 .u64 rfl Try.underlying29
  obtain ⟨z9, e9⟩ := field_bool hf 9 4 rfl Try.underlying4
  obtain ⟨n2, rfl, b2⟩ := nat_of_u64 w2
  obtain ⟨n3, rfl, b3⟩ := nat_of_u64 w3
  obtain ⟨n4, rfl, b4⟩ := nat_of_u64 w4
  obtain ⟨n6, rfl, b6⟩ := nat_of_u64 w6
  obtain ⟨n7, rfl, b7⟩ := nat_of_u8 w7
  obtain ⟨n8, rfl, b8⟩ := nat_of_u64 w8
  rw [list10 hl10 e0 e1 e2 e3 e4 e5 e6 e7 e8 e9]
  exact ⟨⟨z0, z1, n2, n3, n4, z5, n6, n7, n8, z9⟩, rfl, wf_i64' w0, wf_i64' w1, b2, b3, b4, wf_i64' w5, b6, b7, b8⟩
end Go.Proofs.Ytoklgjlmjkhmbaa

