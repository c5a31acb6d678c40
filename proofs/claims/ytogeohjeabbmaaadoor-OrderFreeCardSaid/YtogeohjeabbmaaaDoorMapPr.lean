/-
  A map from pairs of small numbers to int, as a log of the pairs that were put; which pairs are free.
-/
import Derived.Test.YtogeohjeabbmaaaDoorZk
import Derived.Test.YtogeohjeabbmaaaDoorOneP
import Derived.Maps.Own
import Derived.Maps.Views
import Derived.Maps.OwnSet
import Derived.Maps.OwnIn
import Derived.DeepKeys4
set_option linter.unusedSimpArgs false
set_option linter.unusedVariables false
set_option maxRecDepth 100000
namespace Go.Proofs.YtogeohjeabbmaaaDoor
open Go.RowKit Go.Maps

def keyP (p : Nat × Nat) : Lit := .string (keyBytes [.int .i64 (p.1 : Int), .int .i64 (p.2 : Int)])
def aggP (p : Nat × Nat) : Value := .agg #[.int .i64 (p.1 : Int), .int .i64 (p.2 : Int)]
def SmallP (p : Nat × Nat) : Prop := p.1 ≤ 5000 ∧ p.2 ≤ 5000
theorem keyOf_two {p : Nat × Nat} (h : SmallP p) : keyOf Tryd.prog 53 (aggP p) = some (keyP p) := by
  have hk : Tryd.prog.keyType 53 = true := by kernel_rfl
  have hz : 1 ≤ Tryd.prog.types.size := of_decide_eq_true (by kernel_rfl)
  have hl : Tryd.prog.keyLits (Tryd.prog.types.size + 1) 53 [.int .i64 (p.1 : Int), .int .i64 (p.2 : Int)] = some [.int .i64 (p.1 : Int), .int .i64 (p.2 : Int)] := by
    rw [show Tryd.prog.types.size + 1 = (Tryd.prog.types.size - 1) + 2 by omega]
    exact key_two h.1 h.2
  unfold keyOf
  rw [Tryd.underlying53]
  simp only
  rw [hk, show (aggP p).formed Tryd.prog 53 = true from two_formed _ _]
  simp only [Bool.and_self, if_true]
  rw [show (aggP p).cells.toList = [.int .i64 (p.1 : Int), .int .i64 (p.2 : Int)] from rfl, hl]
  rfl
theorem keyed_two : Keyed Tryd.prog 53 := Keyed.of_law (deep_law_laid (by kernel_rfl) (m := 2) (by omega) (of_decide_eq_true (by kernel_rfl)) (by kernel_rfl) (by rw [Tryd.underlying53]))
theorem keyP_isKey (p : Nat × Nat) : WideAt.IsKeyLit (keyP p) := trivial
theorem keyP_ne {p q : Nat × Nat} (hp : SmallP p) (hq : SmallP q) (h : p ≠ q) : keyP p ≠ keyP q := by
  intro e
  have h1 := keyOf_two hp
  rw [e] at h1
  have h2 := keyed_two.inj h1 (keyOf_two hq)
  unfold aggP at h2
  injection h2 with h2
  have e1 : (#[Value.int .i64 (p.1 : Int), .int .i64 (p.2 : Int)] : Array Value)[0]? = (#[Value.int .i64 (q.1 : Int), .int .i64 (q.2 : Int)] : Array Value)[0]? := by rw [h2]
  have e2 : (#[Value.int .i64 (p.1 : Int), .int .i64 (p.2 : Int)] : Array Value)[1]? = (#[Value.int .i64 (q.1 : Int), .int .i64 (q.2 : Int)] : Array Value)[1]? := by rw [h2]
  simp at e1 e2
  exact h (Prod.ext (by omega) (by omega))
def mapDP : List (Nat × Nat) → DataW Unit
  | [] => .map []
  | p :: r => (mapDP r).put (keyP p) (.lit (.int .i64 1))
theorem mapDP_isMap : ∀ m, IsMap (mapDP m)
  | [] => isMap_empty
  | p :: r => (mapDP_isMap r).put _ _
theorem atKey_mapDP : ∀ (m : List (Nat × Nat)) (x : Nat × Nat), (∀ p ∈ m, SmallP p) → SmallP x → (mapDP m).atKey (keyP x) (.lit (.int .i64 0)) = .lit (.int .i64 (if x ∈ m then 1 else 0))
  | [], _, _, _ => rfl
  | p :: r, x, h, hx => by
    unfold mapDP
    by_cases e : p = x
    · subst e
      rw [if_pos (List.mem_cons_self ..), atKey_put_same (mapDP_isMap r) (keyP_isKey p)]
    · rw [atKey_put_other (keyP_ne hx (h p (List.mem_cons_self ..)) (fun e' => e e'.symm)), atKey_mapDP r x (fun p hp => h p (List.mem_cons_of_mem _ hp)) hx]
      have : (x ∈ p :: r) ↔ x ∈ r := by rw [List.mem_cons]; exact ⟨fun h => h.resolve_left (fun e' => e e'.symm), .inr⟩
      simp only [this]
def MapP (w : World) (b : Nat) (m : List (Nat × Nat)) : Prop :=
  w.ownsMap (H := Unit) Tryd.prog 53 (plainElem Tryd.prog 3) b m.length (mapDP m) ∧ (∀ p ∈ m, SmallP p)
theorem mapP_zero (w : World) : (zeroValue 3).run Tryd.prog w = .ok (.int .i64 0) w := by kernel_rfl
theorem MapP.made (w : World) : MapP (w.alloc (.map #[] 0)) w.heap.size [] := ⟨World.ownsMap_made _ _ _ _, fun p hp => absurd hp (by simp)⟩
theorem MapP.heap {w w' : World} {b : Nat} {m : List (Nat × Nat)} (h : MapP w b m) (e : w'.heap[b]? = w.heap[b]?) : MapP w' b m := by
  obtain ⟨⟨es, clock, hb, F, hs, hD⟩, hk⟩ := h
  exact ⟨⟨es, clock, e.trans hb, F, hs, hD⟩, hk⟩
theorem MapP.lt {w : World} {b : Nat} {m : List (Nat × Nat)} (h : MapP w b m) : b < w.heap.size := h.1.lt
theorem MapP.next {w w' : World} {b : Nat} {m : List (Nat × Nat)} (h : MapP w b m) (hb : Below w.heap.size w w') : MapP w' b m := h.heap (hb.block b h.lt)
theorem MapP.look {w : World} {b : Nat} {m : List (Nat × Nat)} (h : MapP w b m) {p : Nat × Nat} (hp : SmallP p) :
    (Instr.lookup 52 (.map (some b)) (.agg #[.int .i64 (p.1 : Int), .int .i64 (p.2 : Int)]) false).run Tryd.prog w = .ok (.int .i64 (if p ∈ m then 1 else 0)) w := by
  obtain ⟨c, hrun, hat, _⟩ := h.1.lookup_int keyed_two Tryd.underlying52 Tryd.underlying3 (mapP_zero w) (keyOf_two hp)
  rw [atKey_mapDP m p h.2 hp] at hat
  injection hat with hat; injection hat with _ hat
  show (Instr.lookup 52 (.map (some b)) (aggP p) false).run Tryd.prog w = _
  rw [hrun, hat]
theorem MapP.put {w : World} {b : Nat} {m : List (Nat × Nat)} (h : MapP w b m) {p : Nat × Nat} (hp : SmallP p) (hn : m.length < maxLen) :
    ∃ w', (Instr.mapUpdate 52 (.map (some b)) (.agg #[.int .i64 (p.1 : Int), .int .i64 (p.2 : Int)]) (.int .i64 1)).run Tryd.prog w = .ok () w' ∧ MapP w' b (p :: m) ∧ w.grownBy w' (some b) := by
  obtain ⟨w', hrun, h1, h2⟩ := h.1.update keyed_two Tryd.underlying52 hn (keyOf_two hp) (plainElem_int Tryd.underlying3 (show (Lit.int .i64 1).wf = true from rfl))
  exact ⟨w', hrun, ⟨h1, fun q hq => by
    rcases List.mem_cons.1 hq with rfl | hq
    · exact hp
    · exact h.2 q hq⟩, h2⟩
/-! ### Which pairs are free -/
theorem freeRow_ok {l : List Mm} {i : Nat} : ∀ (q k : Nat) (p : Nat × Nat), p ∈ freeRow l i q k → p.1 = i ∧ i < p.2 ∧ freeB (nthM l p.1).md (nthM l p.2).md = true
  | 0, _, p, h => by cases h
  | q + 1, k, p, h => by
    unfold freeRow at h
    rcases List.mem_append.1 h with h | h
    · split at h
      · rename_i hf
        rw [List.mem_singleton] at h
        subst h
        exact ⟨rfl, by show i < i + 1 + k; omega, hf⟩
      · cases h
    · exact freeRow_ok q (k + 1) p h
theorem freeFrom_ok {l : List Mm} : ∀ (q i : Nat) (p : Nat × Nat), p ∈ freeFrom l q i → p.1 < p.2 ∧ freeB (nthM l p.1).md (nthM l p.2).md = true
  | 0, _, p, h => by cases h
  | q + 1, i, p, h => by
    unfold freeFrom at h
    rcases List.mem_append.1 h with h | h
    · obtain ⟨h1, h2, h3⟩ := freeRow_ok _ _ p h
      exact ⟨by omega, h3⟩
    · exact freeFrom_ok q (i + 1) p h
theorem freeRow_all {l : List Mm} {i j : Nat} (hf : freeB (nthM l i).md (nthM l j).md = true) : ∀ (q k : Nat), i + 1 + k ≤ j → j < i + 1 + k + q → (i, j) ∈ freeRow l i q k
  | 0, _, h1, h2 => by omega
  | q + 1, k, h1, h2 => by
    unfold freeRow
    by_cases e : i + 1 + k = j
    · rw [e, hf]
      exact List.mem_append.2 (.inl (by simp))
    · exact List.mem_append.2 (.inr (freeRow_all hf q (k + 1) (by omega) (by omega)))
theorem freeFrom_all {l : List Mm} {i j : Nat} (hij : i < j) (hj : j < l.length) (hf : freeB (nthM l i).md (nthM l j).md = true) : ∀ (q s : Nat), s ≤ i → i < s + q → (i, j) ∈ freeFrom l q s
  | 0, _, h1, h2 => by omega
  | q + 1, s, h1, h2 => by
    unfold freeFrom
    by_cases e : s = i
    · subst e
      exact List.mem_append.2 (.inl (freeRow_all hf _ _ (by omega) (by omega)))
    · exact List.mem_append.2 (.inr (freeFrom_all hij hj hf q (s + 1) (by omega) (by omega)))
theorem freeRow_lt {l : List Mm} {i : Nat} : ∀ (q k : Nat) (p : Nat × Nat), p ∈ freeRow l i q k → p.2 < i + 1 + k + q
  | 0, _, p, h => by cases h
  | q + 1, k, p, h => by
    unfold freeRow at h
    rcases List.mem_append.1 h with h | h
    · split at h
      · rw [List.mem_singleton] at h
        subst h
        show i + 1 + k < _
        omega
      · cases h
    · have := freeRow_lt q (k + 1) p h; omega
theorem freeFrom_lt {l : List Mm} : ∀ (q i : Nat) (p : Nat × Nat), p ∈ freeFrom l q i → i + q ≤ l.length → p.2 < l.length
  | 0, _, p, h, _ => by cases h
  | q + 1, i, p, h, hi => by
    unfold freeFrom at h
    rcases List.mem_append.1 h with h | h
    · have := freeRow_lt _ _ p h; omega
    · exact freeFrom_lt q (i + 1) p h (by omega)
theorem intsZ_bk {n : Nat} {os : List Int} (h : metOk n os noneB = true) : os = intsZ (os.map Int.toNat) := by
  unfold intsZ
  rw [List.map_map]
  conv => lhs; rw [← List.map_id os]
  refine List.map_congr_left fun x hx => ?_
  have := (metOk_mem h x hx).1
  simp; omega
theorem mapNat_l {n : Nat} {os : List Int} (h : metOk n os noneB = true) : ∀ x ∈ os.map Int.toNat, x < n := fun x hx => by
  obtain ⟨z, hz, rfl⟩ := List.mem_map.1 hx
  have := metOk_mem h z hz
  omega
theorem free_symm (a b : Md) : freeB a b = freeB b a := by unfold freeB; exact Bool.and_comm ..
/-- Of two that an order turns, one is ahead, or they are free. -/
theorem bears_free {l : List Mm} {rs : List Nat} (h : (behindL l (intsZ rs)).1 = 0) {A B C : List Nat} {x y : Nat} (hr : rs = A ++ x :: (B ++ y :: C)) (hxl : x < l.length) (hyl : y < l.length)
    (hn : (min x y, max x y) ∉ freeFrom l l.length 0) : aheadM (nthM l x).md (nthM l y).md = true := by
  obtain ⟨-, hok, met, ps, ha, -⟩ := behind_zero.1 h
  have hnd := hok
  rw [← metR_nil] at ha hnd
  obtain ⟨-, -, hd⟩ := along_doc (metOk_mem hok) (first_nil _) ha
  rw [hr, intsZ_append] at hd
  have h1 := alongD_pair (l := l) (x := (x : Int)) (y := (y : Int)) (B := intsZ (B ++ y :: C)) (intsZ_mem.2 (by simp)) hd
  rw [Int.toNat_natCast, Int.toNat_natCast] at h1
  have hne : x ≠ y := by
    have := (nodup_metOk (p := []) hnd).1
    rw [hr] at this
    have := (List.nodup_cons.1 (List.nodup_append.1 this).2.1).1
    intro e
    exact this (by rw [e]; simp)
  cases hxy : aheadM (nthM l x).md (nthM l y).md with
  | true => rfl
  | false =>
    have hf : freeB (nthM l x).md (nthM l y).md = true := by unfold freeB; rw [hxy, h1]; rfl
    exfalso
    apply hn
    rcases Nat.lt_or_gt_of_ne hne with e | e
    · rw [Nat.min_eq_left (by omega), Nat.max_eq_right (by omega)]
      exact freeFrom_all e hyl hf _ _ (by omega) (by omega)
    · rw [Nat.min_eq_right (by omega), Nat.max_eq_left (by omega)]
      rw [free_symm] at hf
      exact freeFrom_all e hxl hf _ _ (by omega) (by omega)
end Go.Proofs.YtogeohjeabbmaaaDoor
