/-
  Several texts of mine in one: StbPure StbA StbB StbC StbD StbE StbF.
-/
import Derived.Test.YtogeohjeabbmaaaDoorY1
import Derived.Sort.Defs
import Derived.Sort.WalkA
import Derived.Sort.LotA
import Derived.RegionTactic
import Derived.CellFam
import Derived.Deep.LoopGhost
/-
  The library's stable sort, plain: rows that are sorted by key, and then by number; merges.
-/
set_option linter.unusedSimpArgs false
set_option linter.unusedVariables false
namespace Go.Proofs.YtogeohjeabbmaaaDoor
open Go.Sort

/-- The order by key, then by number. -/
def ltK (key : Nat → Int) (x y : Nat) : Prop := key x < key y ∨ (key x = key y ∧ x < y)
theorem ltK_trans {key : Nat → Int} {x y z : Nat} (h : ltK key x y) (h2 : ltK key y z) : ltK key x z := by
  unfold ltK at *; omega
theorem ltK_asymm {key : Nat → Int} {x y : Nat} (h : ltK key x y) : ¬ ltK key y x := by unfold ltK at *; omega
abbrev Srt (key : Nat → Int) (l : List Nat) : Prop := l.Pairwise (ltK key)
/-- A row that is sorted is the only one of its elements. -/
theorem Srt.unique {key : Nat → Int} : ∀ {l l' : List Nat}, Srt key l → Srt key l' → l.Perm l' → l = l'
  | [], l', _, _, hp => by simpa using hp.symm.eq_nil
  | x :: r, l', h, h', hp => by
    cases l' with
    | nil => exact absurd hp.length_eq (by simp)
    | cons y s =>
      have hx := List.pairwise_cons.1 h
      have hy := List.pairwise_cons.1 h'
      have e : x = y := by
        have h1 : x ∈ y :: s := hp.mem_iff.1 (List.mem_cons_self ..)
        have h2 : y ∈ x :: r := hp.mem_iff.2 (List.mem_cons_self ..)
        rcases List.mem_cons.1 h1 with e | h1
        · exact e
        · rcases List.mem_cons.1 h2 with e | h2
          · exact e.symm
          · exact absurd (hx.1 _ h2) (ltK_asymm (hy.1 _ h1))
      subst e
      rw [Srt.unique hx.2 hy.2 (List.perm_cons _ |>.1 hp)]
/-! ### Exchanges in a row -/
theorem swp_comm (d : Array Nat) (i j : Nat) : swp d i j = swp d j i := by
  by_cases e : i = j
  · subst e; rfl
  · unfold swp
    rw [Array.setIfInBounds_comm _ _ e]
theorem swp_seg (P M S : List Nat) (x y : Nat) {i j : Nat} (hi : i = P.length) (hj : j = P.length + 1 + M.length) : swp (P ++ x :: (M ++ y :: S)).toArray i j = (P ++ y :: (M ++ x :: S)).toArray := by
  subst hi hj
  have h1 : (P ++ x :: (M ++ y :: S)).toArray[P.length]! = x := by simp
  have h2 : (P ++ x :: (M ++ y :: S)).toArray[P.length + 1 + M.length]! = y := by
    have : (P ++ x :: (M ++ y :: S))[P.length + 1 + M.length]? = some y := by
      rw [List.getElem?_append_right (by omega), show P.length + 1 + M.length - P.length = M.length + 1 by omega, List.getElem?_cons_succ, List.getElem?_append_right (by omega)]
      simp
    simp [this]
  unfold swp
  rw [h1, h2, List.setIfInBounds_toArray, List.setIfInBounds_toArray]
  congr 1
  rw [List.set_append_right _ _ (by omega), Nat.sub_self, List.set_cons_zero, List.set_append_right _ _ (by omega), show P.length + 1 + M.length - P.length = M.length + 1 by omega, List.set_cons_succ, List.set_append_right _ _ (by omega), Nat.sub_self, List.set_cons_zero]
theorem at_seg (P S : List Nat) (x : Nat) {i : Nat} (hi : i = P.length) : (P ++ x :: S).toArray[i]! = x := by subst hi; simp
/-- What stands at a place of a row: its parts. -/
theorem split_at {l : List Nat} {i : Nat} (h : i < l.length) : l = l.take i ++ l[i] :: l.drop (i + 1) := by
  conv => lhs; rw [← List.take_append_drop i l, List.drop_eq_getElem_cons h]
/-! ### Merging -/
/-- A row, merged out of two: of the same elements, and sorted. -/
structure Mrg (key : Nat → Int) (A B C : List Nat) : Prop where
  perm : C.Perm (A ++ B)
  srt : Srt key C
/-- The left one is all ahead in number. -/
def Ahd (A B : List Nat) : Prop := ∀ x ∈ A, ∀ y ∈ B, x < y
theorem Mrg.nil_right {key : Nat → Int} {A : List Nat} (h : Srt key A) : Mrg key A [] A := ⟨by simp, h⟩
theorem Mrg.nil_left {key : Nat → Int} {A : List Nat} (h : Srt key A) : Mrg key [] A A := ⟨by simp, h⟩
theorem le_of_srt {key : Nat → Int} {l : List Nat} (h : Srt key l) {i j : Nat} (hj : j < l.length) (hij : i ≤ j) : key (l[i]'(by omega)) ≤ key l[j] := by
  rcases Nat.lt_or_eq_of_le hij with h1 | rfl
  · have := List.pairwise_iff_getElem.1 h i j (by omega) hj h1
    unfold ltK at this; omega
  · exact Int.le_refl _
/-- One element into a row on its right. -/
theorem Mrg.one_left {key : Nat → Int} {x : Nat} {B1 B2 : List Nat} (hs : Srt key (B1 ++ B2)) (ha : Ahd [x] (B1 ++ B2)) (h1 : ∀ y ∈ B1, key y < key x) (h2 : ∀ y ∈ B2, ¬ key y < key x) : Mrg key [x] (B1 ++ B2) (B1 ++ x :: B2) := by
  refine ⟨List.perm_middle, ?_⟩
  obtain ⟨p1, p2, p3⟩ := List.pairwise_append.1 hs
  refine List.pairwise_append.2 ⟨p1, List.pairwise_cons.2 ⟨fun y hy => ?_, p2⟩, fun a ha' b hb => ?_⟩
  · have := h2 y hy
    have := ha x (List.mem_singleton.2 rfl) y (List.mem_append_right _ hy)
    unfold ltK; omega
  · rcases List.mem_cons.1 hb with rfl | hb
    · exact .inl (h1 a ha')
    · exact p3 a ha' b hb
/-- One element into a row on its left. -/
theorem Mrg.one_right {key : Nat → Int} {y : Nat} {A1 A2 : List Nat} (hs : Srt key (A1 ++ A2)) (ha : Ahd (A1 ++ A2) [y]) (h1 : ∀ x ∈ A1, ¬ key y < key x) (h2 : ∀ x ∈ A2, key y < key x) : Mrg key (A1 ++ A2) [y] (A1 ++ y :: A2) := by
  refine ⟨?_, ?_⟩
  · exact List.perm_middle.trans (List.perm_append_singleton _ _).symm
  obtain ⟨p1, p2, p3⟩ := List.pairwise_append.1 hs
  refine List.pairwise_append.2 ⟨p1, List.pairwise_cons.2 ⟨fun x hx => .inl (h2 x hx), p2⟩, fun a ha' b hb => ?_⟩
  rcases List.mem_cons.1 hb with rfl | hb
  · have := h1 a ha'
    have := ha a (List.mem_append_left _ ha') b (List.mem_singleton.2 rfl)
    unfold ltK; omega
  · exact p3 a ha' b hb
/-- Two rows that are parted so that the parts' merges stand one behind the other. -/
theorem Mrg.join {key : Nat → Int} {A1 A2 B1 B2 C1 C2 : List Nat} (hA : Srt key (A1 ++ A2)) (hB : Srt key (B1 ++ B2)) (ha : Ahd (A1 ++ A2) (B1 ++ B2)) (m1 : Mrg key A1 B1 C1) (m2 : Mrg key A2 B2 C2)
    (h1 : ∀ x ∈ A1, ∀ y ∈ B2, key x ≤ key y) (h2 : ∀ y ∈ B1, ∀ x ∈ A2, key y < key x) : Mrg key (A1 ++ A2) (B1 ++ B2) (C1 ++ C2) := by
  obtain ⟨_, _, pA⟩ := List.pairwise_append.1 hA
  obtain ⟨_, _, pB⟩ := List.pairwise_append.1 hB
  refine ⟨?_, List.pairwise_append.2 ⟨m1.srt, m2.srt, fun a ha' b hb => ?_⟩⟩
  · refine (m1.perm.append m2.perm).trans ?_
    rw [List.append_assoc, List.append_assoc]
    refine List.Perm.append_left _ ?_
    rw [← List.append_assoc, ← List.append_assoc]
    exact List.Perm.append_right _ List.perm_append_comm
  · have a1 := m1.perm.mem_iff.1 ha'
    have b1 := m2.perm.mem_iff.1 hb
    rcases List.mem_append.1 a1 with a1 | a1 <;> rcases List.mem_append.1 b1 with b1 | b1
    · exact pA a a1 b b1
    · have := h1 a a1 b b1
      have := ha a (List.mem_append_left _ a1) b (List.mem_append_right _ b1)
      unfold ltK; omega
    · exact .inl (h2 a a1 b b1)
    · exact pB a a1 b b1
/-- What the scan of symMerge finds parts the rows so. -/
theorem scan_parts {key : Nat → Int} {A B : List Nat} (hA : Srt key A) (hB : Srt key B) {s e : Nat} (hs : s ≤ A.length) (he : e ≤ B.length)
    (h1 : 0 < s → e < B.length → ∃ (p : s - 1 < A.length) (q : e < B.length), ¬ key B[e] < key A[s - 1]) (h2 : s < A.length → 0 < e → ∃ (p : s < A.length) (q : e - 1 < B.length), key B[e - 1] < key A[s]) :
    (∀ x ∈ A.take s, ∀ y ∈ B.drop e, key x ≤ key y) ∧ (∀ y ∈ B.take e, ∀ x ∈ A.drop s, key y < key x) := by
  refine ⟨fun x hx y hy => ?_, fun y hy x hx => ?_⟩
  · obtain ⟨i, hi, rfl⟩ := List.getElem_of_mem hx
    obtain ⟨j, hj, rfl⟩ := List.getElem_of_mem hy
    rw [List.length_take] at hi
    rw [List.length_drop] at hj
    obtain ⟨p, q, h⟩ := h1 (by omega) (by omega)
    rw [List.getElem_take, List.getElem_drop]
    have a := le_of_srt hA (i := i) (j := s - 1) p (by omega)
    have b := le_of_srt hB (i := e) (j := e + j) (by omega) (by omega)
    omega
  · obtain ⟨i, hi, rfl⟩ := List.getElem_of_mem hx
    obtain ⟨j, hj, rfl⟩ := List.getElem_of_mem hy
    rw [List.length_drop] at hi
    rw [List.length_take] at hj
    obtain ⟨p, q, h⟩ := h2 (by omega) (by omega)
    rw [List.getElem_take, List.getElem_drop]
    have a := le_of_srt hA (i := s) (j := s + i) (by omega) (by omega)
    have b := le_of_srt hB (i := j) (j := e - 1) q (by omega)
    omega
/-- The same of one element on the left, and on the right. -/
theorem scan_left {key : Nat → Int} {B : List Nat} {k : Int} (hB : Srt key B) {e : Nat} (he : e ≤ B.length) (h1 : 0 < e → ∃ p : e - 1 < B.length, key B[e - 1] < k) (h2 : e < B.length → ∃ p : e < B.length, ¬ key B[e] < k) :
    (∀ y ∈ B.take e, key y < k) ∧ (∀ y ∈ B.drop e, ¬ key y < k) := by
  refine ⟨fun y hy => ?_, fun y hy => ?_⟩
  · obtain ⟨j, hj, rfl⟩ := List.getElem_of_mem hy
    rw [List.length_take] at hj
    obtain ⟨p, h⟩ := h1 (by omega)
    rw [List.getElem_take]
    have b := le_of_srt hB (i := j) (j := e - 1) p (by omega)
    omega
  · obtain ⟨j, hj, rfl⟩ := List.getElem_of_mem hy
    rw [List.length_drop] at hj
    obtain ⟨p, h⟩ := h2 (by omega)
    rw [List.getElem_drop]
    have b := le_of_srt hB (i := e) (j := e + j) (by omega) (by omega)
    omega
theorem scan_right {key : Nat → Int} {A : List Nat} {k : Int} (hA : Srt key A) {s : Nat} (hs : s ≤ A.length) (h1 : 0 < s → ∃ p : s - 1 < A.length, ¬ k < key A[s - 1]) (h2 : s < A.length → ∃ p : s < A.length, k < key A[s]) :
    (∀ x ∈ A.take s, ¬ k < key x) ∧ (∀ x ∈ A.drop s, k < key x) := by
  refine ⟨fun y hy => ?_, fun y hy => ?_⟩
  · obtain ⟨j, hj, rfl⟩ := List.getElem_of_mem hy
    rw [List.length_take] at hj
    obtain ⟨p, h⟩ := h1 (by omega)
    rw [List.getElem_take]
    have b := le_of_srt hA (i := j) (j := s - 1) p (by omega)
    omega
  · obtain ⟨j, hj, rfl⟩ := List.getElem_of_mem hy
    rw [List.length_drop] at hj
    obtain ⟨p, h⟩ := h2 (by omega)
    rw [List.getElem_drop]
    have b := le_of_srt hA (i := s) (j := s + j) (by omega) (by omega)
    omega
end Go.Proofs.YtogeohjeabbmaaaDoor

/-
  The library's stable sort at rows of int, by a function that compares: the row's world, the sort by insertion.
-/
set_option linter.unusedSimpArgs false
set_option linter.unusedVariables false
namespace Go.Proofs.YtogeohjeabbmaaaDoor
open Go.RowKit Go.Sort

/-- A number as a value of int. -/
def ei (x : Nat) : Value := .int .i64 (x : Int)
/-- After some draws the row reads l; all else as in w. -/
def Lf (w : World) (blk off : Nat) (l : List Nat) (W : World) : Prop := ∃ n, W = putRow ei (Sort.ahead w n) blk off l.toArray
section
variable {w W : World} {blk off : Nat} {l : List Nat}
theorem Lf.self (h : Holds ei w blk off l.toArray) : Lf w blk off l w := ⟨0, (putRow_self _ _ _ _ _ h).symm⟩
theorem Lf.on (h : Lf w blk off l W) (q : Nat) : Lf w blk off l (W.drewN q) := by
  obtain ⟨n, rfl⟩ := h
  exact ⟨n + q, putRow_drewN _ _ _ _ _ _ _⟩
theorem Lf.holds {d : Array Nat} (h : Lf w blk off l W) (h0 : Holds ei w blk off d) (hs : l.length = d.size) : Holds ei W blk off l.toArray := by
  obtain ⟨n, rfl⟩ := h
  exact holds_putRow _ _ _ _ d l.toArray (holds_ahead _ _ _ _ _ _ h0) (by simpa using hs)
theorem Lf.cell {d : Array Nat} (h : Lf w blk off l W) (h0 : Holds ei w blk off d) (hs : l.length = d.size) {G : Nat → Nat} (hG : ∀ t, G t = l.toArray[t]!) : ∀ t, t < d.size → W.cell? ⟨blk, off + t, none⟩ = some (.int .i64 (G t : Nat)) := fun t ht => by
  rw [hG]; exact (h.holds h0 hs t (by simp; omega)).1
theorem Lf.free {d : Array Nat} (h : Lf w blk off l W) (h0 : Holds ei w blk off d) (hs : l.length = d.size) : ∀ t, t < d.size → W.frozen? ⟨blk, off + t, none⟩ = false := fun t ht => (h.holds h0 hs t (by simp; omega)).2
/-- An exchange, as the walk leaves it. -/
theorem Lf.swap {d : List Nat} (h : Lf w blk off d W) (q j k : Nat) (hj : j < d.length) (hk : k < d.length) {a b : Int} {l' : List Nat} (hl : swp d.toArray j k = l'.toArray) (ha : a = (d.toArray[k]! : Nat)) (hb : b = (d.toArray[j]! : Nat)) :
    Lf w blk off l' (((W.drewN q).setCell ⟨blk, off + j, none⟩ (.int .i64 a)).setCell ⟨blk, off + k, none⟩ (.int .i64 b)) := by
  obtain ⟨n, rfl⟩ := h
  subst ha hb
  refine ⟨n + q, ?_⟩
  rw [← hl]
  exact swap_worldA ei w n q blk off d.toArray j k (by simpa using hj) (by simpa using hk)
theorem Lf.swapd {d : List Nat} (h : Lf w blk off d W) (j k : Nat) (hj : j < d.length) (hk : k < d.length) {a b : Int} {l' : List Nat} (hl : swp d.toArray j k = l'.toArray) (ha : a = (d.toArray[k]! : Nat)) (hb : b = (d.toArray[j]! : Nat)) :
    Lf w blk off l' ((W.setCell ⟨blk, off + j, none⟩ (.int .i64 a)).setCell ⟨blk, off + k, none⟩ (.int .i64 b)).drew := (h.swap 0 j k hj hk hl ha hb).on 1
end
/-- What a comparison promises: it reads the keys. -/
def CmpQ (w : World) (blk off n : Nat) (g : FuncId) (cb : Array Value) (key : Nat → Int) (m : Nat) : Prop :=
  ∀ (l : List Nat) (W : World), l.length = n → Lf w blk off l W → ∀ x y, x < m → y < m → ∀ k, Calls Tryd.prog g (#[.int .i64 (x : Int), .int .i64 (y : Int)] ++ cb) (W.drewN k) fun e w' => e = .returned (.int .i64 (key x - key y)) ∧ ∃ q, w' = W.drewN q
theorem enters_byat (args : Array Value) (w : World) : (callFunc 39 args).run Tryd.prog w = .ok (.enter 39 args) w := by
  exact enters_of Tryd.func39 (by kernel_rfl) rfl args w
/-! ### Insertion, plain -/
theorem ins_next {key : Nat → Int} {D C1 C2 : List Nat} {k : Nat} (hk : k < D.length) (hD : D.Pairwise (· < ·)) (hp : (C1 ++ C2).Perm (D.take k)) (hs : Srt key (C1 ++ C2))
    (h2 : ∀ y ∈ C2, key D[k] < key y) (h1 : ∀ y, C1.getLast? = some y → ¬ key D[k] < key y) : (C1 ++ D[k] :: C2).Perm (D.take (k + 1)) ∧ Srt key (C1 ++ D[k] :: C2) := by
  have ha : Ahd (C1 ++ C2) [D[k]] := fun x hx y hy => by
    obtain rfl := List.mem_singleton.1 hy
    have hx' := hp.mem_iff.1 hx
    obtain ⟨i, hi, rfl⟩ := List.getElem_of_mem hx'
    rw [List.length_take] at hi
    rw [List.getElem_take]
    exact List.pairwise_iff_getElem.1 hD i k (by omega) hk (by omega)
  have hC1 : ∀ x ∈ C1, ¬ key D[k] < key x := fun x hx => by
    obtain ⟨i, hi, rfl⟩ := List.getElem_of_mem hx
    have hne : C1 ≠ [] := fun e => by rw [e] at hi; exact absurd hi (by simp)
    have h3 := h1 _ (List.getLast?_eq_some_getLast hne)
    have h4 := le_of_srt (List.pairwise_append.1 hs).1 (i := i) (j := C1.length - 1) (by omega) (by omega)
    rw [List.getLast_eq_getElem] at h3
    omega
  have M := Mrg.one_right hs ha hC1 h2
  refine ⟨M.perm.trans ?_, M.srt⟩
  rw [List.take_succ_eq_append_getElem hk]
  exact List.Perm.append_right _ hp
theorem snoc_of {l : List Nat} (h : 0 < l.length) : ∃ l' y, l = l' ++ [y] := ⟨l.dropLast, l.getLast (fun e => by rw [e] at h; exact absurd h (by simp)), (List.dropLast_concat_getLast _).symm⟩
/-- What the outer loop holds. -/
def InsO (key : Nat → Int) (w : World) (blk off : Nat) (P D S : List Nat) (i : Nat) (wr : World) : Prop :=
  ∃ C, C.Perm (D.take (i - P.length)) ∧ Srt key C ∧ Lf w blk off (P ++ C ++ D.drop (i - P.length) ++ S) wr
/-- What the inner one holds. -/
def InsI (key : Nat → Int) (w : World) (blk off : Nat) (P D S : List Nat) (i k x j : Nat) (C1 C2 : List Nat) (wr : World) : Prop :=
  k + P.length = i ∧ P.length + C1.length = j ∧ (∃ hk : k < D.length, D[k] = x) ∧ (C1 ++ C2).Perm (D.take k) ∧ Srt key (C1 ++ C2) ∧ (∀ y ∈ C2, key x < key y) ∧ Lf w blk off ((P ++ C1) ++ x :: (C2 ++ (D.drop (k + 1) ++ S))) wr
theorem InsO.start {key : Nat → Int} {w wr : World} {blk off : Nat} {P D S : List Nat} {i : Nat} (h : InsO key w blk off P D S i wr) (hi : P.length < i) (hb : i < P.length + D.length) : ∃ k x C, InsI key w blk off P D S i k x i C [] wr := by
  obtain ⟨C, hp, hs, hL⟩ := h
  have hl := hp.length_eq
  rw [List.length_take] at hl
  have hk : i - P.length < D.length := by omega
  refine ⟨i - P.length, D[i - P.length], C, by omega, by omega, ⟨hk, rfl⟩, by simpa using hp, by simpa using hs, by simp, ?_⟩
  rw [List.drop_eq_getElem_cons hk] at hL
  simpa only [List.append_assoc, List.nil_append, List.cons_append] using hL
theorem InsI.step {key : Nat → Int} {w wr : World} {blk off : Nat} {P D S : List Nat} {i k x j : Nat} {C1 C2 : List Nat} {y : Nat} (h : InsI key w blk off P D S i k x j (C1 ++ [y]) C2 wr) (hxy : key x < key y) {wr' : World}
    (hL : Lf w blk off ((P ++ C1) ++ x :: (y :: C2 ++ (D.drop (k + 1) ++ S))) wr') : InsI key w blk off P D S i k x (j - 1) C1 (y :: C2) wr' := by
  obtain ⟨h1, h2, h3, h4, h5, h6, h7⟩ := h
  refine ⟨h1, ?_, h3, by simpa using h4, by simpa using h5, fun z hz => ?_, hL⟩
  · rw [List.length_append] at h2; simp at h2; omega
  · rcases List.mem_cons.1 hz with rfl | hz
    · exact hxy
    · exact h6 z hz
theorem InsI.out {key : Nat → Int} {w wr : World} {blk off : Nat} {P D S : List Nat} {i k x j : Nat} {C1 C2 : List Nat} (h : InsI key w blk off P D S i k x j C1 C2 wr) (hD : D.Pairwise (· < ·)) (h0 : ∀ y, C1.getLast? = some y → ¬ key x < key y) (q : Nat) : InsO key w blk off P D S (i + 1) (wr.drewN q) := by
  obtain ⟨h1, h2, ⟨hk, rfl⟩, h4, h5, h6, h7⟩ := h
  have M := ins_next hk hD h4 h5 h6 h0
  refine ⟨C1 ++ D[k] :: C2, ?_, M.2, ?_⟩
  · rw [show i + 1 - P.length = k + 1 by omega]; exact M.1
  · rw [show i + 1 - P.length = k + 1 by omega]
    have := h7.on q
    simpa using this
theorem InsI.swp {key : Nat → Int} {w wr : World} {blk off : Nat} {P D S : List Nat} {i k x j : Nat} {C1 C2 : List Nat} {y : Nat} (h : InsI key w blk off P D S i k x j (C1 ++ [y]) C2 wr) :
    swp ((P ++ (C1 ++ [y])) ++ x :: (C2 ++ (D.drop (k + 1) ++ S))).toArray j (j - 1) = ((P ++ C1) ++ x :: (y :: C2 ++ (D.drop (k + 1) ++ S))).toArray := by
  have h2 := h.2.1
  rw [List.length_append] at h2
  simp at h2
  rw [swp_comm]
  have := swp_seg (P ++ C1) [] (C2 ++ (D.drop (k + 1) ++ S)) y x (i := j - 1) (j := j) (by simp; omega) (by simp; omega)
  simpa using this
theorem InsI.len {key : Nat → Int} {w wr : World} {blk off : Nat} {P D S : List Nat} {i k x j : Nat} {C1 C2 : List Nat} (h : InsI key w blk off P D S i k x j C1 C2 wr) : ((P ++ C1) ++ x :: (C2 ++ (D.drop (k + 1) ++ S))).length = P.length + D.length + S.length := by
  obtain ⟨h1, h2, ⟨hk, rfl⟩, h4, h5, h6, h7⟩ := h
  have := h4.length_eq
  simp only [List.length_append, List.length_take, List.length_cons, List.length_drop] at *
  omega
theorem InsI.at1 {key : Nat → Int} {w wr : World} {blk off : Nat} {P D S : List Nat} {i k x j : Nat} {C1 C2 : List Nat} (h : InsI key w blk off P D S i k x j C1 C2 wr) : ((P ++ C1) ++ x :: (C2 ++ (D.drop (k + 1) ++ S))).toArray[j]! = x := at_seg _ _ _ (by rw [List.length_append]; exact h.2.1.symm)
theorem InsI.at0 {key : Nat → Int} {w wr : World} {blk off : Nat} {P D S : List Nat} {i k x j : Nat} {C1 C2 : List Nat} {y : Nat} (h : InsI key w blk off P D S i k x j (C1 ++ [y]) C2 wr) : ((P ++ (C1 ++ [y])) ++ x :: (C2 ++ (D.drop (k + 1) ++ S))).toArray[j - 1]! = y := by
  have h2 := h.2.1
  rw [List.length_append] at h2
  simp at h2
  have := at_seg (P ++ C1) (x :: (C2 ++ (D.drop (k + 1) ++ S))) y (i := j - 1) (by simp; omega)
  simpa using this
end Go.Proofs.YtogeohjeabbmaaaDoor

/-
  The library's stable sort at rows of int: the sort by insertion, walked.
-/
set_option linter.unusedSimpArgs false
set_option linter.unusedVariables false
set_option maxRecDepth 100000
namespace Go.Proofs.YtogeohjeabbmaaaDoor
open Go.RowKit Go.Sort

set_option maxHeartbeats 6400000 in
theorem insStb (g0 : Array Value) (key : Nat → Int) (m : Nat) (blk off cap a b n : Nat) (d0 : Array Nat) (P D S : List Nat) (w w1 : World) (hH : Holds ei w blk off d0) (hn : d0.size = n) (hl : (P ++ D ++ S).length = n) (hP : P.length = a) (hb : P.length + D.length = b)
    (hn80 : n ≤ 4096) (hC : CmpQ w blk off n 39 g0 key m) (hm : ∀ x ∈ D, x < m) (hD : D.Pairwise (· < ·)) (hL : Lf w blk off (P ++ D ++ S) w1) :
    Calls Tryd.prog 79 #[.slice (some ⟨blk, off, none⟩) n cap, .int .i64 a, .int .i64 b, .func (.func 39) #[] g0] w1 fun e w' =>
      e = .returned (.tuple #[]) ∧ ∃ C, C.Perm D ∧ Srt key C ∧ Lf w blk off (P ++ C ++ S) w' := by
  have hlD : P.length + D.length + S.length = n := by simp only [List.length_append] at hl; omega
  have h0 : InsO key w blk off P D S (a + 1) w1 := by
    refine ⟨D.take 1, ?_, ?_, ?_⟩
    · rw [show a + 1 - P.length = 1 by omega]
    · match D with
      | [] => exact List.Pairwise.nil
      | x :: r => exact List.pairwise_singleton _ _
    · rw [show a + 1 - P.length = 1 by omega]
      rw [List.append_assoc P, List.take_append_drop]
      exact hL
  have hb80 : b ≤ 4096 := by omega
  have hab : a ≤ b := by omega
  clear hl hL
  have h0'h := Lib.hid h0
  have hlD'h := Lib.hid hlD
  have hC'h := Lib.hid hC
  have hm'h := Lib.hid hm
  have hD'h := Lib.hid hD
  have hH'h := Lib.hid hH
  have hn'h := Lib.hid hn
  have hP'h := Lib.hid hP
  have hb'h := Lib.hid hb
  clear h0 hlD hC hm hD hH hn hP hb
  go_enter Tryd.func79, Tryd.ntmps79
  go_wp2
  go_loopw [8] (fun vi wr => ∃ i : Nat, vi = .int .i64 (i : Int) ∧ a < i ∧ i ≤ b + 1 ∧ InsO key w blk off P D S i wr ∧ (b < i → i = a + 1)) (fun vi _ => b + 1 - (intOf vi).toNat)
  case atStart => exact ⟨a + 1, by go_num, by omega, by omega, h0'h.out, by omega⟩
  case round =>
    obtain ⟨i, rfl, hai, hib, hO, hbi⟩ := hrel
    by_cases hlt : i < b
    · obtain ⟨k, x, C, hI⟩ := hO.start (by have := hP'h.out; omega) (by have := hb'h.out; omega)
      have i1 : (i : Int) < (b : Int) := by omega
      have hxm : x < m := by obtain ⟨hk, rfl⟩ := hI.2.2.1; exact hm'h.out _ (List.getElem_mem _)
      clear hO hbi
      have hI'h := Lib.hid hI
      have hxm'h := Lib.hid hxm
      clear hI hxm
      go_wp2
      go_loopw [9] (fun vj wq => ∃ (j : Nat) (C1 C2 : List Nat), vj = .int .i64 (j : Int) ∧ a ≤ j ∧ j ≤ i ∧ InsI key w blk off P D S i k x j C1 C2 wq) (fun vj _ => (intOf vj).toNat)
      case atStart => exact ⟨i, C, [], rfl, by omega, Nat.le_refl _, hI'h.out⟩
      case round =>
        obtain ⟨j, C1, C2, rfl, haj, hji, hI⟩ := hrel
        by_cases hja : a < j
        · obtain ⟨C1, y, rfl⟩ : ∃ C1' y, C1 = C1' ++ [y] := snoc_of (by have := hI.2.1; have := hP'h.out; omega)
          obtain ⟨G, hG⟩ : ∃ G : Nat → Nat, ∀ t, G t = ((P ++ (C1 ++ [y])) ++ x :: (C2 ++ (D.drop (k + 1) ++ S))).toArray[t]! := ⟨fun t => ((P ++ (C1 ++ [y])) ++ x :: (C2 ++ (D.drop (k + 1) ++ S))).toArray[t]!, fun _ => rfl⟩
          have hlen := hI.len.trans (hlD'h.out.trans hn'h.out.symm)
          have hLf := hI.2.2.2.2.2.2
          have hc := hLf.cell hH'h.out hlen hG
          have hf := hLf.free hH'h.out hlen
          have x1 : G j = x := (hG j).trans hI.at1
          have x0 : G (j - 1) = y := (hG (j - 1)).trans hI.at0
          have hym : y < m := by
            have h4 := hI.2.2.2.1
            exact hm'h.out y (List.mem_of_mem_take (h4.mem_iff.1 (by simp)))
          have CQ := hC'h.out _ _ (by rw [hlen]; exact hn'h.out) hLf x y hxm'h.out hym
          rw [hn'h.out] at hc hf
          have hjn : j < n := by have := hI.len; have := hlD'h.out; have := hb'h.out; omega
          have c1 := hc j (by omega)
          have c0 := hc (j - 1) (by omega)
          have f1 := hf j (by omega)
          have f0 := hf (j - 1) (by omega)
          rw [x1] at c1
          rw [x0] at c0
          obtain ⟨jp, rfl⟩ : ∃ q, j = q + 1 := ⟨j - 1, by omega⟩
          rw [Nat.add_sub_cancel] at c0 f0
          have i2 : (a : Int) < (jp : Int) + 1 := by omega
          have i3 : (jp : Int) + 1 < (n : Int) := by omega
          have i4 : (jp : Int) < (n : Int) := by omega
          have i5 : (0 : Int) ≤ (jp : Int) := by omega
          have i6 : (0 : Int) ≤ (jp : Int) + 1 := by omega
          clear hG x1 x0 hc hf hlen hym
          have hI'h := Lib.hid hI
          have hLf'h := Lib.hid hLf
          have CQ'h := Lib.hid CQ
          have hjn'h := Lib.hid hjn
          clear hI hLf CQ hjn
          by_cases hxy : key x < key y
          · have i7 : key x - key y < 0 := by omega
            go_wp2_with fail
            go_big_quiet (first | (go_at_call 39; exact CQ'h.out _))
            go_wp2_with fail
            go_region
            all_goals go_wp2
            go_roundw
            case rel =>
              refine ⟨jp, C1, y :: C2, by go_num, by omega, by omega, hI'h.out.step hxy ?_⟩
              have sw := hI'h.out.swp
              have hle := hI'h.out.len
              have hh := hlD'h.out
              refine hLf'h.out.swap (nq + 1) (jp + 1) jp (by omega) (by omega) sw ?_ ?_
              · rw [show (jp : Nat) = jp + 1 - 1 from rfl, hI'h.out.at0]
              · rw [hI'h.out.at1]
            case measure => simp [intOf]
          · have i7 : ¬ key x - key y < 0 := by omega
            go_wp2_with fail
            go_big_quiet (first | (go_at_call 39; exact CQ'h.out _))
            go_wp2
            go_roundw
            case rel => exact ⟨i + 1, by go_num, by omega, by omega, hI'h.out.out hD'h.out (fun z hz => by simp at hz; rw [← hz]; omega) nq, by omega⟩
            case measure => simp [intOf]; omega
        · have i2 : ¬ (a : Int) < (j : Int) := by omega
          have hC0 : C1 = [] := List.eq_nil_of_length_eq_zero (by have := hI.2.1; have := hP'h.out; omega)
          have hI'h := Lib.hid hI
          have hC0'h := Lib.hid hC0
          clear hI hC0
          go_wp2_with fail
          go_big_quiet (first | (go_at_call 39; exact CQ'h.out _))
          go_wp2
          go_roundw
          case rel => exact ⟨i + 1, by go_num, by omega, by omega, hI'h.out.out hD'h.out (fun z hz => by rw [hC0'h.out] at hz; simp at hz) nq, by omega⟩
          case measure => simp [intOf]; omega
    · have i1 : ¬ (i : Int) < (b : Int) := by omega
      obtain ⟨C, hp, hs, hLf⟩ := hO
      have hk : D.length ≤ i - P.length := by have := hP'h.out; have := hb'h.out; omega
      rw [List.take_of_length_le hk] at hp
      rw [List.drop_of_length_le hk, List.append_nil] at hLf
      have hp'h := Lib.hid hp
      have hs'h := Lib.hid hs
      have hLf'h := Lib.hid hLf
      clear hp hs hLf
      go_wp2
      go_end0
      exact ⟨rfl, C, hp'h.out, hs'h.out, by have := hLf'h.out; rwa [List.append_assoc] at this⟩
end Go.Proofs.YtogeohjeabbmaaaDoor

/-
  The library's stable sort at rows of int: two parts of a row exchanged, and turned round.
-/
set_option linter.unusedSimpArgs false
set_option linter.unusedVariables false
set_option maxRecDepth 100000
namespace Go.Proofs.YtogeohjeabbmaaaDoor
open Go.RowKit Go.Sort

/-- Two parts of a row, exchanged as far as k. -/
def swapL (P X M Y S : List Nat) (k : Nat) : List Nat := P ++ Y.take k ++ X.drop k ++ M ++ X.take k ++ Y.drop k ++ S
theorem swapL_zero (P X M Y S : List Nat) : swapL P X M Y S 0 = P ++ X ++ M ++ Y ++ S := by unfold swapL; simp
theorem swapL_all {P X M Y S : List Nat} {k : Nat} (hx : X.length = k) (hy : Y.length = k) : swapL P X M Y S k = P ++ Y ++ M ++ X ++ S := by
  unfold swapL
  rw [List.take_of_length_le (by omega), List.drop_of_length_le (by omega), List.take_of_length_le (by omega), List.drop_of_length_le (by omega)]; simp
theorem swapL_at {P X M Y S : List Nat} {k : Nat} (hx : k < X.length) (hy : k < Y.length) : swapL P X M Y S k = (P ++ Y.take k) ++ X[k] :: ((X.drop (k + 1) ++ M ++ X.take k) ++ Y[k] :: (Y.drop (k + 1) ++ S)) := by
  unfold swapL
  rw [List.drop_eq_getElem_cons hx, List.drop_eq_getElem_cons hy]
  simp only [List.append_assoc, List.cons_append]
theorem swapL_next {P X M Y S : List Nat} {k : Nat} (hx : k < X.length) (hy : k < Y.length) : swapL P X M Y S (k + 1) = (P ++ Y.take k) ++ Y[k] :: ((X.drop (k + 1) ++ M ++ X.take k) ++ X[k] :: (Y.drop (k + 1) ++ S)) := by
  unfold swapL
  rw [List.take_succ_eq_append_getElem hx, List.take_succ_eq_append_getElem hy]
  simp only [List.append_assoc, List.cons_append, List.nil_append]
theorem swapL_length (P X M Y S : List Nat) (k : Nat) : (swapL P X M Y S k).length = P.length + X.length + M.length + Y.length + S.length := by
  unfold swapL; simp only [List.length_append, List.length_take, List.length_drop]; omega
set_option maxHeartbeats 6400000 in
theorem swapStb (g : Value) (blk off cap a b c n : Nat) (d0 : Array Nat) (P X M Y S : List Nat) (w w1 : World) (hH : Holds ei w blk off d0) (hn : d0.size = n) (hl : (P ++ X ++ M ++ Y ++ S).length = n) (hP : P.length = a) (hX : X.length = c) (hY : Y.length = c) (hb : P.length + X.length + M.length = b)
    (hn80 : n ≤ 4096) (hL : Lf w blk off (P ++ X ++ M ++ Y ++ S) w1) :
    Calls Tryd.prog 99 #[.slice (some ⟨blk, off, none⟩) n cap, .int .i64 a, .int .i64 b, .int .i64 c, g] w1 fun e w' =>
      e = .returned (.tuple #[]) ∧ Lf w blk off (P ++ Y ++ M ++ X ++ S) w' := by
  have hlD : P.length + X.length + M.length + Y.length + S.length = n := by simp only [List.length_append] at hl; omega
  have h0 : Lf w blk off (swapL P X M Y S 0) w1 := by rw [swapL_zero]; exact hL
  have hc80 : c ≤ 4096 := by omega
  clear hl hL
  have h0'h := Lib.hid h0
  have hlD'h := Lib.hid hlD
  have hH'h := Lib.hid hH
  have hn'h := Lib.hid hn
  have hP'h := Lib.hid hP
  have hb'h := Lib.hid hb
  have hX'h := Lib.hid hX
  have hY'h := Lib.hid hY
  clear h0 hlD hH hn hP hb hX hY
  go_enter Tryd.func99, Tryd.ntmps99
  go_wp2
  go_loopg [10] c (fun q vi wr => ∃ k : Nat, k + q = c ∧ vi = .int .i64 (k : Int) ∧ Lf w blk off (swapL P X M Y S k) wr)
  case atStart => exact ⟨0, by omega, rfl, h0'h.out⟩
  case round =>
    obtain ⟨k, hk, rfl, hLf⟩ := hrel
    by_cases hlt : k < c
    · have i1 : (k : Int) < (c : Int) := by omega
      have kx : k < X.length := by have := hX'h.out; omega
      have ky : k < Y.length := by have := hY'h.out; omega
      obtain ⟨G, hG⟩ : ∃ G : Nat → Nat, ∀ t, G t = (swapL P X M Y S k).toArray[t]! := ⟨fun t => (swapL P X M Y S k).toArray[t]!, fun _ => rfl⟩
      have hlen : (swapL P X M Y S k).length = d0.size := (swapL_length ..).trans (hlD'h.out.trans hn'h.out.symm)
      have hc := hLf.cell hH'h.out hlen hG
      have hf := hLf.free hH'h.out hlen
      rw [hn'h.out] at hc hf hlen
      have e1 : (swapL P X M Y S k).toArray[a + k]! = X[k] := by rw [swapL_at kx ky]; exact at_seg _ _ _ (by simp; have := hP'h.out; omega)
      have e2 : (swapL P X M Y S k).toArray[b + k]! = Y[k] := by
        rw [swapL_at kx ky]
        have := at_seg ((P ++ Y.take k) ++ X[k] :: (X.drop (k + 1) ++ M ++ X.take k)) (Y.drop (k + 1) ++ S) Y[k] (i := b + k) (by simp; have := hb'h.out; omega)
        simpa only [List.append_assoc, List.cons_append] using this
      have sw : swp (swapL P X M Y S k).toArray (a + k) (b + k) = (swapL P X M Y S (k + 1)).toArray := by
        rw [swapL_at kx ky, swapL_next kx ky]
        exact swp_seg _ _ _ _ _ (by simp; have := hP'h.out; omega) (by simp; have := hb'h.out; have := hP'h.out; omega)
      have hbn : b + k < n := by have := hlD'h.out; have := hb'h.out; omega
      have han : a + k < n := by have := hlD'h.out; have := hP'h.out; omega
      have c1 := hc (a + k) han
      have c2 := hc (b + k) hbn
      have f1 := hf (a + k) han
      have f2 := hf (b + k) hbn
      rw [hG, e1] at c1
      rw [hG, e2] at c2
      generalize X[k] = x at c1 e1
      generalize Y[k] = y at c2 e2
      have i2 : (a : Int) + (k : Int) < (n : Int) := by omega
      have i3 : (b : Int) + (k : Int) < (n : Int) := by omega
      have i4 : (0 : Int) ≤ (a : Int) + (k : Int) := by omega
      have i5 : (0 : Int) ≤ (b : Int) + (k : Int) := by omega
      have hab : a < b := by have := hP'h.out; have := hb'h.out; omega
      have n1 : ¬ off + (b + k) = off + (a + k) := by omega
      have n2 : ¬ off + (a + k) = off + (b + k) := by omega
      have w1 : IntKind.i64.wrap ((a : Int) + (k : Int)) = (a : Int) + (k : Int) := by rw [IntKind.wrap_i64]; omega
      have w2 : IntKind.i64.wrap ((b : Int) + (k : Int)) = (b : Int) + (k : Int) := by rw [IntKind.wrap_i64]; omega
      clear hG hc hf kx ky
      have hLf'h := Lib.hid hLf
      have sw'h := Lib.hid sw
      have e1'h := Lib.hid e1
      have e2'h := Lib.hid e2
      have hlen'h := Lib.hid hlen
      have hk'h := Lib.hid hk
      clear hLf sw e1 e2 hlen hk
      go_wp2_with fail
      go_region
      all_goals go_wp2
      go_roundg (gk - 1)
      case measure => have := hk'h.out; omega
      case rel =>
        refine ⟨k + 1, by have := hk'h.out; omega, by go_num, ?_⟩
        have hh := hlen'h.out
        exact hLf'h.out.swapd (a + k) (b + k) (by omega) (by omega) sw'h.out (by rw [e2'h.out]) (by rw [e1'h.out])
    · have i1 : ¬ (k : Int) < (c : Int) := by omega
      obtain rfl : k = c := by omega
      rw [swapL_all hX'h.out hY'h.out] at hLf
      have hLf'h := Lib.hid hLf
      clear hLf
      go_wp2
      go_end0
      exact ⟨rfl, by have := hLf'h.out; simpa only [List.append_assoc] using this⟩
end Go.Proofs.YtogeohjeabbmaaaDoor

/-
  The library's stable sort at rows of int: two neighbouring parts of a row, turned round.
-/
set_option linter.unusedSimpArgs false
set_option linter.unusedVariables false
set_option maxRecDepth 100000
namespace Go.Proofs.YtogeohjeabbmaaaDoor
open Go.RowKit Go.Sort

/-- What the loop holds: what is still to be turned round. -/
def RotI (w : World) (blk off m : Nat) (E : List Nat) (i j : Nat) (wr : World) : Prop :=
  ∃ P X Y S : List Nat, X.length = i ∧ Y.length = j ∧ P.length + X.length = m ∧ 0 < i ∧ 0 < j ∧ P ++ Y ++ X ++ S = E ∧ Lf w blk off (P ++ X ++ Y ++ S) wr
theorem RotI.more {w wr : World} {blk off m : Nat} {E : List Nat} {i j : Nat} (h : RotI w blk off m E i j wr) (hij : j < i) : ∃ P X M Y S : List Nat, P.length = m - i ∧ X.length = j ∧ Y.length = j ∧ P.length + X.length + M.length = m ∧ (P ++ X ++ M ++ Y ++ S).length = E.length ∧ Lf w blk off (P ++ X ++ M ++ Y ++ S) wr ∧ ∀ wr', Lf w blk off (P ++ Y ++ M ++ X ++ S) wr' → RotI w blk off m E (i - j) j wr' := by
  obtain ⟨P, X, Y, S, rfl, rfl, h3, h4, h5, rfl, h6⟩ := h
  have e : X = X.take Y.length ++ X.drop Y.length := (List.take_append_drop _ _).symm
  refine ⟨P, X.take Y.length, X.drop Y.length, Y, S, by omega, by simp; omega, rfl, by simp; omega, ?_, ?_, fun wr' hL => ?_⟩
  · simp only [List.length_append, List.length_take, List.length_drop]; omega
  · rw [List.append_assoc P (X.take _), List.take_append_drop]; exact h6
  · refine ⟨P ++ Y, X.drop Y.length, X.take Y.length, S, by simp, by simp; omega, by simp; omega, by omega, h5, ?_, hL⟩
    rw [List.append_assoc (P ++ Y), List.take_append_drop]
theorem RotI.less {w wr : World} {blk off m : Nat} {E : List Nat} {i j : Nat} (h : RotI w blk off m E i j wr) (hij : i < j) : ∃ P X M Y S : List Nat, P.length = m - i ∧ X.length = i ∧ Y.length = i ∧ P.length + X.length + M.length = m + j - i ∧ (P ++ X ++ M ++ Y ++ S).length = E.length ∧ Lf w blk off (P ++ X ++ M ++ Y ++ S) wr ∧ ∀ wr', Lf w blk off (P ++ Y ++ M ++ X ++ S) wr' → RotI w blk off m E i (j - i) wr' := by
  obtain ⟨P, X, Y, S, rfl, rfl, h3, h4, h5, rfl, h6⟩ := h
  refine ⟨P, X, Y.take (Y.length - X.length), Y.drop (Y.length - X.length), S, by omega, rfl, by simp; omega, by simp; omega, ?_, ?_, fun wr' hL => ?_⟩
  · simp only [List.length_append, List.length_take, List.length_drop]; omega
  · rw [List.append_assoc (P ++ X), List.take_append_drop]; exact h6
  · refine ⟨P, Y.drop (Y.length - X.length), Y.take (Y.length - X.length), X ++ S, by simp; omega, by simp, by simp; omega, h4, by omega, ?_, ?_⟩
    · rw [List.append_assoc P, List.take_append_drop, List.append_assoc, List.append_assoc, List.append_assoc]
    · simpa only [List.append_assoc] using hL
theorem RotI.same {w wr : World} {blk off m : Nat} {E : List Nat} {i : Nat} (h : RotI w blk off m E i i wr) : ∃ P X Y S : List Nat, P.length = m - i ∧ X.length = i ∧ Y.length = i ∧ P.length + X.length + ([] : List Nat).length = m ∧ (P ++ X ++ [] ++ Y ++ S).length = E.length ∧ Lf w blk off (P ++ X ++ [] ++ Y ++ S) wr ∧ P ++ Y ++ [] ++ X ++ S = E := by
  obtain ⟨P, X, Y, S, h1, h2, h3, h4, h5, rfl, h6⟩ := h
  refine ⟨P, X, Y, S, by omega, h1, h2, by simpa using h3, ?_, by simpa using h6, by simp⟩
  simp only [List.length_append, List.length_nil]; omega
theorem RotI.le {w wr : World} {blk off m : Nat} {E : List Nat} {i j : Nat} (h : RotI w blk off m E i j wr) : i ≤ m ∧ m + j ≤ E.length := by
  obtain ⟨P, X, Y, S, h1, h2, h3, h4, h5, rfl, h6⟩ := h
  simp only [List.length_append]; omega
set_option maxHeartbeats 6400000 in
theorem rotStb (g : Value) (blk off cap a m b n : Nat) (d0 : Array Nat) (P A B S : List Nat) (w w1 : World) (hH : Holds ei w blk off d0) (hn : d0.size = n) (hl : (P ++ A ++ B ++ S).length = n) (hP : P.length = a) (hm : P.length + A.length = m) (hb : P.length + A.length + B.length = b)
    (hA : 0 < A.length) (hB : 0 < B.length) (hn80 : n ≤ 4096) (hL : Lf w blk off (P ++ A ++ B ++ S) w1) :
    Calls Tryd.prog 93 #[.slice (some ⟨blk, off, none⟩) n cap, .int .i64 a, .int .i64 m, .int .i64 b, g] w1 fun e w' =>
      e = .returned (.tuple #[]) ∧ Lf w blk off (P ++ B ++ A ++ S) w' := by
  obtain ⟨E, hE⟩ : ∃ E, E = P ++ B ++ A ++ S := ⟨_, rfl⟩
  have hEl : E.length = n := by rw [hE, ← hl]; simp only [List.length_append]; omega
  have h0 : RotI w blk off m E (m - a) (b - m) w1 := ⟨P, A, B, S, by omega, by omega, hm, by omega, by omega, hE.symm, hL⟩
  rw [← hE]
  have hma : a ≤ m := by omega
  have hmb : m ≤ b := by omega
  have hbn : b ≤ n := by rw [← hl]; simp only [List.length_append]; omega
  clear hE hL hl hP hm hb hA hB
  have i1 : (m : Int) - (a : Int) = ((m - a : Nat) : Int) := by omega
  have i2 : (b : Int) - (m : Int) = ((b - m : Nat) : Int) := by omega
  generalize m - a = i0 at h0 i1
  generalize b - m = j0 at h0 i2
  have k1 : (m : Int) - (a : Int) ≤ 4096 := by omega
  have k2 : (b : Int) - (m : Int) ≤ 4096 := by omega
  have k3 : 0 ≤ (m : Int) - (a : Int) := by omega
  have k4 : 0 ≤ (b : Int) - (m : Int) := by omega
  have h0'h := Lib.hid h0
  have hH'h := Lib.hid hH
  have hn'h := Lib.hid hn
  have hEl'h := Lib.hid hEl
  have i1'h := Lib.hid i1
  have i2'h := Lib.hid i2
  clear h0 hH hn hEl i1 i2
  go_enter Tryd.func93, Tryd.ntmps93
  go_wp2
  go_loopg [10, 11] (i0 + j0) (fun q v10 v11 wr => ∃ i j : Nat, i + j ≤ q ∧ v10 = .int .i64 (i : Int) ∧ v11 = .int .i64 (j : Int) ∧ RotI w blk off m E i j wr)
  case atStart => exact ⟨i0, j0, Nat.le_refl _, by rw [i1'h.out], by rw [i2'h.out], h0'h.out⟩
  case round =>
    obtain ⟨i, j, hq, rfl, rfl, hI⟩ := hrel
    have hle := hI.le
    have hEl := hEl'h.out
    have im : i ≤ m := hle.1
    have jn : m + j ≤ n := by omega
    clear hEl hle
    have pi : 0 < i := by obtain ⟨P, X, Y, S, h1, h2, h3, h4, h5, h6, h7⟩ := hI; exact h4
    have pj : 0 < j := by obtain ⟨P, X, Y, S, h1, h2, h3, h4, h5, h6, h7⟩ := hI; exact h5
    rcases Nat.lt_trichotomy i j with hij | hij | hij
    · obtain ⟨P, X, M, Y, S, h1, h2, h3, h4, h5, h6, h7⟩ := hI.less hij
      have C := swapStb g blk off cap (m - i) (m + j - i) i n d0 P X M Y S w wr hH'h.out hn'h.out (h5.trans hEl'h.out) h1 h2 h3 h4 hn80 h6
      rw [show ((m - i : Nat) : Int) = (m : Int) - (i : Int) by omega, show ((m + j - i : Nat) : Int) = (m : Int) + (j : Int) - (i : Int) by omega] at C
      have i3 : ((i : Int) != (j : Int)) = true := by simp; omega
      have i4 : ¬ (i : Int) > (j : Int) := by omega
      have e4 : (j : Int) - (i : Int) = ((j - i : Nat) : Int) := by omega
      have h7'h := Lib.hid h7
      have C'h := Lib.hid C
      have e4'h := Lib.hid e4
      have pi'h := Lib.hid pi
      have pj'h := Lib.hid pj
      have hq'h := Lib.hid hq
      clear h7 C e4 pi pj hq
      clear h1 h2 h3 h4 h5 h6 hI
      go_wp2_with fail
      refine C'h.out.mono ?_
      rintro e w2 ⟨rfl, hL2⟩
      have hI2 := h7'h.out w2 hL2
      have hI2'h := Lib.hid hI2
      clear hI2
      clear hL2
      go_wp2
      go_roundg (gk - 1)
      case measure => have := hq'h.out; have := pi'h.out; omega
      case rel => exact ⟨i, j - i, by have := hq'h.out; have := pi'h.out; omega, rfl, by rw [← e4'h.out], hI2'h.out⟩
    · subst hij
      obtain ⟨P, X, Y, S, h1, h2, h3, h4, h5, h6, h7⟩ := hI.same
      have C := swapStb g blk off cap (m - i) m i n d0 P X [] Y S w wr hH'h.out hn'h.out (h5.trans hEl'h.out) h1 h2 h3 h4 hn80 h6
      rw [show ((m - i : Nat) : Int) = (m : Int) - (i : Int) by omega, h7] at C
      have i3 : ((i : Int) != (i : Int)) = false := by simp
      have C'h := Lib.hid C
      have pi'h := Lib.hid pi
      have pj'h := Lib.hid pj
      have hq'h := Lib.hid hq
      clear C pi pj hq
      clear h1 h2 h3 h4 h5 h6 hI h7
      go_wp2_with fail
      refine C'h.out.mono ?_
      rintro e w2 ⟨rfl, hL2⟩
      have hL2'h := Lib.hid hL2
      clear hL2
      go_wp2
      go_end0
      exact ⟨rfl, hL2'h.out⟩
    · obtain ⟨P, X, M, Y, S, h1, h2, h3, h4, h5, h6, h7⟩ := hI.more hij
      have C := swapStb g blk off cap (m - i) m j n d0 P X M Y S w wr hH'h.out hn'h.out (h5.trans hEl'h.out) h1 h2 h3 h4 hn80 h6
      rw [show ((m - i : Nat) : Int) = (m : Int) - (i : Int) by omega] at C
      have i3 : ((i : Int) != (j : Int)) = true := by simp; omega
      have i4 : (i : Int) > (j : Int) := by omega
      have e4 : (i : Int) - (j : Int) = ((i - j : Nat) : Int) := by omega
      have h7'h := Lib.hid h7
      have C'h := Lib.hid C
      have e4'h := Lib.hid e4
      have pi'h := Lib.hid pi
      have pj'h := Lib.hid pj
      have hq'h := Lib.hid hq
      clear h7 C e4 pi pj hq
      clear h1 h2 h3 h4 h5 h6 hI
      go_wp2_with fail
      refine C'h.out.mono ?_
      rintro e w2 ⟨rfl, hL2⟩
      have hI2 := h7'h.out w2 hL2
      have hI2'h := Lib.hid hI2
      clear hI2
      clear hL2
      go_wp2
      go_roundg (gk - 1)
      case measure => have := hq'h.out; have := pi'h.out; omega
      case rel => exact ⟨i - j, j, by have := hq'h.out; have := pj'h.out; omega, by rw [← e4'h.out], rfl, hI2'h.out⟩
end Go.Proofs.YtogeohjeabbmaaaDoor

/-
  The library's stable sort at rows of int: one element merged into the row on its right, or on its left.
-/
set_option linter.unusedSimpArgs false
set_option linter.unusedVariables false
set_option maxRecDepth 100000
namespace Go.Proofs.YtogeohjeabbmaaaDoor
open Go.RowKit Go.Sort

/-- What merging promises. -/
def SymP (key : Nat → Int) (w : World) (blk off : Nat) (P A B S : List Nat) (e : Ending) (w' : World) : Prop :=
  e = .returned (.tuple #[]) ∧ ∃ C, Mrg key A B C ∧ Lf w blk off (P ++ C ++ S) w'
def nthN' (l : List Nat) (k : Nat) : Nat := l.getD k 0
theorem nthN'_eq {l : List Nat} {k : Nat} (h : k < l.length) : l[k] = nthN' l k := by unfold nthN'; rw [List.getD_eq_getElem?_getD, List.getElem?_eq_getElem h]; rfl
theorem at_mid {P B S : List Nat} {i k : Nat} (hk : k < B.length) (hi : i = P.length + k) : (P ++ B ++ S).toArray[i]! = nthN' B k := by
  rw [← nthN'_eq hk]
  subst hi
  have : (P ++ B ++ S)[P.length + k]? = some B[k] := by
    rw [List.append_assoc, List.getElem?_append_right (by omega), Nat.add_sub_cancel_left, List.getElem?_append_left hk, List.getElem?_eq_getElem hk]
  simp only [getElem!_def]
  rw [List.getElem?_toArray, this]
/-- What the scan holds: those on the left are less. -/
structure ScanL (key : Nat → Int) (B : List Nat) (k : Int) (m b i j : Nat) : Prop where
  mi : m ≤ i
  ij : i ≤ j
  jb : j ≤ b
  lo : m < i → key (nthN' B (i - 1 - m)) < k
  hi : j < b → ¬ key (nthN' B (j - m)) < k
theorem ScanL.end {key : Nat → Int} {B : List Nat} {k : Int} {m b i : Nat} (h : ScanL key B k m b i i) (hB : Srt key B) (hb : m + B.length = b) : (∀ y ∈ B.take (i - m), key y < k) ∧ (∀ y ∈ B.drop (i - m), ¬ key y < k) := by
  have h1 := h.mi
  have h2 := h.jb
  refine scan_left hB (by omega) (fun h0 => ⟨by omega, ?_⟩) (fun h0 => ⟨by omega, ?_⟩)
  · rw [nthN'_eq, show i - m - 1 = i - 1 - m by omega]; exact h.lo (by omega)
  · rw [nthN'_eq]; exact h.hi (by omega)
/-- The element on its way to the right. -/
def shiftR (P : List Nat) (x : Nat) (B S : List Nat) (k : Nat) : List Nat := P ++ B.take k ++ x :: (B.drop k ++ S)
theorem shiftR_zero (P : List Nat) (x : Nat) (B S : List Nat) : shiftR P x B S 0 = P ++ [x] ++ B ++ S := by unfold shiftR; simp
theorem shiftR_at {P : List Nat} {x : Nat} {B S : List Nat} {k : Nat} (hk : k < B.length) : shiftR P x B S k = (P ++ B.take k) ++ x :: ([] ++ nthN' B k :: (B.drop (k + 1) ++ S)) := by
  unfold shiftR; rw [List.drop_eq_getElem_cons hk, nthN'_eq]; rfl
theorem shiftR_next {P : List Nat} {x : Nat} {B S : List Nat} {k : Nat} (hk : k < B.length) : shiftR P x B S (k + 1) = (P ++ B.take k) ++ nthN' B k :: ([] ++ x :: (B.drop (k + 1) ++ S)) := by
  unfold shiftR; rw [List.take_succ_eq_append_getElem hk, nthN'_eq]; simp
theorem shiftR_length {P : List Nat} {x : Nat} {B S : List Nat} (k : Nat) : (shiftR P x B S k).length = P.length + B.length + S.length + 1 := by
  unfold shiftR; simp only [List.length_append, List.length_take, List.length_cons, List.length_drop]; omega
set_option maxHeartbeats 6400000 in
theorem symLeft (g0 : Array Value) (key : Nat → Int) (m0 : Nat) (blk off cap a m b n : Nat) (d0 : Array Nat) (P : List Nat) (x : Nat) (B S : List Nat) (w w1 : World) (hH : Holds ei w blk off d0) (hn : d0.size = n) (hl : (P ++ [x] ++ B ++ S).length = n) (hP : P.length = a) (hm : P.length + 1 = m) (hb : P.length + 1 + B.length = b)
    (hn80 : n ≤ 4096) (hC : CmpQ w blk off n 39 g0 key m0) (hx0 : x < m0) (hB0 : ∀ y ∈ B, y < m0) (hB : Srt key B) (ha : Ahd [x] B) (hL : Lf w blk off (P ++ [x] ++ B ++ S) w1) :
    Calls Tryd.prog 80 #[.slice (some ⟨blk, off, none⟩) n cap, .int .i64 a, .int .i64 m, .int .i64 b, .func (.func 39) #[] g0] w1 (SymP key w blk off P [x] B S) := by
  have hlD : P.length + 1 + B.length + S.length = n := by simp only [List.length_append, List.length_cons, List.length_nil] at hl; omega
  have hbn : b ≤ n := by omega
  have hmb : m ≤ b := by omega
  have ham : a + 1 = m := by omega
  have hmB : m + B.length = b := by omega
  have i0 : (m : Int) - (a : Int) = 1 := by omega
  have h0 : ScanL key B (key x) m b m b := ⟨Nat.le_refl _, hmb, Nat.le_refl _, by omega, by omega⟩
  have hL'h := Lib.hid hL
  have hH'h := Lib.hid hH
  have hn'h := Lib.hid hn
  have hl'h := Lib.hid hl
  have hP'h := Lib.hid hP
  have hm'h := Lib.hid hm
  have hb'h := Lib.hid hb
  have hC'h := Lib.hid hC
  have hx0'h := Lib.hid hx0
  have hB0'h := Lib.hid hB0
  have hB'h := Lib.hid hB
  have ha'h := Lib.hid ha
  have hlD'h := Lib.hid hlD
  have hmB'h := Lib.hid hmB
  have h0'h := Lib.hid h0
  clear hL hH hn hl hP hm hb hC hx0 hB0 hB ha hlD hmB h0
  go_enter Tryd.func80, Tryd.ntmps80
  go_wp2
  go_loopg [10, 11] (b - m) (fun q v10 v11 wr => ∃ i j : Nat, j - i ≤ q ∧ v10 = .int .i64 (i : Int) ∧ v11 = .int .i64 (j : Int) ∧ ScanL key B (key x) m b i j ∧ Lf w blk off (P ++ [x] ++ B ++ S) wr)
  case atStart => exact ⟨m, b, Nat.le_refl _, rfl, rfl, h0'h.out, hL'h.out⟩
  case round =>
    obtain ⟨i, j, hq, rfl, rfl, hS, hLf⟩ := hrel
    have hmi := hS.mi
    have hjb := hS.jb
    have hij := hS.ij
    by_cases hlt : i < j
    · obtain ⟨h, hh⟩ : ∃ h, h = (i + j) / 2 := ⟨_, rfl⟩
      have hih : i ≤ h := by omega
      have hhj : h < j := by omega
      have eh : ((i : Int) + (j : Int)) / 2 = (h : Int) := by omega
      have i1 : (i : Int) < (j : Int) := by omega
      obtain ⟨G, hG⟩ : ∃ G : Nat → Nat, ∀ t, G t = (P ++ [x] ++ B ++ S).toArray[t]! := ⟨fun t => (P ++ [x] ++ B ++ S).toArray[t]!, fun _ => rfl⟩
      have hc := hLf.cell hH'h.out (hl'h.out.trans hn'h.out.symm) hG
      rw [hn'h.out] at hc
      have hhB : h - m < B.length := by have := hmB'h.out; omega
      have e1 : G h = nthN' B (h - m) := (hG h).trans (at_mid (P := P ++ [x]) hhB (by have := hm'h.out; simp; omega))
      have e2 : G a = x := by
        rw [hG a, show P ++ [x] ++ B ++ S = P ++ x :: (B ++ S) by simp]
        exact at_seg _ _ _ hP'h.out.symm
      have c1 := hc h (by omega)
      have c2 := hc a (by omega)
      rw [e1] at c1
      rw [e2] at c2
      have hym : nthN' B (h - m) < m0 := hB0'h.out _ (by rw [← nthN'_eq hhB]; exact List.getElem_mem _)
      have CQ := hC'h.out _ _ hl'h.out hLf (nthN' B (h - m)) x hym hx0'h.out
      have hlo : key (nthN' B (h - m)) < key x → ScanL key B (key x) m b (h + 1) j := fun hk => ⟨by omega, by omega, by omega, fun _ => by rw [Nat.add_sub_cancel]; exact hk, hS.hi⟩
      have hhi : ¬ key (nthN' B (h - m)) < key x → ScanL key B (key x) m b i h := fun hk => ⟨by omega, by omega, by omega, hS.lo, fun _ => hk⟩
      generalize nthN' B (h - m) = y at c1 CQ hlo hhi
      have i2 : (h : Int) < (n : Int) := by omega
      have i3 : (a : Int) < (n : Int) := by omega
      have i4 : (0 : Int) ≤ (h : Int) := by omega
      have i5 : (0 : Int) ≤ (a : Int) := by omega
      clear hG hc e1 e2 hhB hym hh
      have hLf'h := Lib.hid hLf
      have CQ'h := Lib.hid CQ
      have hlo'h := Lib.hid hlo
      have hhi'h := Lib.hid hhi
      have hS'h := Lib.hid hS
      have hq'h := Lib.hid hq
      clear hLf CQ hlo hhi hS hq
      by_cases hyx : key y < key x
      · have i7 : key y - key x < 0 := by omega
        go_wp2_with fail
        go_big_quiet (first | (go_at_call 39; exact CQ'h.out _))
        go_wp2
        go_roundg (gk - 1)
        case measure => have := hq'h.out; omega
        case rel => exact ⟨h + 1, j, by have := hq'h.out; omega, by go_num, rfl, hlo'h.out hyx, hLf'h.out.on nq⟩
      · have i7 : ¬ key y - key x < 0 := by omega
        go_wp2_with fail
        go_big_quiet (first | (go_at_call 39; exact CQ'h.out _))
        go_wp2
        go_roundg (gk - 1)
        case measure => have := hq'h.out; omega
        case rel => exact ⟨i, h, by have := hq'h.out; omega, rfl, rfl, hhi'h.out (by omega), hLf'h.out.on nq⟩
    · obtain rfl : i = j := by omega
      have i1 : ¬ (i : Int) < (i : Int) := by omega
      have hp := hS.end hB'h.out hmB'h.out
      have hsh : Lf w blk off (shiftR P x B S 0) wr := by rw [shiftR_zero]; exact hLf
      have i6 : (0 : Int) ≤ (i : Int) - 1 := by omega
      have hp'h := Lib.hid hp
      have hsh'h := Lib.hid hsh
      clear hp hsh
      clear hLf hS hq
      go_wp2
      go_loopg [13] (i - m) (fun q v13 wr => ∃ k : Nat, k + q = i - m ∧ v13 = .int .i64 (((a + k : Nat)) : Int) ∧ Lf w blk off (shiftR P x B S k) wr)
      case atStart => exact ⟨0, by omega, rfl, hsh'h.out⟩
      case round =>
        obtain ⟨k, hk, rfl, hLf⟩ := hrel
        by_cases hlt2 : k < i - m
        · have hkB : k < B.length := by have := hmB'h.out; omega
          have hlen : (shiftR P x B S k).length = n := by rw [shiftR_length]; have := hlD'h.out; omega
          obtain ⟨G, hG⟩ : ∃ G : Nat → Nat, ∀ t, G t = (shiftR P x B S k).toArray[t]! := ⟨fun t => (shiftR P x B S k).toArray[t]!, fun _ => rfl⟩
          have hc := hLf.cell hH'h.out (hlen.trans hn'h.out.symm) hG
          have hf := hLf.free hH'h.out (hlen.trans hn'h.out.symm)
          rw [hn'h.out] at hc hf
          have e1 : (shiftR P x B S k).toArray[a + k]! = x := by rw [shiftR_at hkB]; exact at_seg _ _ _ (by simp; have := hP'h.out; omega)
          have e2 : (shiftR P x B S k).toArray[a + k + 1]! = nthN' B k := by
            rw [shiftR_at hkB]
            have := at_seg ((P ++ B.take k) ++ [x]) (B.drop (k + 1) ++ S) (nthN' B k) (i := a + k + 1) (by simp; have := hP'h.out; omega)
            simpa only [List.append_assoc, List.cons_append, List.nil_append] using this
          have sw : swp (shiftR P x B S k).toArray (a + k) (a + k + 1) = (shiftR P x B S (k + 1)).toArray := by
            rw [shiftR_at hkB, shiftR_next hkB]
            exact swp_seg _ _ _ _ _ (by simp; have := hP'h.out; omega) (by simp; have := hP'h.out; omega)
          have c1 := hc (a + k) (by omega)
          have c2 := hc (a + k + 1) (by omega)
          have f1 := hf (a + k) (by omega)
          have f2 := hf (a + k + 1) (by omega)
          rw [hG, e1] at c1
          rw [hG, e2] at c2
          generalize nthN' B k = y at c2 e2
          obtain ⟨z, hz⟩ : ∃ z, z = a + k := ⟨_, rfl⟩
          rw [← hz] at c1 c2 f1 f2 e1 e2 sw
          rw [← hz]
          have i7 : (z : Int) < (i : Int) - 1 := by omega
          have i8 : (z : Int) + 1 < (n : Int) := by omega
          have i9 : (z : Int) < (n : Int) := by omega
          have ia : (0 : Int) ≤ (z : Int) := by omega
          have ib : (0 : Int) ≤ (z : Int) + 1 := by omega
          have hzn : z + 1 < n := by omega
          clear hG hc hf hkB
          have hLf'h := Lib.hid hLf
          have sw'h := Lib.hid sw
          have e1'h := Lib.hid e1
          have e2'h := Lib.hid e2
          have hlen'h := Lib.hid hlen
          have hk'h := Lib.hid hk
          have hz'h := Lib.hid hz
          have hzn'h := Lib.hid hzn
          clear hLf sw e1 e2 hlen hk hz hzn
          go_wp2_with fail
          go_region
          all_goals go_wp2
          go_roundg (gk - 1)
          case measure => have := hk'h.out; omega
          case rel =>
            refine ⟨k + 1, by have := hk'h.out; omega, by have := hz'h.out; congr 1; omega, ?_⟩
            have hh := hlen'h.out
            have hz := hzn'h.out
            exact hLf'h.out.swapd z (z + 1) (by omega) (by omega) sw'h.out (by rw [e2'h.out]) (by rw [e1'h.out])
        · have hk2 : k = i - m := by omega
          have i7 : ¬ (((a + k : Nat)) : Int) < (i : Int) - 1 := by omega
          have hfin : SymP key w blk off P [x] B S (.returned (.tuple #[])) wr := by
            refine ⟨rfl, B.take k ++ x :: B.drop k, ?_, ?_⟩
            · rw [hk2]
              have := Mrg.one_left (B1 := B.take (i - m)) (B2 := B.drop (i - m)) (x := x) (key := key) (by rw [List.take_append_drop]; exact hB'h.out) (by rw [List.take_append_drop]; exact ha'h.out) hp'h.out.1 (fun y hy => by have := hp'h.out.2 y hy; omega)
              rwa [List.take_append_drop] at this
            · have := hLf; unfold shiftR at this; simpa only [List.append_assoc, List.cons_append] using this
          clear hLf hk2 hk
          have hfin'h := Lib.hid hfin
          clear hfin
          go_wp2
          refine bodyPost_ret (results_none rfl _ _ _) rfl ?_
          exact hfin'h.out
end Go.Proofs.YtogeohjeabbmaaaDoor

/-
  The library's stable sort at rows of int: one element merged into the row on its left.
-/
set_option linter.unusedSimpArgs false
set_option linter.unusedVariables false
set_option maxRecDepth 100000
namespace Go.Proofs.YtogeohjeabbmaaaDoor
open Go.RowKit Go.Sort

/-- What the scan holds: those on the right are more. -/
structure ScanR (key : Nat → Int) (A : List Nat) (k : Int) (a m i j : Nat) : Prop where
  ai : a ≤ i
  ij : i ≤ j
  jm : j ≤ m
  lo : a < i → ¬ k < key (nthN' A (i - 1 - a))
  hi : j < m → k < key (nthN' A (j - a))
theorem ScanR.end {key : Nat → Int} {A : List Nat} {k : Int} {a m i : Nat} (h : ScanR key A k a m i i) (hA : Srt key A) (hm : a + A.length = m) : (∀ x ∈ A.take (i - a), ¬ k < key x) ∧ (∀ x ∈ A.drop (i - a), k < key x) := by
  have h1 := h.ai
  have h2 := h.jm
  refine scan_right hA (by omega) (fun h0 => ⟨by omega, ?_⟩) (fun h0 => ⟨by omega, ?_⟩)
  · rw [nthN'_eq, show i - a - 1 = i - 1 - a by omega]; exact h.lo (by omega)
  · rw [nthN'_eq]; exact h.hi (by omega)
theorem shiftR_all (P : List Nat) (x : Nat) (B S : List Nat) : shiftR P x B S B.length = P ++ B ++ [x] ++ S := by unfold shiftR; simp
set_option maxHeartbeats 6400000 in
theorem symRight (g0 : Array Value) (key : Nat → Int) (m0 : Nat) (blk off cap a m b n : Nat) (d0 : Array Nat) (P : List Nat) (y : Nat) (A S : List Nat) (w w1 : World) (hH : Holds ei w blk off d0) (hn : d0.size = n) (hl : (P ++ A ++ [y] ++ S).length = n) (hP : P.length = a) (hm : P.length + A.length = m) (hb : P.length + A.length + 1 = b)
    (hA1 : 1 < A.length) (hn80 : n ≤ 4096) (hC : CmpQ w blk off n 39 g0 key m0) (hy0 : y < m0) (hA0 : ∀ x ∈ A, x < m0) (hA : Srt key A) (ha : Ahd A [y]) (hL : Lf w blk off (P ++ A ++ [y] ++ S) w1) :
    Calls Tryd.prog 80 #[.slice (some ⟨blk, off, none⟩) n cap, .int .i64 a, .int .i64 m, .int .i64 b, .func (.func 39) #[] g0] w1 (SymP key w blk off P A [y] S) := by
  have hlD : P.length + A.length + 1 + S.length = n := by simp only [List.length_append, List.length_cons, List.length_nil] at hl; omega
  have hbn : b ≤ n := by omega
  have hmb : m + 1 = b := by omega
  have ham : a + 1 < m := by omega
  have hmA : a + A.length = m := by omega
  have i0 : ((m : Int) - (a : Int) == 1) = false := by simp; omega
  have i00 : (b : Int) - (m : Int) = 1 := by omega
  have h0 : ScanR key A (key y) a m a m := ⟨Nat.le_refl _, by omega, Nat.le_refl _, by omega, by omega⟩
  have hL'h := Lib.hid hL
  have hH'h := Lib.hid hH
  have hn'h := Lib.hid hn
  have hl'h := Lib.hid hl
  have hP'h := Lib.hid hP
  have hm'h := Lib.hid hm
  have hb'h := Lib.hid hb
  have hC'h := Lib.hid hC
  have hy0'h := Lib.hid hy0
  have hA0'h := Lib.hid hA0
  have hA'h := Lib.hid hA
  have ha'h := Lib.hid ha
  have hlD'h := Lib.hid hlD
  have hmA'h := Lib.hid hmA
  have h0'h := Lib.hid h0
  have hA1'h := Lib.hid hA1
  clear hL hH hn hl hP hm hb hC hy0 hA0 hA ha hlD hmA h0 hA1
  go_enter Tryd.func80, Tryd.ntmps80
  go_wp2
  go_loopg [14, 15] (m - a) (fun q v10 v11 wr => ∃ i j : Nat, j - i ≤ q ∧ v10 = .int .i64 (i : Int) ∧ v11 = .int .i64 (j : Int) ∧ ScanR key A (key y) a m i j ∧ Lf w blk off (P ++ A ++ [y] ++ S) wr)
  case atStart => exact ⟨a, m, Nat.le_refl _, rfl, rfl, h0'h.out, hL'h.out⟩
  case round =>
    obtain ⟨i, j, hq, rfl, rfl, hS, hLf⟩ := hrel
    have hai := hS.ai
    have hjm := hS.jm
    have hij := hS.ij
    by_cases hlt : i < j
    · obtain ⟨h, hh⟩ : ∃ h, h = (i + j) / 2 := ⟨_, rfl⟩
      have hih : i ≤ h := by omega
      have hhj : h < j := by omega
      have eh : ((i : Int) + (j : Int)) / 2 = (h : Int) := by omega
      have i1 : (i : Int) < (j : Int) := by omega
      obtain ⟨G, hG⟩ : ∃ G : Nat → Nat, ∀ t, G t = (P ++ A ++ [y] ++ S).toArray[t]! := ⟨fun t => (P ++ A ++ [y] ++ S).toArray[t]!, fun _ => rfl⟩
      have hc := hLf.cell hH'h.out (hl'h.out.trans hn'h.out.symm) hG
      rw [hn'h.out] at hc
      have hhA : h - a < A.length := by have := hmA'h.out; omega
      have e1 : G h = nthN' A (h - a) := by
        rw [hG h, List.append_assoc (P ++ A)]
        exact at_mid hhA (by have := hP'h.out; omega)
      have e2 : G m = y := by
        rw [hG m, show P ++ A ++ [y] ++ S = (P ++ A) ++ y :: S by simp]
        exact at_seg _ _ _ (by have := hm'h.out; simp; omega)
      have c1 := hc h (by omega)
      have c2 := hc m (by omega)
      rw [e1] at c1
      rw [e2] at c2
      have hym : nthN' A (h - a) < m0 := hA0'h.out _ (by rw [← nthN'_eq hhA]; exact List.getElem_mem _)
      have CQ := hC'h.out _ _ hl'h.out hLf y (nthN' A (h - a)) hy0'h.out hym
      have hlo : ¬ key y < key (nthN' A (h - a)) → ScanR key A (key y) a m (h + 1) j := fun hk => ⟨by omega, by omega, by omega, fun _ => by rw [Nat.add_sub_cancel]; exact hk, hS.hi⟩
      have hhi : key y < key (nthN' A (h - a)) → ScanR key A (key y) a m i h := fun hk => ⟨by omega, by omega, by omega, hS.lo, fun _ => hk⟩
      generalize nthN' A (h - a) = x at c1 CQ hlo hhi
      have i2 : (h : Int) < (n : Int) := by omega
      have i3 : (m : Int) < (n : Int) := by omega
      have i4 : (0 : Int) ≤ (h : Int) := by omega
      have i5 : (0 : Int) ≤ (m : Int) := by omega
      clear hG hc e1 e2 hhA hym hh
      have hLf'h := Lib.hid hLf
      have CQ'h := Lib.hid CQ
      have hlo'h := Lib.hid hlo
      have hhi'h := Lib.hid hhi
      have hS'h := Lib.hid hS
      have hq'h := Lib.hid hq
      clear hLf CQ hlo hhi hS hq
      by_cases hyx : key y < key x
      · have i7 : key y - key x < 0 := by omega
        go_wp2_with fail
        go_big_quiet (first | (go_at_call 39; exact CQ'h.out _))
        go_wp2
        go_roundg (gk - 1)
        case measure => have := hq'h.out; omega
        case rel => exact ⟨i, h, by have := hq'h.out; omega, rfl, rfl, hhi'h.out hyx, hLf'h.out.on nq⟩
      · have i7 : ¬ key y - key x < 0 := by omega
        have i8 : decide (key y - key x < 0) = false := decide_eq_false i7
        go_wp2_with fail
        go_big_quiet (first | (go_at_call 39; exact CQ'h.out _))
        go_wp2
        go_roundg (gk - 1)
        case measure => have := hq'h.out; omega
        case rel => exact ⟨h + 1, j, by have := hq'h.out; omega, by go_num, rfl, hlo'h.out (by omega), hLf'h.out.on nq⟩
    · obtain rfl : i = j := by omega
      have i1 : ¬ (i : Int) < (i : Int) := by omega
      have hp := hS.end hA'h.out hmA'h.out
      have hsh : Lf w blk off (shiftR P y A S A.length) wr := by rw [shiftR_all]; exact hLf
      have hp'h := Lib.hid hp
      have hsh'h := Lib.hid hsh
      clear hp hsh
      clear hLf hS hq
      go_wp2
      go_loopg [17] (m - i) (fun q v13 wr => ∃ k : Nat, k + a = i + q ∧ k ≤ A.length ∧ v13 = .int .i64 (((a + k : Nat)) : Int) ∧ Lf w blk off (shiftR P y A S k) wr)
      case atStart => exact ⟨A.length, by have := hmA'h.out; omega, Nat.le_refl _, by rw [hmA'h.out], hsh'h.out⟩
      case round =>
        obtain ⟨k, hk, hkA, rfl, hLf⟩ := hrel
        by_cases hlt2 : i - a < k
        · obtain ⟨k, rfl⟩ : ∃ k', k = k' + 1 := ⟨k - 1, by omega⟩
          have hkB : k < A.length := by omega
          have hlen : (shiftR P y A S (k + 1)).length = n := by rw [shiftR_length]; have := hlD'h.out; omega
          obtain ⟨G, hG⟩ : ∃ G : Nat → Nat, ∀ t, G t = (shiftR P y A S (k + 1)).toArray[t]! := ⟨fun t => (shiftR P y A S (k + 1)).toArray[t]!, fun _ => rfl⟩
          have hc := hLf.cell hH'h.out (hlen.trans hn'h.out.symm) hG
          have hf := hLf.free hH'h.out (hlen.trans hn'h.out.symm)
          rw [hn'h.out] at hc hf
          have e1 : (shiftR P y A S (k + 1)).toArray[a + k]! = nthN' A k := by rw [shiftR_next hkB]; exact at_seg _ _ _ (by simp; have := hP'h.out; omega)
          have e2 : (shiftR P y A S (k + 1)).toArray[a + k + 1]! = y := by
            rw [shiftR_next hkB]
            have := at_seg ((P ++ A.take k) ++ [nthN' A k]) (A.drop (k + 1) ++ S) y (i := a + k + 1) (by simp; have := hP'h.out; omega)
            simpa only [List.append_assoc, List.cons_append, List.nil_append] using this
          have sw : swp (shiftR P y A S (k + 1)).toArray (a + k + 1) (a + k) = (shiftR P y A S k).toArray := by
            rw [swp_comm, shiftR_at hkB, shiftR_next hkB]
            exact swp_seg _ _ _ _ _ (by simp; have := hP'h.out; omega) (by simp; have := hP'h.out; omega)
          have hmA := hmA'h.out
          have c1 := hc (a + k) (by omega)
          have c2 := hc (a + k + 1) (by omega)
          have f1 := hf (a + k) (by omega)
          have f2 := hf (a + k + 1) (by omega)
          rw [hG, e1] at c1
          rw [hG, e2] at c2
          generalize nthN' A k = x at c1 e1
          obtain ⟨z, hz⟩ : ∃ z, z = a + k := ⟨_, rfl⟩
          rw [← hz] at c1 c2 f1 f2 e1 e2 sw
          rw [show a + (k + 1) = z + 1 by omega]
          have i7 : (i : Int) < (z : Int) + 1 := by omega
          have i8 : (z : Int) + 1 < (n : Int) := by omega
          have i9 : (z : Int) < (n : Int) := by omega
          have ia : (0 : Int) ≤ (z : Int) := by omega
          have ib : (0 : Int) ≤ (z : Int) + 1 := by omega
          have hzn : z + 1 < n := by omega
          clear hG hc hf hkB hmA
          have hLf'h := Lib.hid hLf
          have sw'h := Lib.hid sw
          have e1'h := Lib.hid e1
          have e2'h := Lib.hid e2
          have hlen'h := Lib.hid hlen
          have hk'h := Lib.hid hk
          have hz'h := Lib.hid hz
          have hzn'h := Lib.hid hzn
          have hkA'h := Lib.hid hkA
          clear hLf sw e1 e2 hlen hk hz hzn hkA
          go_wp2_with fail
          go_region
          all_goals go_wp2
          go_roundg (gk - 1)
          case measure => have := hk'h.out; omega
          case rel =>
            refine ⟨k, by have := hk'h.out; omega, by have := hkA'h.out; omega, by rw [hz'h.out], ?_⟩
            have hh := hlen'h.out
            have hz := hzn'h.out
            exact hLf'h.out.swapd (z + 1) z (by omega) (by omega) sw'h.out (by rw [e1'h.out]) (by rw [e2'h.out])
        · have hk2 : k = i - a := by omega
          have i7 : ¬ (i : Int) < (((a + k : Nat)) : Int) := by omega
          have hfin : SymP key w blk off P A [y] S (.returned (.tuple #[])) wr := by
            refine ⟨rfl, A.take k ++ y :: A.drop k, ?_, ?_⟩
            · rw [hk2]
              have := Mrg.one_right (A1 := A.take (i - a)) (A2 := A.drop (i - a)) (y := y) (key := key) (by rw [List.take_append_drop]; exact hA'h.out) (by rw [List.take_append_drop]; exact ha'h.out) (fun x hx => by have := hp'h.out.1 x hx; omega) hp'h.out.2
              rwa [List.take_append_drop] at this
            · have := hLf; unfold shiftR at this; simpa only [List.append_assoc, List.cons_append] using this
          clear hLf hk2 hk
          have hfin'h := Lib.hid hfin
          clear hfin
          go_wp2
          refine bodyPost_ret (results_none rfl _ _ _) rfl ?_
          exact hfin'h.out
end Go.Proofs.YtogeohjeabbmaaaDoor

