/-
  The library's stable sort at rows of int: its blocks, plain.
-/
import Derived.Test.YtogeohjeabbmaaaDoorY2
set_option linter.unusedSimpArgs false
set_option linter.unusedVariables false
namespace Go.Proofs.YtogeohjeabbmaaaDoor

/-- A segment of a row. -/
def sg (l : List Nat) (lo hi : Nat) : List Nat := (l.drop lo).take (hi - lo)
theorem sg_parts (l : List Nat) {lo hi : Nat} (h : lo ≤ hi) : l = l.take lo ++ sg l lo hi ++ l.drop hi := by
  unfold sg
  have : l.drop hi = (l.drop lo).drop (hi - lo) := by rw [List.drop_drop]; congr 1; omega
  rw [this, List.append_assoc, List.take_append_drop, List.take_append_drop]
theorem sg_length {l : List Nat} {lo hi : Nat} (h2 : hi ≤ l.length) : (sg l lo hi).length = hi - lo := by
  unfold sg; rw [List.length_take, List.length_drop]; omega
theorem sg_mid {P C S : List Nat} {lo hi : Nat} (h1 : P.length = lo) (h2 : P.length + C.length = hi) : sg (P ++ C ++ S) lo hi = C := by
  subst h1 h2
  unfold sg
  rw [List.append_assoc, List.drop_left, Nat.add_sub_cancel_left, List.take_left]
theorem sg_keep {P X Y S : List Nat} {lo hi : Nat} (h : X.length = Y.length) (hk : hi ≤ P.length ∨ P.length + X.length ≤ lo) : sg (P ++ X ++ S) lo hi = sg (P ++ Y ++ S) lo hi := by
  apply List.ext_getElem?
  intro i
  unfold sg
  rw [List.getElem?_take, List.getElem?_take]
  by_cases hi' : i < hi - lo
  · rw [if_pos hi', if_pos hi', List.getElem?_drop, List.getElem?_drop, List.append_assoc, List.append_assoc]
    rcases hk with hk | hk
    · rw [List.getElem?_append_left (by omega), List.getElem?_append_left (by omega)]
    · rw [List.getElem?_append_right (by omega), List.getElem?_append_right (l₁ := P) (l₂ := Y ++ S) (by omega), List.getElem?_append_right (by omega), List.getElem?_append_right (l₁ := Y) (by omega), h]
  · rw [if_neg hi', if_neg hi']
theorem sg_split (l : List Nat) {lo mi hi : Nat} (h1 : lo ≤ mi) (h2 : mi ≤ hi) : sg l lo hi = sg l lo mi ++ sg l mi hi := by
  unfold sg
  have e : hi - lo = (mi - lo) + (hi - mi) := by omega
  rw [e, List.take_add, List.drop_drop, show lo + (mi - lo) = mi by omega]
theorem sg_mem {l : List Nat} {lo hi x : Nat} (h : x ∈ sg l lo hi) : x ∈ l := List.mem_of_mem_drop (List.mem_of_mem_take h)
theorem sg_rise {l : List Nat} (h : l.Pairwise (· < ·)) (lo hi : Nat) : (sg l lo hi).Pairwise (· < ·) := List.Pairwise.take (List.Pairwise.drop h)
theorem sg_ahd {l : List Nat} (h : l.Pairwise (· < ·)) {lo mi hi : Nat} (h1 : lo ≤ mi) (h2 : mi ≤ hi) : Ahd (sg l lo mi) (sg l mi hi) := by
  have := sg_rise h lo hi
  rw [sg_split l h1 h2] at this
  exact fun x hx y hy => (List.pairwise_append.1 this).2.2 x hx y hy
/-- A segment that is sorted. -/
structure Seg (key : Nat → Int) (l0 l : List Nat) (lo hi : Nat) : Prop where
  perm : (sg l lo hi).Perm (sg l0 lo hi)
  srt : Srt key (sg l lo hi)
theorem Seg.put {key : Nat → Int} {l0 P X C S : List Nat} {a b : Nat} (hP : P.length = a) (hb : P.length + X.length = b) (hl : C.length = X.length) (hp : C.Perm (sg l0 a b)) (hs : Srt key C) : Seg key l0 (P ++ C ++ S) a b :=
  ⟨by rw [sg_mid hP (by omega)]; exact hp, by rw [sg_mid hP (by omega)]; exact hs⟩
theorem Seg.keep {key : Nat → Int} {l0 P X C S : List Nat} {lo hi : Nat} (h : Seg key l0 (P ++ X ++ S) lo hi) (hl : C.length = X.length) (hk : hi ≤ P.length ∨ P.length + X.length ≤ lo) : Seg key l0 (P ++ C ++ S) lo hi := by
  have e := sg_keep (S := S) hl.symm hk
  exact ⟨by rw [← e]; exact h.perm, by rw [← e]; exact h.srt⟩
/-- The first loop: blocks of twenty are sorted up to a; what is behind is as it was. -/
structure SegA (key : Nat → Int) (l0 : List Nat) (a : Nat) (l : List Nat) : Prop where
  len : l.length = l0.length
  le : a ≤ l0.length
  div : 20 ∣ a
  rest : l.drop a = l0.drop a
  seg : ∀ lo, 20 ∣ lo → lo < a → Seg key l0 l lo (lo + 20)
theorem SegA.parts {key : Nat → Int} {l0 l : List Nat} {a b : Nat} (h : SegA key l0 a l) (hab : a ≤ b) (hb : b ≤ l0.length) : l = l.take a ++ sg l0 a b ++ l0.drop b ∧ (l.take a).length = a ∧ (sg l0 a b).length = b - a := by
  have hl := h.len
  refine ⟨?_, by rw [List.length_take]; omega, sg_length hb⟩
  conv => lhs; rw [← List.take_append_drop a l, h.rest]
  rw [List.append_assoc]
  congr 1
  unfold sg
  have : l0.drop b = (l0.drop a).drop (b - a) := by rw [List.drop_drop]; congr 1; omega
  rw [this, List.take_append_drop]
theorem SegA.next {key : Nat → Int} {l0 l C : List Nat} {a b : Nat} (h : SegA key l0 a l) (hab : b = a + 20) (hb : b ≤ l0.length) (hp : C.Perm (sg l0 a b)) (hs : Srt key C) : SegA key l0 b (l.take a ++ C ++ l0.drop b) := by
  obtain ⟨p1, p2, p3⟩ := h.parts (b := b) (by omega) hb
  have hc := hp.length_eq
  have hd := h.div
  refine ⟨?_, hb, by omega, ?_, fun lo hlo hlt => ?_⟩
  · simp only [List.length_append, List.length_drop]; omega
  · rw [List.drop_append, List.drop_of_length_le (by simp only [List.length_append]; omega), List.nil_append]
    rw [List.length_append, p2, hc, p3, show b - (a + (b - a)) = 0 by omega, List.drop_zero]
  · by_cases e : lo = a
    · subst e
      have := Seg.put (S := l0.drop b) (X := sg l0 lo b) p2 (by rw [p3]; omega) hc hp hs
      rwa [hab] at this ⊢
    · have k := h.seg lo hlo (by omega)
      rw [p1] at k
      exact k.keep hc (.inl (by omega))
/-- All segments of a size are sorted. -/
structure SegE (key : Nat → Int) (l0 : List Nat) (bs : Nat) (l : List Nat) : Prop where
  len : l.length = l0.length
  seg : ∀ lo, bs ∣ lo → lo < l0.length → Seg key l0 l lo (min (lo + bs) l0.length)
theorem SegA.all {key : Nat → Int} {l0 l C : List Nat} {a : Nat} (h : SegA key l0 a l) (ha : l0.length < a + 20) (hp : C.Perm (sg l0 a l0.length)) (hs : Srt key C) : SegE key l0 20 (l.take a ++ C ++ l0.drop l0.length) := by
  have hle := h.le
  obtain ⟨p1, p2, p3⟩ := h.parts (b := l0.length) hle (Nat.le_refl _)
  have hc := hp.length_eq
  have hd := h.div
  refine ⟨?_, fun lo hlo hlt => ?_⟩
  · simp only [List.length_append, List.length_drop]; omega
  · by_cases e : lo = a
    · subst e
      have := Seg.put (S := l0.drop l0.length) (X := sg l0 lo l0.length) p2 (by rw [p3]; omega) hc hp hs
      rwa [Nat.min_eq_right (by omega)]
    · rw [Nat.min_eq_left (by omega)]
      have k := h.seg lo hlo (by omega)
      rw [p1] at k
      exact k.keep hc (.inl (by omega))
/-- The second loop's inner one: segments of twice the size up to a, of the size behind. -/
structure SegI (key : Nat → Int) (l0 : List Nat) (bs a : Nat) (l : List Nat) : Prop where
  len : l.length = l0.length
  le : a ≤ l0.length
  div : 2 * bs ∣ a
  lo : ∀ lo, 2 * bs ∣ lo → lo < a → Seg key l0 l lo (lo + 2 * bs)
  hi : ∀ lo, bs ∣ lo → a ≤ lo → lo < l0.length → Seg key l0 l lo (min (lo + bs) l0.length)
theorem SegE.start {key : Nat → Int} {l0 l : List Nat} {bs : Nat} (h : SegE key l0 bs l) : SegI key l0 bs 0 l := ⟨h.len, Nat.zero_le _, Nat.dvd_zero _, fun lo _ h0 => by omega, fun lo hd _ hl => h.seg lo hd hl⟩
theorem SegI.parts {key : Nat → Int} {l0 l : List Nat} {bs a b : Nat} (h : SegI key l0 bs a l) (hbs : bs = 20 ∨ bs = 40) (h0 : l0.Pairwise (· < ·)) (hm : a + bs < b) (hb : b = min (a + 2 * bs) l0.length) :
    ∃ P A B S, l = P ++ A ++ B ++ S ∧ P.length = a ∧ P.length + A.length = a + bs ∧ P.length + A.length + B.length = b ∧ Srt key A ∧ Srt key B ∧ Ahd A B ∧ (∀ x ∈ A, x ∈ l0) ∧ (∀ x ∈ B, x ∈ l0) ∧
      ∀ C, Mrg key A B C → C.length = A.length + B.length ∧ (P ++ C ++ S).length = l0.length ∧ Seg key l0 (P ++ C ++ S) a b ∧ ∀ lo hi, hi ≤ a ∨ b ≤ lo → Seg key l0 l lo hi → Seg key l0 (P ++ C ++ S) lo hi := by
  have hl := h.len
  have hd := h.div
  have sA : Seg key l0 l a (a + bs) := by
    have := h.hi a (by rcases hbs with rfl | rfl <;> omega) (Nat.le_refl _) (by omega)
    rwa [Nat.min_eq_left (by omega)] at this
  have sB : Seg key l0 l (a + bs) b := by
    have := h.hi (a + bs) (by rcases hbs with rfl | rfl <;> omega) (by omega) (by omega)
    rwa [show min (a + bs + bs) l0.length = b by omega] at this
  have e := sg_parts l (lo := a) (hi := b) (by omega)
  rw [sg_split l (lo := a) (mi := a + bs) (hi := b) (by omega) (by omega)] at e
  have l1 : (l.take a).length = a := by rw [List.length_take]; omega
  have l2 := sg_length (l := l) (lo := a) (hi := a + bs) (by omega)
  have l3 := sg_length (l := l) (lo := a + bs) (hi := b) (by omega)
  refine ⟨l.take a, sg l a (a + bs), sg l (a + bs) b, l.drop b, by rw [List.append_assoc (l.take a)]; exact e, l1, by omega, by omega, sA.srt, sB.srt, ?_, ?_, ?_, fun C hC => ?_⟩
  · exact fun x hx y hy => sg_ahd h0 (by omega) (by omega) x (sA.perm.mem_iff.1 hx) y (sB.perm.mem_iff.1 hy)
  · exact fun x hx => sg_mem (sA.perm.mem_iff.1 hx)
  · exact fun x hx => sg_mem (sB.perm.mem_iff.1 hx)
  · have hc := hC.perm.length_eq
    rw [List.length_append] at hc
    have hperm : C.Perm (sg l0 a b) := by
      rw [sg_split l0 (lo := a) (mi := a + bs) (hi := b) (by omega) (by omega)]
      exact hC.perm.trans (sA.perm.append sB.perm)
    have hlC : C.length = (sg l a (a + bs) ++ sg l (a + bs) b).length := by rw [List.length_append]; exact hc
    refine ⟨hc, by simp only [List.length_append, List.length_drop]; omega, Seg.put (X := sg l a (a + bs) ++ sg l (a + bs) b) l1 (by rw [List.length_append]; omega) hlC hperm hC.srt, fun lo hi hk hs => ?_⟩
    rw [e] at hs
    exact hs.keep hlC (by rw [List.length_append]; omega)
theorem SegI.next {key : Nat → Int} {l0 l l' : List Nat} {bs a : Nat} (h : SegI key l0 bs a l) (hbs : bs = 20 ∨ bs = 40) (hb : a + 2 * bs ≤ l0.length) (h1 : l'.length = l0.length) (h2 : Seg key l0 l' a (a + 2 * bs)) (h3 : ∀ lo hi, hi ≤ a ∨ a + 2 * bs ≤ lo → Seg key l0 l lo hi → Seg key l0 l' lo hi) : SegI key l0 bs (a + 2 * bs) l' := by
  have hd := h.div
  refine ⟨h1, hb, by rcases hbs with rfl | rfl <;> omega, fun lo hlo hlt => ?_, fun lo hlo hle hlt => ?_⟩
  · by_cases e : lo = a
    · subst e; exact h2
    · exact h3 _ _ (.inl (by rcases hbs with rfl | rfl <;> omega)) (h.lo lo hlo (by rcases hbs with rfl | rfl <;> omega))
  · exact h3 _ _ (.inr hle) (h.hi lo hlo (by omega) hlt)
theorem SegI.last {key : Nat → Int} {l0 l l' : List Nat} {bs a : Nat} (h : SegI key l0 bs a l) (hbs : bs = 20 ∨ bs = 40) (hb : l0.length < a + 2 * bs) (h1 : l'.length = l0.length) (h2 : Seg key l0 l' a l0.length) (h3 : ∀ lo hi, hi ≤ a ∨ l0.length ≤ lo → Seg key l0 l lo hi → Seg key l0 l' lo hi) : SegE key l0 (2 * bs) l' := by
  have hd := h.div
  have hle := h.le
  refine ⟨h1, fun lo hlo hlt => ?_⟩
  by_cases e : lo = a
  · subst e
    rwa [Nat.min_eq_right (by omega)]
  · rw [Nat.min_eq_left (by rcases hbs with rfl | rfl <;> omega)]
    exact h3 _ _ (.inl (by rcases hbs with rfl | rfl <;> omega)) (h.lo lo hlo (by rcases hbs with rfl | rfl <;> omega))
theorem SegI.done {key : Nat → Int} {l0 l : List Nat} {bs a : Nat} (h : SegI key l0 bs a l) (hbs : bs = 20 ∨ bs = 40) (hb : l0.length ≤ a + bs) : SegE key l0 (2 * bs) l := by
  have hd := h.div
  refine ⟨h.len, fun lo hlo hlt => ?_⟩
  by_cases e : a ≤ lo
  · obtain rfl : lo = a := by rcases hbs with rfl | rfl <;> omega
    have := h.hi lo (by rcases hbs with rfl | rfl <;> omega) (Nat.le_refl _) hlt
    rw [Nat.min_eq_right (by omega)] at this
    rwa [Nat.min_eq_right (by omega)]
  · have hle := h.le
    rw [Nat.min_eq_left (by rcases hbs with rfl | rfl <;> omega)]
    exact h.lo lo hlo (by omega)
theorem SegE.whole {key : Nat → Int} {l0 l : List Nat} {bs : Nat} (h : SegE key l0 bs l) (hb : l0.length ≤ bs) : l.Perm l0 ∧ Srt key l := by
  by_cases h0 : l0.length = 0
  · have hl := h.len
    obtain rfl := List.eq_nil_of_length_eq_zero h0
    obtain rfl := List.eq_nil_of_length_eq_zero (show l.length = 0 by omega)
    exact ⟨.refl _, List.Pairwise.nil⟩
  · have k := h.seg 0 (Nat.dvd_zero _) (by omega)
    rw [Nat.min_eq_right (by omega)] at k
    have e : ∀ q : List Nat, q.length = l0.length → sg q 0 l0.length = q := fun q hq => by unfold sg; rw [List.drop_zero, Nat.sub_zero, List.take_of_length_le (by omega)]
    have hl := h.len
    exact ⟨by have := k.perm; rwa [e l hl, e l0 rfl] at this, by have := k.srt; rwa [e l hl] at this⟩
end Go.Proofs.YtogeohjeabbmaaaDoor
