/-
  A region that draws its order and writes two cells that it reads: each cell's word is held till its store has come.
-/
import Derived.Test.YtihccjmmnpldjaaRoundF
set_option linter.unusedSimpArgs false
set_option linter.unusedVariables false
namespace Go.Proofs.Ytihccjmmnpldjaa
open Go.RowKit

/-- What is held: U1 till number d1 has come, U2 till number d2 has, R always. -/
structure Held2 where
  d1 : Nat
  U1 : World → Prop
  d2 : Nat
  U2 : World → Prop
  R : World → Prop
def Held2.at (H : Held2) (listed : Array Bool) (w : World) : Prop := (listed.getD H.d1 true = false → H.U1 w) ∧ (listed.getD H.d2 true = false → H.U2 w) ∧ H.R w
theorem Held2.unset {H : Held2} {listed : Array Bool} {i : Nat} {w : World} (h1 : i ≠ H.d1) (h2 : i ≠ H.d2) (h : H.at (listed.setIfInBounds i true) w) : H.at listed w := by
  obtain ⟨a, b, c⟩ := h
  rw [getD_set_ne true h1] at a
  rw [getD_set_ne true h2] at b
  exact ⟨a, b, c⟩
section
variable {P : Program} {ops : Array Oper} {Q : Exit → Act → World → Prop} {md : Region.Mode} {H : Held2}
def wpAnyT (P : Program) (md : Region.Mode) (ops : Array Oper) (Q : Exit → Act → World → Prop) (H : Held2) : Nat → Array Bool → Act → World → Prop
  | 0, listed, a, w => Region.ready md ops listed = [] ∧ Q .normal a w
  | fuel + 1, listed, a, w =>
    (Region.ready md ops listed = [] → Q .normal a w) ∧
    ∀ i ∈ Region.ready md ops listed, wpOp P ops Q i (fun a' w' => H.at (listed.setIfInBounds i true) w' ∧ wpAnyT P md ops Q H fuel (listed.setIfInBounds i true) a' w') a w
theorem wpAny_of_heldT : ∀ (fuel : Nat) (listed : Array Bool) (a : Act) (w : World), wpAnyT P md ops Q H fuel listed a w → wpAny P md ops Q fuel listed a w
  | 0, _, _, _, h => h
  | fuel + 1, _, _, _, h => ⟨h.1, fun i hi => wpOp_mono (fun a' w' h' => wpAny_of_heldT fuel _ a' w' h'.2) (h.2 i hi)⟩
/-- What number i may lean on. -/
def Held2.use (H : Held2) (b1 b2 : Bool) (w : World) : Prop := (b1 = true → H.U1 w) ∧ (b2 = true → H.U2 w) ∧ H.R w
theorem wpAnyT_first {i : Nat} {oi : Oper} {v : Value} {b1 b2 : Bool} (hi : ops[i]? = some oi) (hsel : ∀ (j : Nat) (o : Oper) cs b, ops[j]? = some o → o.op ≠ .select cs b)
    (hQ : ∀ c a w, Q (.panic c) (a.put oi.dst v) w → Q (.panic c) a w) (hn1 : i ≠ H.d1) (hn2 : i ≠ H.d2)
    (hL1 : b1 = true → ∀ oL, ops[H.d1]? = some oL → ∃ e ∈ oL.after, Region.binds md e = true ∧ e.on = i)
    (hL2 : b2 = true → ∀ oL, ops[H.d2]? = some oL → ∃ e ∈ oL.after, Region.binds md e = true ∧ e.on = i) :
    ∀ (fuel : Nat) (listed : Array Bool) (a : Act) (w : World),
      (∀ j oj, ops[j]? = some oj → j ≠ i → listed.getD j true = false → (∀ e ∈ oj.after, Region.binds md e = true → e.on ≠ i) → oi.apart ops oj = true) →
      i ∈ Region.ready md ops listed → YieldsIf P ops (H.use b1 b2) oi v a → H.at listed w → (b1 = true → listed.getD H.d1 true = false) → (b2 = true → listed.getD H.d2 true = false) →
      wpAnyT P md ops Q H fuel (listed.setIfInBounds i true) (a.put oi.dst v) w → wpAnyT P md ops Q H (fuel + 1) listed a w := by
  intro fuel
  induction fuel with
  | zero =>
    intro listed a w _ hr hy hS l1 l2 Hx
    have hu : H.use b1 b2 w := ⟨fun h => hS.1 (l1 h), fun h => hS.2.1 (l2 h), hS.2.2⟩
    refine ⟨fun h => (by rw [h] at hr; cases hr), fun j hj => ?_⟩
    by_cases hji : j = i
    · subst hji
      refine hy.wpOp hi hu ⟨?_, Hx⟩
      refine ⟨fun h => hS.1 (by rwa [getD_set_ne true hn1] at h), fun h => hS.2.1 (by rwa [getD_set_ne true hn2] at h), hS.2.2⟩
    · have := ready_mono hj hji
      rw [Hx.1] at this
      cases this
  | succ fuel ih =>
    intro listed a w hfree hr hy hS l1 l2 Hx
    have hu : H.use b1 b2 w := ⟨fun h => hS.1 (l1 h), fun h => hS.2.1 (l2 h), hS.2.2⟩
    refine ⟨fun h => (by rw [h] at hr; cases hr), fun j hj => ?_⟩
    by_cases hji : j = i
    · subst hji
      refine hy.wpOp hi hu ⟨?_, Hx⟩
      refine ⟨fun h => hS.1 (by rwa [getD_set_ne true hn1] at h), fun h => hS.2.1 (by rwa [getD_set_ne true hn2] at h), hS.2.2⟩
    · have h1 := Hx.2 j (ready_mono hj hji)
      obtain ⟨hjun, oj, hoj, hall⟩ := mem_ready.1 hj
      have hnot : ∀ e ∈ oj.after, Region.binds md e = true → e.on ≠ i := fun e he hb heq => by
        have h1 := hall e he hb
        have h0 := (mem_ready.1 hr).1
        rw [heq] at h1
        rcases Nat.lt_or_ge i listed.size with h' | h'
        · simp [h'] at h0 h1; rw [h0] at h1; cases h1
        · simp [Array.getElem?_eq_none h'] at h1
      have hj1 : b1 = true → j ≠ H.d1 := fun hb e => by
        obtain ⟨e1, he, hb, hon⟩ := hL1 hb oj (e ▸ hoj)
        exact hnot e1 he hb hon
      have hj2 : b2 = true → j ≠ H.d2 := fun hb e => by
        obtain ⟨e1, he, hb, hon⟩ := hL2 hb oj (e ▸ hoj)
        exact hnot e1 he hb hon
      have h2 := wpOp_putIf hoj (hfree j oj hoj hji hjun hnot) (fun cs b => hsel i oi cs b hi) (fun cs b => hsel j oj cs b hoj) hQ hy h1
      have hfree' : ∀ k ok, ops[k]? = some ok → k ≠ i → (listed.setIfInBounds j true).getD k true = false →
          (∀ e ∈ ok.after, Region.binds md e = true → e.on ≠ i) → oi.apart ops ok = true := fun k ok hk hki hun hno => by
        refine hfree k ok hk hki ?_ hno
        by_cases hjk : j = k
        · subst hjk; exact hjun
        · rw [getD_set_ne true hjk] at hun; exact hun
      refine wpOp_mono (fun a' w' h3 => ?_) h2
      have hAt : H.at (listed.setIfInBounds j true) w' := by
        have := h3.2.1
        rw [Array.setIfInBounds_comm _ _ (Ne.symm hji)] at this
        exact Held2.unset hn1 hn2 this
      refine ⟨hAt, ih (listed.setIfInBounds j true) a' w' hfree' (ready_mono hr (Ne.symm hji)) h3.1 hAt (fun h => by rw [getD_set_ne true (hj1 h)]; exact l1 h) (fun h => by rw [getD_set_ne true (hj2 h)]; exact l2 h) ?_⟩
      rw [Array.setIfInBounds_comm _ _ hji]
      exact h3.2.2
/-- May number i lean on the words? -/
def leans (md : Region.Mode) (ops : Array Oper) (d i : Nat) (listed : Array Bool) (b : Bool) : Bool := !b || (waitsB md ops d i && !listed.getD d true)
theorem wpAnyT_take {i : Nat} {oi : Oper} {v : Value} (b1 b2 : Bool) {fuel : Nat} {listed : Array Bool} {a : Act} {w : World} (hi : ops[i]? = some oi)
    (hs : Region.noSelect ops = true) (hf : Region.free md ops listed i = true) (hr : (Region.ready md ops listed).contains i = true)
    (hb : (i != H.d1 && i != H.d2 && leans md ops H.d1 i listed b1 && leans md ops H.d2 i listed b2) = true)
    (hQ : ∀ c a w, Q (.panic c) (a.put oi.dst v) w → Q (.panic c) a w) (hy : YieldsIf P ops (H.use b1 b2) oi v a) (hS : H.at listed w)
    (h : wpAnyT P md ops Q H fuel (listed.setIfInBounds i true) (a.put oi.dst v) w) : wpAnyT P md ops Q H (fuel + 1) listed a w := by
  simp only [Bool.and_eq_true, bne_iff_ne] at hb
  obtain ⟨⟨⟨h1, h2⟩, h3⟩, h4⟩ := hb
  have k3 : b1 = true → waitsB md ops H.d1 i = true ∧ listed.getD H.d1 true = false := fun e => by subst e; unfold leans at h3; simpa using h3
  have k4 : b2 = true → waitsB md ops H.d2 i = true ∧ listed.getD H.d2 true = false := fun e => by subst e; unfold leans at h4; simpa using h4
  exact wpAnyT_first hi (Region.noSelect_spec hs) hQ h1 h2 (fun e => waits_spec (k3 e).1) (fun e => waits_spec (k4 e).1) fuel listed a w (Region.free_spec hi hf) (by simpa using hr) hy hS (fun e => (k3 e).2) (fun e => (k4 e).2) h
theorem wpAnyT_one {i : Nat} {o : Oper} {fuel : Nat} {listed : Array Bool} {a : Act} {w : World} (hr : Region.ready md ops listed = [i]) (ho : ops[i]? = some o)
    (h : ∀ K' : Act → World → Prop, Shut (∀ a w, H.at (listed.setIfInBounds i true) w → wpAnyT P md ops Q H fuel (listed.setIfInBounds i true) a w → K' a w) → if Region.wanted o (yielded ops a.tmps) = true then Oper.wp P o a w K' Q else K' (a.put o.dst undef) w) :
    wpAnyT P md ops Q H (fuel + 1) listed a w :=
  ⟨fun h0 => absurd (hr ▸ h0) (by simp), fun j hj => by
    rw [hr] at hj
    have : j = i := by simpa using hj
    subst this
    exact wpOp_step ho (fun K' hK => h K' (fun a w hS hW => hK a w ⟨hS, hW⟩))⟩
theorem wpAnyT_done {listed : Array Bool} {a : Act} {w : World} (hr : Region.ready md ops listed = []) (h : Q .normal a w) :
    ∀ fuel, wpAnyT P md ops Q H fuel listed a w
  | 0 => ⟨hr, h⟩
  | _ + 1 => ⟨fun _ => h, by rw [hr]; simp⟩
end
/-- In the body of a range over a function. -/
theorem wpIn_round_heldT {l n : Nat} {P : Program} {id : Nat} {Q : Exit → Act → World → Prop} {a : Act} {w : World} {ol : List Oper} (H : Held2) (hm : P.follows .mixedOrders = true)
    (hd : ol.toArray.all (fun o => noDefer o.op) = true) (hL : ¬ LetsOut Q)
    (h : wpAnyT P .any ol.toArray Q H ol.toArray.size (Array.replicate ol.toArray.size false) a w.drew) :
    (Code.region id ol.toArray true).wpIn (Fence.wide.inRound l) n P Q a w :=
  wpIn_region_any hm (anyIn_of_any hd hL _ _ _ _ (wpAny_of_heldT _ _ _ _ h))
end Go.Proofs.Ytihccjmmnpldjaa
