/-
  Maps from uint64 to int that a call makes: what they hold, as a log of what was put (the newest first).
-/
import Derived.Test.YtifofdciablljaaDoorBase
import Derived.Maps.Own
import Derived.Maps.Views
import Derived.Maps.OwnSet
import Derived.Maps.OwnIn
set_option linter.unusedSimpArgs false
set_option linter.unusedVariables false
set_option maxRecDepth 100000
namespace Go.Proofs.YtifofdciablljaaDoor
open Go.RowKit Go.Maps

/-! ### Logs -/
def mget : List (Nat × Int) → Nat → Int
  | [], _ => 0
  | (k, v) :: r, x => if k = x then v else mget r x
def mhas : List (Nat × Int) → Nat → Bool
  | [], _ => false
  | (k, _) :: r, x => k == x || mhas r x
def msize : List (Nat × Int) → Nat
  | [] => 0
  | (k, _) :: r => if mhas r k then msize r else msize r + 1
def mapD : List (Nat × Int) → DataW Unit
  | [] => .map []
  | (k, v) :: r => (mapD r).put (.int .u64 k) (.lit (.int .i64 v))
theorem u64_isKey (k : Nat) (h : k < 2 ^ 64) : WideAt.IsKeyLit (.int .u64 k) := trivial
theorem mapD_isMap : ∀ m, IsMap (mapD m)
  | [] => isMap_empty
  | (k, v) :: r => (mapD_isMap r).put _ _
theorem mapD_tidy : ∀ m : List (Nat × Int), (∀ p ∈ m, p.1 < 2 ^ 64) → Tidy (mapD m)
  | [], _ => tidy_empty
  | (k, v) :: r, h => (mapD_tidy r fun p hp => h p (by simp [hp])).put (u64_isKey k (h (k, v) (by simp))) _
theorem lit_ne {k x : Nat} (h : k ≠ x) : Lit.int .u64 (x : Int) ≠ Lit.int .u64 (k : Int) := by
  intro e; injection e with _ e; omega
theorem atKey_mapD : ∀ (m : List (Nat × Int)) (x : Nat), (∀ p ∈ m, p.1 < 2 ^ 64) → (mapD m).atKey (.int .u64 x) (.lit (.int .i64 0)) = .lit (.int .i64 (mget m x))
  | [], _, _ => rfl
  | (k, v) :: r, x, h => by
    unfold mapD mget
    by_cases e : k = x
    · subst e
      rw [if_pos rfl, atKey_put_same (mapD_isMap r) (u64_isKey k (h (k, v) (by simp)))]
    · rw [if_neg e, atKey_put_other (lit_ne e), atKey_mapD r x fun p hp => h p (by simp [hp])]
theorem has_mapD : ∀ (m : List (Nat × Int)) (x : Nat), (∀ p ∈ m, p.1 < 2 ^ 64) → Maps.has (mapD m) (.int .u64 x) = mhas m x
  | [], _, _ => rfl
  | (k, v) :: r, x, h => by
    unfold mapD mhas
    by_cases e : k = x
    · subst e
      rw [has_put_same (mapD_isMap r) (u64_isKey k (h (k, v) (by simp)))]; simp
    · rw [has_put_other (lit_ne e), has_mapD r x fun p hp => h p (by simp [hp])]; simp [e]
theorem size_mapD : ∀ (m : List (Nat × Int)), (∀ p ∈ m, p.1 < 2 ^ 64) → Maps.size (mapD m) = msize m
  | [], _ => rfl
  | (k, v) :: r, h => by
    unfold mapD msize
    have hr : ∀ p ∈ r, p.1 < 2 ^ 64 := fun p hp => h p (by simp [hp])
    rw [size_put (mapD_tidy r hr), has_mapD r k hr, size_mapD r hr]

/-! ### Blocks -/
def MapI (w : World) (b : Nat) (m : List (Nat × Int)) : Prop :=
  w.ownsMap (H := Unit) Tryd.prog 22 (plainElem Tryd.prog 3) b m.length (mapD m) ∧ (∀ p ∈ m, p.1 < 2 ^ 64)
theorem mapI_keyed : Keyed Tryd.prog 22 := int_keyed Tryd.underlying22
theorem mapI_zero (w : World) : (zeroValue 3).run Tryd.prog w = .ok (.int .i64 0) w := by kernel_rfl
theorem MapI.made (w : World) : MapI (w.alloc (.map #[] 0)) w.heap.size [] := ⟨World.ownsMap_made _ _ _ _, fun p hp => absurd hp (by simp)⟩
theorem MapI.heap {w w' : World} {b : Nat} {m : List (Nat × Int)} (h : MapI w b m) (e : w'.heap[b]? = w.heap[b]?) : MapI w' b m := by
  obtain ⟨⟨es, clock, hb, F, hs, hD⟩, hk⟩ := h
  exact ⟨⟨es, clock, e.trans hb, F, hs, hD⟩, hk⟩
theorem MapI.lt {w : World} {b : Nat} {m : List (Nat × Int)} (h : MapI w b m) : b < w.heap.size := h.1.lt
theorem MapI.drewN {w : World} {b : Nat} {m : List (Nat × Int)} (h : MapI w b m) (q : Nat) : MapI (w.drewN q) b m := h
theorem wf_u64 {k : Nat} (h : k < 2 ^ 64) : (Lit.int .u64 (k : Int)).wf = true := by
  have h1 : IntKind.u64.min = 0 := rfl
  have h2 : IntKind.u64.max = 18446744073709551615 := rfl
  simp only [Lit.wf, h1, h2, Bool.and_eq_true, decide_eq_true_eq]; omega
theorem MapI.look {w : World} {b : Nat} {m : List (Nat × Int)} (h : MapI w b m) (k : Nat) (hk : k < 2 ^ 64) :
    (Instr.lookup 72 (.map (some b)) (.int .u64 (k : Int)) false).run Tryd.prog w = .ok (.int .i64 (mget m k)) w := by
  obtain ⟨c, hrun, hat, _⟩ := h.1.lookup_int mapI_keyed Tryd.underlying72 Tryd.underlying3 (mapI_zero w) (keyOf_int_mk Tryd.underlying22 (wf_u64 hk))
  rw [atKey_mapD m k h.2] at hat
  injection hat with hat; injection hat with _ hat
  rw [hrun, hat]
theorem MapI.put {w : World} {b : Nat} {m : List (Nat × Int)} (h : MapI w b m) (k : Nat) (v : Int) (hk : k < 2 ^ 64) (hv : (Lit.int .i64 v).wf = true) (hn : m.length < maxLen) :
    ∃ w', (Instr.mapUpdate 72 (.map (some b)) (.int .u64 (k : Int)) (.int .i64 v)).run Tryd.prog w = .ok () w' ∧ MapI w' b ((k, v) :: m) ∧ w.grownBy w' (some b) := by
  obtain ⟨w', hrun, h1, h2⟩ := h.1.update mapI_keyed Tryd.underlying72 hn (keyOf_int_mk Tryd.underlying22 (wf_u64 hk)) (plainElem_int Tryd.underlying3 hv)
  exact ⟨w', hrun, ⟨h1, fun p hp => by
    rcases List.mem_cons.1 hp with hp | hp
    · rw [hp]; exact hk
    · exact h.2 p hp⟩, h2⟩
theorem Foreign.of_grown {S : Nat → Prop} {W W' : World} {b : Nat} (h : W.grownBy W' (some b)) (hb : S b) : Foreign S (fun c => S c) W W' :=
  ⟨h.os, h.tape, h.output, h.size, fun _ hc => hc, fun _ hc => .inl hc, fun c hc hn => h.block c hc (by intro e; injection e with e; subst e; exact hn hb)⟩
end Go.Proofs.YtifofdciablljaaDoor
