/-
  A function's way out behind any number of ranges over functions.
-/
import Derived.Test.YtoklgjlmjkhmbaaKit
set_option linter.unusedSimpArgs false
set_option linter.unusedVariables false
namespace Go.Proofs.Ytoklgjlmjkhmbaa
open Go.RowKit

def marksOf (bs : List Nat) : List Deferred := bs.map fun D => { target := .collected D, args := #[] }
def shutAll (bs : List Nat) (W : World) : World := bs.foldl (fun W D => W.putObj D (.deferred none)) W
theorem shutAll_other {b : Nat} : ∀ {bs : List Nat} {W : World}, b ∉ bs → (shutAll bs W).heap[b]? = W.heap[b]?
  | [], _, _ => rfl
  | D :: bs, W, h => by
    have h1 : b ≠ D := fun e => h (by rw [e]; exact List.mem_cons_self ..)
    show (shutAll bs (W.putObj D (.deferred none))).heap[b]? = _
    rw [shutAll_other (fun hb => h (List.mem_cons_of_mem _ hb)), World.putObj_heap_other h1]
theorem below_shutAll {n : Nat} {w : World} : ∀ {bs : List Nat} {W : World}, Below n w W → (∀ D ∈ bs, n ≤ D) → Below n w (shutAll bs W)
  | [], _, h, _ => h
  | D :: bs, W, h, hD => below_shutAll (bs := bs) (below_putObj h (hD D (List.mem_cons_self ..)) _) (fun D' h' => hD D' (List.mem_cons_of_mem _ h'))
theorem leaves_marks {F : Fence} {n : Nat} {P : Program} {fn : Func} {R : Ending → World → Prop} {tmps : Array Value} {v : Value} : ∀ {bs : List Nat} {W : World}, bs.Nodup → (∀ D ∈ bs, W.heap[D]? = some (.deferred (some []))) →
    (results fn tmps).run P (shutAll bs W) = .ok v (shutAll bs W) → R (.returned v) (shutAll bs W) → LeavesInM F n P fn tmps R (marksOf bs) .returning W
  | [], W, _, _, hr, hR => ⟨v, hr, hR⟩
  | D :: bs, W, hnd, hD, hr, hR => by
    obtain ⟨h1, h2⟩ := List.nodup_cons.1 hnd
    refine ⟨by simp, .inl ⟨_, _, rfl, run_takeDeferred (hD D (List.mem_cons_self ..)), leaves_marks (bs := bs) h2 (fun D' h' => ?_) hr hR⟩⟩
    exact (World.putObj_heap_other (fun (e : D' = D) => h1 (by rw [← e]; exact h'))).trans (hD D' (List.mem_cons_of_mem _ h'))
theorem post_marks {F : Fence} {n : Nat} {P : Program} {fn : Func} {R : Ending → World → Prop} {e : Exit} {tmps : Array Value} {bs : List Nat} {W : World} {v : Value} (he : e = .ret ∨ e = .normal) (hnd : bs.Nodup)
    (hD : ∀ D ∈ bs, W.heap[D]? = some (.deferred (some []))) (hr : (results fn tmps).run P (shutAll bs W) = .ok v (shutAll bs W)) (hR : R (.returned v) (shutAll bs W)) :
    bodyPostM F n P fn R e { tmps := tmps, defers := marksOf bs } W := by
  have h := leaves_marks (F := F) (n := n) hnd hD hr hR
  rcases he with rfl | rfl
  · exact h
  · exact h
end Go.Proofs.Ytoklgjlmjkhmbaa
