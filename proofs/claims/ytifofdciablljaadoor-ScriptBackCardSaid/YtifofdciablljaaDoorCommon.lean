/-
  Words that all parts use: rows of numbers, as slices read.
-/
import Derived.Test.YtifofdciablljaaDoorBase
import Derived.Maps.Own
import Derived.Deep.OwnRows
import Derived.WalkSpells
set_option linter.unusedSimpArgs false
set_option linter.unusedVariables false
namespace Go.Proofs.YtifofdciablljaaDoor
open Go.RowKit

def u64s (l : List Nat) : List Value := l.map fun (b : Nat) => .int .u64 (b : Int)
def W64 (l : List Nat) : Prop := ∀ k ∈ l, k < 2 ^ 64

theorem Sl.foreign {S S' : Nat → Prop} {W W' : World} {sp : Option Addr} {n : Nat} {vals : List Value} (h : Sl W sp n vals) (hf : Foreign S S' W W') (hS : ∀ c, sp.map (·.block) = some c → ¬ S c) : Sl W' sp n vals :=
  h.keep fun b o hb hs ho => (hf.block b hb (hS b hs)).trans ho
theorem Sl.kept {S : Nat → Prop} {W W' : World} {sp : Option Addr} {n : Nat} {vals : List Value} (h : Sl W sp n vals) (hk : Kept S W W') (hS : ∀ c, sp.map (·.block) = some c → S c) : Sl W' sp n vals :=
  h.keep fun b o hb hs ho => (hk.block b hb (hS b hs)).trans ho
theorem u64s_at {keys : List Nat} {j : Nat} (h : j < keys.length) : (u64s keys)[j]? = some (.int .u64 (nthN keys j)) := by
  unfold u64s; rw [List.getElem?_map, List.getElem?_eq_getElem h, nthN_eq h]; rfl

theorem wf_i64 {x : Int} (h : -9223372036854775808 ≤ x) (h' : x ≤ 9223372036854775807) : (Lit.int .i64 x).wf = true := by
  have h1 : IntKind.i64.min = -9223372036854775808 := rfl
  have h2 : IntKind.i64.max = 9223372036854775807 := rfl
  simp only [Lit.wf, h1, h2, Bool.and_eq_true, decide_eq_true_eq]; omega
def nats (zs : List Int) : List Nat := zs.map Int.toNat
theorem u64s_nats {zs : List Int} (hz : ∀ z ∈ zs, (Lit.int .u64 z).wf = true) : zs.map (Value.int .u64) = u64s (nats zs) := by
  unfold u64s nats
  rw [List.map_map]
  refine List.map_congr_left fun z hm => ?_
  obtain ⟨x, rfl, _⟩ := nat_of_u64 (hz z hm)
  simp
theorem nats_w64 {zs : List Int} (hz : ∀ z ∈ zs, (Lit.int .u64 z).wf = true) : W64 (nats zs) := by
  intro k hk
  unfold nats at hk
  obtain ⟨z, hm, rfl⟩ := List.mem_map.1 hk
  obtain ⟨x, rfl, hx⟩ := nat_of_u64 (hz z hm)
  simpa using hx
theorem ne_self (x : Nat) : ((x : Int) != (x : Int)) = false := by simp
theorem len_nats {zs : List Int} {w : World} {sp : Option Addr} {n : Nat} (h : Sl w sp n (u64s (nats zs))) : n = (nats zs).length := by
  have := h.1; simpa [u64s] using this
def nthZ (l : List Int) (k : Nat) : Int := l.getD k 0
theorem nthZ_eq {l : List Int} {k : Nat} (h : k < l.length) : l[k] = nthZ l k := by unfold nthZ; rw [List.getD_eq_getElem?_getD, List.getElem?_eq_getElem h]; rfl
theorem nthZ_mem {l : List Int} {k : Nat} (h : k < l.length) : nthZ l k ∈ l := by rw [← nthZ_eq h]; exact List.getElem_mem h
theorem i64s_at {zs : List Int} {j : Nat} {c : IntKind} (h : j < zs.length) : (zs.map (Value.int c))[j]? = some (.int c (nthZ zs j)) := by
  rw [List.getElem?_map, List.getElem?_eq_getElem h, nthZ_eq h]; rfl

theorem oneCell_ints (k : IntKind) (l : List Int) : ∀ v ∈ l.map (Value.int k), v.oneCell' = true := by intro v hv; obtain ⟨x, _, rfl⟩ := List.mem_map.1 hv; rfl
theorem oneCell_u64s (l : List Nat) : ∀ v ∈ u64s l, v.oneCell' = true := by intro v hv; obtain ⟨x, _, rfl⟩ := List.mem_map.1 hv; rfl
theorem u64s_length (l : List Nat) : (u64s l).length = l.length := by simp [u64s]
theorem u64s_take (l : List Nat) (m : Nat) : (u64s l).take m = u64s (l.take m) := by unfold u64s; rw [List.map_take]
theorem u64s_snoc (l : List Nat) (x : Nat) : u64s (l ++ [x]) = u64s l ++ [.int .u64 x] := by unfold u64s; rw [List.map_append]; rfl
theorem u64s_ints (l : List Nat) : u64s l = (l.map Int.ofNat).map (Value.int .u64) := by unfold u64s; rw [List.map_map]; rfl
theorem row_slice' {w : World} {base : Nat} {e : TypeId} {size : Nat} {v : Value} {n : Nat} {xs : List Value} (h : w.ownsRow base e size v n xs) : ∃ sp cap, v = .slice sp n cap := by
  rcases h.2 with ⟨h1, h0⟩ | ⟨g, cap, cur, h1, _⟩
  · subst h0; exact ⟨_, _, h1⟩
  · exact ⟨_, _, h1⟩
theorem row_nil' {w : World} {base : Nat} {e : TypeId} {size : Nat} {sp : Option Addr} {m n cap : Nat} {xs : List Value} (h : w.ownsRow base e size (.slice sp m cap) n xs) : sp = none → cap = 0 := by
  intro e
  rcases h.2 with ⟨h1, h0⟩ | ⟨g, cap, cur, h1, _⟩
  · injection h1
  · injection h1 with h1; rw [e] at h1; cases h1
theorem below_next {a b c : World} (h : Below a.heap.size a b) (h1 : Below b.heap.size b c) : Below a.heap.size a c := h.trans (h1.mono h.size)
/-- The first place at which something holds; -1: none. -/
def idxZ (p : Int → Bool) (l : List Int) : Int := if l.findIdx p < l.length then (l.findIdx p : Int) else -1
theorem idxZ_hit {p : Int → Bool} {l : List Int} {k : Nat} (hk : k < l.length) (hno : ∀ j, j < k → p (nthZ l j) = false) (h : p (nthZ l k) = true) : idxZ p l = (k : Int) := by
  have e : l.findIdx p = k := by
    refine (List.findIdx_eq hk).2 ⟨by rw [nthZ_eq hk]; exact h, fun j hj => ?_⟩
    rw [nthZ_eq (by omega)]; exact hno j hj
  unfold idxZ; rw [e, if_pos hk]
theorem idxZ_none {p : Int → Bool} {l : List Int} (hno : ∀ j, j < l.length → p (nthZ l j) = false) : idxZ p l = -1 := by
  unfold idxZ
  rw [if_neg]
  intro h
  have := List.findIdx_getElem (w := h)
  rw [nthZ_eq h, hno _ h] at this
  cases this
end Go.Proofs.YtifofdciablljaaDoor
