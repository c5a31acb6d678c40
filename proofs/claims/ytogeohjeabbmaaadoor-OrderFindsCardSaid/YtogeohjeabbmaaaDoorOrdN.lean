/-
  Layer 27 (order): what ByAt compares; a row of one's own, sorted by it.
-/
import Derived.Test.YtogeohjeabbmaaaDoorY3
import Derived.Test.YtogeohjeabbmaaaDoorStbJ
set_option linter.unusedSimpArgs false
set_option linter.unusedVariables false
set_option maxRecDepth 100000
namespace Go.Proofs.YtogeohjeabbmaaaDoor
open Go.RowKit Go.Sort

theorem byat1_any (bb b off n cap k j : Nat) (ak aj : Int) (w : World) (hb : w.cell? ⟨bb, 0, none⟩ = some (.slice (some ⟨b, off, none⟩) n cap)) (hk : k < n) (hj : j < n)
    (ck : w.cell? ⟨b, off + k * 13 + 10, none⟩ = some (.int .i64 ak)) (cj : w.cell? ⟨b, off + j * 13 + 10, none⟩ = some (.int .i64 aj)) (k0 : 0 ≤ ak) (k1 : ak ≤ 9223372036854775807) (j0 : 0 ≤ aj) (j1 : aj ≤ 9223372036854775807) :
    Calls Tryd.prog 39 #[.int .i64 (k : Int), .int .i64 (j : Int), .pointer (some ⟨bb, 0, none⟩)] w fun e w' => e = .returned (.int .i64 (ak - aj)) ∧ ∃ q, w' = w.drewN q := by
  have i1 : (k : Int) < (n : Int) := by omega
  have i2 : (j : Int) < (n : Int) := by omega
  have i3 : (0 : Int) ≤ (k : Int) := by omega
  have i4 : (0 : Int) ≤ (j : Int) := by omega
  have ew : IntKind.i64.wrap (ak - aj) = ak - aj := by rw [IntKind.wrap_i64]; omega
  clear k0 k1 j0 j1
  go_enter Tryd.func39, Tryd.ntmps39
  go_wp2_with fail
  go_big_quiet (fail)
  go_wp2
  go_ret
  exact ⟨rfl, nq, rfl⟩
/-! ### A row of one's own -/
def ints (l : List Nat) : List Value := l.map ei
theorem ints_length (l : List Nat) : (ints l).length = l.length := by simp [ints]
theorem ints_snoc (l : List Nat) (x : Nat) : ints (l ++ [x]) = ints l ++ [.int .i64 (x : Int)] := by unfold ints; rw [List.map_append]; rfl
theorem ints_map (l : List Nat) : ints l = (l.map (fun x : Nat => (x : Int))).map (Value.int .i64) := by unfold ints; rw [List.map_map]; rfl
theorem below_rowI {w : World} {base g q : Nat} (d : Array Nat) (hb : base ≤ g) (hg : g < w.heap.size) : Below base w (putRow ei (Sort.ahead w q) g 0 d) := by
  refine ⟨rfl, rfl, rfl, by simp, fun k hk => ?_⟩
  have : g ≠ k := by omega
  simp [putRow, mapBlock, Sort.ahead, Array.getElem?_modify, this]
theorem holds_rowI {w : World} {g : Nat} {cur : Array Value} {e : TypeId} {ks : List Nat} (hb : w.heap[g]? = some (.cells cur e (0, 0))) (ht : cur.toList.take ks.length = ints ks) : Holds ei w g 0 ks.toArray := by
  intro j hj
  have hj' : j < ks.length := by simpa using hj
  have h1 : (cur.toList.take ks.length)[j]? = (ints ks)[j]? := by rw [ht]
  rw [List.getElem?_take_of_lt hj', Array.getElem?_toList] at h1
  constructor
  · simp only [World.cell?, hb, Nat.zero_add, Option.isSome_none, Bool.false_eq_true, if_false, h1]
    simp [ints, hj']
  · simp [World.frozen?, hb]
theorem heap_rowI {w : World} {g q : Nat} {cur : Array Value} {e : TypeId} {fr : Nat × Nat} (d : Array Nat) (hb : w.heap[g]? = some (.cells cur e fr)) :
    (putRow ei (Sort.ahead w q) g 0 d).heap[g]? = some (.cells (putCells ei 0 d cur) e fr) := by
  simp [putRow, mapBlock, Sort.ahead, Array.getElem?_modify, hb, onCells]
theorem take_rowI (cur : Array Value) (ts : List Nat) (h : ts.length ≤ cur.size) : (putCells ei 0 ts.toArray cur).toList.take ts.length = ints ts := by
  apply List.ext_getElem?
  intro j
  by_cases hj : j < ts.length
  · rw [List.getElem?_take_of_lt hj, Array.getElem?_toList]
    simp [putCells, hj, show j < cur.size by omega, ints]
  · rw [List.getElem?_take_eq_none (by omega), List.getElem?_eq_none (by simp [ints]; omega)]
/-- When a call took effect. -/
def atK (l : List Mm) (x : Nat) : Int := (nthM l x).md.at'
theorem sort_ownI (base bb : Nat) (n cap : Nat) (sp : Option Addr) (sq : Option Addr) (nq cq : Nat) (l : List Mm) (ks : List Nat) (w : World) (h : w.ownsRow base 3 1 (.slice sp n cap) n (ints ks)) (hn : n ≤ 80) (hks : ∀ x ∈ ks, x < l.length) (hr : ks.Pairwise (· < ·))
    (hbb : bb < base) (hbase : base ≤ w.heap.size) (hb : w.cell? ⟨bb, 0, none⟩ = some (.slice sq nq cq)) (hS : MsIn w sq nq l) (hsq : ∀ g, sq.map (·.block) = some g → g < base) (hat : ∀ k, k < l.length → 0 ≤ atK l k ∧ atK l k ≤ 9223372036854775807) :
    Calls Tryd.prog 38 #[.slice sp n cap, .func (.func 39) #[] #[.pointer (some ⟨bb, 0, none⟩)]] w fun e w' =>
      e = .returned (.tuple #[]) ∧ Below base w w' ∧ ∃ C, C.Perm ks ∧ Srt (atK l) C ∧ w'.ownsRow base 3 1 (.slice sp n cap) n (ints C) := by
  have hl : ks.length = n := by have := h.1; rw [ints_length] at this; omega
  have hlen := hS.len
  rcases h.2 with ⟨hv, h0⟩ | ⟨g, cap', cur, hv, hg, hh, hle, hcap, hsz, ht⟩
  · cases hv
    obtain rfl : ks = [] := List.eq_nil_of_length_eq_zero hl
    refine (sortStbNil 0 _ w).mono ?_
    rintro e w' ⟨rfl, hw⟩
    obtain rfl := hw.symm
    exact ⟨rfl, Below.refl _ _, [], .refl _, List.Pairwise.nil, h⟩
  · cases hv
    rw [Nat.mul_one, ← hl] at ht
    have hH := holds_rowI hh ht
    have hC : CmpQ w g 0 n 39 #[.pointer (some ⟨bb, 0, none⟩)] (atK l) l.length := by
      intro d W hd hL x y hx hy k
      obtain ⟨q, rfl⟩ := hL
      have hB : Below base w (putRow ei (Sort.ahead w q) g 0 d.toArray) := below_rowI _ hg (lt_of_heap hh)
      obtain ⟨b, off, rfl⟩ := slk_some hS.sl (by omega)
      have cx := hS.cells hx (i := 10) (by omega) rfl
      have cy := hS.cells hy (i := 10) (by omega) rfl
      have hbl : b < base := hsq b rfl
      have hx2 := hat x hx
      have hy2 := hat y hy
      refine (byat1_any bb b off nq cq x y (atK l x) (atK l y) _ ?_ (by omega) (by omega) ?_ ?_ hx2.1 hx2.2 hy2.1 hy2.2).mono ?_
      · exact (hB.cell (p := ⟨bb, 0, none⟩) hbb).trans hb
      · exact (hB.cell (p := ⟨b, _, none⟩) hbl).trans cx
      · exact (hB.cell (p := ⟨b, _, none⟩) hbl).trans cy
      · rintro e w' ⟨rfl, m, rfl⟩
        exact ⟨rfl, k + m, by simp [World.drewN, Nat.add_assoc]⟩
    have hs := sortStb #[.pointer (some ⟨bb, 0, none⟩)] (atK l) l.length g 0 cap n ks.toArray ks w hH (by simpa using hl) hl hn hC hks hr (Lf.self hH)
    refine hs.mono ?_
    rintro e w' ⟨rfl, C, hp, hsr, q, rfl⟩
    have hcl : C.length = n := by rw [hp.length_eq, hl]
    refine ⟨rfl, below_rowI _ hg (lt_of_heap hh), C, hp, hsr, by rw [ints_length]; omega, .inr ⟨g, cap, _, rfl, hg, heap_rowI _ hh, hle, hcap, by simp [putCells, hsz], ?_⟩⟩
    rw [Nat.mul_one]
    have := take_rowI cur C (by omega)
    rwa [hcl] at this
end Go.Proofs.YtogeohjeabbmaaaDoor
