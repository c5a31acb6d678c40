/-
  Layer 3 (script): the library's Concat at rows of calls.
-/
import Derived.Test.YtogeohjeabbmaaaDoorScrB
import Derived.Test.YtogeohjeabbmaaaDoorY1
import Derived.Deep.OwnRows
set_option linter.unusedSimpArgs false
set_option linter.unusedVariables false
set_option maxRecDepth 100000
namespace Go.Proofs.YtogeohjeabbmaaaDoor
open Go.RowKit

abbrev calZ : Value := .agg #[.int .i64 0, .int .u64 0, .int .u64 0, .int .u64 0]
theorem info_calz : (Tryd.prog.info? 31).map (fun i => (i.zero, i.size, i.bytes)) = some (some calZ, 4, 32) := by kernel_rfl
theorem info_calp : ∃ i : TypeInfo, Tryd.prog.info? 31 = some i ∧ i.zero = some calZ ∧ i.size = 4 ∧ i.bytes = 32 := by
  cases h : Tryd.prog.info? 31 with
  | none => have := info_calz; rw [h] at this; cases this
  | some i =>
    have := info_calz
    rw [h] at this
    simp at this
    exact ⟨i, rfl, this.1, this.2.1, this.2.2⟩
theorem cals_one (l : List Cal) : ∀ v ∈ cals l, v.oneCell' = true := by
  refine flat_one (fun c => ?_) l
  intro v hv
  simp only [calL, List.mem_cons, List.not_mem_nil, or_false] at hv
  rcases hv with rfl | rfl | rfl | rfl <;> rfl
theorem cals_app (a b : List Cal) : cals a ++ cals b = cals (a ++ b) := by unfold cals; rw [List.flatMap_append]
/-- Grow of nothing. -/
theorem growC_any (m : Nat) (w : World) (h0 : 0 < m) (hm : m ≤ 4096) :
    Calls Tryd.prog 85 #[.slice none 0 0, .int .i64 m] w fun e w' => ∃ s c, e = .returned (.slice s 0 c) ∧ Below w.heap.size w w' ∧ w'.ownsRow w.heap.size 31 4 (.slice s 0 c) 0 (cals []) := by
  obtain ⟨i0, hi, hz, hs, hby⟩ := info_calp
  have R := fun ty => Lib.run_append_nil_zeros w 22 3 ty 31 i0 _ .i64 .i64 Tryd.underlying22 Tryd.underlying3 hi hz m h0 (by omega) (by omega) (by rw [hby]; omega)
  have hge := grownCap_ge w m 0 31
  have hle := grownCap_le_maxLen w m 0 31 (by unfold maxLen; omega)
  have hz1 : ∀ q, (Builtin.zeroCells calZ.cells q).size = q * 4 := fun q => by rw [size_zeroCells]; simp [Value.cells]
  generalize grownCap w m 0 31 = gc at *
  have hrow : (w.drew.alloc (.cells (Builtin.zeroCells calZ.cells m ++ Builtin.zeroCells calZ.cells (gc - m)) 31)).ownsRow w.heap.size 31 4 (.slice (some ⟨w.heap.size, 0, none⟩) 0 gc) 0 (cals []) :=
    ⟨rfl, .inr ⟨w.heap.size, gc, _, rfl, Nat.le_refl _, World.alloc_heap_new _ _, Nat.zero_le _, hle, by rw [Array.size_append, hz1, hz1]; omega, by simp [cals]⟩⟩
  have hB : Below w.heap.size w (w.drew.alloc (.cells (Builtin.zeroCells calZ.cells m ++ Builtin.zeroCells calZ.cells (gc - m)) 31)) := (Below.drew (Below.refl _ _)).alloc (Nat.le_refl _) _
  obtain ⟨W, hW⟩ : ∃ W, W = w.drew.alloc (.cells (Builtin.zeroCells calZ.cells m ++ Builtin.zeroCells calZ.cells (gc - m)) 31) := ⟨_, rfl⟩
  rw [← hW] at hrow hB R
  have h1 : ¬ ((m : Int) < 0) := by omega
  have h2 : (0 : Int) < (m : Int) := by omega
  have h3 : (m : Int) ≤ (gc : Int) := by omega
  clear hW
  have hrow'h := Lib.hid hrow
  have hB'h := Lib.hid hB
  have R'h := Lib.hid R
  have hge'h := Lib.hid hge
  have hle'h := Lib.hid hle
  clear hrow hB R hge hle
  go_enter Tryd.func85, Tryd.ntmps85
  go_wp2_with (at_builtin; refine Lib.wpList_append_run _ rfl _ _ _ _ rfl _ _ rfl rfl _ _ (R'h.out _) ?_)
  go_ret
  exact ⟨_, _, rfl, hB'h.out, hrow'h.out⟩
theorem growC_none (w : World) :
    Calls Tryd.prog 85 #[.slice none 0 0, .int .i64 0] w fun e w' => ∃ s c, e = .returned (.slice s 0 c) ∧ Below w.heap.size w w' ∧ w'.ownsRow w.heap.size 31 4 (.slice s 0 c) 0 (cals []) := by
  go_enter Tryd.func85, Tryd.ntmps85
  go_wp2
  go_ret
  exact ⟨none, 0, rfl, Below.refl _ _, rfl, .inl ⟨rfl, rfl⟩⟩

/-! ### A row of rows of calls -/
structure CRow where
  sp : Option Addr
  len : Nat
  cap : Nat
  cs : List Cal
def crV (r : CRow) : Value := .slice r.sp r.len r.cap
def nthR (l : List CRow) (k : Nat) : CRow := l.getD k ⟨none, 0, 0, []⟩
theorem nthR_at {l : List CRow} {k : Nat} (h : k < l.length) : l[k]? = some (nthR l k) := by
  unfold nthR; rw [List.getD_eq_getElem?_getD, List.getElem?_eq_getElem h]; rfl
theorem nthR_mem {l : List CRow} {k : Nat} (h : k < l.length) : nthR l k ∈ l := List.mem_of_getElem? (nthR_at h)
/-- All calls of the first k rows. -/
def catC (rows : List CRow) (k : Nat) : List Cal := (rows.take k).flatMap (·.cs)
theorem catC_succ {rows : List CRow} {k : Nat} (h : k < rows.length) : catC rows (k + 1) = catC rows k ++ (nthR rows k).cs := by
  have e : rows[k] = nthR rows k := by have := nthR_at h; rw [List.getElem?_eq_getElem h] at this; injection this
  unfold catC; rw [List.take_succ_eq_append_getElem h, List.flatMap_append, e]; simp
theorem catC_le {rows : List CRow} (hr : ∀ r ∈ rows, r.cs.length ≤ 66) : ∀ k, k ≤ rows.length → (catC rows k).length ≤ 66 * k
  | 0, _ => by simp [catC]
  | k + 1, h => by
    rw [catC_succ (by omega), List.length_append]
    have := catC_le hr k (by omega)
    have := hr _ (nthR_mem (show k < rows.length by omega))
    omega
/-- A row of rows of calls in memory. -/
structure RowsIn (w : World) (sp : Option Addr) (n : Nat) (rows : List CRow) : Prop where
  sl : SlK w 1 sp n (rows.map crV)
  each : ∀ r ∈ rows, SlK w 4 r.sp r.len (cals r.cs)
  nil : ∀ r ∈ rows, r.sp = none → r.cap = 0
  le : ∀ r ∈ rows, r.len ≤ r.cap
  ok : ∀ r ∈ rows, ∀ c ∈ r.cs, CalOk c
  few : n ≤ 16
  short : ∀ r ∈ rows, r.cs.length ≤ 66
theorem RowsIn.len {w : World} {sp : Option Addr} {n : Nat} {rows : List CRow} (h : RowsIn w sp n rows) : n = rows.length := by have := h.sl.1; simpa using this.symm
theorem RowsIn.below {w w' : World} {sp : Option Addr} {n : Nat} {rows : List CRow} (h : RowsIn w sp n rows) (hb : Below w.heap.size w w') : RowsIn w' sp n rows :=
  ⟨h.sl.below hb, fun r hr => (h.each r hr).below hb, h.nil, h.le, h.ok, h.few, h.short⟩
theorem RowsIn.rlen {w : World} {sp : Option Addr} {n : Nat} {rows : List CRow} (h : RowsIn w sp n rows) {r : CRow} (hr : r ∈ rows) : r.len = r.cs.length := slk_len calL_len (by decide) (h.each r hr)
/-- A header of a row. -/
theorem RowsIn.head {w : World} {sp : Option Addr} {n : Nat} {rows : List CRow} (h : RowsIn w sp n rows) {k : Nat} (hk : k < n) : ∃ b o, sp = some ⟨b, o, none⟩ ∧ w.cell? ⟨b, o + k, none⟩ = some (.slice (nthR rows k).sp (nthR rows k).len (nthR rows k).cap) := by
  obtain ⟨b, o, rfl, hc⟩ := h.sl.some' (by omega)
  exact ⟨b, o, rfl, hc k _ (by rw [List.getElem?_map, nthR_at (by rw [← h.len]; exact hk)]; rfl)⟩
set_option maxHeartbeats 2000000 in
theorem concatC_any (sp : Option Addr) (n cap : Nat) (rows : List CRow) (w : World) (h : RowsIn w sp n rows) :
    Calls Tryd.prog 72 #[.slice sp n cap] w fun e w' => ∃ s c, e = .returned (.slice s (catC rows n).length c) ∧ Below w.heap.size w w' ∧
      w'.ownsRow w.heap.size 31 4 (.slice s (catC rows n).length c) (catC rows n).length (cals (catC rows n)) := by
  have hlen := h.len
  have hn := h.few
  have hle := catC_le h.short n (by omega)
  obtain ⟨i0, hi, hz, hs, hby⟩ := info_calp
  have h'h := Lib.hid h
  have hlen'h := Lib.hid hlen
  have hle'h := Lib.hid hle
  clear h hlen hle
  go_enter Tryd.func72, Tryd.ntmps72
  go_wp2
  go_loopg [3, 11] n (fun q sz i wr => ∃ k : Nat, k + q = n ∧ i = .int .i64 k ∧ sz = .int .i64 ((catC rows k).length : Nat) ∧ Below w.heap.size w wr)
  case atStart => exact ⟨0, by omega, rfl, rfl, Below.refl _ _⟩
  case round =>
    obtain ⟨k, hq, rfl, rfl, hB⟩ := hrel
    by_cases hlt : k < n
    · have hkl : k < rows.length := by have := hlen'h.out; omega
      obtain ⟨rb, ro, rfl, c1⟩ := (h'h.out.below hB).head hlt
      have hcl := catC_succ hkl
      have hc64 := catC_le h'h.out.short k (by omega)
      have hc65 := catC_le h'h.out.short (k + 1) (by omega)
      have hl := h'h.out.rlen (nthR_mem hkl)
      have hnx : ((catC rows k).length : Int) + ((nthR rows k).len : Int) = ((catC rows (k + 1)).length : Nat) := by rw [hcl, List.length_append, hl]; push_cast; rfl
      generalize (catC rows k).length = a at *
      obtain ⟨b, hbe⟩ : ∃ b, b = (catC rows (k + 1)).length := ⟨_, rfl⟩
      rw [← hbe] at hnx hc65
      generalize nthR rows k = r at *
      obtain ⟨rs, rl, rc, rws⟩ := r
      simp only at c1 hnx
      have hi1 : (k : Int) < (n : Int) := by omega
      have h0k : (0 : Int) ≤ (k : Int) := by omega
      have hb0 : ¬ ((b : Int) < 0) := by omega
      have hwr : IntKind.i64.wrap (b : Int) = (b : Int) := Go.IntWalk.i64_in _ (by omega)
      have hnx2 : IntKind.i64.wrap ((a : Int) + (rl : Int)) = (b : Int) := by rw [hnx]; exact hwr
      have hnx3 : RowKit.wrap64 ((a : Int) + (rl : Int)) = (b : Int) := (Go.IntWalk.i64_left _).symm.trans hnx2
      clear hlt hcl hl hwr
      have hq'h := Lib.hid hq
      have hB'h := Lib.hid hB
      have hkl'h := Lib.hid hkl
      have hc64'h := Lib.hid hc64
      have hc65'h := Lib.hid hc65
      have hnx'h := Lib.hid hnx
      have hbe'h := Lib.hid hbe
      clear hq hB hkl hc64 hc65 hnx hbe
      go_wp2
      go_roundg (gk - 1)
      case measure => have := hq'h.out; omega
      case rel => exact ⟨k + 1, by have := hq'h.out; omega, by go_num, by rw [← hbe'h.out], hB'h.out⟩
    · have hkn : k = n := by omega
      subst hkn
      have hi1 : ¬ (k : Int) < (k : Int) := by omega
      have G : Calls Tryd.prog 85 #[.slice none 0 0, .int .i64 ((catC rows k).length : Nat)] wr fun e w' => ∃ s c, e = .returned (.slice s 0 c) ∧ Below wr.heap.size wr w' ∧ w'.ownsRow wr.heap.size 31 4 (.slice s 0 c) 0 (cals []) := by
        rcases Nat.eq_zero_or_pos (catC rows k).length with h0 | h0
        · rw [h0]; exact growC_none wr
        · exact growC_any _ wr h0 (by have := hle'h.out; omega)
      clear hlt
      have hq'h := Lib.hid hq
      have hB'h := Lib.hid hB
      have G'h := Lib.hid G
      clear hq hB G
      go_wp2_with (go_at_call 85; refine G'h.out.mono ?_; rintro e w5 ⟨s5, c5, rfl, hb5, hrow5⟩)
      have B5 := below_next hB'h.out hb5
      have hrow5 := ownsRow_mono hrow5 hB'h.out.size
      clear hb5 hB'h G'h
      obtain ⟨go, rfl⟩ : ∃ go : Nat, go = gk := ⟨_, rfl⟩
      have B5'h := Lib.hid B5
      have hrow5'h := Lib.hid hrow5
      clear B5 hrow5
      go_loopg [6, 27] k (fun q x i wr => ∃ (j : Nat) (v : Value), v = x ∧ j + q = k ∧ i = .int .i64 j ∧ Below w.heap.size w wr ∧ wr.ownsRow w.heap.size 31 4 v (catC rows j).length (cals (catC rows j)))
      case atStart => exact ⟨0, _, rfl, by omega, rfl, B5'h.out, hrow5'h.out⟩
      case round =>
        obtain ⟨j, v, rfl, hq2, rfl, hB, hrow⟩ := hrel
        clear B5'h hrow5'h
        by_cases hlt : j < k
        · have hjl : j < rows.length := by have := hlen'h.out; omega
          obtain ⟨rb, ro, rfl, c1⟩ := (h'h.out.below hB).head hlt
          have hcl := catC_succ hjl
          have hc64 := catC_le h'h.out.short j (by omega)
          have hl := h'h.out.rlen (nthR_mem hjl)
          have hrS := (h'h.out.each _ (nthR_mem hjl)).below hB
          have hw64 := h'h.out.short _ (nthR_mem hjl)
          generalize catC rows j = A at *
          obtain ⟨A', hA'⟩ : ∃ A', A' = catC rows (j + 1) := ⟨_, rfl⟩
          rw [← hA'] at hcl
          generalize nthR rows j = r at *
          obtain ⟨rs, rl, rc, rws⟩ := r
          simp only at c1 hl hrS hw64 hcl
          have hi1 : (j : Int) < (k : Int) := by omega
          have h0k : (0 : Int) ≤ (j : Int) := by omega
          have hone := cals_one rws
          have hAl : (A ++ rws).length = A.length + rl := by rw [List.length_append, hl]
          have hrl64 : rl ≤ 66 := by omega
          clear hlt hl hw64
          have hq2'h := Lib.hid hq2
          have hB'h := Lib.hid hB
          have hrow'h := Lib.hid hrow
          have hrS'h := Lib.hid hrS
          have hone'h := Lib.hid hone
          have hcl'h := Lib.hid hcl
          have hjl'h := Lib.hid hjl
          have hAl'h := Lib.hid hAl
          have hA''h := Lib.hid hA'
          clear hq2 hB hrow hrS hone hcl hjl hAl hA'
          go_wp2_with (at_builtin; refine wpList_append_slk _ rfl (.tmp 31) (.tmp 32) 22 rfl w.heap.size 31 i0 calZ 4 32 Tryd.underlying22 hi hz hs hby rfl (by decide) v A.length _ rfl hrow'h.out rs rl rc _ rfl hrS'h.out hone'h.out (by unfold maxLen; omega) (by omega) hB'h.out.size ?_; intro v' w9 hown' hgrow hwh)
          have B9 : Below w.heap.size w w9 := hB'h.out.grown hgrow hB'h.out.size (fun q hq => And.left <| hrow'h.out.lt q hq)
          rw [cals_app, ← hAl'h.out, ← hcl'h.out] at hown'
          clear hgrow hwh
          have B9'h := Lib.hid B9
          have hown''h := Lib.hid hown'
          clear B9 hown'
          go_wp2
          go_roundg (gk - 1)
          case measure => have := hq2'h.out; omega
          case rel => exact ⟨j + 1, v', rfl, by have := hq2'h.out; omega, by go_num, B9'h.out, by rw [← hA''h.out]; exact hown''h.out⟩
        · have hjk : j = k := by omega
          subst hjk
          have hi1 : ¬ (j : Int) < (j : Int) := by omega
          obtain ⟨s9, c9, rfl, -, -, -⟩ := row_form hrow
          clear hlt
          have hq2'h := Lib.hid hq2
          have hB'h := Lib.hid hB
          have hrow'h := Lib.hid hrow
          clear hq2 hB hrow
          go_wp2
          go_ret
          exact ⟨s9, c9, rfl, hB'h.out, hrow'h.out⟩
end Go.Proofs.YtogeohjeabbmaaaDoor
