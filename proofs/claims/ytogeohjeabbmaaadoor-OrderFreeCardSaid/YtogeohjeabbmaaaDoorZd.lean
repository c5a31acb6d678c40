/-
  Several texts of mine in one: OrdN OrdO.
-/
import Derived.Test.YtogeohjeabbmaaaDoorY3
import Derived.Test.YtogeohjeabbmaaaDoorZc
/-
  Layer 27 (order): what ByAt compares; a row of one's own, sorted by it.
-/
set_option linter.unusedSimpArgs false
set_option linter.unusedVariables false
set_option maxRecDepth 100000
namespace Go.Proofs.YtogeohjeabbmaaaDoor
open Go.RowKit Go.Sort

theorem byat1_any (bb b off n cap k j : Nat) (ak aj : Int) (w : World) (hb : w.cell? ⟨bb, 0, none⟩ = some (.slice (some ⟨b, off, none⟩) n cap)) (hk : k < n) (hj : j < n)
    (ck : w.cell? ⟨b, off + k * 13 + 10, none⟩ = some (.int .i64 ak)) (cj : w.cell? ⟨b, off + j * 13 + 10, none⟩ = some (.int .i64 aj)) (k0 : 0 ≤ ak) (k1 : ak ≤ 9223372036854775807) (j0 : 0 ≤ aj) (j1 : aj ≤ 9223372036854775807) :
    Calls Tryd.prog 39 #[.int .i64 (k : Int), .int .i64 (j : Int), .pointer (some ⟨bb, 0, none⟩)] w fun e w' => e = .returned (.int .i64 (ak - aj)) ∧ ∃ q, w' = w.drewN q := by
  have i1 : (k : Int) < (n : Int) := by omega
  have i2 : (j : Int) < (n : Int) := by omega
  have i3 : (0 : Int) ≤ (k : Int) := by omega
  have i4 : (0 : Int) ≤ (j : Int) := by omega
  have ew : IntKind.i64.wrap (ak - aj) = ak - aj := by rw [IntKind.wrap_i64]; omega
  clear k0 k1 j0 j1
  go_enter Tryd.func39, Tryd.ntmps39
  go_wp2_with fail
  go_big_quiet (fail)
  go_wp2
  go_ret
  exact ⟨rfl, nq, rfl⟩
/-! ### A row of one's own -/
def ints (l : List Nat) : List Value := l.map ei
theorem ints_length (l : List Nat) : (ints l).length = l.length := by simp [ints]
theorem ints_snoc (l : List Nat) (x : Nat) : ints (l ++ [x]) = ints l ++ [.int .i64 (x : Int)] := by unfold ints; rw [List.map_append]; rfl
theorem ints_map (l : List Nat) : ints l = (l.map (fun x : Nat => (x : Int))).map (Value.int .i64) := by unfold ints; rw [List.map_map]; rfl
theorem below_rowI {w : World} {base g q : Nat} (d : Array Nat) (hb : base ≤ g) (hg : g < w.heap.size) : Below base w (putRow ei (Sort.ahead w q) g 0 d) := by
  refine ⟨rfl, rfl, rfl, by simp, fun k hk => ?_⟩
  have : g ≠ k := by omega
  simp [putRow, mapBlock, Sort.ahead, Array.getElem?_modify, this]
theorem holds_rowI {w : World} {g : Nat} {cur : Array Value} {e : TypeId} {ks : List Nat} (hb : w.heap[g]? = some (.cells cur e (0, 0))) (ht : cur.toList.take ks.length = ints ks) : Holds ei w g 0 ks.toArray := by
  intro j hj
  have hj' : j < ks.length := by simpa using hj
  have h1 : (cur.toList.take ks.length)[j]? = (ints ks)[j]? := by rw [ht]
  rw [List.getElem?_take_of_lt hj', Array.getElem?_toList] at h1
  constructor
  · simp only [World.cell?, hb, Nat.zero_add, Option.isSome_none, Bool.false_eq_true, if_false, h1]
    simp [ints, hj']
  · simp [World.frozen?, hb]
theorem heap_rowI {w : World} {g q : Nat} {cur : Array Value} {e : TypeId} {fr : Nat × Nat} (d : Array Nat) (hb : w.heap[g]? = some (.cells cur e fr)) :
    (putRow ei (Sort.ahead w q) g 0 d).heap[g]? = some (.cells (putCells ei 0 d cur) e fr) := by
  simp [putRow, mapBlock, Sort.ahead, Array.getElem?_modify, hb, onCells]
theorem take_rowI (cur : Array Value) (ts : List Nat) (h : ts.length ≤ cur.size) : (putCells ei 0 ts.toArray cur).toList.take ts.length = ints ts := by
  apply List.ext_getElem?
  intro j
  by_cases hj : j < ts.length
  · rw [List.getElem?_take_of_lt hj, Array.getElem?_toList]
    simp [putCells, hj, show j < cur.size by omega, ints]
  · rw [List.getElem?_take_eq_none (by omega), List.getElem?_eq_none (by simp [ints]; omega)]
/-- When a call took effect. -/
def atK (l : List Mm) (x : Nat) : Int := (nthM l x).md.at'
theorem sort_ownI (base bb : Nat) (n cap : Nat) (sp : Option Addr) (sq : Option Addr) (nq cq : Nat) (l : List Mm) (ks : List Nat) (w : World) (h : w.ownsRow base 3 1 (.slice sp n cap) n (ints ks)) (hn : n ≤ 80) (hks : ∀ x ∈ ks, x < l.length) (hr : ks.Pairwise (· < ·))
    (hbb : bb < base) (hbase : base ≤ w.heap.size) (hb : w.cell? ⟨bb, 0, none⟩ = some (.slice sq nq cq)) (hS : MsIn w sq nq l) (hsq : ∀ g, sq.map (·.block) = some g → g < base) (hat : ∀ k, k < l.length → 0 ≤ atK l k ∧ atK l k ≤ 9223372036854775807) :
    Calls Tryd.prog 38 #[.slice sp n cap, .func (.func 39) #[] #[.pointer (some ⟨bb, 0, none⟩)]] w fun e w' =>
      e = .returned (.tuple #[]) ∧ Below base w w' ∧ ∃ C, C.Perm ks ∧ Srt (atK l) C ∧ w'.ownsRow base 3 1 (.slice sp n cap) n (ints C) := by
  have hl : ks.length = n := by have := h.1; rw [ints_length] at this; omega
  have hlen := hS.len
  rcases h.2 with ⟨hv, h0⟩ | ⟨g, cap', cur, hv, hg, hh, hle, hcap, hsz, ht⟩
  · cases hv
    obtain rfl : ks = [] := List.eq_nil_of_length_eq_zero hl
    refine (sortStbNil 0 _ w).mono ?_
    rintro e w' ⟨rfl, hw⟩
    obtain rfl := hw.symm
    exact ⟨rfl, Below.refl _ _, [], .refl _, List.Pairwise.nil, h⟩
  · cases hv
    rw [Nat.mul_one, ← hl] at ht
    have hH := holds_rowI hh ht
    have hC : CmpQ w g 0 n 39 #[.pointer (some ⟨bb, 0, none⟩)] (atK l) l.length := by
      intro d W hd hL x y hx hy k
      obtain ⟨q, rfl⟩ := hL
      have hB : Below base w (putRow ei (Sort.ahead w q) g 0 d.toArray) := below_rowI _ hg (lt_of_heap hh)
      obtain ⟨b, off, rfl⟩ := slk_some hS.sl (by omega)
      have cx := hS.cells hx (i := 10) (by omega) rfl
      have cy := hS.cells hy (i := 10) (by omega) rfl
      have hbl : b < base := hsq b rfl
      have hx2 := hat x hx
      have hy2 := hat y hy
      refine (byat1_any bb b off nq cq x y (atK l x) (atK l y) _ ?_ (by omega) (by omega) ?_ ?_ hx2.1 hx2.2 hy2.1 hy2.2).mono ?_
      · exact (hB.cell (p := ⟨bb, 0, none⟩) hbb).trans hb
      · exact (hB.cell (p := ⟨b, _, none⟩) hbl).trans cx
      · exact (hB.cell (p := ⟨b, _, none⟩) hbl).trans cy
      · rintro e w' ⟨rfl, m, rfl⟩
        exact ⟨rfl, k + m, by simp [World.drewN, Nat.add_assoc]⟩
    have hs := sortStb #[.pointer (some ⟨bb, 0, none⟩)] (atK l) l.length g 0 cap n ks.toArray ks w hH (by simpa using hl) hl hn hC hks hr (Lf.self hH)
    refine hs.mono ?_
    rintro e w' ⟨rfl, C, hp, hsr, q, rfl⟩
    have hcl : C.length = n := by rw [hp.length_eq, hl]
    refine ⟨rfl, below_rowI _ hg (lt_of_heap hh), C, hp, hsr, by rw [ints_length]; omega, .inr ⟨g, cap, _, rfl, hg, heap_rowI _ hh, hle, hcap, by simp [putCells, hsz], ?_⟩⟩
    rw [Nat.mul_one]
    have := take_rowI cur C (by omega)
    rwa [hcl] at this
end Go.Proofs.YtogeohjeabbmaaaDoor

/-
  Layer 27 (order): ByAt.
-/
set_option linter.unusedSimpArgs false
set_option linter.unusedVariables false
set_option maxRecDepth 100000
namespace Go.Proofs.YtogeohjeabbmaaaDoor
open Go.RowKit

def candB (m : Md) : Bool := decide (m.at' ≠ 0) && !rangesM m
/-- The calls of a key that have an At, of the first k. -/
def candK (l : List Mm) (k : Nat) : List Nat := (List.range k).filter fun i => candB (nthM l i).md
theorem candK_succ (l : List Mm) (k : Nat) : candK l (k + 1) = candK l k ++ (if candB (nthM l k).md then [k] else []) := by
  unfold candK
  rw [List.range_succ, List.filter_append]
  congr 1
  by_cases h : candB (nthM l k).md = true <;> simp [h]
theorem candK_rise (l : List Mm) (k : Nat) : (candK l k).Pairwise (· < ·) := List.Pairwise.filter _ List.pairwise_lt_range
theorem candK_lt {l : List Mm} {k x : Nat} (h : x ∈ candK l k) : x < k := List.mem_range.1 (List.mem_filter.1 h).1
theorem candK_len (l : List Mm) (k : Nat) : (candK l k).length ≤ k := by have := List.length_filter_le (fun i => candB (nthM l i).md) (List.range k); simpa [candK] using this
def intsZ (l : List Nat) : List Int := l.map fun x : Nat => (x : Int)
theorem ints_Z (l : List Nat) : ints l = (intsZ l).map (Value.int .i64) := ints_map l
/-- What ByAt leaves. -/
def ByAtP (w : World) (l : List Mm) (e : Ending) (w' : World) : Prop :=
  Below w.heap.size w w' ∧ ((checkB l = false ∧ e = .returned (.tuple #[.slice none 0 0, .int .i64 370])) ∨
    (checkB l = true ∧ ∃ C, C.Perm (candK l l.length) ∧ Srt (atK l) C ∧ (((behindL l (intsZ C)).1 ≠ 0 ∧ e = .returned (.tuple #[.slice none 0 0, .int .i64 371])) ∨
      ((behindL l (intsZ C)).1 = 0 ∧ ∃ sp cap, e = .returned (.tuple #[.slice sp C.length cap, .int .i64 0]) ∧ Sl w' sp C.length (ints C) ∧ C.length ≤ cap ∧ (∀ b, sp.map (·.block) = some b → w.heap.size ≤ b)))))
theorem right_at {m : Md} (h : rightM m = true) (hok : MdOk m) : 0 ≤ m.at' ∧ m.at' ≤ 9223372036854775807 := by
  have h1 := hok.at'
  unfold I64 at h1
  unfold rightM flatM stepsM at h
  simp only [Bool.and_eq_true, Bool.or_eq_true, decide_eq_true_eq] at h
  omega
theorem atK_all {w : World} {sp : Option Addr} {n : Nat} {l : List Mm} (h : MsIn w sp n l) (hck : checkB l = true) : ∀ k, k < l.length → 0 ≤ atK l k ∧ atK l k ≤ 9223372036854775807 := fun k hk => by
  unfold checkB at hck
  simp only [Bool.and_eq_true] at hck
  exact right_at (List.all_eq_true.1 hck.1.2 _ (nthM_mem hk)) (h.each _ (nthM_mem hk)).ok
theorem infoI : (Tryd.prog.info? 3).map (fun i => (i.zero, i.size, i.bytes)) = some (some (.int .i64 0), 1, 8) := by kernel_rfl
/-- What the loop holds. -/
def ByI (w : World) (sp : Option Addr) (n cap : Nat) (l : List Mm) (j : Nat) (v : Value) (wr : World) : Prop :=
  Below w.heap.size w wr ∧ wr.heap[w.heap.size]? = some (.cells #[.slice sp n cap] 25 (0, 0)) ∧ wr.ownsRow (w.heap.size + 1) 3 1 v (candK l j).length (ints (candK l j))
set_option maxHeartbeats 8000000 in
theorem byat_any (sp : Option Addr) (n cap : Nat) (l : List Mm) (w : World) (hT : Tks w) (h : MsIn w sp n l) (hle : n ≤ cap) (hfar : ∀ g, sp.map (·.block) = some g → g < w.heap.size) :
    Calls Tryd.prog 16 #[.slice sp n cap] w (ByAtP w l) := by
  have hlen := h.len
  have hB1 := (Below.refl w.heap.size w).alloc (Nat.le_refl _) (.cells #[.slice sp n cap] 25)
  have hb1 := World.alloc_heap_new w (.cells #[.slice sp n cap] 25)
  obtain ⟨W1, hW1⟩ : ∃ W1, W1 = w.alloc (.cells #[.slice sp n cap] 25) := ⟨_, rfl⟩
  rw [← hW1] at hB1 hb1
  have CK := checkM_any sp n cap l W1 (hT.next hB1) (h.below hB1) hle
  have c0 : W1.cell? ⟨w.heap.size, 0, none⟩ = some (.slice sp n cap) := blk_cell (i := 0) hb1 rfl
  cases hck : checkB l with
  | false =>
    rw [hck, if_neg (by decide)] at CK
    have CK'h := Lib.hid CK
    have hT'h := Lib.hid hT
    have h'h := Lib.hid h
    have hB1'h := Lib.hid hB1
    have hb1'h := Lib.hid hb1
    have hle'h := Lib.hid hle
    have hck'h := Lib.hid hck
    have hlen'h := Lib.hid hlen
    have hfar'h := Lib.hid hfar
    clear CK hT h hB1 hb1 hle hck hlen hfar
    go_enter Tryd.func16, Tryd.ntmps16
    go_upto_region 1 with fail
    rw [← hW1]
    clear hW1
    go_wp2_with fail
    refine CK'h.out.mono ?_
    rintro e W2 ⟨rfl, hb2⟩
    have hfin := below_next hB1'h.out hb2
    have hfin'h := Lib.hid hfin
    clear hfin
    clear c0 hb2
    go_wp2
    refine bodyPost_ret (v := .tuple #[.slice none 0 0, .int .i64 370]) (by simp [results, Tryd.results16, go_sem]) rfl ?_
    exact ⟨hfin'h.out, .inl ⟨hck'h.out, rfl⟩⟩
  | true =>
    rw [hck, if_pos rfl] at CK
    have h80 : n ≤ 80 := by
      unfold checkB at hck
      simp only [Bool.and_eq_true, decide_eq_true_eq] at hck
      omega
    have hat := atK_all h hck
    have hinf := infoI
    obtain ⟨i0, hi, hz⟩ := Option.map_eq_some_iff.1 hinf
    have hz0 : i0.zero = some (.int .i64 0) := (Prod.mk.inj hz).1
    have hz1 : i0.size = 1 := (Prod.mk.inj (Prod.mk.inj hz).2).1
    have hz2 : i0.bytes = 8 := (Prod.mk.inj (Prod.mk.inj hz).2).2
    clear hz hinf
    have CK'h := Lib.hid CK
    have hT'h := Lib.hid hT
    have h'h := Lib.hid h
    have hB1'h := Lib.hid hB1
    have hb1'h := Lib.hid hb1
    have hle'h := Lib.hid hle
    have hck'h := Lib.hid hck
    have h80'h := Lib.hid h80
    have hat'h := Lib.hid hat
    have hlen'h := Lib.hid hlen
    have hfar'h := Lib.hid hfar
    clear CK hT h hB1 hb1 hle hck h80 hat hlen hfar
    go_enter Tryd.func16, Tryd.ntmps16
    go_upto_region 1 with fail
    rw [← hW1]
    clear hW1
    go_wp2_with fail
    refine CK'h.out.mono ?_
    rintro e W2 ⟨rfl, hb2⟩
    have hB2 := below_next hB1'h.out hb2
    have hx2 := heap_below hb2 hb1'h.out (lt_of_heap hb1'h.out)
    clear c0 hb2 CK'h hB1'h hb1'h
    have c0 : W2.cell? ⟨w.heap.size, 0, none⟩ = some (.slice sp n cap) := blk_cell (i := 0) hx2 rfl
    have hB2'h := Lib.hid hB2
    have hx2'h := Lib.hid hx2
    clear hB2 hx2
    go_wp2
    clear c0
    go_loopg [5, 15] n (fun q v5 v15 wr => ∃ j : Nat, j + q = n ∧ v15 = .int .i64 (j : Int) ∧ ByI w sp n cap l j v5 wr)
    case atStart => exact ⟨0, by omega, rfl, hB2'h.out, hx2'h.out, World.ownsRow_nil _ _ _ _⟩
    case round =>
      obtain ⟨j, hj, rfl, hB, hx, hrow⟩ := hrel
      obtain ⟨s5, c5, rfl⟩ := row_slice' hrow
      by_cases hlt : j < n
      · have i3 : (j : Int) < (n : Int) := by omega
        have i4 : (0 : Int) ≤ (j : Int) := by omega
        have i5 : (j : Int) + 1 ≤ 5000 := by have := h80'h.out; omega
        have hS := h'h.out.below hB
        obtain ⟨b, off, rfl⟩ := slk_some hS.sl (by omega)
        have hjl : j < l.length := by have := hlen'h.out; omega
        obtain ⟨x, hx0⟩ : ∃ x, x = nthM l j := ⟨_, rfl⟩
        have hcl := fun (i : Nat) (v : Value) (hi : i < 13) (hv : (mmL x)[i]? = some v) => hS.cells hjl (i := i) (v := v) hi (by rw [← hx0]; exact hv)
        have hsucc := candK_succ l j
        rw [← hx0] at hsucc
        have RX := fun W => ranges_any x W
        obtain ⟨rx, hrx⟩ : ∃ rx, rx = rangesM x.md := ⟨_, rfl⟩
        rw [← hrx] at RX
        have hcd : candB x.md = (decide (x.md.at' ≠ 0) && !rx) := by rw [hrx]; rfl
        have hB3 := (Below.refl wr.heap.size wr).alloc (Nat.le_refl _) (.cells (mmA x) 39)
        have hb3 := World.alloc_heap_new wr (.cells (mmA x) 39)
        clear hrx hx0 hS
        obtain ⟨⟨goerx, ⟨opx, kyx, cax, cbx⟩, ⟨errx, valx, donex⟩, prsx, beganx, atx, overx, toldx⟩, ppx, pnx, pcx, tpx, tnx, tcx⟩ := x
        have e0 := hcl 0 _ (by omega) rfl
        have e1 := hcl 1 _ (by omega) rfl
        have e2 := hcl 2 _ (by omega) rfl
        have e3 := hcl 3 _ (by omega) rfl
        have e4 := hcl 4 _ (by omega) rfl
        have e5 := hcl 5 _ (by omega) rfl
        have e6 := hcl 6 _ (by omega) rfl
        have e7 := hcl 7 _ (by omega) rfl
        have e8 := hcl 8 _ (by omega) rfl
        have e9 := hcl 9 _ (by omega) rfl
        have ea := hcl 10 _ (by omega) rfl
        have eb := hcl 11 _ (by omega) rfl
        have ec := hcl 12 _ (by omega) rfl
        simp only [Nat.add_zero] at e0
        simp only [mmA] at *
        clear hcl
        obtain ⟨W3, hW3⟩ : ∃ W3, W3 = wr.alloc (.cells #[.int .i64 goerx, .int .i64 opx, .int .u64 (kyx : Int), .int .u64 (cax : Int), .int .u64 (cbx : Int), .int .i64 errx, .int .u64 (valx : Int), .bool donex, .slice ppx pnx pcx, .int .i64 beganx, .int .i64 atx, .int .i64 overx, .slice tpx tnx tcx] 39) := ⟨_, rfl⟩
        rw [← hW3] at hB3 hb3
        have hj'h := Lib.hid hj
        have hB'h := Lib.hid hB
        have hx'h := Lib.hid hx
        have hrow'h := Lib.hid hrow
        have hsucc'h := Lib.hid hsucc
        have RX'h := Lib.hid RX
        have hcd'h := Lib.hid hcd
        have hB3'h := Lib.hid hB3
        have hb3'h := Lib.hid hb3
        have hjl'h := Lib.hid hjl
        have hlt'h := Lib.hid hlt
        clear hj hB hx hrow hsucc RX hcd hB3 hb3 hjl hlt
        go_upto_region 8 with fail
        rw [← hW3]
        clear hW3 e0 e1 e2 e3 e4 e5 e6 e7 e8 e9 ea eb ec
        have hB4 := below_next hB'h.out hB3'h.out
        have hx4 := heap_below hB3'h.out hx'h.out (lt_of_heap hx'h.out)
        have hrow4 := ownsRow_next hrow'h.out hB3'h.out
        have hB4'h := Lib.hid hB4
        have hx4'h := Lib.hid hx4
        have hrow4'h := Lib.hid hrow4
        clear hB4 hx4 hrow4
        obtain ⟨a0, a1, a2, a3, a4, a5, a6, a7, a8, a9, aa, ab, ac⟩ := cells13 hb3'h.out
        rcases int_zero_or atx with ⟨h0, h1, h2⟩ | ⟨h0, h1, h2⟩
        · have hs1 : candK l (j + 1) = candK l j := by
            have := hsucc'h.out
            rw [hcd'h.out] at this
            simpa [h0] using this
          clear h0
          have hs1'h := Lib.hid hs1
          clear hs1
          go_wp2
          go_roundg (gk - 1)
          case measure => have := hj'h.out; have := hlt'h.out; omega
          case rel => exact ⟨j + 1, by have := hj'h.out; have := hlt'h.out; omega, by go_num, hB4'h.out, hx4'h.out, by rw [hs1'h.out]; exact hrow4'h.out⟩
        · go_wp2_with fail
          refine (RX'h.out _).mono ?_
          rintro e w5 ⟨rfl, hb5⟩
          have hB5 := below_next hB4'h.out hb5
          have hx5 := heap_below hb5 hx4'h.out (lt_of_heap hx4'h.out)
          have hrow5 := ownsRow_next hrow4'h.out hb5
          have hB5'h := Lib.hid hB5
          have hx5'h := Lib.hid hx5
          have hrow5'h := Lib.hid hrow5
          clear hB5 hx5 hrow5
          clear a0 a1 a2 a3 a4 a5 a6 a7 a8 a9 aa ab ac h1 h2 hb5
          cases rx with
          | true =>
            have hs1 : candK l (j + 1) = candK l j := by
              have := hsucc'h.out
              rw [hcd'h.out] at this
              simpa using this
            clear h0
            have hs1'h := Lib.hid hs1
            clear hs1
            go_wp2
            go_roundg (gk - 1)
            case measure => have := hj'h.out; have := hlt'h.out; omega
            case rel => exact ⟨j + 1, by have := hj'h.out; have := hlt'h.out; omega, by go_num, hB5'h.out, hx5'h.out, by rw [hs1'h.out]; exact hrow5'h.out⟩
          | false =>
            have hs1 : candK l (j + 1) = candK l j ++ [j] := by
              have := hsucc'h.out
              rw [hcd'h.out] at this
              simpa [h0] using this
            have hlk := candK_len l j
            have hz5 : w.heap.size + 1 ≤ w5.heap.size := by have := lt_of_heap hx5'h.out; omega
            have hkl : (candK l j).length ≤ 5000 := by have := hj'h.out; have := h80'h.out; omega
            clear h0
            have hs1'h := Lib.hid hs1
            have hlk'h := Lib.hid hlk
            clear hs1 hlk
            generalize candK l j = D at *
            have hkl'h := Lib.hid hkl
            clear hkl
            go_wp2_with (at_builtin; refine wpList_append _ rfl (.tmp 28) (.tmp 30) 23 rfl (w.heap.size + 1) 3 i0 (.int .i64 0) 1 8 Tryd.underlying23 hi hz0 hz1 hz2 rfl (by decide) _ D.length _ rfl (hrow5'h.out.alloc _) ⟨_, 0, none⟩ 1 1 [.int .i64 (j : Int)] rfl rfl (cell_one_new _ _ _) (by simp [Value.oneCell']) (by have := hkl'h.out; unfold maxLen; omega) (by have := hkl'h.out; omega) (by rw [World.size_alloc]; omega) (by decide) ?_; intro v9 w9 hown9 hgrow9 hat9)
            go_roundg (gk - 1)
            case measure => have := hj'h.out; have := hlt'h.out; omega
            case rel =>
              refine ⟨j + 1, by have := hj'h.out; have := hlt'h.out; omega, by go_num, ?_, ?_, ?_⟩
              · exact (hB5'h.out.alloc hB5'h.out.size _).grown hgrow9 (by rw [World.size_alloc]; omega) (fun k hk => Nat.le_of_succ_le (hrow5'h.out.lt k hk).1)
              · refine (hgrow9.block _ (by rw [World.size_alloc]; have := lt_of_heap hx5'h.out; omega) (fun e => absurd (hrow5'h.out.lt _ e.symm).1 (by omega))).trans ?_
                exact heap_below ((Below.refl _ _).alloc (Nat.le_refl _) _) hx5'h.out (lt_of_heap hx5'h.out)
              · rw [hs1'h.out, ints_snoc, List.length_append]
                exact hown9
      · have hjn : j = n := by omega
        subst hjn
        have i3 : ¬ (j : Int) < (j : Int) := by omega
        have hlk := candK_len l j
        have hlm : ∀ x ∈ candK l j, x < l.length := fun x hx => by have := candK_lt hx; have := hlen'h.out; omega
        have hz := hB.size
        have hlt2 := lt_of_heap hx
        have hS := h'h.out.below hB
        have cx : wr.cell? ⟨w.heap.size, 0, none⟩ = some (.slice sp j cap) := blk_cell (i := 0) hx rfl
        have SC := sort_ownI (w.heap.size + 1) w.heap.size (candK l j).length c5 s5 sp j cap l (candK l j) wr hrow (by have := h80'h.out; omega) hlm (candK_rise l j) (by omega) (by omega) cx hS (fun g hg => by have := hfar'h.out g hg; omega) hat'h.out
        have hcap := (row_form hrow)
        obtain ⟨sp', cap', e', hc1, hc2, hc3⟩ := hcap
        cases e'
        have hcl := hlen'h.out
        have hcc : candK l j = candK l l.length := by rw [← hcl]
        generalize candK l j = D at *
        have hS'h := Lib.hid hS
        have hB'h := Lib.hid hB
        have hx'h := Lib.hid hx
        have hrow'h := Lib.hid hrow
        have SC'h := Lib.hid SC
        have hc1'h := Lib.hid hc1
        have hc2'h := Lib.hid hc2
        have hcc'h := Lib.hid hcc
        have hlk'h := Lib.hid hlk
        clear hS hB hx hrow SC hc1 hc2 hcc hlk
        clear hlm hcl hlen'h
        go_upto_region 11 with fail
        go_wp2_with fail
        refine SC'h.out.mono ?_
        rintro e w5 ⟨rfl, hb5, C, hp, hs, hrow5⟩
        have hB5 : Below w.heap.size w w5 := hB'h.out.trans (hb5.mono (Nat.le_succ _))
        have hx5 := heap_below hb5 hx'h.out (Nat.lt_succ_self _)
        have hlC : C.length = D.length := hp.length_eq
        have hS5 : Sl w5 s5 D.length (ints C) := (SlK.of_row hrow5 (by have := hlk'h.out; have := h80'h.out; unfold maxLen; omega)).sl
        have hS5' := hS5
        rw [ints_Z] at hS5'
        have BR := bears_any sp j cap l s5 D.length c5 (intsZ C) w5 (hT'h.out.next hB5) (h'h.out.below hB5) hle'h.out hS5' (by have := hlk'h.out; have := h80'h.out; omega)
        have c9 : w5.cell? ⟨w.heap.size, 0, none⟩ = some (.slice sp j cap) := blk_cell (i := 0) hx5 rfl
        obtain ⟨er, her⟩ : ∃ er, er = (behindL l (intsZ C)).1 := ⟨_, rfl⟩
        rw [← her] at BR
        clear hx5 hS5'
        have hp'h := Lib.hid hp
        have hs'h := Lib.hid hs
        have hrow5'h := Lib.hid hrow5
        have hB5'h := Lib.hid hB5
        have hlC'h := Lib.hid hlC
        have hS5'h := Lib.hid hS5
        have BR'h := Lib.hid BR
        have hb5'h := Lib.hid hb5
        have her'h := Lib.hid her
        clear hp hs hrow5 hB5 hlC hS5 BR hb5 her
        go_wp2_with fail
        refine BR'h.out.mono ?_
        rintro e w6 ⟨rfl, hb6⟩
        have hB6 := below_next hB5'h.out hb6
        have hS6 := hS5'h.out.below hb6
        have hB6'h := Lib.hid hB6
        have hS6'h := Lib.hid hS6
        clear hB6 hS6
        clear hb6 c9
        by_cases e0 : er = 0
        · have i6 : decide (er = 0) = true := decide_eq_true e0
          have e0'h := Lib.hid e0
          clear e0
          go_wp2
          refine bodyPost_ret (v := .tuple #[.slice s5 D.length c5, .int .i64 0]) (by simp [results, Tryd.results16, go_sem]) rfl ?_
          refine ⟨hB6'h.out, .inr ⟨hck'h.out, C, by rw [← hcc'h.out]; exact hp'h.out, hs'h.out, .inr ⟨by rw [← her'h.out]; exact e0'h.out, s5, c5, by rw [hlC'h.out], by rw [hlC'h.out]; exact hS6'h.out, by rw [hlC'h.out]; exact hc1'h.out, fun b hb => ?_⟩⟩⟩
          obtain ⟨a, ha, rfl⟩ := Option.map_eq_some_iff.1 hb
          obtain ⟨sp', cap', e', _, _, hk⟩ := row_form hrow5'h.out
          cases e'
          have := (hk a ha).1
          omega
        · have i6 : decide (er = 0) = false := decide_eq_false e0
          have e0'h := Lib.hid e0
          clear e0
          go_wp2
          refine bodyPost_ret (v := .tuple #[.slice none 0 0, .int .i64 371]) (by simp [results, Tryd.results16, go_sem]) rfl ?_
          exact ⟨hB6'h.out, .inr ⟨hck'h.out, C, by rw [← hcc'h.out]; exact hp'h.out, hs'h.out, .inl ⟨by rw [← her'h.out]; exact e0'h.out, rfl⟩⟩⟩
end Go.Proofs.YtogeohjeabbmaaaDoor

