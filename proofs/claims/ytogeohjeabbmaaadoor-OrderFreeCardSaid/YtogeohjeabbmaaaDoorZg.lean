/-
  Several texts of mine in one: OrdT OrdU.
-/
import Derived.Test.YtogeohjeabbmaaaDoorZf
/-
  Layer 27 (order): Search.
-/
set_option linter.unusedSimpArgs false
set_option linter.unusedVariables false
set_option maxRecDepth 100000
namespace Go.Proofs.YtogeohjeabbmaaaDoor
open Go.RowKit

def manyP (l : List Mm) (k : Nat) : Nat := ((List.range k).filter fun i => !rangesM (nthM l i).md).length
theorem manyP_succ (l : List Mm) (k : Nat) : manyP l (k + 1) = manyP l k + (if rangesM (nthM l k).md then 0 else 1) := by
  unfold manyP
  rw [List.range_succ, List.filter_append, List.length_append]
  congr 1
  by_cases h : rangesM (nthM l k).md = true <;> simp [h]
theorem manyP_le (l : List Mm) (k : Nat) : manyP l k ≤ k := by have := List.length_filter_le (fun i => !rangesM (nthM l i).md) (List.range k); simpa [manyP] using this
def seekL (l : List Mm) : Option (List Nat) := seekF l l.length noneB [] []
/-- What Search leaves. -/
def SearchP (w : World) (l : List Mm) (e : Ending) (w' : World) : Prop :=
  Below w.heap.size w w' ∧ ((checkB l = false ∧ e = .returned (.tuple #[.slice none 0 0, .int .i64 370])) ∨ (checkB l = true ∧ 7 < manyP l l.length ∧ e = .returned (.tuple #[.slice none 0 0, .int .i64 3])) ∨
    (checkB l = true ∧ manyP l l.length ≤ 7 ∧ ((seekL l = none ∧ e = .returned (.tuple #[.slice none 0 0, .int .i64 4])) ∨
      ∃ r sp cap, seekL l = some r ∧ e = .returned (.tuple #[.slice sp r.length cap, .int .i64 0]) ∧ Sl w' sp r.length (ints r) ∧ r.length ≤ cap ∧ (∀ b, sp.map (·.block) = some b → w.heap.size ≤ b))))
theorem unmet_all (l : List Mm) : unmetK l noneB ≤ l.length := by unfold unmetK; have := List.length_filter_le (fun i => !noneB i) (List.range l.length); simpa using this
/-- What the range holds. -/
def SeaI (w : World) (ob eb : Nat) (vs : Vs) (S : Nat → Prop) (W : World) : Prop :=
  vs = [] ∧ Old w.heap.size w S W ∧ W.heap[ob]? = some (.cells #[.slice none 0 0] 23 (0, 0)) ∧ W.heap[eb]? = some (.cells #[.int .i64 4] 32 (0, 0)) ∧ ¬ S ob ∧ ¬ S eb
def SeaX (w : World) (ob eb : Nat) (c : Code) (vs : Vs) (S : Nat → Prop) (W : World) : Prop :=
  c = .exit 2 ∧ Old w.heap.size w S W ∧ ∃ sv, vs = [#[sv]] ∧ W.heap[ob]? = some (.cells #[sv] 23 (0, 0)) ∧ W.heap[eb]? = some (.cells #[.int .i64 0] 32 (0, 0)) ∧ ¬ S ob ∧ ¬ S eb
theorem SeaI.stable (w : World) (ob eb : Nat) (vs : Vs) : Stable (SeaI w ob eb vs) := fun S S' W W' h f =>
  ⟨h.1, Old.stable _ _ _ _ _ _ h.2.1 f, f.heap' h.2.2.2.2.1 h.2.2.1, f.heap' h.2.2.2.2.2 h.2.2.2.1, f.not (lt_of_heap h.2.2.1) h.2.2.2.2.1, f.not (lt_of_heap h.2.2.2.1) h.2.2.2.2.2⟩
theorem SeaX.stable (w : World) (ob eb : Nat) (c : Code) (vs : Vs) : Stable (SeaX w ob eb c vs) := fun S S' W W' h f => by
  obtain ⟨h1, h2, sv, h3, h4, h5, h6, h7⟩ := h
  exact ⟨h1, Old.stable _ _ _ _ _ _ h2 f, sv, h3, f.heap' h6 h4, f.heap' h7 h5, f.not (lt_of_heap h4) h6, f.not (lt_of_heap h5) h7⟩
theorem SeaI.no (w : World) (ob eb : Nat) (vs : Vs) (v : Array Value) (S : Nat → Prop) (W : World) : ¬ SeaI w ob eb (vs ++ [v]) S W := fun h => by have := h.1; simp at this
def SeaA (AF : Value → Act) (w : World) (ob eb : Nat) (vs : Vs) (v : Array Value) (a₁ : Act) (S : Nat → Prop) (W : World) : Prop := ∃ sv, v = #[sv] ∧ a₁ = AF sv ∧ SeaI w ob eb vs S W
theorem SeaA.stable (AF : Value → Act) (w : World) (ob eb : Nat) (vs : Vs) (v : Array Value) (a₁ : Act) : Stable (SeaA AF w ob eb vs v a₁) := fun S S' W W' h f => by
  obtain ⟨sv, h1, h2, h3⟩ := h
  exact ⟨sv, h1, h2, SeaI.stable _ _ _ _ _ _ _ _ h3 f⟩
set_option maxHeartbeats 8000000 in
theorem search_any (sp : Option Addr) (n cap : Nat) (l : List Mm) (w : World) (hT : Tks w) (h : MsIn w sp n l) (hle : n ≤ cap) :
    Calls Tryd.prog 14 #[.slice sp n cap] w (SearchP w l) := by
  have hlen := h.len
  have CK := checkM_any sp n cap l w hT h hle
  cases hck : checkB l with
  | false =>
    rw [hck, if_neg (by decide)] at CK
    have CK'h := Lib.hid CK
    have hT'h := Lib.hid hT
    have h'h := Lib.hid h
    have hle'h := Lib.hid hle
    have hck'h := Lib.hid hck
    have hlen'h := Lib.hid hlen
    clear CK hT h hle hck hlen
    refine (callsIn_wide (n := 0)).1 ?_
    refine callsIn_of_wp_marks Tryd.func14 rfl trivial ?_
    simp only [Tryd.ntmps14, List.size_toArray, List.length_cons, List.length_nil, Nat.reduceAdd, Nat.reduceSub, Array.replicate_succ, Array.replicate_zero, List.push_toArray, List.append_toArray, List.nil_append, List.cons_append]
    refine wpIn_wide.2 ?_
    go_wp2_with fail
    go_step3
    go_wp2_with fail
    refine CK'h.out.mono ?_
    rintro e W1 ⟨rfl, hB1⟩
    have hB1'h := Lib.hid hB1
    clear hB1
    go_wp2
    refine post_plain (v := .tuple #[.slice none 0 0, .int .i64 370]) (.inl rfl) (by simp [results, Tryd.results14, go_sem]) ?_
    exact ⟨hB1'h.out, .inl ⟨hck'h.out, rfl⟩⟩
  | true =>
    rw [hck, if_pos rfl] at CK
    have h80 : n ≤ 80 := by
      unfold checkB at hck
      simp only [Bool.and_eq_true, decide_eq_true_eq] at hck
      omega
    have IT := orders_it l sp n cap h80 hck l.length
    have CK'h := Lib.hid CK
    have hT'h := Lib.hid hT
    have h'h := Lib.hid h
    have hle'h := Lib.hid hle
    have hck'h := Lib.hid hck
    have hlen'h := Lib.hid hlen
    have h80'h := Lib.hid h80
    have IT'h := Lib.hid IT
    clear CK hT h hle hck hlen h80 IT
    refine (callsIn_wide (n := 0)).1 ?_
    refine callsIn_of_wp_marks Tryd.func14 rfl trivial ?_
    simp only [Tryd.ntmps14, List.size_toArray, List.length_cons, List.length_nil, Nat.reduceAdd, Nat.reduceSub, Array.replicate_succ, Array.replicate_zero, List.push_toArray, List.append_toArray, List.nil_append, List.cons_append]
    refine wpIn_wide.2 ?_
    go_wp2_with fail
    go_step3
    go_wp2_with fail
    refine CK'h.out.mono ?_
    rintro e W1 ⟨rfl, hB1⟩
    have hB1'h := Lib.hid hB1
    clear hB1
    clear CK'h
    go_wp2
    go_loopg [5, 18] n (fun q v5 v18 wr => ∃ j : Nat, j + q = n ∧ v18 = .int .i64 (j : Int) ∧ v5 = .int .i64 ((manyP l j : Nat) : Int) ∧ Below w.heap.size w wr)
    case atStart => exact ⟨0, by omega, rfl, rfl, hB1'h.out⟩
    case round =>
      obtain ⟨j, hj, rfl, rfl, hB⟩ := hrel
      have hml := manyP_le l j
      by_cases hlt : j < n
      · have i3 : (j : Int) < (n : Int) := by omega
        have i4 : (0 : Int) ≤ (j : Int) := by omega
        have i5 : (j : Int) + 1 ≤ 5000 := by have := h80'h.out; omega
        have hS := h'h.out.below hB
        obtain ⟨b, off, rfl⟩ := slk_some hS.sl (by omega)
        have hjl : j < l.length := by have := hlen'h.out; omega
        obtain ⟨x, hx0⟩ : ∃ x, x = nthM l j := ⟨_, rfl⟩
        have hcl := fun (i : Nat) (v : Value) (hi : i < 13) (hv : (mmL x)[i]? = some v) => hS.cells hjl (i := i) (v := v) hi (by rw [← hx0]; exact hv)
        have hsucc := manyP_succ l j
        rw [← hx0] at hsucc
        have RX := fun W => ranges_any x W
        obtain ⟨rx, hrx⟩ : ∃ rx, rx = rangesM x.md := ⟨_, rfl⟩
        rw [← hrx] at RX hsucc
        have hB3 := (Below.refl wr.heap.size wr).alloc (Nat.le_refl _) (.cells (mmA x) 39)
        have hb3 := World.alloc_heap_new wr (.cells (mmA x) 39)
        obtain ⟨m, hm⟩ : ∃ m, m = manyP l j := ⟨_, rfl⟩
        rw [← hm] at hsucc hml ⊢
        have i6 : (m : Int) + 1 ≤ 5000 := by have := h80'h.out; omega
        have i7 : (0 : Int) ≤ (m : Int) := by omega
        clear hrx hx0 hS hm
        obtain ⟨⟨goerx, ⟨opx, kyx, cax, cbx⟩, ⟨errx, valx, donex⟩, prsx, beganx, atx, overx, toldx⟩, ppx, pnx, pcx, tpx, tnx, tcx⟩ := x
        have e0 := hcl 0 _ (by omega) rfl
        have e1 := hcl 1 _ (by omega) rfl
        have e2 := hcl 2 _ (by omega) rfl
        have e3 := hcl 3 _ (by omega) rfl
        have e4 := hcl 4 _ (by omega) rfl
        have e5 := hcl 5 _ (by omega) rfl
        have e6 := hcl 6 _ (by omega) rfl
        have e7 := hcl 7 _ (by omega) rfl
        have e8 := hcl 8 _ (by omega) rfl
        have e9 := hcl 9 _ (by omega) rfl
        have ea := hcl 10 _ (by omega) rfl
        have eb := hcl 11 _ (by omega) rfl
        have ec := hcl 12 _ (by omega) rfl
        simp only [Nat.add_zero] at e0
        simp only [mmA] at *
        clear hcl
        obtain ⟨W3, hW3⟩ : ∃ W3, W3 = wr.alloc (.cells #[.int .i64 goerx, .int .i64 opx, .int .u64 (kyx : Int), .int .u64 (cax : Int), .int .u64 (cbx : Int), .int .i64 errx, .int .u64 (valx : Int), .bool donex, .slice ppx pnx pcx, .int .i64 beganx, .int .i64 atx, .int .i64 overx, .slice tpx tnx tcx] 39) := ⟨_, rfl⟩
        rw [← hW3] at hB3 hb3
        have hBw := below_next hB hB3
        have hj'h := Lib.hid hj
        have hB'h := Lib.hid hB
        have hsucc'h := Lib.hid hsucc
        have RX'h := Lib.hid RX
        have hb3'h := Lib.hid hb3
        have hjl'h := Lib.hid hjl
        have hlt'h := Lib.hid hlt
        have hBw'h := Lib.hid hBw
        have hml'h := Lib.hid hml
        clear hj hB hsucc RX hb3 hjl hlt hBw hml
        clear hB3
        go_upto_region 8 with fail
        rw [← hW3]
        clear hW3 e0 e1 e2 e3 e4 e5 e6 e7 e8 e9 ea eb ec
        obtain ⟨a0, a1, a2, a3, a4, a5, a6, a7, a8, a9, aa, ab, ac⟩ := cells13 hb3'h.out
        go_wp2_with fail
        refine (RX'h.out _).mono ?_
        rintro e w5 ⟨rfl, hb5⟩
        have hB5 := below_next hBw'h.out hb5
        have hB5'h := Lib.hid hB5
        clear hB5
        clear a0 a1 a2 a3 a4 a5 a6 a7 a8 a9 aa ab ac hb5
        cases rx with
        | true =>
          go_wp2
          go_roundg (gk - 1)
          case measure => have := hj'h.out; have := hlt'h.out; omega
          case rel => exact ⟨j + 1, by have := hj'h.out; have := hlt'h.out; omega, by go_num, by rw [hsucc'h.out]; rfl, hB5'h.out⟩
        | false =>
          go_wp2
          go_roundg (gk - 1)
          case measure => have := hj'h.out; have := hlt'h.out; omega
          case rel => exact ⟨j + 1, by have := hj'h.out; have := hlt'h.out; omega, by go_num, by rw [hsucc'h.out]; go_num, hB5'h.out⟩
      · have hjn : j = n := by omega
        subst hjn
        have i3 : ¬ (j : Int) < (j : Int) := by omega
        obtain ⟨m, hm⟩ : ∃ m, m = manyP l j := ⟨_, rfl⟩
        rw [← hm] at hml ⊢
        have hm2 : m = manyP l l.length := by rw [hm, ← hlen'h.out]
        by_cases hm7 : 7 < m
        · have i6 : (m : Int) > 7 := by omega
          clear hm
          have hB'h := Lib.hid hB
          have hm2'h := Lib.hid hm2
          have hm7'h := Lib.hid hm7
          have hml'h := Lib.hid hml
          clear hB hm2 hm7 hml
          go_wp2
          refine post_plain (v := .tuple #[.slice none 0 0, .int .i64 3]) (.inl rfl) (by simp [results, Tryd.results14, go_sem]) ?_
          exact ⟨hB'h.out, .inr (.inl ⟨hck'h.out, by rw [← hm2'h.out]; exact hm7'h.out, rfl⟩)⟩
        · have i6 : ¬ (m : Int) > 7 := by omega
          clear hm
          have hB'h := Lib.hid hB
          have hm2'h := Lib.hid hm2
          have hm7'h := Lib.hid hm7
          have hml'h := Lib.hid hml
          clear hB hm2 hm7 hml
          go_wp2_with fail
          have H4 := (Hs.nil wr).new2 #[.slice none 0 0] #[.int .i64 4] 23 32
          have hz4 : ((wr.alloc (.cells #[.slice none 0 0] 23)).alloc (.cells #[.int .i64 4] 32)).heap.size = wr.heap.size + 2 := by simp
          generalize (wr.alloc (.cells #[.slice none 0 0] 23)).alloc (.cells #[.int .i64 4] 32) = W4 at H4 hz4 ⊢
          have H5 := H4.new (lnL none 0 0 sp j cap noneB).toArray 78
          have OR := orders_any W4.heap.size none 0 0 (W4.alloc (.cells (lnL none 0 0 sp j cap noneB).toArray 78))
          have H4'h := Lib.hid H4
          have hz4'h := Lib.hid hz4
          have H5'h := Lib.hid H5
          have OR'h := Lib.hid OR
          clear H4 hz4 H5 OR
          go_step3
          go_wp2_with fail
          change Calls _ _ _ (W4.alloc (.cells (lnL none 0 0 sp j cap noneB).toArray 78)) _
          have H5 := H5'h.out
          have OR := OR'h.out
          have hz5 : (W4.alloc (.cells (lnL none 0 0 sp j cap noneB).toArray 78)).heap.size = wr.heap.size + 3 := by rw [World.size_alloc]; have := hz4'h.out; omega
          clear H5'h OR'h H4'h
          generalize W4.alloc _ = W5 at H5 OR hz5 ⊢
          have H5'h := Lib.hid H5
          have hz5'h := Lib.hid hz5
          clear H5 hz5
          refine OR.mono ?_
          rintro e w10 ⟨rfl, hw10⟩
          have hb10 : Below W5.heap.size W5 w10 := by rw [hw10]; exact ((Below.refl _ _).alloc (Nat.le_refl _) _).alloc (by simp) _
          have hz10 : w10.heap.size = W5.heap.size + 2 := by rw [hw10]; simp
          have hbx10 : w10.heap[W5.heap.size]? = some (.cells #[.pointer (some ⟨W4.heap.size, 0, none⟩)] 75 (0, 0)) := by rw [hw10]; exact (Below.heap_alloc _ _ _ (by simp)).trans (World.alloc_heap_new _ _)
          have hbr10 : w10.heap[W5.heap.size + 1]? = some (.cells #[.slice none 0 0] 23 (0, 0)) := by rw [hw10]; exact heap_alloc2_new W5 _ _
          have H10 := H5'h.out.next hb10
          have hB10 := below_next hB'h.out H10.old
          have hRn : OrdR W5.heap.size (W5.heap.size + 1) W4.heap.size none 0 0 [] sp j cap l noneB none 0 [] w10 :=
            ⟨hbx10, hbr10, H10.rows.1, SlK.nil _ _ _, rfl, h'h.out.below hB10, (SlK.nil _ 1 _).sl, Nat.le_refl _, fun _ => rfl, fun _ => rfl, fun b e => by cases e⟩
          have IT2 := IT'h.out _ _ _ _ _ _ _ _ _ _ _ w10 hRn (unmet_all l) (by have := h80'h.out; have := hlen'h.out; simp; omega) (by have := h80'h.out; have := hlen'h.out; simp; omega)
          change SeqItS _ _ _ _ _ (cntO (seekL l)) (SeekY (seekL l)) _ _ _ at IT2
          have hws := hB'h.out.size
          have hI0 : SeaI w wr.heap.size (wr.heap.size + 1) [] (fun b => (none : Option Addr).map (·.block) = some b) w10 :=
            ⟨rfl, ⟨hB10, Nat.le_refl _, fun b hb e => (by cases e)⟩, H10.rows.2.2.1, H10.rows.2.1, fun e => (by cases e), fun e => (by cases e)⟩
          obtain ⟨o, ho⟩ : ∃ o, o = seekL l := ⟨_, rfl⟩
          rw [← ho] at IT2
          clear hbx10 hbr10 hRn hB10 OR
          have hb10'h := Lib.hid hb10
          have hz10'h := Lib.hid hz10
          have H10'h := Lib.hid H10
          have IT2'h := Lib.hid IT2
          have hws'h := Lib.hid hws
          have hI0'h := Lib.hid hI0
          have ho'h := Lib.hid ho
          clear hb10 hz10 H10 IT2 hws hI0 ho
          go_wp2_with fail
          rw [← hw10]
          clear hw10
          refine (wpIn_wide (n := 0)).1 ?_
          refine' wpIn_rangeS rfl (fun h => by cases h) rfl trivial enters_orders IT2'h.out (SeekY.keeps _) (fun b e => by cases e) (fun vs v S W hy => hy.size) (fun b h => h.elim) (SeaI w wr.heap.size (wr.heap.size + 1)) (SeaX w wr.heap.size (wr.heap.size + 1)) (SeaI.no _ _ _) (SeaI.stable _ _ _) (SeaX.stable _ _ _) hI0'h.out (SeaA (fun sv => { tmps := #[.slice sp j cap, undef, .slice none 0 0, .int .i64 0, .int .i64 0, .int .i64 (m : Int), undef, u7, .pointer (some ⟨wr.heap.size, 0, none⟩), .pointer (some ⟨wr.heap.size + 1, 0, none⟩), sv, .slice sp j cap, .int .i64 0, .int .i64 0, .bool false, undef, .slice sp j cap, .int .i64 (j : Int), .int .i64 (j : Int), .bool false, u20, u21, u22, u23, u24, u25, u26, u27, .int .i64 (m : Int), .bool false, .slice sp j cap, .agg (Tryd.zeroCells78.setIfInBounds 1 (.slice sp j cap)), .pointer (some ⟨W4.heap.size, 0, none⟩), .func (.func 63) #[] #[.pointer (some ⟨W5.heap.size, 0, none⟩), .pointer (some ⟨W5.heap.size + 1, 0, none⟩)], sv, undef, undef, undef], defers := [] }) w wr.heap.size (wr.heap.size + 1)) (SeaA.stable _ _ _ _) ?assign ?body ?done ?stop
          case assign =>
            intro ly2 vs v S S1 Wx hk hl hs1 hro hSb2 hY2 hI
            obtain ⟨hvs, r, rp', rc', ho3, hv2, hSl, hrl, hbS⟩ := hY2.last
            obtain ⟨sv, rfl⟩ : ∃ sv, v = #[sv] := ⟨_, hv2⟩
            clear hv2 hSl hrl hbS
            have hI'h := Lib.hid hI
            clear hI
            gi_wp2
            exact ⟨⟨sv, rfl, rfl, hI'h.out⟩, Kept.refl _ _⟩
          case body =>
            rintro ly2 vs v S S1 a₁ Wx r2 hk hl hs1 hlr hro hSb2 hY2 ⟨sv, rfl, rfl, hI⟩
            obtain ⟨hvs, hOld, hob, heb, hno, hne⟩ := hI
            subst hvs
            obtain ⟨-, r, rp', rc', ho3, hv2, hSl, hrl, hbS⟩ := hY2.last
            obtain rfl : sv = .slice rp' r.length rc' := by simpa using hv2
            clear hv2 hSl hrl hbS
            obtain ⟨sv, hsv⟩ : ∃ sv : Value, sv = .slice rp' r.length rc' := ⟨_, rfl⟩
            have x1 : Wx.cell? ⟨wr.heap.size, 0, none⟩ = some (.slice none 0 0) := blk_cell (i := 0) hob rfl
            have x2 : Wx.cell? ⟨wr.heap.size + 1, 0, none⟩ = some (.int .i64 4) := blk_cell (i := 0) heb rfl
            have f1 := blk_free 0 hob
            have f2 := blk_free 0 heb
            have h1 := blk_set (i := 0) sv hob
            have h2 := (Below.heap_setCell Wx ⟨wr.heap.size, 0, none⟩ sv (wr.heap.size + 1) (by show wr.heap.size + 1 ≠ wr.heap.size; omega)).trans heb
            have h3 := (Below.heap_setCell (Wx.setCell ⟨wr.heap.size, 0, none⟩ sv) ⟨wr.heap.size + 1, 0, none⟩ (.int .i64 0) wr.heap.size (by show wr.heap.size ≠ wr.heap.size + 1; omega)).trans h1
            have h4 := blk_set (i := 0) (.int .i64 0) h2
            have hfin : rangePostX (fun b => False ∨ S b) (SeaI w wr.heap.size (wr.heap.size + 1) ([] ++ [#[sv]])) (fun c => SeaX w wr.heap.size (wr.heap.size + 1) c ([] ++ [#[sv]])) S Wx (.exit 2) { tmps := #[], defers := [] } ((Wx.setCell ⟨wr.heap.size, 0, none⟩ sv).setCell ⟨wr.heap.size + 1, 0, none⟩ (.int .i64 0)) := by
              have hw1 := hws'h.out
              refine ⟨(Kept.setCell _ _ _ _ (fun h => h.elim False.elim hno)).trans (Kept.setCell _ _ _ _ (fun h => h.elim False.elim hne)), rfl, (hOld.set (p := ⟨wr.heap.size, 0, none⟩) hw1 _).set (p := ⟨wr.heap.size + 1, 0, none⟩) (Nat.le_succ_of_le hw1) _, sv, rfl, h3, h4, hno, hne⟩
            rw [hsv] at hfin
            clear h1 h2 h3 h4 hob heb hlr hOld hro hs1 hl hk hSb2 hsv
            have hfin'h := Lib.hid hfin
            have hY2'h := Lib.hid hY2
            have hno'h := Lib.hid hno
            have hne'h := Lib.hid hne
            clear hfin hY2 hno hne
            gi_wp2
            exact hfin'h.out
          case done =>
            rintro D S S1 vs Wx hDw hSD hro hs1 hS1D hvs hY2 hI hK3
            obtain ⟨rfl, hOld, hob, heb, hno, hne⟩ := hI
            have hon : o = none := by
              cases o with
              | none => rfl
              | some r => simp [cntO] at hvs
            have x1 : Wx.cell? ⟨wr.heap.size, 0, none⟩ = some (.slice none 0 0) := blk_cell (i := 0) hob rfl
            have x2 : Wx.cell? ⟨wr.heap.size + 1, 0, none⟩ = some (.int .i64 4) := blk_cell (i := 0) heb rfl
            clear hob heb hvs hY2
            have hOld'h := Lib.hid hOld
            have hon'h := Lib.hid hon
            have hK3'h := Lib.hid hK3
            clear hOld hon hK3
            go_wp2_with fail
            go_big_quiet (fail)
            go_wp2
            have hDw' : w.heap.size ≤ D := by have := hws'h.out; have := H10'h.out.old.size; omega
            refine post_mark (W := Wx.drewN nq) (v := .tuple #[.slice none 0 0, .int .i64 4]) (.inl rfl) hK3'h.out (by simp [results, Tryd.results14, go_sem]) ?_
            exact ⟨below_putObj (hOld'h.out.below.trans (below_drewN' _ _)) hDw' _, .inr (.inr ⟨hck'h.out, by rw [← hm2'h.out]; exact Nat.le_of_not_lt hm7'h.out, .inl ⟨by rw [← ho'h.out]; exact hon'h.out, rfl⟩⟩)⟩
          case stop =>
            rintro D c vs S S1 Wx hDw hSD hro hs1 hS1D hY2 ⟨rfl, hOld, sv, rfl, hob, heb, hno, hne⟩ hK3
            obtain ⟨-, r, rp', rc', ho3, hv2, hSl, hrl, hbS⟩ := SeekY.last (vs := []) hY2
            obtain rfl : sv = .slice rp' r.length rc' := by simpa using hv2
            have x1 : Wx.cell? ⟨wr.heap.size, 0, none⟩ = some (.slice rp' r.length rc') := blk_cell (i := 0) hob rfl
            have x2 : Wx.cell? ⟨wr.heap.size + 1, 0, none⟩ = some (.int .i64 0) := blk_cell (i := 0) heb rfl
            have hlow : ∀ b, rp'.map (·.block) = some b → w.heap.size ≤ b := fun b hb => Nat.le_of_not_lt fun hlt => hOld.mine b hlt (hs1 b (hbS b hb))
            have hbD : ∀ b, rp'.map (·.block) = some b → b ≠ D := fun b hb e => hS1D (e ▸ hbS b hb)
            clear hob heb hv2 hY2 hbS
            have hOld'h := Lib.hid hOld
            have ho3'h := Lib.hid ho3
            have hK3'h := Lib.hid hK3
            have hSl'h := Lib.hid hSl
            have hrl'h := Lib.hid hrl
            have hlow'h := Lib.hid hlow
            have hbD'h := Lib.hid hbD
            clear hOld ho3 hK3 hSl hrl hlow hbD
            refine wpIn_wide.2 ?_
            go_wp2_with fail
            go_big_quiet (fail)
            go_wp2
            have hDw' : w.heap.size ≤ D := by have := hws'h.out; have := H10'h.out.old.size; omega
            refine post_mark (W := Wx.drewN nq) (v := .tuple #[.slice rp' r.length rc', .int .i64 0]) (.inl rfl) hK3'h.out (by simp [results, Tryd.results14, go_sem]) ?_
            refine ⟨below_putObj (hOld'h.out.below.trans (below_drewN' _ _)) hDw' _, .inr (.inr ⟨hck'h.out, by rw [← hm2'h.out]; exact Nat.le_of_not_lt hm7'h.out, .inr ⟨r, rp', rc', by rw [← ho'h.out]; exact ho3'h.out, rfl, ?_, hrl'h.out, hlow'h.out⟩⟩)⟩
            exact ((SlK.of_sl hSl'h.out).keep fun b ob _ hb hob => (World.putObj_heap_other (hbD'h.out b hb)).trans hob).sl
end Go.Proofs.YtogeohjeabbmaaaDoor

/-
  Layer 27 (order): the statements' own calls, plain.
-/
set_option linter.unusedSimpArgs false
set_option linter.unusedVariables false
set_option maxRecDepth 100000
namespace Go.Proofs.YtogeohjeabbmaaaDoor
open Go.RowKit

def mkM (m : Md) : Mm := ⟨m, none, 0, 0, none, 0, 0⟩
def thA (o : Int) : Md := ⟨0, ⟨2, 5, 50, 0⟩, ⟨0, 0, false⟩, [], 1, 4, o, []⟩
def thB : Md := ⟨1, ⟨1, 5, 0, 0⟩, ⟨0, 50, true⟩, [], 2, 6, 8, []⟩
def thC : Md := ⟨2, ⟨1, 5, 0, 0⟩, ⟨0, 0, false⟩, [], 3, 3, 7, []⟩
def threeL (o : Int) : List Mm := [mkM (thA o), mkM thB, mkM thC]
/-- Rows in which the calls lie at one end, or in the midst. -/
theorem mms_drop (l : List Mm) (k : Nat) : (mms l).drop (k * 13) = mms (l.drop k) := flat_drop mmL_len l k
theorem MsIn.drop {w : World} {b off n : Nat} {l : List Mm} (h : MsIn w (some ⟨b, off, none⟩) n l) {k : Nat} (hk : k ≤ n) : MsIn w (some ⟨b, off + k * 13, none⟩) (n - k) (l.drop k) := by
  refine ⟨⟨?_, Nat.le_trans (Nat.sub_le _ _) h.sl.2.1, ?_⟩, fun m hm => h.each m (List.mem_of_mem_drop hm)⟩
  · rw [← mms_drop, List.length_drop, h.sl.1, Nat.sub_mul]
  · by_cases h0 : n - k = 0
    · exact .inl h0
    · refine .inr ⟨b, _, rfl, fun j u hu => ?_⟩
      rw [← mms_drop, List.getElem?_drop] at hu
      rw [show off + k * 13 + j = off + (k * 13 + j) by omega]
      exact h.sl.cell hu
theorem mkM_in (m : Md) (w : World) (hp : m.prs = []) (ht : m.told = []) (hok : MdOk m) : MmIn w (mkM m) :=
  ⟨by show SlK w 2 none 0 (prs m.prs); rw [hp]; exact SlK.nil _ _ _, by show Sl w none 0 (m.told.map (Value.int .i64)); rw [ht]; exact (SlK.nil w 1 none).sl, fun _ => rfl, Nat.le_refl _, fun _ => rfl, Nat.le_refl _, hok⟩
theorem md_ok (m : Md) (h1 : I64 m.goer) (h2 : CalOk m.call) (h3 : I64 m.ans.err) (h4 : m.ans.val < 2 ^ 64) (h5 : I64 m.began) (h6 : I64 m.at') (h7 : I64 m.over) (hp : m.prs = []) (ht : m.told = []) : MdOk m :=
  ⟨h1, h2, h3, h4, h5, h6, h7, (by rw [ht]; intro x hx; cases hx), (by rw [hp]; intro x hx; cases hx)⟩
theorem thA_ok (o : Int) (ho : I64 o) : MdOk (thA o) := md_ok _ (show I64 0 by unfold I64; decide) (show CalOk ⟨2, 5, 50, 0⟩ from ⟨by decide, by decide, by decide, by decide, by decide⟩) (show I64 0 by unfold I64; decide) (show 0 < 2 ^ 64 by decide) (show I64 1 by unfold I64; decide) (show I64 4 by unfold I64; decide) ho rfl rfl
theorem thB_ok : MdOk (thB) := md_ok _ (show I64 1 by unfold I64; decide) (show CalOk ⟨1, 5, 0, 0⟩ from ⟨by decide, by decide, by decide, by decide, by decide⟩) (show I64 0 by unfold I64; decide) (show 50 < 2 ^ 64 by decide) (show I64 2 by unfold I64; decide) (show I64 6 by unfold I64; decide) (show I64 8 by unfold I64; decide) rfl rfl
theorem thC_ok : MdOk (thC) := md_ok _ (show I64 2 by unfold I64; decide) (show CalOk ⟨1, 5, 0, 0⟩ from ⟨by decide, by decide, by decide, by decide, by decide⟩) (show I64 0 by unfold I64; decide) (show 0 < 2 ^ 64 by decide) (show I64 3 by unfold I64; decide) (show I64 3 by unfold I64; decide) (show I64 7 by unfold I64; decide) rfl rfl
theorem three_each (o : Int) (ho : I64 o) (w : World) : ∀ m ∈ threeL o, MmIn w m := by
  intro m hm
  unfold threeL at hm
  simp at hm
  rcases hm with rfl | rfl | rfl
  · exact mkM_in _ _ rfl rfl (thA_ok o ho)
  · exact mkM_in _ _ rfl rfl thB_ok
  · exact mkM_in _ _ rfl rfl thC_ok
theorem three_in (o : Int) (ho : I64 o) {w : World} {b : Nat} (h : w.heap[b]? = some (.cells (mms (threeL o)).toArray 39 (0, 0))) : MsIn w (some ⟨b, 0, none⟩) 3 (threeL o) :=
  ⟨by have := SlK.of_blk (k := 13) (n := 3) h rfl (by decide); simpa using this, three_each o ho w⟩
/-! ### What comes of them -/
theorem three_check : checkB (threeL 9) = true := by kernel_rfl
theorem three_cand : candK (threeL 9) 3 = [0, 1, 2] := by kernel_rfl
theorem three_sorted {C : List Nat} (hp : C.Perm (candK (threeL 9) 3)) (hs : Srt (atK (threeL 9)) C) : C = [2, 0, 1] := by
  rw [three_cand] at hp
  refine Srt.unique hs ?_ (hp.trans (by decide))
  have h0 : atK (threeL 9) 0 = 4 := rfl
  have h1 : atK (threeL 9) 1 = 6 := rfl
  have h2 : atK (threeL 9) 2 = 3 := rfl
  refine List.pairwise_cons.2 ⟨fun y hy => ?_, List.pairwise_cons.2 ⟨fun y hy => ?_, List.pairwise_singleton _ _⟩⟩
  · simp at hy
    rcases hy with rfl | rfl <;> (unfold ltK; omega)
  · simp at hy
    subst hy
    unfold ltK; omega
theorem three_behind : behindL (threeL 9) (intsZ [2, 0, 1]) = (0, [(5, 50)]) := by kernel_rfl
theorem three_not : (behindL (threeL 9) (intsZ [0, 1, 2])).1 = 371 := by kernel_rfl
theorem three_seek : seekL (threeL 9) = some [2, 0, 1] := by kernel_rfl
theorem three_many : manyP (threeL 9) 3 = 3 := by kernel_rfl
theorem three_free : (freeL (threeL 9)).length = 3 := by kernel_rfl
theorem mid_check : checkB [mkM thB] = true := by kernel_rfl
theorem mid_seek : seekL [mkM thB] = none := by kernel_rfl
theorem mid_many : manyP [mkM thB] 1 = 1 := by kernel_rfl
theorem two_check : checkB [mkM (thA 0), mkM thB] = true := by kernel_rfl
theorem two_seek : seekL [mkM (thA 0), mkM thB] = some [0, 1] := by kernel_rfl
theorem two_many : manyP [mkM (thA 0), mkM thB] 2 = 2 := by kernel_rfl
theorem same_check : checkB [mkM thB, mkM thB] = false := by kernel_rfl
set_option maxHeartbeats 2000000 in
theorem three_any (w : World) : Calls Tryd.prog 23 #[] w fun e w' => e = .returned (.slice (some ⟨w.heap.size, 0, none⟩) 3 3) ∧ w' = w.alloc (.cells (mms (threeL 9)).toArray 39) := by
  go_enter Tryd.func23, Tryd.ntmps23
  go_wp2
  go_ret
  exact ⟨rfl, rfl⟩
end Go.Proofs.YtogeohjeabbmaaaDoor

