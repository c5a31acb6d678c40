/-
  The document's answer for layer 3: a call is read.
-/
import Derived.Test.YtifofdciablljaaDoorDocH
set_option linter.unusedSimpArgs false
set_option linter.unusedVariables false
set_option maxRecDepth 100000
namespace Go.Proofs.YtifofdciablljaaDoor
open Go.RowKit

/-- What reading a call comes to. -/
def CallRP (w : World) (sp0 : Option Addr) (n0 : Nat) (l0 : List Nat) (R : Option (Cal × List Nat)) (e : Ending) (w' : World) : Prop := Below w.heap.size w w' ∧ match R with
  | some (c, r) => ∃ sp cap, e = .returned (.tuple #[.agg (calA c), .slice sp r.length cap, .bool true]) ∧ (∀ W, Sl W sp0 n0 (u8s l0) → Sl W sp r.length (u8s r)) ∧ r.length ≤ cap
  | none => ∃ c' sp n cap, e = .returned (.tuple #[.agg (calA c'), .slice sp n cap, .bool false])
def wA (ws : List Nat) : Array Value := #[.int .u64 (ws.getD 0 0 : Int), .int .u64 (ws.getD 1 0 : Int), .int .u64 (ws.getD 2 0 : Int)]
theorem wA_put {n : Nat} {ws : List Nat} (h : ws.length < 3) : (wA ws).setIfInBounds ws.length (.int .u64 (n : Int)) = wA (ws ++ [n]) := by
  match ws, h with
  | [], _ => rfl
  | [a], _ => rfl
  | [a, b], _ => rfl
theorem wA_at {ws : List Nat} {k : Nat} (h : k < 3) : ∃ u, (wA ws)[k]? = some u := by
  rcases (show k = 0 ∨ k = 1 ∨ k = 2 by omega) with rfl | rfl | rfl <;> exact ⟨_, rfl⟩
theorem cells4' {W : World} {b : Nat} {v0 v1 v2 v3 : Value} {t : TypeId} (h : W.heap[b]? = some (.cells #[v0, v1, v2, v3] t (0, 0))) :
    W.cell? ⟨b, 0, none⟩ = some v0 ∧ W.cell? ⟨b, 1, none⟩ = some v1 ∧ W.cell? ⟨b, 2, none⟩ = some v2 ∧ W.cell? ⟨b, 3, none⟩ = some v3 :=
  ⟨blk_cell (i := 0) h rfl, blk_cell (i := 1) h rfl, blk_cell (i := 2) h rfl, blk_cell (i := 3) h rfl⟩
theorem put4 {W : World} {b : Nat} {z0 z1 z2 z3 : Value} {t : TypeId} (h : W.heap[b]? = some (.cells #[z0, z1, z2, z3] t (0, 0))) (v0 v1 v2 v3 : Value) :
    ((((W.setCell ⟨b, 0, none⟩ v0).setCell ⟨b, 1, none⟩ v1).setCell ⟨b, 2, none⟩ v2).setCell ⟨b, 3, none⟩ v3).heap[b]? = some (.cells #[v0, v1, v2, v3] t (0, 0)) :=
  blk_set (i := 3) v3 (blk_set (i := 2) v2 (blk_set (i := 1) v1 (blk_set (i := 0) v0 h)))
theorem low4 {B : Nat} {w W : World} {b : Nat} (h : Below B w W) (hb : B ≤ b) (v0 v1 v2 v3 : Value) : Below B w ((((W.setCell ⟨b, 0, none⟩ v0).setCell ⟨b, 1, none⟩ v1).setCell ⟨b, 2, none⟩ v2).setCell ⟨b, 3, none⟩ v3) :=
  (((h.setCell hb v0).setCell hb v1).setCell hb v2).setCell hb v3
theorem readN_some {l : List Nat} {n : Nat} {r : List Nat} (hb : ∀ b ∈ l, b < 256) (h : readN l = some (n, r)) : n < 2 ^ 64 ∧ (∀ b ∈ r, b < 256) ∧ r.length ≤ l.length := by
  obtain ⟨k, hk⟩ := readN_drop h
  exact ⟨readN_lt hb h, fun b hb' => hb b (List.mem_of_mem_drop (by rw [hk] at hb'; exact hb')), by rw [hk, List.length_drop]; omega⟩
set_option maxHeartbeats 8000000 in
theorem dcallr_any (sp : Option Addr) (n cap : Nat) (l : List Nat) (w : World) (h : Sl w sp n (u8s l)) (hb : ∀ b ∈ l, b < 256) (hle : n ≤ cap) :
    Calls Tryd.prog 49 #[.slice sp n cap] w fun e w' => CallRP w sp n l (callR l) e w' := by
  obtain ⟨R, hR⟩ : ∃ R, R = callR l := ⟨_, rfl⟩
  rw [← hR]
  unfold callR at hR
  have hB1 : Below w.heap.size w (w.alloc (.cells #[.int .i64 0, .int .u64 0, .int .u64 0, .int .u64 0] 57)) := (Below.refl _ _).alloc (Nat.le_refl _) _
  have hb1 := World.alloc_heap_new w (.cells #[.int .i64 0, .int .u64 0, .int .u64 0, .int .u64 0] 57)
  have D := dread_any sp n cap l _ (h.below hB1) hb hle
  cases hr : readN l with
  | none =>
    have hR0 : R = none := by rw [hR]; unfold mostR; rw [hr]
    rw [hr] at D
    subst hR0
    clear hR hr
    have hB1'h := Lib.hid hB1
    have hb1'h := Lib.hid hb1
    have D'h := Lib.hid D
    have h'h := Lib.hid h
    have hb'h := Lib.hid hb
    clear hB1 hb1 D h hb
    go_enter Tryd.func49, Tryd.ntmps49
    go_wp2_with fail
    refine D'h.out.mono ?_
    rintro e w2 ⟨hB2, v, sp2, n2, cap2, rfl⟩
    have hb2 := heap_below hB2 hb1'h.out (lt_of_heap hb1'h.out)
    have hB02 := below_next hB1'h.out hB2
    clear hB2 D'h hB1'h hb1'h
    obtain ⟨z0, z1, z2, z3⟩ := cells4' hb2
    have f0 := blk_free 0 hb2
    have f1 := blk_free 1 hb2
    have f2 := blk_free 2 hb2
    have f3 := blk_free 3 hb2
    have hb2'h := Lib.hid hb2
    have hB02'h := Lib.hid hB02
    clear hb2 hB02
    go_wp2
    have hb3 := put4 hb2'h.out (.int .i64 0) (.int .u64 0) (.int .u64 0) (.int .u64 0)
    have hB03 := low4 hB02'h.out (Nat.le_refl _) (.int .i64 0) (.int .u64 0) (.int .u64 0) (.int .u64 0)
    clear z0 z1 z2 z3 f0 f1 f2 f3 hb2'h hB02'h
    generalize World.setCell _ _ _ = W3 at hb3 hB03 ⊢
    obtain ⟨d0, d1, d2, d3⟩ := cells4' hb3
    clear hb3
    refine bodyPost_ret (v := .tuple #[.agg #[.int .i64 0, .int .u64 0, .int .u64 0, .int .u64 0], .slice none 0 0, .bool false]) (by simp [results, Tryd.results49, go_sem, d0, d1, d2, d3]) rfl ⟨hB03, ⟨0, 0, 0, 0⟩, none, 0, 0, rfl⟩
  | some x =>
    obtain ⟨o, l1⟩ := x
    obtain ⟨ho64, hb1', hl1⟩ := readN_some hb hr
    rw [hr] at D
    have hm : mostR 7 l = if o ≤ 7 then some (o, l1) else none := by unfold mostR; rw [hr]
    rw [hm] at hR
    clear hm hr
    by_cases hbad : o = 0 ∨ 7 < o
    · have hR0 : R = none := by
        rw [hR]
        rcases hbad with h0 | h0
        · subst h0; rfl
        · rw [if_neg (by omega)]
      subst hR0
      clear hR
      rcases hbad with h0 | h0
      · have i1 : (o : Int) < 1 := by omega
        have hB1'h := Lib.hid hB1
        have hb1'h := Lib.hid hb1
        have D'h := Lib.hid D
        have h'h := Lib.hid h
        have hb'h := Lib.hid hb
        have ho64'h := Lib.hid ho64
        have h0'h := Lib.hid h0
        clear hB1 hb1 D h hb ho64 h0
        go_enter Tryd.func49, Tryd.ntmps49
        go_wp2_with fail
        refine D'h.out.mono ?_
        rintro e w2 ⟨hB2, sp2, cap2, rfl, -, -⟩
        have hb2 := heap_below hB2 hb1'h.out (lt_of_heap hb1'h.out)
        have hB02 := below_next hB1'h.out hB2
        clear hB2 D'h hB1'h hb1'h
        obtain ⟨z0, z1, z2, z3⟩ := cells4' hb2
        have f0 := blk_free 0 hb2
        have f1 := blk_free 1 hb2
        have f2 := blk_free 2 hb2
        have f3 := blk_free 3 hb2
        have hb2'h := Lib.hid hb2
        have hB02'h := Lib.hid hB02
        clear hb2 hB02
        go_wp2
        have hb3 := put4 hb2'h.out (.int .i64 0) (.int .u64 0) (.int .u64 0) (.int .u64 0)
        have hB03 := low4 hB02'h.out (Nat.le_refl _) (.int .i64 0) (.int .u64 0) (.int .u64 0) (.int .u64 0)
        clear z0 z1 z2 z3 f0 f1 f2 f3 hb2'h hB02'h
        generalize World.setCell _ _ _ = W3 at hb3 hB03 ⊢
        obtain ⟨d0, d1, d2, d3⟩ := cells4' hb3
        clear hb3
        refine bodyPost_ret (v := .tuple #[.agg #[.int .i64 0, .int .u64 0, .int .u64 0, .int .u64 0], .slice none 0 0, .bool false]) (by simp [results, Tryd.results49, go_sem, d0, d1, d2, d3]) rfl ⟨hB03, ⟨0, 0, 0, 0⟩, none, 0, 0, rfl⟩
      · have i1 : ¬ (o : Int) < 1 := by omega
        have i2 : (o : Int) > 7 := by omega
        have hB1'h := Lib.hid hB1
        have hb1'h := Lib.hid hb1
        have D'h := Lib.hid D
        have h'h := Lib.hid h
        have hb'h := Lib.hid hb
        have ho64'h := Lib.hid ho64
        have h0'h := Lib.hid h0
        clear hB1 hb1 D h hb ho64 h0
        go_enter Tryd.func49, Tryd.ntmps49
        go_wp2_with fail
        refine D'h.out.mono ?_
        rintro e w2 ⟨hB2, sp2, cap2, rfl, -, -⟩
        have hb2 := heap_below hB2 hb1'h.out (lt_of_heap hb1'h.out)
        have hB02 := below_next hB1'h.out hB2
        clear hB2 D'h hB1'h hb1'h
        obtain ⟨z0, z1, z2, z3⟩ := cells4' hb2
        have f0 := blk_free 0 hb2
        have f1 := blk_free 1 hb2
        have f2 := blk_free 2 hb2
        have f3 := blk_free 3 hb2
        have hb2'h := Lib.hid hb2
        have hB02'h := Lib.hid hB02
        clear hb2 hB02
        go_wp2
        have hb3 := put4 hb2'h.out (.int .i64 0) (.int .u64 0) (.int .u64 0) (.int .u64 0)
        have hB03 := low4 hB02'h.out (Nat.le_refl _) (.int .i64 0) (.int .u64 0) (.int .u64 0) (.int .u64 0)
        clear z0 z1 z2 z3 f0 f1 f2 f3 hb2'h hB02'h
        generalize World.setCell _ _ _ = W3 at hb3 hB03 ⊢
        obtain ⟨d0, d1, d2, d3⟩ := cells4' hb3
        clear hb3
        refine bodyPost_ret (v := .tuple #[.agg #[.int .i64 0, .int .u64 0, .int .u64 0, .int .u64 0], .slice none 0 0, .bool false]) (by simp [results, Tryd.results49, go_sem, d0, d1, d2, d3]) rfl ⟨hB03, ⟨0, 0, 0, 0⟩, none, 0, 0, rfl⟩
    · rw [if_pos (by omega)] at hR
      simp only at hR
      rw [if_neg (by omega)] at hR
      obtain ⟨t, ht⟩ : ∃ t : Nat, takesI (o : Int) = (t : Int) := by
        have h1 := takesI_range (o : Int)
        have : o = 1 ∨ o = 2 ∨ o = 3 ∨ o = 4 ∨ o = 5 ∨ o = 6 ∨ o = 7 := by omega
        rcases this with rfl | rfl | rfl | rfl | rfl | rfl | rfl
        · exact ⟨1, rfl⟩
        · exact ⟨2, rfl⟩
        · exact ⟨1, rfl⟩
        · exact ⟨3, rfl⟩
        · exact ⟨2, rfl⟩
        · exact ⟨0, rfl⟩
        · exact ⟨0, rfl⟩
      have ht3 : t ≤ 3 := by have := takesI_range (o : Int); omega
      have hR0 : R = wordsLeft o [] t l1 := by
        rw [hR, ht, Int.toNat_natCast]
        unfold wordsLeft
        cases readW t l1 with
        | none => rfl
        | some x => rfl
      clear hR
      have i1 : ¬ (o : Int) < 1 := by omega
      have i2 : ¬ (o : Int) > 7 := by omega
      have i3 : IntKind.i64.wrap (o : Int) = (o : Int) := Go.IntWalk.i64_in _ (by omega)
      have hB1'h := Lib.hid hB1
      have hb1'h := Lib.hid hb1
      have D'h := Lib.hid D
      have h'h := Lib.hid h
      have hb'h := Lib.hid hb
      have ho64'h := Lib.hid ho64
      have hbad'h := Lib.hid hbad
      have ht'h := Lib.hid ht
      have ht3'h := Lib.hid ht3
      have hR0'h := Lib.hid hR0
      have hb1''h := Lib.hid hb1'
      have hl1'h := Lib.hid hl1
      clear hB1 hb1 D h hb ho64 hbad ht ht3 hR0 hb1' hl1
      go_enter Tryd.func49, Tryd.ntmps49
      go_wp2_with fail
      refine D'h.out.mono ?_
      rintro e w2 ⟨hB2, sp2, cap2, rfl, hsl2, hle2⟩
      have hb2 := heap_below hB2 hb1'h.out (lt_of_heap hb1'h.out)
      have hB02 := below_next hB1'h.out hB2
      clear hB2 D'h hB1'h hb1'h
      obtain ⟨m2, hm2⟩ : ∃ m2, m2 = l1.length := ⟨_, rfl⟩
      rw [← hm2] at hsl2 hle2 ⊢
      have hb2'h := Lib.hid hb2
      have hB02'h := Lib.hid hB02
      have hsl2'h := Lib.hid hsl2
      have hle2'h := Lib.hid hle2
      have hm2'h := Lib.hid hm2
      clear hb2 hB02 hsl2 hle2 hm2
      go_upto_region 5 with fail
      have hB3 := (Below.refl w2.heap.size w2).alloc (Nat.le_refl _) (.cells #[.int .u64 0, .int .u64 0, .int .u64 0] 84)
      have hbw3 : (w2.alloc (.cells #[.int .u64 0, .int .u64 0, .int .u64 0] 84)).heap[w2.heap.size]? = some (.cells (wA []) 84 (0, 0)) := World.alloc_heap_new _ _
      have hb3 := heap_below hB3 hb2'h.out (lt_of_heap hb2'h.out)
      have hB03 := below_next hB02'h.out hB3
      have hne : w.heap.size < w2.heap.size := lt_of_heap hb2'h.out
      clear hB3 hb2'h hB02'h i1 i2
      generalize w2.heap.size = bw at hbw3 hne ⊢
      generalize w2.alloc _ = W3 at hbw3 hb3 hB03 ⊢
      have hbw3'h := Lib.hid hbw3
      have hb3'h := Lib.hid hb3
      have hB03'h := Lib.hid hB03
      have hne'h := Lib.hid hne
      clear hbw3 hb3 hB03 hne
      go_wp2_with fail
      refine (dtakes_any (o : Int) W3).mono ?_
      rintro e w4 ⟨rfl, hw4⟩
      rw [hw4, ht'h.out]
      clear hw4
      go_wp2
      go_loopg [30, 6] t (fun q ix lv wr => ∃ (k m : Nat) (sp' : Option Addr) (cap : Nat) (ws l' : List Nat), k + q = t ∧ ix = .int .i64 (k : Int) ∧ lv = .slice sp' m cap ∧ m = l'.length ∧ m ≤ cap ∧ (∀ W, Sl W sp n (u8s l) → Sl W sp' m (u8s l')) ∧ (∀ b ∈ l', b < 256) ∧ ws.length = k ∧ R = wordsLeft o ws (t - k) l' ∧
        Below w.heap.size w wr ∧ wr.heap[w.heap.size]? = some (.cells #[.int .i64 0, .int .u64 0, .int .u64 0, .int .u64 0] 57 (0, 0)) ∧ wr.heap[bw]? = some (.cells (wA ws) 84 (0, 0)))
      case atStart => exact ⟨0, m2, sp2, cap2, [], l1, by omega, rfl, rfl, hm2'h.out, hle2'h.out, hsl2'h.out, hb1''h.out, rfl, hR0'h.out, hB03'h.out, hb3'h.out, hbw3'h.out⟩
      case round =>
        obtain ⟨k, m, sp', cap, ws, l', hk, rfl, rfl, hml, hmc, hsl, hby, hwl, hR, hB, hb0, hbw⟩ := hrel
        clear hbw3'h hb3'h hB03'h
        have hne := hne'h.out
        by_cases hlt : k < t
        · have i4 : (k : Int) < (t : Int) := by omega
          have i5 : (0 : Int) ≤ (k : Int) := by omega
          have hk3 : k < 3 := by have := ht3'h.out; omega
          have i6 : (k : Int) < 3 := by omega
          obtain ⟨q, hq⟩ : ∃ q, t - k = q + 1 := ⟨t - k - 1, by omega⟩
          rw [hq] at hR
          have D := dread_any sp' m cap l' wr (hsl wr (h'h.out.below hB)) hby hmc
          cases hrd : readN l' with
          | none =>
            rw [hrd] at D
            have hR0 : R = none := by rw [hR]; exact wordsLeft_none hrd
            subst hR0
            clear hR hrd hq
            have hk'h := Lib.hid hk
            have hml'h := Lib.hid hml
            have hmc'h := Lib.hid hmc
            have hsl'h := Lib.hid hsl
            have hby'h := Lib.hid hby
            have hwl'h := Lib.hid hwl
            have hB'h := Lib.hid hB
            have hb0'h := Lib.hid hb0
            have hbw'h := Lib.hid hbw
            have D'h := Lib.hid D
            have hne'h := Lib.hid hne
            have hk3'h := Lib.hid hk3
            clear hk hml hmc hsl hby hwl hB hb0 hbw D hne hk3
            go_wp2_with fail
            refine D'h.out.mono ?_
            rintro e w5 ⟨hB5, v, sp5, n5, cap5, rfl⟩
            have hbw5 := heap_below hB5 hbw'h.out (lt_of_heap hbw'h.out)
            have hb05 := heap_below hB5 hb0'h.out (lt_of_heap hb0'h.out)
            have hB05 := below_next hB'h.out hB5
            obtain ⟨u, hu⟩ := wA_at (ws := ws) hk3'h.out
            have c1 : w5.cell? ⟨bw, k, none⟩ = some u := blk_cell hbw5 hu
            have f1 := blk_free k hbw5
            have hb2 : ∀ v, (w5.setCell ⟨bw, k, none⟩ v).heap[w.heap.size]? = some (.cells #[.int .i64 0, .int .u64 0, .int .u64 0, .int .u64 0] 57 (0, 0)) := fun v => (Below.heap_setCell _ _ _ _ (by have := hne'h.out; simp only; omega)).trans hb05
            have hB02 : ∀ v, Below w.heap.size w (w5.setCell ⟨bw, k, none⟩ v) := fun v => hB05.setCell (by have := hne'h.out; simp only; omega) v
            clear hB5 hbw5 hb05 hB05 hu D'h hbw'h hb0'h hB'h
            have hb2'h := Lib.hid hb2
            have hB02'h := Lib.hid hB02
            clear hb2 hB02
            go_upto_region 9 with fail
            have hb2 := hb2'h.out (.int .u64 v)
            have hB02 := hB02'h.out (.int .u64 v)
            clear c1 f1 hb2'h hB02'h
            generalize World.setCell _ _ _ = w6 at hb2 hB02 ⊢
            obtain ⟨z0, z1, z2, z3⟩ := cells4' hb2
            have f0 := blk_free 0 hb2
            have f1 := blk_free 1 hb2
            have f2 := blk_free 2 hb2
            have f3 := blk_free 3 hb2
            have hb2'h := Lib.hid hb2
            have hB02'h := Lib.hid hB02
            clear hb2 hB02
            go_wp2
            have hb3 := put4 hb2'h.out (.int .i64 0) (.int .u64 0) (.int .u64 0) (.int .u64 0)
            have hB03 := low4 hB02'h.out (Nat.le_refl _) (.int .i64 0) (.int .u64 0) (.int .u64 0) (.int .u64 0)
            clear z0 z1 z2 z3 f0 f1 f2 f3 hb2'h hB02'h
            generalize World.setCell _ _ _ = W3 at hb3 hB03 ⊢
            obtain ⟨d0, d1, d2, d3⟩ := cells4' hb3
            clear hb3
            refine bodyPost_ret (v := .tuple #[.agg #[.int .i64 0, .int .u64 0, .int .u64 0, .int .u64 0], .slice none 0 0, .bool false]) (by simp [results, Tryd.results49, go_sem, d0, d1, d2, d3]) rfl ⟨hB03, ⟨0, 0, 0, 0⟩, none, 0, 0, rfl⟩
          | some x =>
            obtain ⟨y, l2⟩ := x
            rw [hrd] at D
            obtain ⟨hy64, hby2, hl2⟩ := readN_some hby hrd
            have hRn : R = wordsLeft o (ws ++ [y]) (t - (k + 1)) l2 := by
              rw [hR, wordsLeft_next hrd, show t - (k + 1) = q by omega]
            clear hR hrd hq
            have hk'h := Lib.hid hk
            have hml'h := Lib.hid hml
            have hmc'h := Lib.hid hmc
            have hsl'h := Lib.hid hsl
            have hby'h := Lib.hid hby
            have hwl'h := Lib.hid hwl
            have hB'h := Lib.hid hB
            have hb0'h := Lib.hid hb0
            have hbw'h := Lib.hid hbw
            have D'h := Lib.hid D
            have hne'h := Lib.hid hne
            have hk3'h := Lib.hid hk3
            have hRn'h := Lib.hid hRn
            have hy64'h := Lib.hid hy64
            have hby2'h := Lib.hid hby2
            have hl2'h := Lib.hid hl2
            clear hk hml hmc hsl hby hwl hB hb0 hbw D hne hk3 hRn hy64 hby2 hl2
            go_wp2_with fail
            refine D'h.out.mono ?_
            rintro e w5 ⟨hB5, sp5, cap5, rfl, hsl5, hle5⟩
            have hbw5 := heap_below hB5 hbw'h.out (lt_of_heap hbw'h.out)
            have hb05 := heap_below hB5 hb0'h.out (lt_of_heap hb0'h.out)
            have hB05 := below_next hB'h.out hB5
            obtain ⟨u, hu⟩ := wA_at (ws := ws) hk3'h.out
            have c1 : w5.cell? ⟨bw, k, none⟩ = some u := blk_cell hbw5 hu
            have f1 := blk_free k hbw5
            have hb2 : (w5.setCell ⟨bw, k, none⟩ (.int .u64 (y : Int))).heap[w.heap.size]? = some (.cells #[.int .i64 0, .int .u64 0, .int .u64 0, .int .u64 0] 57 (0, 0)) := (Below.heap_setCell _ _ _ _ (by have := hne'h.out; simp only; omega)).trans hb05
            have hbw2 : (w5.setCell ⟨bw, k, none⟩ (.int .u64 (y : Int))).heap[bw]? = some (.cells (wA (ws ++ [y])) 84 (0, 0)) := by
              have := blk_set (i := k) (.int .u64 (y : Int)) hbw5
              rw [← hwl'h.out, wA_put (by rw [hwl'h.out]; exact hk3'h.out)] at this
              rw [← hwl'h.out]
              exact this
            have hB02 : Below w.heap.size w (w5.setCell ⟨bw, k, none⟩ (.int .u64 (y : Int))) := hB05.setCell (by have := hne'h.out; simp only; omega) _
            have hslN : ∀ W, Sl W sp n (u8s l) → Sl W sp5 l2.length (u8s l2) := fun W hW => hsl5 W (hsl'h.out W hW)
            clear hB5 hbw5 hb05 hB05 hu D'h hbw'h hb0'h hB'h hsl5
            obtain ⟨m2, hm2⟩ : ∃ m2, m2 = l2.length := ⟨_, rfl⟩
            rw [← hm2] at hslN hle5 ⊢
            have i7 : (k : Int) + 1 ≤ 100 := by omega
            have hb2'h := Lib.hid hb2
            have hbw2'h := Lib.hid hbw2
            have hB02'h := Lib.hid hB02
            have hslN'h := Lib.hid hslN
            have hle5'h := Lib.hid hle5
            have hm2'h := Lib.hid hm2
            clear hb2 hbw2 hB02 hslN hle5 hm2
            go_wp2
            go_roundg (gk - 1)
            case measure => have := hk'h.out; omega
            case rel => exact ⟨k + 1, m2, sp5, cap5, ws ++ [y], l2, by have := hk'h.out; omega, by go_num, rfl, hm2'h.out, hle5'h.out, hslN'h.out, hby2'h.out, by rw [List.length_append, hwl'h.out]; rfl, hRn'h.out, hB02'h.out, hb2'h.out, hbw2'h.out⟩
        · have i4 : ¬ (k : Int) < (t : Int) := by omega
          have hRn : R = some (calOf o ws, l') := by rw [hR, show t - k = 0 by omega]; exact wordsLeft_done o ws l'
          obtain ⟨z0, z1, z2, z3⟩ := cells4' hb0
          have f0 := blk_free 0 hb0
          have f1 := blk_free 1 hb0
          have f2 := blk_free 2 hb0
          have f3 := blk_free 3 hb0
          have a0 : wr.cell? ⟨bw, 0, none⟩ = some (.int .u64 (ws.getD 0 0 : Int)) := blk_cell (i := 0) hbw rfl
          have a1 : wr.cell? ⟨bw, 1, none⟩ = some (.int .u64 (ws.getD 1 0 : Int)) := blk_cell (i := 1) hbw rfl
          have a2 : wr.cell? ⟨bw, 2, none⟩ = some (.int .u64 (ws.getD 2 0 : Int)) := blk_cell (i := 2) hbw rfl
          obtain ⟨w0, hw0⟩ : ∃ w0, w0 = ws.getD 0 0 := ⟨_, rfl⟩
          obtain ⟨w1, hw1⟩ : ∃ w1, w1 = ws.getD 1 0 := ⟨_, rfl⟩
          obtain ⟨w2, hw2⟩ : ∃ w2, w2 = ws.getD 2 0 := ⟨_, rfl⟩
          rw [← hw0] at a0
          rw [← hw1] at a1
          rw [← hw2] at a2
          have hcal : calA (calOf o ws) = #[.int .i64 (o : Int), .int .u64 (w0 : Int), .int .u64 (w1 : Int), .int .u64 (w2 : Int)] := by rw [hw0, hw1, hw2]; rfl
          clear hR hk hwl hbw hw0 hw1 hw2
          have hRn'h := Lib.hid hRn
          have hb0'h := Lib.hid hb0
          have hB'h := Lib.hid hB
          have hml'h := Lib.hid hml
          have hmc'h := Lib.hid hmc
          have hsl'h := Lib.hid hsl
          have hcal'h := Lib.hid hcal
          have hby'h := Lib.hid hby
          clear hRn hb0 hB hml hmc hsl hcal hby
          go_wp2
          have hb3 := put4 hb0'h.out (.int .i64 (o : Int)) (.int .u64 (w0 : Int)) (.int .u64 (w1 : Int)) (.int .u64 (w2 : Int))
          have hB03 := low4 hB'h.out (Nat.le_refl _) (.int .i64 (o : Int)) (.int .u64 (w0 : Int)) (.int .u64 (w1 : Int)) (.int .u64 (w2 : Int))
          clear z0 z1 z2 z3 f0 f1 f2 f3 a0 a1 a2 hb0'h hB'h
          generalize World.setCell _ _ _ = W3 at hb3 hB03 ⊢
          obtain ⟨d0, d1, d2, d3⟩ := cells4' hb3
          clear hb3
          have hfin : CallRP w sp n l R (.returned (.tuple #[.agg #[.int .i64 (o : Int), .int .u64 (w0 : Int), .int .u64 (w1 : Int), .int .u64 (w2 : Int)], .slice sp' m cap, .bool true])) W3 := by
            rw [hRn'h.out]
            refine ⟨hB03, sp', cap, by rw [hcal'h.out, hml'h.out], ?_, by rw [← hml'h.out]; exact hmc'h.out⟩
            rw [← hml'h.out]
            exact hsl'h.out
          refine bodyPost_ret (v := .tuple #[.agg #[.int .i64 (o : Int), .int .u64 (w0 : Int), .int .u64 (w1 : Int), .int .u64 (w2 : Int)], .slice sp' m cap, .bool true]) (by simp [results, Tryd.results49, go_sem, d0, d1, d2, d3]) rfl hfin
end Go.Proofs.YtifofdciablljaaDoor
