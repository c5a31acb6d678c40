/-
  The document's answer for layer 3: a script is read.
-/
import Derived.Test.YtifofdciablljaaDoorDocJ
import Derived.Test.YtifofdciablljaaDoorQ7
set_option linter.unusedSimpArgs false
set_option linter.unusedVariables false
set_option maxRecDepth 100000
namespace Go.Proofs.YtifofdciablljaaDoor
open Go.RowKit

/-- What reading a script comes to. -/
def DecRP (w : World) (n0 : Nat) (R : Option (Scr × List Nat)) (e : Ending) (w' : World) : Prop := Below w.heap.size w w' ∧ match R with
  | some (s, r) => ∃ sm, e = .returned (.tuple #[.agg (smA sm), .int .i64 ((n0 : Int) - (r.length : Int)), .bool true]) ∧ SmIn w' sm ∧ sm.scr = s
  | none => e = .returned (.tuple #[.agg zeroSm, .int .i64 0, .bool false])
theorem put5' {W : World} {b : Nat} {z0 z1 z2 z3 z4 : Value} {t : TypeId} (h : W.heap[b]? = some (.cells #[z0, z1, z2, z3, z4] t (0, 0))) (v0 v1 v2 v3 v4 : Value) :
    (((((W.setCell ⟨b, 0, none⟩ v0).setCell ⟨b, 1, none⟩ v1).setCell ⟨b, 2, none⟩ v2).setCell ⟨b, 3, none⟩ v3).setCell ⟨b, 4, none⟩ v4).heap[b]? = some (.cells #[v0, v1, v2, v3, v4] t (0, 0)) :=
  blk_set (i := 4) v4 (blk_set (i := 3) v3 (blk_set (i := 2) v2 (blk_set (i := 1) v1 (blk_set (i := 0) v0 h))))
theorem low5 {B : Nat} {w W : World} {b : Nat} (h : Below B w W) (hb : B ≤ b) (v0 v1 v2 v3 v4 : Value) : Below B w (((((W.setCell ⟨b, 0, none⟩ v0).setCell ⟨b, 1, none⟩ v1).setCell ⟨b, 2, none⟩ v2).setCell ⟨b, 3, none⟩ v3).setCell ⟨b, 4, none⟩ v4) :=
  ((((h.setCell hb v0).setCell hb v1).setCell hb v2).setCell hb v3).setCell hb v4
/-- The bytes that are left, wherever they lie. -/
def LeftB (sp : Option Addr) (n : Nat) (l : List Nat) (sp' : Option Addr) (m cap : Nat) (l' : List Nat) : Prop := m = l'.length ∧ m ≤ cap ∧ (∀ W, Sl W sp n (u8s l) → Sl W sp' m (u8s l')) ∧ (∀ b ∈ l', b < 256) ∧ l'.length ≤ l.length
theorem numsLeft_start (k : Nat) (l : List Nat) : readW k l = numsLeft [] k l := by
  unfold numsLeft
  cases readW k l with
  | none => rfl
  | some x => rfl
theorem held3 {w V : World} {b5 b6 b2 : Nat} {A B : Array Value} {t t' : TypeId} (h : Below w.heap.size w V ∧ V.heap[b6]? = some (.cells A t (0, 0)) ∧ V.heap[b2]? = some (.cells B t' (0, 0))) (h5 : w.heap.size ≤ b5) (h6 : b6 ≠ b5) (h2 : b2 ≠ b5) (i : Nat) (v : Value) :
    Below w.heap.size w (V.setCell ⟨b5, i, none⟩ v) ∧ (V.setCell ⟨b5, i, none⟩ v).heap[b6]? = some (.cells A t (0, 0)) ∧ (V.setCell ⟨b5, i, none⟩ v).heap[b2]? = some (.cells B t' (0, 0)) :=
  ⟨h.1.setCell h5 v, (Below.heap_setCell _ _ _ _ h6).trans h.2.1, (Below.heap_setCell _ _ _ _ h2).trans h.2.2⟩
theorem rowsLeft_start (k : Nat) (l : List Nat) : listsD k l = rowsLeft [] k l := by
  unfold rowsLeft
  cases listsD k l with
  | none => rfl
  | some x => rfl
theorem calsLeft_start (k : Nat) (l : List Nat) : listR k l = calsLeft [] k l := by
  unfold calsLeft
  cases listR k l with
  | none => rfl
  | some x => rfl
theorem keep4 {W : World} {b b' : Nat} {o : Obj} (h : W.heap[b]? = some o) (hne : b ≠ b') (v0 v1 v2 v3 : Value) : ((((W.setCell ⟨b', 0, none⟩ v0).setCell ⟨b', 1, none⟩ v1).setCell ⟨b', 2, none⟩ v2).setCell ⟨b', 3, none⟩ v3).heap[b]? = some o :=
  (Below.heap_setCell _ _ _ _ hne).trans ((Below.heap_setCell _ _ _ _ hne).trans ((Below.heap_setCell _ _ _ _ hne).trans ((Below.heap_setCell _ _ _ _ hne).trans h)))
theorem SmOwn.cell9 {B b i : Nat} {sm : Sm} {w : World} {cs : Array Value} (h : SmOwn B sm w) (hb : w.heap[b]? = some (.cells cs 26 (0, 0))) (v : Value) : SmOwn B sm (w.setCell ⟨b, i, none⟩ v) := by
  have hgT : w.grownBy (w.setCell ⟨b, i, none⟩ v) (some b) := ⟨rfl, rfl, rfl, by simp [World.setCell], fun k hk hne => Below.heap_setCell _ _ _ _ (fun e => hne (by rw [e]))⟩
  exact ⟨ownsRow_other h.outer hgT (blk_apart h.outer hb (by decide)), fun r hr => ownsRow_other (h.inner r hr) hgT (blk_apart (h.inner r hr) hb (by decide)), ownsRow_other h.picks hgT (blk_apart h.picks hb (by decide))⟩
theorem SmOwn.put5 {B b : Nat} {sm : Sm} {W : World} {z0 z1 z2 z3 z4 : Value} (h : SmOwn B sm W) (hb : W.heap[b]? = some (.cells #[z0, z1, z2, z3, z4] 26 (0, 0))) (v0 v1 v2 v3 v4 : Value) :
    SmOwn B sm (((((W.setCell ⟨b, 0, none⟩ v0).setCell ⟨b, 1, none⟩ v1).setCell ⟨b, 2, none⟩ v2).setCell ⟨b, 3, none⟩ v3).setCell ⟨b, 4, none⟩ v4) :=
  ((((h.cell9 hb v0).cell9 (blk_set (i := 0) v0 hb) v1).cell9 (blk_set (i := 1) v1 (blk_set (i := 0) v0 hb)) v2).cell9 (blk_set (i := 2) v2 (blk_set (i := 1) v1 (blk_set (i := 0) v0 hb))) v3).cell9 (blk_set (i := 3) v3 (blk_set (i := 2) v2 (blk_set (i := 1) v1 (blk_set (i := 0) v0 hb)))) v4
theorem three_of {ws : List Nat} (h : ws.length = 3) : ∃ a b c, ws = [a, b, c] := by
  match ws, h with
  | [a, b, c], _ => exact ⟨a, b, c, rfl⟩
set_option maxHeartbeats 16000000 in
theorem ddecode_any (sp : Option Addr) (n cap : Nat) (l : List Nat) (w : World) (h : Sl w sp n (u8s l)) (hb : ∀ b ∈ l, b < 256) (hle : n ≤ cap) :
    Calls Tryd.prog 27 #[.slice sp n cap] w fun e w' => DecRP w n (decD l) e w' := by
  obtain ⟨R, hR⟩ : ∃ R, R = decD l := ⟨_, rfl⟩
  rw [← hR]
  unfold decD at hR
  have hnl : n = l.length := by have := h.1; rw [u8s_length] at this; exact this
  have hmax := h.2.1
  obtain ⟨W3, hW3⟩ : ∃ W3, W3 = ((w.alloc (.cells #[.int .i64 0, .int .i64 0, .int .u64 0, .slice none 0 0, .slice none 0 0] 26)).alloc (.cells #[.int .i64 0, .int .i64 0, .int .u64 0, .slice none 0 0, .slice none 0 0] 26)).alloc (.cells #[.int .u64 0, .int .u64 0, .int .u64 0] 84) := ⟨_, rfl⟩
  have H := (((Hs.nil w).new #[.int .i64 0, .int .i64 0, .int .u64 0, .slice none 0 0, .slice none 0 0] 26).new #[.int .i64 0, .int .i64 0, .int .u64 0, .slice none 0 0, .slice none 0 0] 26).new #[.int .u64 0, .int .u64 0, .int .u64 0] 84
  rw [← hW3] at H
  simp only [World.size_alloc] at H
  have hlow3 : Below w.heap.size w W3 := H.old
  have hb6 : W3.heap[w.heap.size + 1 + 1]? = some (.cells (wA []) 84 (0, 0)) := H.rows.1
  have hb5 : W3.heap[w.heap.size + 1]? = some (.cells #[.int .i64 0, .int .i64 0, .int .u64 0, .slice none 0 0, .slice none 0 0] 26 (0, 0)) := H.rows.2.1
  have hres : W3.heap[w.heap.size]? = some (.cells #[.int .i64 0, .int .i64 0, .int .u64 0, .slice none 0 0, .slice none 0 0] 26 (0, 0)) := H.rows.2.2.1
  have hL0 : LeftB sp n l sp n cap l := ⟨hnl, hle, fun W hW => hW, hb, Nat.le_refl _⟩
  clear H hle hb
  have h'h := Lib.hid h
  have hR'h := Lib.hid hR
  have hnl'h := Lib.hid hnl
  have hmax'h := Lib.hid hmax
  have hlow3'h := Lib.hid hlow3
  have hb6'h := Lib.hid hb6
  have hb5'h := Lib.hid hb5
  have hres'h := Lib.hid hres
  have hL0'h := Lib.hid hL0
  clear h hR hnl hmax hlow3 hb6 hb5 hres hL0
  go_enter Tryd.func27, Tryd.ntmps27
  go_upto_region 3 with fail
  change Code.wp _ _ _ _ (((w.alloc (.cells #[.int .i64 0, .int .i64 0, .int .u64 0, .slice none 0 0, .slice none 0 0] 26)).alloc (.cells #[.int .i64 0, .int .i64 0, .int .u64 0, .slice none 0 0, .slice none 0 0] 26)).alloc (.cells #[.int .u64 0, .int .u64 0, .int .u64 0] 84))
  rw [← hW3]
  clear hW3
  go_wp2
  go_loopg [16, 7] 3 (fun q ix lv wr => ∃ (k m : Nat) (sp' : Option Addr) (cap : Nat) (ws l' : List Nat), k + q = 3 ∧ ix = .int .i64 (k : Int) ∧ lv = .slice sp' m cap ∧ LeftB sp n l sp' m cap l' ∧ ws.length = k ∧ (∀ x ∈ ws, x < 2 ^ 64) ∧ readW 3 l = numsLeft ws (3 - k) l' ∧
    Below w.heap.size w wr ∧ wr.heap[w.heap.size]? = some (.cells #[.int .i64 0, .int .i64 0, .int .u64 0, .slice none 0 0, .slice none 0 0] 26 (0, 0)) ∧ wr.heap[w.heap.size + 1]? = some (.cells #[.int .i64 0, .int .i64 0, .int .u64 0, .slice none 0 0, .slice none 0 0] 26 (0, 0)) ∧
    wr.heap[w.heap.size + 1 + 1]? = some (.cells (wA ws) 84 (0, 0)))
  case atStart => exact ⟨0, n, sp, cap, [], l, by omega, rfl, rfl, hL0'h.out, rfl, (fun x hx => by cases hx), numsLeft_start 3 l, hlow3'h.out, hres'h.out, hb5'h.out, hb6'h.out⟩
  case round =>
    obtain ⟨k, m, sp', cap', ws, l', hk, rfl, rfl, hL, hwl, hw64, hRW, hlow, hres, hb5, hb6⟩ := hrel
    clear hlow3'h hres'h hb5'h hb6'h hL0'h
    by_cases hlt : k < 3
    · have i4 : (k : Int) < 3 := by omega
      have i5 : (0 : Int) ≤ (k : Int) := by omega
      obtain ⟨q, hq⟩ : ∃ q, 3 - k = q + 1 := ⟨3 - k - 1, by omega⟩
      rw [hq] at hRW
      have D := dread_any sp' m cap' l' wr (hL.2.2.1 wr (h'h.out.below hlow)) hL.2.2.2.1 hL.2.1
      obtain ⟨u, hu⟩ := wA_at (ws := ws) hlt
      cases hrd : readN l' with
      | none =>
        rw [hrd] at D
        have hR0 : R = none := by rw [hR'h.out, hRW, numsLeft_none hrd]
        subst hR0
        clear hRW hrd hq hR'h
        have hk'h := Lib.hid hk
        have hL'h := Lib.hid hL
        have hwl'h := Lib.hid hwl
        have hw64'h := Lib.hid hw64
        have hlow'h := Lib.hid hlow
        have hres'h := Lib.hid hres
        have hb5'h := Lib.hid hb5
        have hb6'h := Lib.hid hb6
        have D'h := Lib.hid D
        have hu'h := Lib.hid hu
        clear hk hL hwl hw64 hlow hres hb5 hb6 D hu
        go_wp2_with fail
        refine D'h.out.mono ?_
        rintro e w5 ⟨hB5, v, sp5, n5, cap5, rfl⟩
        have hb65 := heap_below hB5 hb6'h.out (lt_of_heap hb6'h.out)
        have hres5 := heap_below hB5 hres'h.out (lt_of_heap hres'h.out)
        have hlow5 := below_next hlow'h.out hB5
        have c1 : w5.cell? ⟨w.heap.size + 1 + 1, k, none⟩ = some u := blk_cell hb65 hu'h.out
        have f9 := blk_free k hb65
        have hres : (w5.setCell ⟨w.heap.size + 1 + 1, k, none⟩ (.int .u64 v)).heap[w.heap.size]? = some (.cells #[.int .i64 0, .int .i64 0, .int .u64 0, .slice none 0 0, .slice none 0 0] 26 (0, 0)) := (Below.heap_setCell _ _ _ _ (by simp only; omega)).trans hres5
        have hlow : Below w.heap.size w (w5.setCell ⟨w.heap.size + 1 + 1, k, none⟩ (.int .u64 v)) := hlow5.setCell (by simp only; omega) _
        clear hB5 hb65 hres5 hlow5 D'h hb6'h hres'h hlow'h hb5'h
        go_upto_region 8 with fail
        clear c1 f9
        generalize World.setCell _ _ _ = w6 at hres hlow ⊢
        obtain ⟨z0, z1, z2, z3, z4⟩ := cells5' hres
        have f0 := blk_free 0 hres
        have f1 := blk_free 1 hres
        have f2 := blk_free 2 hres
        have f3 := blk_free 3 hres
        have f4 := blk_free 4 hres
        have hres'h := Lib.hid hres
        have hlow'h := Lib.hid hlow
        clear hres hlow
        go_wp2
        have hb3 := put5' hres'h.out (.int .i64 0) (.int .i64 0) (.int .u64 0) (.slice none 0 0) (.slice none 0 0)
        have hB03 := low5 hlow'h.out (Nat.le_refl _) (.int .i64 0) (.int .i64 0) (.int .u64 0) (.slice none 0 0) (.slice none 0 0)
        clear z0 z1 z2 z3 z4 f0 f1 f2 f3 f4 hres'h hlow'h
        generalize World.setCell _ _ _ = W7 at hb3 hB03 ⊢
        obtain ⟨d0, d1, d2, d3, d4⟩ := cells5' hb3
        clear hb3
        refine bodyPost_ret (v := .tuple #[.agg #[.int .i64 0, .int .i64 0, .int .u64 0, .slice none 0 0, .slice none 0 0], .int .i64 0, .bool false]) (by simp [results, Tryd.results27, go_sem, d0, d1, d2, d3, d4]) rfl ⟨hB03, rfl⟩
      | some x =>
        obtain ⟨y, l2⟩ := x
        rw [hrd] at D
        obtain ⟨hy64, hby2, hl2⟩ := readN_some hL.2.2.2.1 hrd
        have hRn : readW 3 l = numsLeft (ws ++ [y]) (3 - (k + 1)) l2 := by
          rw [hRW, numsLeft_next hrd, show 3 - (k + 1) = q by omega]
        have hwn : ∀ x ∈ ws ++ [y], x < 2 ^ 64 := fun x hx => by
          rcases List.mem_append.1 hx with hx | hx
          · exact hw64 x hx
          · obtain rfl : x = y := by simpa using hx
            exact hy64
        clear hRW hrd hq
        have hk'h := Lib.hid hk
        have hL'h := Lib.hid hL
        have hwl'h := Lib.hid hwl
        have hw64'h := Lib.hid hw64
        have hlow'h := Lib.hid hlow
        have hres'h := Lib.hid hres
        have hb5'h := Lib.hid hb5
        have hb6'h := Lib.hid hb6
        have D'h := Lib.hid D
        have hu'h := Lib.hid hu
        have hRn'h := Lib.hid hRn
        have hwn'h := Lib.hid hwn
        have hby2'h := Lib.hid hby2
        have hl2'h := Lib.hid hl2
        have hy64'h := Lib.hid hy64
        clear hk hL hwl hw64 hlow hres hb5 hb6 D hu hRn hwn hby2 hl2 hy64
        go_wp2_with fail
        refine D'h.out.mono ?_
        rintro e w5 ⟨hB5, sp5, cap5, rfl, hsl5, hle5⟩
        have hb65 := heap_below hB5 hb6'h.out (lt_of_heap hb6'h.out)
        have hb55 := heap_below hB5 hb5'h.out (lt_of_heap hb5'h.out)
        have hres5 := heap_below hB5 hres'h.out (lt_of_heap hres'h.out)
        have hlow5 := below_next hlow'h.out hB5
        have c1 : w5.cell? ⟨w.heap.size + 1 + 1, k, none⟩ = some u := blk_cell hb65 hu'h.out
        have f9 := blk_free k hb65
        have hres : (w5.setCell ⟨w.heap.size + 1 + 1, k, none⟩ (.int .u64 (y : Int))).heap[w.heap.size]? = some (.cells #[.int .i64 0, .int .i64 0, .int .u64 0, .slice none 0 0, .slice none 0 0] 26 (0, 0)) := (Below.heap_setCell _ _ _ _ (by simp only; omega)).trans hres5
        have hb5 : (w5.setCell ⟨w.heap.size + 1 + 1, k, none⟩ (.int .u64 (y : Int))).heap[w.heap.size + 1]? = some (.cells #[.int .i64 0, .int .i64 0, .int .u64 0, .slice none 0 0, .slice none 0 0] 26 (0, 0)) := (Below.heap_setCell _ _ _ _ (by simp only; omega)).trans hb55
        have hlow : Below w.heap.size w (w5.setCell ⟨w.heap.size + 1 + 1, k, none⟩ (.int .u64 (y : Int))) := hlow5.setCell (by simp only; omega) _
        have hb6 : (w5.setCell ⟨w.heap.size + 1 + 1, k, none⟩ (.int .u64 (y : Int))).heap[w.heap.size + 1 + 1]? = some (.cells (wA (ws ++ [y])) 84 (0, 0)) := by
          have := blk_set (i := k) (.int .u64 (y : Int)) hb65
          rw [← hwl'h.out, wA_put (by rw [hwl'h.out]; exact hlt)] at this
          rw [← hwl'h.out]
          exact this
        obtain ⟨m2, hm2⟩ : ∃ m2, m2 = l2.length := ⟨_, rfl⟩
        have hLn : LeftB sp n l sp5 m2 cap5 l2 := by
          rw [← hm2] at hsl5 hle5
          exact ⟨hm2, hle5, fun W hW => hsl5 W (hL'h.out.2.2.1 W hW), hby2'h.out, Nat.le_trans hl2'h.out hL'h.out.2.2.2.2⟩
        rw [← hm2]
        have i7 : (k : Int) + 1 ≤ 100 := by omega
        clear hB5 hb65 hb55 hres5 hlow5 D'h hb6'h hres'h hlow'h hb5'h hsl5 hle5 hm2 hu'h
        have hres'h := Lib.hid hres
        have hb5'h := Lib.hid hb5
        have hlow'h := Lib.hid hlow
        have hb6'h := Lib.hid hb6
        have hLn'h := Lib.hid hLn
        clear hres hb5 hlow hb6 hLn
        go_wp2
        go_roundg (gk - 1)
        case measure => have := hk'h.out; omega
        case rel => exact ⟨k + 1, m2, sp5, cap5, ws ++ [y], l2, by have := hk'h.out; omega, by go_num, rfl, hLn'h.out, by rw [List.length_append, hwl'h.out]; rfl, hwn'h.out, hRn'h.out, hlow'h.out, hres'h.out, hb5'h.out, hb6'h.out⟩
    · have i4 : ¬ (k : Int) < 3 := by omega
      obtain ⟨g, sb, seed, rfl⟩ := three_of (ws := ws) (by omega)
      rw [show 3 - k = 0 by omega, numsLeft_done] at hRW
      have hR := hR'h.out
      rw [hRW] at hR
      simp only at hR
      have hg64 := hw64 g (by simp)
      have hs64 := hw64 sb (by simp)
      have hseed := hw64 seed (by simp)
      have a0 : wr.cell? ⟨w.heap.size + 1 + 1, 0, none⟩ = some (.int .u64 (g : Int)) := blk_cell (i := 0) hb6 rfl
      have a1 : wr.cell? ⟨w.heap.size + 1 + 1, 1, none⟩ = some (.int .u64 (sb : Int)) := blk_cell (i := 1) hb6 rfl
      have a2 : wr.cell? ⟨w.heap.size + 1 + 1, 2, none⟩ = some (.int .u64 (seed : Int)) := blk_cell (i := 2) hb6 rfl
      clear hR'h hRW hw64 hwl hk
      by_cases hok : 1 ≤ g ∧ g ≤ 8 ∧ 2 ≤ sb ∧ sb ≤ 128
      · rw [if_pos hok] at hR
        have g1 : ¬ (g : Int) < 1 := by omega
        have g2 : ¬ (g : Int) > 8 := by omega
        have g3 : ¬ (sb : Int) < 2 := by omega
        have g4 : ¬ (sb : Int) > 128 := by omega
        have q1 : IntKind.i64.wrap (g : Int) = (g : Int) := Go.IntWalk.i64_in _ (by omega)
        have q2 : IntKind.i64.wrap (sb : Int) = (sb : Int) := Go.IntWalk.i64_in _ (by omega)
        clear i4
        have hR'h := Lib.hid hR
        have hg64'h := Lib.hid hg64
        have hs64'h := Lib.hid hs64
        have hseed'h := Lib.hid hseed
        have hok'h := Lib.hid hok
        have hL'h := Lib.hid hL
        have hlow'h := Lib.hid hlow
        have hres'h := Lib.hid hres
        have hb5'h := Lib.hid hb5
        have hb6'h := Lib.hid hb6
        clear hR hg64 hs64 hseed hok hL hlow hres hb5 hb6
        go_upto_region 13 with fail
        clear g1 g2 g3 g4 a0 a1 a2
        refine wp_region_heldF (fun w' => Below w.heap.size w w' ∧ w'.heap[w.heap.size + 1 + 1]? = some (.cells #[.int .u64 (g : Int), .int .u64 (sb : Int), .int .u64 (seed : Int)] 84 (0, 0)) ∧ w'.heap[w.heap.size]? = some (.cells #[.int .i64 0, .int .i64 0, .int .u64 0, .slice none 0 0, .slice none 0 0] 26 (0, 0))) 99 (by kernel_rfl) ?_
        have R0 : Below w.heap.size w wr.drew ∧ wr.drew.heap[w.heap.size + 1 + 1]? = some (.cells #[.int .u64 (g : Int), .int .u64 (sb : Int), .int .u64 (seed : Int)] 84 (0, 0)) ∧ wr.drew.heap[w.heap.size]? = some (.cells #[.int .i64 0, .int .i64 0, .int .u64 0, .slice none 0 0, .slice none 0 0] 26 (0, 0)) := ⟨hlow'h.out.drew, hb6'h.out, hres'h.out⟩
        have hb5 : wr.drew.heap[w.heap.size + 1]? = some (.cells #[.int .i64 0, .int .i64 0, .int .u64 0, .slice none 0 0, .slice none 0 0] 26 (0, 0)) := hb5'h.out
        clear hlow'h hb6'h hres'h hb5'h
        generalize wr.drew = V0 at R0 hb5 ⊢
        refine wpAnyF_take (i := 0) (v := .pointer (some ⟨w.heap.size + 1 + 1, 0, none⟩)) rfl (by kernel_rfl) (by kernel_rfl) (by kernel_rfl) (by kernel_rfl) (fun _ _ _ h => h) (Or.inl ⟨by kernel_rfl, fun w hSw => by (try dsimp only at hSw); go_simp⟩) R0 ?_; try simp only [Act.put, List.getElem_toArray, List.getElem_cons_succ, List.getElem_cons_zero, List.setIfInBounds_toArray, List.set_cons_zero, List.set_cons_succ]
        refine wpAnyF_take (i := 1) (v := .int .u64 (g : Int)) rfl (by kernel_rfl) (by kernel_rfl) (by kernel_rfl) (by kernel_rfl) (fun _ _ _ h => h) (Or.inl ⟨by kernel_rfl, fun w hSw => by have hcc := blk_cell (i := 0) hSw.2.1 rfl; (try dsimp only at hSw); go_simp⟩) R0 ?_; try simp only [Act.put, List.getElem_toArray, List.getElem_cons_succ, List.getElem_cons_zero, List.setIfInBounds_toArray, List.set_cons_zero, List.set_cons_succ]
        refine wpAnyF_take (i := 2) (v := .int .i64 (g : Int)) rfl (by kernel_rfl) (by kernel_rfl) (by kernel_rfl) (by kernel_rfl) (fun _ _ _ h => h) (Or.inl ⟨by kernel_rfl, fun w hSw => by (try dsimp only at hSw); go_simp⟩) R0 ?_; try simp only [Act.put, List.getElem_toArray, List.getElem_cons_succ, List.getElem_cons_zero, List.setIfInBounds_toArray, List.set_cons_zero, List.set_cons_succ]
        refine wpAnyF_take (i := 3) (v := .pointer (some ⟨w.heap.size + 1 + 1, 1, none⟩)) rfl (by kernel_rfl) (by kernel_rfl) (by kernel_rfl) (by kernel_rfl) (fun _ _ _ h => h) (Or.inl ⟨by kernel_rfl, fun w hSw => by (try dsimp only at hSw); go_simp⟩) R0 ?_; try simp only [Act.put, List.getElem_toArray, List.getElem_cons_succ, List.getElem_cons_zero, List.setIfInBounds_toArray, List.set_cons_zero, List.set_cons_succ]
        refine wpAnyF_take (i := 4) (v := .int .u64 (sb : Int)) rfl (by kernel_rfl) (by kernel_rfl) (by kernel_rfl) (by kernel_rfl) (fun _ _ _ h => h) (Or.inl ⟨by kernel_rfl, fun w hSw => by have hcc := blk_cell (i := 1) hSw.2.1 rfl; (try dsimp only at hSw); go_simp⟩) R0 ?_; try simp only [Act.put, List.getElem_toArray, List.getElem_cons_succ, List.getElem_cons_zero, List.setIfInBounds_toArray, List.set_cons_zero, List.set_cons_succ]
        refine wpAnyF_take (i := 5) (v := .int .i64 (sb : Int)) rfl (by kernel_rfl) (by kernel_rfl) (by kernel_rfl) (by kernel_rfl) (fun _ _ _ h => h) (Or.inl ⟨by kernel_rfl, fun w hSw => by (try dsimp only at hSw); go_simp⟩) R0 ?_; try simp only [Act.put, List.getElem_toArray, List.getElem_cons_succ, List.getElem_cons_zero, List.setIfInBounds_toArray, List.set_cons_zero, List.set_cons_succ]
        refine wpAnyF_take (i := 6) (v := .pointer (some ⟨w.heap.size + 1 + 1, 2, none⟩)) rfl (by kernel_rfl) (by kernel_rfl) (by kernel_rfl) (by kernel_rfl) (fun _ _ _ h => h) (Or.inl ⟨by kernel_rfl, fun w hSw => by (try dsimp only at hSw); go_simp⟩) R0 ?_; try simp only [Act.put, List.getElem_toArray, List.getElem_cons_succ, List.getElem_cons_zero, List.setIfInBounds_toArray, List.set_cons_zero, List.set_cons_succ]
        refine wpAnyF_take (i := 7) (v := .int .u64 (seed : Int)) rfl (by kernel_rfl) (by kernel_rfl) (by kernel_rfl) (by kernel_rfl) (fun _ _ _ h => h) (Or.inl ⟨by kernel_rfl, fun w hSw => by have hcc := blk_cell (i := 2) hSw.2.1 rfl; (try dsimp only at hSw); go_simp⟩) R0 ?_; try simp only [Act.put, List.getElem_toArray, List.getElem_cons_succ, List.getElem_cons_zero, List.setIfInBounds_toArray, List.set_cons_zero, List.set_cons_succ]
        refine wpAnyF_take (i := 8) (v := .pointer (some ⟨w.heap.size + 1, 0, none⟩)) rfl (by kernel_rfl) (by kernel_rfl) (by kernel_rfl) (by kernel_rfl) (fun _ _ _ h => h) (Or.inl ⟨by kernel_rfl, fun w hSw => by (try dsimp only at hSw); go_simp⟩) R0 ?_; try simp only [Act.put, List.getElem_toArray, List.getElem_cons_succ, List.getElem_cons_zero, List.setIfInBounds_toArray, List.set_cons_zero, List.set_cons_succ]
        obtain ⟨z0, z1, z2, z3, z4⟩ := cells5' hb5
        have f0 := blk_free 0 hb5
        refine wpAnyF_one (i := 9) (by kernel_rfl) rfl (fun K hK => ?_); go_simp
        have hb5a : (V0.setCell ⟨w.heap.size + 1, 0, none⟩ (.int .i64 (g : Int))).heap[w.heap.size + 1]? = some (.cells #[.int .i64 (g : Int), .int .i64 0, .int .u64 0, .slice none 0 0, .slice none 0 0] 26 (0, 0)) := blk_set (i := 0) _ hb5
        have R1 := held3 (b5 := w.heap.size + 1) R0 (by omega) (by omega) (by omega) 0 (.int .i64 (g : Int))
        clear z0 z1 z2 z3 z4 f0 hb5 R0
        refine hK.out _ _ (fun _ => R1) ?_; clear hK K; try simp only [Act.put, List.getElem_toArray, List.getElem_cons_succ, List.getElem_cons_zero, List.setIfInBounds_toArray, List.set_cons_zero, List.set_cons_succ]
        generalize World.setCell _ _ _ = V1 at hb5a R1 ⊢
        refine wpAnyF_take (i := 10) (v := .pointer (some ⟨w.heap.size + 1, 1, none⟩)) rfl (by kernel_rfl) (by kernel_rfl) (by kernel_rfl) (by kernel_rfl) (fun _ _ _ h => h) (Or.inl ⟨by kernel_rfl, fun w hSw => by (try dsimp only at hSw); go_simp⟩) R1 ?_; try simp only [Act.put, List.getElem_toArray, List.getElem_cons_succ, List.getElem_cons_zero, List.setIfInBounds_toArray, List.set_cons_zero, List.set_cons_succ]
        obtain ⟨z0, z1, z2, z3, z4⟩ := cells5' hb5a
        have f1 := blk_free 1 hb5a
        refine wpAnyF_one (i := 11) (by kernel_rfl) rfl (fun K hK => ?_); go_simp
        have hb5b : (V1.setCell ⟨w.heap.size + 1, 1, none⟩ (.int .i64 (sb : Int))).heap[w.heap.size + 1]? = some (.cells #[.int .i64 (g : Int), .int .i64 (sb : Int), .int .u64 0, .slice none 0 0, .slice none 0 0] 26 (0, 0)) := blk_set (i := 1) _ hb5a
        have R2 := held3 (b5 := w.heap.size + 1) R1 (by omega) (by omega) (by omega) 1 (.int .i64 (sb : Int))
        clear z0 z1 z2 z3 z4 f1 hb5a R1
        refine hK.out _ _ (fun _ => R2) ?_; clear hK K; try simp only [Act.put, List.getElem_toArray, List.getElem_cons_succ, List.getElem_cons_zero, List.setIfInBounds_toArray, List.set_cons_zero, List.set_cons_succ]
        generalize World.setCell _ _ _ = V2 at hb5b R2 ⊢
        refine wpAnyF_take (i := 12) (v := .pointer (some ⟨w.heap.size + 1, 2, none⟩)) rfl (by kernel_rfl) (by kernel_rfl) (by kernel_rfl) (by kernel_rfl) (fun _ _ _ h => h) (Or.inl ⟨by kernel_rfl, fun w hSw => by (try dsimp only at hSw); go_simp⟩) R2 ?_; try simp only [Act.put, List.getElem_toArray, List.getElem_cons_succ, List.getElem_cons_zero, List.setIfInBounds_toArray, List.set_cons_zero, List.set_cons_succ]
        obtain ⟨z0, z1, z2, z3, z4⟩ := cells5' hb5b
        have f2 := blk_free 2 hb5b
        refine wpAnyF_one (i := 13) (by kernel_rfl) rfl (fun K hK => ?_); go_simp
        have hb5c : (V2.setCell ⟨w.heap.size + 1, 2, none⟩ (.int .u64 (seed : Int))).heap[w.heap.size + 1]? = some (.cells #[.int .i64 (g : Int), .int .i64 (sb : Int), .int .u64 (seed : Int), .slice none 0 0, .slice none 0 0] 26 (0, 0)) := blk_set (i := 2) _ hb5b
        have R3 := held3 (b5 := w.heap.size + 1) R2 (by omega) (by omega) (by omega) 2 (.int .u64 (seed : Int))
        clear z0 z1 z2 z3 z4 f2 hb5b R2
        refine hK.out _ _ (fun _ => R3) ?_; clear hK K; try simp only [Act.put, List.getElem_toArray, List.getElem_cons_succ, List.getElem_cons_zero, List.setIfInBounds_toArray, List.set_cons_zero, List.set_cons_succ]
        generalize World.setCell _ _ _ = V3 at hb5c R3 ⊢
        refine wpAnyF_done (by kernel_rfl) ?_ _
        obtain ⟨hlow, -, hres⟩ := R3
        clear q1 q2
        have hI0 : OutI w (w.heap.size + 1) (.int .i64 (g : Int)) (.int .i64 (sb : Int)) (.int .u64 (seed : Int)) (.slice none 0 0) (.slice none 0 0) [] [] V3 :=
          ⟨hlow, hb5c, by omega, ⟨rfl, .inl ⟨rfl, rfl⟩⟩, fun r hr => by simp at hr, fun r hr => by simp at hr, ⟨rfl, .inl ⟨rfl, rfl⟩⟩⟩
        clear hlow hb5c
        have hI0'h := Lib.hid hI0
        have hres'h := Lib.hid hres
        clear hI0 hres
        have x0 : V3.cell? ⟨w.heap.size + 1, 0, none⟩ = some (.int .i64 (g : Int)) := blk_cell (i := 0) hI0'h.out.blk rfl
        obtain ⟨i9, hi9, hz9, hs9, hby9⟩ := info_parts info_lst
        obtain ⟨i8, hi8, hz8, hs8, hby8⟩ := info_calp
        obtain ⟨i7, hi7, hz7, hs7, hby7⟩ := info_parts info_clone64
        obtain ⟨l3, hl3⟩ : ∃ l3, l3 = l' := ⟨_, rfl⟩
        rw [← hl3] at hR'h
        have hRW0 := rowsLeft_start g l3
        have hl3'h := Lib.hid hl3
        have hRW0'h := Lib.hid hRW0
        clear hl3 hRW0
        go_wp2
        go_loopg [63, 7] g (fun q ix lv wr => ∃ (j m : Nat) (sp' : Option Addr) (cap : Nat) (outs : List CRow) (rv : Value) (l' : List Nat), j + q = g ∧ ix = .int .i64 (j : Int) ∧ lv = .slice sp' m cap ∧ LeftB sp n l sp' m cap l' ∧ outs.length = j ∧ OutI w (w.heap.size + 1) (.int .i64 (g : Int)) (.int .i64 (sb : Int)) (.int .u64 (seed : Int)) rv (.slice none 0 0) outs [] wr ∧
          wr.heap[w.heap.size]? = some (.cells #[.int .i64 0, .int .i64 0, .int .u64 0, .slice none 0 0, .slice none 0 0] 26 (0, 0)) ∧ listsD g l3 = rowsLeft (outs.map (·.cs)) (g - j) l')
        case atStart => exact ⟨0, m, sp', cap', [], _, l', by omega, rfl, rfl, hL'h.out, rfl, hI0'h.out, hres'h.out, by rw [← hl3'h.out]; exact hRW0'h.out⟩
        case round =>
          clear hL'h hI0'h hres'h hRW0'h hl3'h x0
          obtain ⟨j, m, sp', cap', outs, rv, l', hj, rfl, rfl, hL, hol, hI, hres, hRW⟩ := hrel
          obtain ⟨gj, rfl⟩ : ∃ gj : Nat, gj = gk := ⟨_, rfl⟩
          obtain ⟨rp, rc, rfl⟩ := row_slice' hI.outer
          by_cases hlt : j < g
          · have i1 : (j : Int) < (g : Int) := by omega
            have i3 : (j : Int) + 1 ≤ 1000 := by have := hok'h.out; omega
            obtain ⟨qq, hqq⟩ : ∃ qq, g - j = qq + 1 := ⟨g - j - 1, by omega⟩
            rw [hqq] at hRW
            have D := dread_any sp' m cap' l' wr (hL.2.2.1 wr (h'h.out.below hI.low)) hL.2.2.2.1 hL.2.1
            cases hrd : readN l' with
            | none =>
              rw [hrd] at D
              have hR0 : R = none := by
                rw [hR'h.out, hRW, rowsLeft_most (by unfold mostR; rw [hrd])]
              subst hR0
              clear hRW hrd hqq hR'h
              have hj'h := Lib.hid hj
              have hL'h := Lib.hid hL
              have hol'h := Lib.hid hol
              have hI'h := Lib.hid hI
              have hres'h := Lib.hid hres
              have D'h := Lib.hid D
              clear hj hL hol hI hres D
              go_wp2_with fail
              refine D'h.out.mono ?_
              rintro e w5 ⟨hB5, v, sp5, n5, cap5, rfl⟩
              have hres := heap_below hB5 hres'h.out (lt_of_heap hres'h.out)
              have hlow := below_next hI'h.out.low hB5
              clear hB5 D'h hI'h hres'h
              obtain ⟨z0, z1, z2, z3, z4⟩ := cells5' hres
              have f0 := blk_free 0 hres
              have f1 := blk_free 1 hres
              have f2 := blk_free 2 hres
              have f3 := blk_free 3 hres
              have f4 := blk_free 4 hres
              have hres'h := Lib.hid hres
              have hlow'h := Lib.hid hlow
              clear hres hlow
              go_wp2
              have hb3 := put5' hres'h.out (.int .i64 0) (.int .i64 0) (.int .u64 0) (.slice none 0 0) (.slice none 0 0)
              have hB03 := low5 hlow'h.out (Nat.le_refl _) (.int .i64 0) (.int .i64 0) (.int .u64 0) (.slice none 0 0) (.slice none 0 0)
              clear z0 z1 z2 z3 z4 f0 f1 f2 f3 f4 hres'h hlow'h
              generalize World.setCell _ _ _ = W7 at hb3 hB03 ⊢
              obtain ⟨d0, d1, d2, d3, d4⟩ := cells5' hb3
              clear hb3
              refine bodyPost_ret (v := .tuple #[.agg #[.int .i64 0, .int .i64 0, .int .u64 0, .slice none 0 0, .slice none 0 0], .int .i64 0, .bool false]) (by simp [results, Tryd.results27, go_sem, d0, d1, d2, d3, d4]) rfl ⟨hB03, rfl⟩
            | some x =>
              obtain ⟨y, l2⟩ := x
              rw [hrd] at D
              obtain ⟨hy64, hby2, hl2⟩ := readN_some hL.2.2.2.1 hrd
              by_cases hy : y ≤ 64
              · have hm64 : mostR 64 l' = some (y, l2) := by unfold mostR; rw [hrd]; simp only; rw [if_pos hy]
                have g1 : ¬ (y : Int) > 64 := by omega
                have hRWn := fun cs r => rowsLeft_next (ls := outs.map (·.cs)) (k := qq) hm64 (cs := cs) (l2 := r)
                have hRW0 := rowsLeft_none (ls := outs.map (·.cs)) (k := qq) hm64
                clear hrd hm64
                have hj'h := Lib.hid hj
                have hL'h := Lib.hid hL
                have hol'h := Lib.hid hol
                have hI'h := Lib.hid hI
                have hres'h := Lib.hid hres
                have D'h := Lib.hid D
                have hy'h := Lib.hid hy
                have hy64'h := Lib.hid hy64
                have hby2'h := Lib.hid hby2
                have hl2'h := Lib.hid hl2
                have hRW'h := Lib.hid hRW
                have hRWn'h := Lib.hid hRWn
                have hRW0'h := Lib.hid hRW0
                have hqq'h := Lib.hid hqq
                clear hj hL hol hI hres D hy hy64 hby2 hl2 hRW hRWn hRW0 hqq
                go_wp2_with fail
                refine D'h.out.mono ?_
                rintro e w5 ⟨hB5, sp5, cap5, rfl, hsl5, hle5⟩
                have hres5 := heap_below hB5 hres'h.out (lt_of_heap hres'h.out)
                have hI5 := hI'h.out.next hB5
                obtain ⟨m5, hm5⟩ : ∃ m5, m5 = l2.length := ⟨_, rfl⟩
                have hL5 : LeftB sp n l sp5 m5 cap5 l2 := by
                  rw [← hm5] at hsl5 hle5
                  exact ⟨hm5, hle5, fun W hW => hsl5 W (hL'h.out.2.2.1 W hW), hby2'h.out, Nat.le_trans hl2'h.out hL'h.out.2.2.2.2⟩
                rw [← hm5]
                have hcl := calsLeft_start y l2
                clear hB5 hsl5 hle5 hm5 D'h hI'h hres'h hL'h
                have hres5'h := Lib.hid hres5
                have hI5'h := Lib.hid hI5
                have hL5'h := Lib.hid hL5
                have hcl'h := Lib.hid hcl
                clear hres5 hI5 hL5 hcl
                go_wp2
                clear g1
                go_loopg [79, 10, 7] y (fun q ix cvv lv wr => ∃ (i m : Nat) (sp' : Option Addr) (cap : Nat) (cs : List Cal) (l5 : List Nat), i + q = y ∧ ix = .int .u64 (i : Int) ∧ lv = .slice sp' m cap ∧ LeftB sp n l sp' m cap l5 ∧ cs.length = i ∧ (∀ c ∈ cs, CalOk c) ∧ listR y l2 = calsLeft cs (y - i) l5 ∧ Below w5.heap.size w5 wr ∧ wr.ownsRow w5.heap.size 57 4 cvv i (cals cs))
                case atStart => exact ⟨0, m5, sp5, cap5, [], l2, by omega, rfl, rfl, hL5'h.out, rfl, (fun c hc => by cases hc), hcl'h.out, Below.refl _ _, ⟨rfl, .inl ⟨rfl, rfl⟩⟩⟩
                case round =>
                  obtain ⟨i, m, sp', cap', cs, l5, hi', rfl, rfl, hL, hcl, hco, hLR, hB, hrow⟩ := hrel
                  clear hL5'h hcl'h
                  obtain ⟨cp, cc, rfl⟩ := row_slice' hrow
                  obtain ⟨gi, rfl⟩ : ∃ gi : Nat, gi = gk := ⟨_, rfl⟩
                  by_cases hlt2 : i < y
                  · have i4 : (i : Int) < (y : Int) := by omega
                    have i5 : (i : Int) + 1 ≤ 1000 := by have := hy'h.out; omega
                    obtain ⟨q2, hq2⟩ : ∃ q2, y - i = q2 + 1 := ⟨y - i - 1, by omega⟩
                    rw [hq2] at hLR
                    have hBA := hB.alloc hB.size (.cells #[.int .i64 0, .int .u64 0, .int .u64 0, .int .u64 0] 57)
                    have hBx := (Below.refl wr.heap.size wr).alloc (Nat.le_refl _) (.cells #[.int .i64 0, .int .u64 0, .int .u64 0, .int .u64 0] 57)
                    have hbx := World.alloc_heap_new wr (.cells #[.int .i64 0, .int .u64 0, .int .u64 0, .int .u64 0] 57)
                    have D := dcallr_any sp' m cap' l5 _ (hL.2.2.1 _ (h'h.out.below (below_next hI5'h.out.low hBA))) hL.2.2.2.1 hL.2.1
                    cases hrc : callR l5 with
                    | none =>
                      rw [hrc] at D
                      have hR0 : R = none := by
                        rw [hR'h.out, hRW'h.out, hRW0'h.out (by rw [hLR, calsLeft_none hrc])]
                      subst hR0
                      clear hLR hrc hq2 hR'h hRW'h hRW0'h hRWn'h
                      have hi''h := Lib.hid hi'
                      have hL'h := Lib.hid hL
                      have hcl'h := Lib.hid hcl
                      have hco'h := Lib.hid hco
                      have hB'h := Lib.hid hB
                      have hrow'h := Lib.hid hrow
                      have hBA'h := Lib.hid hBA
                      have hBx'h := Lib.hid hBx
                      have hbx'h := Lib.hid hbx
                      have D'h := Lib.hid D
                      clear hi' hL hcl hco hB hrow hBA hBx hbx D
                      go_wp2_with fail
                      refine D'h.out.mono ?_
                      rintro e w6 ⟨hB6, c', sp6, n6, cap6, rfl⟩
                      have hbx6 := heap_below hB6 hbx'h.out (lt_of_heap hbx'h.out)
                      have hlow6 := below_next hI5'h.out.low (below_next hBA'h.out hB6)
                      have hres6 := heap_below (below_next hBA'h.out hB6) hres5'h.out (lt_of_heap hres5'h.out)
                      have hgt : w.heap.size < wr.heap.size := Nat.lt_of_lt_of_le (lt_of_heap hres5'h.out) hB'h.out.size
                      obtain ⟨z0, z1, z2, z3⟩ := cells4' hbx6
                      have f0 := blk_free 0 hbx6
                      have f1 := blk_free 1 hbx6
                      have f2 := blk_free 2 hbx6
                      have f3 := blk_free 3 hbx6
                      obtain ⟨op', key', ca', cb'⟩ := c'
                      simp only [calA]
                      have hlow := low4 hlow6 (Nat.le_of_lt hgt) (.int .i64 op') (.int .u64 (key' : Int)) (.int .u64 (ca' : Int)) (.int .u64 (cb' : Int))
                      have hres := keep4 hres6 (by omega : w.heap.size ≠ wr.heap.size) (.int .i64 op') (.int .u64 (key' : Int)) (.int .u64 (ca' : Int)) (.int .u64 (cb' : Int))
                      clear hB6 hbx6 hlow6 hres6 hgt D'h hBA'h hBx'h hbx'h hB'h hrow'h
                      have hlow'h := Lib.hid hlow
                      have hres'h := Lib.hid hres
                      clear hlow hres
                      go_upto_region 25 with fail
                      have hlow := hlow'h.out
                      have hres := hres'h.out
                      clear z0 z1 z2 z3 f0 f1 f2 f3 hlow'h hres'h
                      generalize World.setCell _ _ _ = w7 at hlow hres ⊢
                      obtain ⟨z0, z1, z2, z3, z4⟩ := cells5' hres
                      have f0 := blk_free 0 hres
                      have f1 := blk_free 1 hres
                      have f2 := blk_free 2 hres
                      have f3 := blk_free 3 hres
                      have f4 := blk_free 4 hres
                      have hres'h := Lib.hid hres
                      have hlow'h := Lib.hid hlow
                      clear hres hlow
                      go_wp2
                      have hb3 := put5' hres'h.out (.int .i64 0) (.int .i64 0) (.int .u64 0) (.slice none 0 0) (.slice none 0 0)
                      have hB03 := low5 hlow'h.out (Nat.le_refl _) (.int .i64 0) (.int .i64 0) (.int .u64 0) (.slice none 0 0) (.slice none 0 0)
                      clear z0 z1 z2 z3 z4 f0 f1 f2 f3 f4 hres'h hlow'h
                      generalize World.setCell _ _ _ = W7 at hb3 hB03 ⊢
                      obtain ⟨d0, d1, d2, d3, d4⟩ := cells5' hb3
                      clear hb3
                      refine bodyPost_ret (v := .tuple #[.agg #[.int .i64 0, .int .i64 0, .int .u64 0, .slice none 0 0, .slice none 0 0], .int .i64 0, .bool false]) (by simp [results, Tryd.results27, go_sem, d0, d1, d2, d3, d4]) rfl ⟨hB03, rfl⟩
                    | some x =>
                      obtain ⟨c, l6⟩ := x
                      rw [hrc] at D
                      obtain ⟨kd, hkd⟩ := callR_drop hrc
                      have hco6 := callR_ok hL.2.2.2.1 hrc
                      have hby6 : ∀ b ∈ l6, b < 256 := fun b hb' => hL.2.2.2.1 b (List.mem_of_mem_drop (by rw [hkd] at hb'; exact hb'))
                      have hl6 : l6.length ≤ l5.length := by rw [hkd, List.length_drop]; omega
                      have hLRn : listR y l2 = calsLeft (cs ++ [c]) (y - (i + 1)) l6 := by rw [hLR, calsLeft_next hrc, show y - (i + 1) = q2 by omega]
                      clear hLR hrc hq2 hkd
                      have hi''h := Lib.hid hi'
                      have hL'h := Lib.hid hL
                      have hcl'h := Lib.hid hcl
                      have hco'h := Lib.hid hco
                      have hB'h := Lib.hid hB
                      have hrow'h := Lib.hid hrow
                      have hBA'h := Lib.hid hBA
                      have hBx'h := Lib.hid hBx
                      have hbx'h := Lib.hid hbx
                      have D'h := Lib.hid D
                      have hco6'h := Lib.hid hco6
                      have hby6'h := Lib.hid hby6
                      have hl6'h := Lib.hid hl6
                      have hLRn'h := Lib.hid hLRn
                      clear hi' hL hcl hco hB hrow hBA hBx hbx D hco6 hby6 hl6 hLRn
                      go_wp2_with fail
                      refine D'h.out.mono ?_
                      rintro e w6 ⟨hB6, sp6, cap6, rfl, hsl6, hle6⟩
                      have hbx6 := heap_below hB6 hbx'h.out (lt_of_heap hbx'h.out)
                      have hBw6 := below_next hBx'h.out hB6
                      obtain ⟨m6, hm6⟩ : ∃ m6, m6 = l6.length := ⟨_, rfl⟩
                      have hL6 : LeftB sp n l sp6 m6 cap6 l6 := by
                        rw [← hm6] at hsl6 hle6
                        exact ⟨hm6, hle6, fun W hW => hsl6 W (hL'h.out.2.2.1 W hW), hby6'h.out, Nat.le_trans hl6'h.out hL'h.out.2.2.2.2⟩
                      rw [← hm6]
                      obtain ⟨z0, z1, z2, z3⟩ := cells4' hbx6
                      have f0 := blk_free 0 hbx6
                      have f1 := blk_free 1 hbx6
                      have f2 := blk_free 2 hbx6
                      have f3 := blk_free 3 hbx6
                      have hcA : cals cs ++ calL c = cals (cs ++ [c]) := by unfold cals; simp
                      have hcok := hco6'h.out
                      obtain ⟨op', key', ca', cb'⟩ := c
                      simp only [calA]
                      have hbx7 := put4 hbx6 (.int .i64 op') (.int .u64 (key' : Int)) (.int .u64 (ca' : Int)) (.int .u64 (cb' : Int))
                      have hBw7 := low4 hBw6 (Nat.le_refl _) (.int .i64 op') (.int .u64 (key' : Int)) (.int .u64 (ca' : Int)) (.int .u64 (cb' : Int))
                      clear hB6 hbx6 hBw6 hsl6 hle6 hm6 D'h hBA'h hBx'h hbx'h hL'h
                      have hbx7'h := Lib.hid hbx7
                      have hBw7'h := Lib.hid hBw7
                      have hL6'h := Lib.hid hL6
                      have hcA'h := Lib.hid hcA
                      have hcok'h := Lib.hid hcok
                      clear hbx7 hBw7 hL6 hcA hcok
                      go_upto_region 25 with fail
                      have hBw7 := hBw7'h.out
                      have hbx7 := hbx7'h.out
                      clear z0 z1 z2 z3 f0 f1 f2 f3 hBw7'h hbx7'h
                      generalize World.setCell _ _ _ = w7 at hBw7 hbx7 ⊢
                      obtain ⟨d0, d1, d2, d3⟩ := cells4' hbx7
                      have hB7 := below_next hB'h.out hBw7
                      have hA7 := (Below.refl w7.heap.size w7).alloc (Nat.le_refl _) (.cells #[.int .i64 op', .int .u64 (key' : Int), .int .u64 (ca' : Int), .int .u64 (cb' : Int)] 57)
                      have hrow7 := ownsRow_next (ownsRow_next hrow'h.out hBw7) hA7
                      have hB8 := below_next hB7 hA7
                      have hmov := hB8.size
                      have hsl7 : SlK (w7.alloc (.cells #[.int .i64 op', .int .u64 (key' : Int), .int .u64 (ca' : Int), .int .u64 (cb' : Int)] 57)) 4 (some ⟨w7.heap.size, 0, none⟩) 1 (calL ⟨op', key', ca', cb'⟩) := SlK.of_blk (World.alloc_heap_new _ _) rfl (by decide)
                      have hone : ∀ v ∈ calL ⟨op', key', ca', cb'⟩, v.oneCell' = true := by
                        intro v hv
                        simp [calL] at hv
                        rcases hv with rfl | rfl | rfl | rfl <;> rfl
                      clear hbx7 hBw7 hB7 hA7 hB'h hrow'h
                      have hrow7'h := Lib.hid hrow7
                      have hB8'h := Lib.hid hB8
                      have hmov'h := Lib.hid hmov
                      have hsl7'h := Lib.hid hsl7
                      have hone'h := Lib.hid hone
                      clear hrow7 hB8 hmov hsl7 hone
                      go_wp2_with (at_builtin; refine wpList_append_slk _ rfl (.tmp 90) (.tmp 92) 55 rfl w5.heap.size 57 i8 calZ 4 32 Tryd.underlying55 hi8 hz8 hs8 hby8 rfl (by decide) _ i (cals cs) rfl hrow7'h.out _ 1 1 _ rfl hsl7'h.out hone'h.out (by have := hy'h.out; unfold maxLen; omega) (by have := hy'h.out; omega) hmov'h.out ?_; intro v9 w9 hown9 hgrow9 hwh9; have hown9'h := Lib.hid hown9; have hgrow9'h := Lib.hid hgrow9; clear hown9 hgrow9 hwh9)
                      have hB9 := hB8'h.out.grown hgrow9'h.out hmov'h.out (fun q hq => (hrow7'h.out.lt q hq).1)
                      have hrow9 := hown9'h.out
                      rw [hcA'h.out] at hrow9
                      clear d0 d1 d2 d3
                      go_roundg (gi - 1)
                      case measure => have := hi''h.out; omega
                      case rel => exact ⟨i + 1, m6, sp6, cap6, cs ++ [⟨op', key', ca', cb'⟩], l6, by have := hi''h.out; omega, by go_num, rfl, hL6'h.out, by rw [List.length_append, hcl'h.out]; rfl, (fun c hc => by
                        rcases List.mem_append.1 hc with hc | hc
                        · exact hco'h.out c hc
                        · rw [List.mem_singleton.1 hc]; exact hcok'h.out), hLRn'h.out, hB9, hrow9⟩
                  · have i4 : ¬ (i : Int) < (y : Int) := by omega
                    obtain rfl : i = y := by omega
                    rw [Nat.sub_self, calsLeft_done] at hLR
                    have hRWm := hRWn'h.out cs l5 hLR
                    have hI8 := hI5'h.out.next hB
                    have hres8 := heap_below hB hres5'h.out (lt_of_heap hres5'h.out)
                    have y3 := hI8.c3
                    obtain ⟨r', hr'⟩ : ∃ r' : CRow, r' = ⟨cp, i, cc, cs⟩ := ⟨_, rfl⟩
                    have hr'V : crV r' = .slice cp i cc := by rw [hr']; rfl
                    have hr'c : r'.cs = cs := by rw [hr']
                    have hB2 := (Below.refl wr.heap.size wr).alloc (Nat.le_refl _) (.cells #[.slice cp i cc] 55)
                    have hI2 := hI8.next hB2
                    have hres2 := heap_below hB2 hres8 (lt_of_heap hres8)
                    have hrow2 : (wr.alloc (.cells #[.slice cp i cc] 55)).ownsRow w.heap.size 57 4 (crV r') r'.len (cals r'.cs) := by
                      rw [hr']
                      exact ownsRow_mono (ownsRow_next hrow hB2) hI5'h.out.low.size
                    have hlv : r'.len = r'.cs.length ∧ r'.cs.length ≤ 66 ∧ ∀ c ∈ r'.cs, CalOk c := by rw [hr']; exact ⟨hcl.symm, by have := hy'h.out; simp only; omega, hco⟩
                    have hsl : SlK (wr.alloc (.cells #[.slice cp i cc] 55)) 1 (some ⟨wr.heap.size, 0, none⟩) 1 [crV r'] := by rw [hr'V]; exact SlK.of_blk (World.alloc_heap_new _ _) rfl (by decide)
                    have hoc : outs.length ≤ 16 := by have := hol'h.out; have := hok'h.out; omega
                    have hfin : listsD g l3 = rowsLeft ((outs ++ [r']).map (·.cs)) (g - (j + 1)) l5 := by
                      rw [hRW'h.out, hRWm, List.map_append, List.map_cons, List.map_nil, hr'c, show g - (j + 1) = qq by have := hqq'h.out; omega]
                    clear hr' hrow hB hB2 hLR hRWm hI8 hres8 hcl hco hi'
                    have hI2'h := Lib.hid hI2
                    have hres2'h := Lib.hid hres2
                    have hrow2'h := Lib.hid hrow2
                    have hlv'h := Lib.hid hlv
                    have hsl'h := Lib.hid hsl
                    have hoc'h := Lib.hid hoc
                    have hfin'h := Lib.hid hfin
                    have hL'h := Lib.hid hL
                    have hr'V'h := Lib.hid hr'V
                    have hr'c'h := Lib.hid hr'c
                    clear hI2 hres2 hrow2 hlv hsl hoc hfin hL hr'V hr'c
                    go_wp2_with (at_builtin; refine wpList_append_slk _ rfl (.tmp 96) (.tmp 98) 23 rfl w.heap.size 55 i9 (.slice none 0 0) 1 24 Tryd.underlying23 hi9 hz9 hs9 hby9 rfl (by decide) (.slice rp outs.length rc) outs.length (outs.map crV) rfl hI2'h.out.outer _ 1 1 _ rfl hsl'h.out (by intro v hv; simp at hv; subst hv; rfl) (by have := hoc'h.out; unfold maxLen; omega) (by have := hoc'h.out; omega) hI2'h.out.low.size ?_; intro v' V3 hown3 hgrow3 hwh3; have hI4 := hI2'h.out.push (r := r') hrow2'h.out hlv'h.out hown3 hgrow3; have hb3 := hI2'h.out.kept hgrow3; have hres3 := (hgrow3.block _ (lt_of_heap hres2'h.out) (fun e => blk_apart hI2'h.out.outer hres2'h.out (by decide) _ e.symm rfl)).trans hres2'h.out; obtain ⟨spv, cpv, hv', -, -, -⟩ := row_form hown3; subst hv'; have y9 : V3.cell? ⟨w.heap.size + 1, 3, none⟩ = some (.slice rp outs.length rc) := blk_cell (i := 3) hb3 rfl; have f9 := blk_free 3 hb3; clear hgrow3 hwh3 hown3 hb3; have hI4'h := Lib.hid hI4; have hres3'h := Lib.hid hres3; clear hI4 hres3)
                    go_roundg (gj - 1)
                    case measure => have := hj'h.out; omega
                    case rel => exact ⟨j + 1, m, sp', cap', outs ++ [r'], _, l5, by have := hj'h.out; omega, by go_num, rfl, hL'h.out, by rw [List.length_append, hol'h.out]; rfl, hI4'h.out, (Below.heap_setCell _ _ _ _ (by simp only; omega)).trans hres3'h.out, hfin'h.out⟩
              · have g1 : (y : Int) > 64 := by omega
                have hm64 : mostR 64 l' = none := by unfold mostR; rw [hrd]; simp only; rw [if_neg hy]
                have hR0 : R = none := by
                  rw [hR'h.out, hRW, rowsLeft_most hm64]
                subst hR0
                clear hRW hrd hqq hR'h hm64
                have hj'h := Lib.hid hj
                have hL'h := Lib.hid hL
                have hol'h := Lib.hid hol
                have hI'h := Lib.hid hI
                have hres'h := Lib.hid hres
                have D'h := Lib.hid D
                have hy'h := Lib.hid hy
                have hy64'h := Lib.hid hy64
                have hby2'h := Lib.hid hby2
                have hl2'h := Lib.hid hl2
                clear hj hL hol hI hres D hy hy64 hby2 hl2
                go_wp2_with fail
                refine D'h.out.mono ?_
                rintro e w5 ⟨hB5, sp5, cap5, rfl, -, -⟩
                have hres := heap_below hB5 hres'h.out (lt_of_heap hres'h.out)
                have hlow := below_next hI'h.out.low hB5
                clear hB5 D'h hI'h hres'h
                obtain ⟨z0, z1, z2, z3, z4⟩ := cells5' hres
                have f0 := blk_free 0 hres
                have f1 := blk_free 1 hres
                have f2 := blk_free 2 hres
                have f3 := blk_free 3 hres
                have f4 := blk_free 4 hres
                have hres'h := Lib.hid hres
                have hlow'h := Lib.hid hlow
                clear hres hlow
                go_wp2
                have hb3 := put5' hres'h.out (.int .i64 0) (.int .i64 0) (.int .u64 0) (.slice none 0 0) (.slice none 0 0)
                have hB03 := low5 hlow'h.out (Nat.le_refl _) (.int .i64 0) (.int .i64 0) (.int .u64 0) (.slice none 0 0) (.slice none 0 0)
                clear z0 z1 z2 z3 z4 f0 f1 f2 f3 f4 hres'h hlow'h
                generalize World.setCell _ _ _ = W7 at hb3 hB03 ⊢
                obtain ⟨d0, d1, d2, d3, d4⟩ := cells5' hb3
                clear hb3
                refine bodyPost_ret (v := .tuple #[.agg #[.int .i64 0, .int .i64 0, .int .u64 0, .slice none 0 0, .slice none 0 0], .int .i64 0, .bool false]) (by simp [results, Tryd.results27, go_sem, d0, d1, d2, d3, d4]) rfl ⟨hB03, rfl⟩
          · have i1 : ¬ (j : Int) < (g : Int) := by omega
            obtain rfl : j = g := by omega
            rw [Nat.sub_self, rowsLeft_done] at hRW
            have hR := hR'h.out
            rw [hRW] at hR
            simp only at hR
            unfold endR mostR at hR
            have D := dread_any sp' m cap' l' wr (hL.2.2.1 wr (h'h.out.below hI.low)) hL.2.2.2.1 hL.2.1
            cases hrd : readN l' with
            | none =>
              rw [hrd] at D hR
              simp only at hR
              subst hR
              clear hRW hrd hj hR'h
              have hL'h := Lib.hid hL
              have hol'h := Lib.hid hol
              have hI'h := Lib.hid hI
              have hres'h := Lib.hid hres
              have D'h := Lib.hid D
              clear hL hol hI hres D
              go_wp2_with fail
              refine D'h.out.mono ?_
              rintro e w5 ⟨hB5, v, sp5, n5, cap5, rfl⟩
              have hres := heap_below hB5 hres'h.out (lt_of_heap hres'h.out)
              have hlow := below_next hI'h.out.low hB5
              clear hB5 D'h hI'h hres'h
              obtain ⟨z0, z1, z2, z3, z4⟩ := cells5' hres
              have f0 := blk_free 0 hres
              have f1 := blk_free 1 hres
              have f2 := blk_free 2 hres
              have f3 := blk_free 3 hres
              have f4 := blk_free 4 hres
              have hres'h := Lib.hid hres
              have hlow'h := Lib.hid hlow
              clear hres hlow
              go_wp2
              have hb3 := put5' hres'h.out (.int .i64 0) (.int .i64 0) (.int .u64 0) (.slice none 0 0) (.slice none 0 0)
              have hB03 := low5 hlow'h.out (Nat.le_refl _) (.int .i64 0) (.int .i64 0) (.int .u64 0) (.slice none 0 0) (.slice none 0 0)
              clear z0 z1 z2 z3 z4 f0 f1 f2 f3 f4 hres'h hlow'h
              generalize World.setCell _ _ _ = W7 at hb3 hB03 ⊢
              obtain ⟨d0, d1, d2, d3, d4⟩ := cells5' hb3
              clear hb3
              refine bodyPost_ret (v := .tuple #[.agg #[.int .i64 0, .int .i64 0, .int .u64 0, .slice none 0 0, .slice none 0 0], .int .i64 0, .bool false]) (by simp [results, Tryd.results27, go_sem, d0, d1, d2, d3, d4]) rfl ⟨hB03, rfl⟩
            | some x =>
              obtain ⟨y, l2⟩ := x
              rw [hrd] at D hR
              obtain ⟨hy64, hby2, hl2⟩ := readN_some hL.2.2.2.1 hrd
              simp only at hR
              by_cases hy : y ≤ 4096
              · rw [if_pos hy] at hR
                simp only at hR
                have g1 : ¬ (y : Int) > 4096 := by omega
                clear hRW hrd hj hR'h
                have hL'h := Lib.hid hL
                have hol'h := Lib.hid hol
                have hI'h := Lib.hid hI
                have hres'h := Lib.hid hres
                have D'h := Lib.hid D
                have hy'h := Lib.hid hy
                have hy64'h := Lib.hid hy64
                have hby2'h := Lib.hid hby2
                have hl2'h := Lib.hid hl2
                have hR'h := Lib.hid hR
                clear hL hol hI hres D hy hy64 hby2 hl2 hR
                go_wp2_with fail
                refine D'h.out.mono ?_
                rintro e w5 ⟨hB5, sp5, cap5, rfl, hsl5, hle5⟩
                have hres5 := heap_below hB5 hres'h.out (lt_of_heap hres'h.out)
                have hI5 := hI'h.out.next hB5
                obtain ⟨m5, hm5⟩ : ∃ m5, m5 = l2.length := ⟨_, rfl⟩
                have hL5 : LeftB sp n l sp5 m5 cap5 l2 := by
                  rw [← hm5] at hsl5 hle5
                  exact ⟨hm5, hle5, fun W hW => hsl5 W (hL'h.out.2.2.1 W hW), hby2'h.out, Nat.le_trans hl2'h.out hL'h.out.2.2.2.2⟩
                rw [← hm5]
                have hcl := numsLeft_start y l2
                clear hB5 hsl5 hle5 hm5 D'h hI'h hres'h hL'h
                have hres5'h := Lib.hid hres5
                have hI5'h := Lib.hid hI5
                have hL5'h := Lib.hid hL5
                have hcl'h := Lib.hid hcl
                clear hres5 hI5 hL5 hcl
                go_wp2
                clear g1
                go_loopg [116, 7] y (fun q ix lv wr => ∃ (i m : Nat) (sp' : Option Addr) (cap : Nat) (ps : List Nat) (pv : Value) (l5 : List Nat), i + q = y ∧ ix = .int .u64 (i : Int) ∧ lv = .slice sp' m cap ∧ LeftB sp n l sp' m cap l5 ∧ ps.length = i ∧ (∀ x ∈ ps, x < 2 ^ 64) ∧ readW y l2 = numsLeft ps (y - i) l5 ∧ OutI w (w.heap.size + 1) (.int .i64 (j : Int)) (.int .i64 (sb : Int)) (.int .u64 (seed : Int)) (.slice rp outs.length rc) pv outs ps wr ∧
                  wr.heap[w.heap.size]? = some (.cells #[.int .i64 0, .int .i64 0, .int .u64 0, .slice none 0 0, .slice none 0 0] 26 (0, 0)))
                case atStart => exact ⟨0, m5, sp5, cap5, [], _, l2, by omega, rfl, rfl, hL5'h.out, rfl, (fun c hc => by cases hc), hcl'h.out, hI5'h.out, hres5'h.out⟩
                case round =>
                  obtain ⟨i, m, sp', cap', ps, pv, l5, hi', rfl, rfl, hL, hpl, hp64, hLR, hI, hres⟩ := hrel
                  clear hL5'h hcl'h hI5'h hres5'h
                  obtain ⟨cp, cc, rfl⟩ := row_slice' hI.picks
                  by_cases hlt2 : i < y
                  · have i4 : (i : Int) < (y : Int) := by omega
                    have i5 : (i : Int) + 1 ≤ 10000 := by have := hy'h.out; omega
                    obtain ⟨q2, hq2⟩ : ∃ q2, y - i = q2 + 1 := ⟨y - i - 1, by omega⟩
                    rw [hq2] at hLR
                    have D := dread_any sp' m cap' l5 wr (hL.2.2.1 _ (h'h.out.below hI.low)) hL.2.2.2.1 hL.2.1
                    cases hrd : readN l5 with
                    | none =>
                      rw [hrd] at D
                      have hR0 : R = none := by rw [hR'h.out, hLR, numsLeft_none hrd]
                      subst hR0
                      clear hLR hrd hq2 hR'h
                      have hi''h := Lib.hid hi'
                      have hL'h := Lib.hid hL
                      have hpl'h := Lib.hid hpl
                      have hp64'h := Lib.hid hp64
                      have hI'h := Lib.hid hI
                      have hres'h := Lib.hid hres
                      have D'h := Lib.hid D
                      clear hi' hL hpl hp64 hI hres D
                      go_wp2_with fail
                      refine D'h.out.mono ?_
                      rintro e w6 ⟨hB6, v, sp6, n6, cap6, rfl⟩
                      have hres := heap_below hB6 hres'h.out (lt_of_heap hres'h.out)
                      have hlow := below_next hI'h.out.low hB6
                      clear hB6 D'h hI'h hres'h
                      obtain ⟨z0, z1, z2, z3, z4⟩ := cells5' hres
                      have f0 := blk_free 0 hres
                      have f1 := blk_free 1 hres
                      have f2 := blk_free 2 hres
                      have f3 := blk_free 3 hres
                      have f4 := blk_free 4 hres
                      have hres'h := Lib.hid hres
                      have hlow'h := Lib.hid hlow
                      clear hres hlow
                      go_wp2
                      have hb3 := put5' hres'h.out (.int .i64 0) (.int .i64 0) (.int .u64 0) (.slice none 0 0) (.slice none 0 0)
                      have hB03 := low5 hlow'h.out (Nat.le_refl _) (.int .i64 0) (.int .i64 0) (.int .u64 0) (.slice none 0 0) (.slice none 0 0)
                      clear z0 z1 z2 z3 z4 f0 f1 f2 f3 f4 hres'h hlow'h
                      generalize World.setCell _ _ _ = W7 at hb3 hB03 ⊢
                      obtain ⟨d0, d1, d2, d3, d4⟩ := cells5' hb3
                      clear hb3
                      refine bodyPost_ret (v := .tuple #[.agg #[.int .i64 0, .int .i64 0, .int .u64 0, .slice none 0 0, .slice none 0 0], .int .i64 0, .bool false]) (by simp [results, Tryd.results27, go_sem, d0, d1, d2, d3, d4]) rfl ⟨hB03, rfl⟩
                    | some x =>
                      obtain ⟨z, l6⟩ := x
                      rw [hrd] at D
                      obtain ⟨hz64, hby6, hl6⟩ := readN_some hL.2.2.2.1 hrd
                      have hLRn : readW y l2 = numsLeft (ps ++ [z]) (y - (i + 1)) l6 := by rw [hLR, numsLeft_next hrd, show y - (i + 1) = q2 by omega]
                      clear hLR hrd hq2
                      have hi''h := Lib.hid hi'
                      have hL'h := Lib.hid hL
                      have hpl'h := Lib.hid hpl
                      have hp64'h := Lib.hid hp64
                      have hI'h := Lib.hid hI
                      have hres'h := Lib.hid hres
                      have D'h := Lib.hid D
                      have hz64'h := Lib.hid hz64
                      have hby6'h := Lib.hid hby6
                      have hl6'h := Lib.hid hl6
                      have hLRn'h := Lib.hid hLRn
                      clear hi' hL hpl hp64 hI hres D hz64 hby6 hl6 hLRn
                      go_wp2_with fail
                      refine D'h.out.mono ?_
                      rintro e w6 ⟨hB6, sp6, cap6, rfl, hsl6, hle6⟩
                      obtain ⟨m6, hm6⟩ : ∃ m6, m6 = l6.length := ⟨_, rfl⟩
                      have hL6 : LeftB sp n l sp6 m6 cap6 l6 := by
                        rw [← hm6] at hsl6 hle6
                        exact ⟨hm6, hle6, fun W hW => hsl6 W (hL'h.out.2.2.1 W hW), hby6'h.out, Nat.le_trans hl6'h.out hL'h.out.2.2.2.2⟩
                      rw [← hm6]
                      have hI6 := hI'h.out.next hB6
                      have hres6 := heap_below hB6 hres'h.out (lt_of_heap hres'h.out)
                      have y4 := hI6.c4
                      have hB2 := (Below.refl w6.heap.size w6).alloc (Nat.le_refl _) (.cells #[.int .u64 (z : Int)] 22)
                      have hI2 := hI6.next hB2
                      have hres2 := heap_below hB2 hres6 (lt_of_heap hres6)
                      have hsl : SlK (w6.alloc (.cells #[.int .u64 (z : Int)] 22)) 1 (some ⟨w6.heap.size, 0, none⟩) 1 (u64s [z]) := SlK.of_blk (World.alloc_heap_new _ _) rfl (by decide)
                      have hpb : ps.length ≤ 4200 := by rw [hpl'h.out]; have := hy'h.out; omega
                      have hpn : ∀ x ∈ ps ++ [z], x < 2 ^ 64 := fun x hx => by
                        rcases List.mem_append.1 hx with hx | hx
                        · exact hp64'h.out x hx
                        · rw [List.mem_singleton.1 hx]; exact hz64'h.out
                      clear hB6 hsl6 hle6 hm6 D'h hI'h hres'h hL'h hI6 hB2 hres6
                      have hL6'h := Lib.hid hL6
                      have hI2'h := Lib.hid hI2
                      have hres2'h := Lib.hid hres2
                      have hsl'h := Lib.hid hsl
                      have hpb'h := Lib.hid hpb
                      have hpn'h := Lib.hid hpn
                      clear hL6 hI2 hres2 hsl hpb hpn
                      go_wp2_with (at_builtin; refine wpList_append_slk _ rfl (.tmp 128) (.tmp 130) 24 rfl w.heap.size 22 i7 (.int .u64 0) 1 8 Tryd.underlying24 hi7 hz7 hs7 hby7 rfl (by decide) (.slice cp ps.length cc) ps.length (u64s ps) rfl hI2'h.out.picks _ 1 1 _ rfl hsl'h.out (u64s_one' _) (by have := hpb'h.out; unfold maxLen; omega) (by have := hpb'h.out; omega) hI2'h.out.low.size ?_; intro v' V3 hown3 hgrow3 hwh3; have hI4 := hI2'h.out.pick (x := z) hown3 hgrow3; have hb3 := hI2'h.out.kept4 hgrow3; have hres3 := (hgrow3.block _ (lt_of_heap hres2'h.out) (fun e => blk_apart hI2'h.out.picks hres2'h.out (by decide) _ e.symm rfl)).trans hres2'h.out; obtain ⟨spv, cpv, hv', -, -, -⟩ := row_form hown3; subst hv'; have y9 : V3.cell? ⟨w.heap.size + 1, 4, none⟩ = some (.slice cp ps.length cc) := blk_cell (i := 4) hb3 rfl; have f9 := blk_free 4 hb3; clear hgrow3 hwh3 hown3 hb3; have hI4'h := Lib.hid hI4; have hres3'h := Lib.hid hres3; clear hI4 hres3)
                      go_roundg (gk - 1)
                      case measure => have := hi''h.out; omega
                      case rel => exact ⟨i + 1, m6, sp6, cap6, ps ++ [z], _, l6, by have := hi''h.out; omega, by go_num, rfl, hL6'h.out, by rw [List.length_append, hpl'h.out]; rfl, hpn'h.out, hLRn'h.out, hI4'h.out, (Below.heap_setCell _ _ _ _ (by simp only; omega)).trans hres3'h.out⟩
                  · have i4 : ¬ (i : Int) < (y : Int) := by omega
                    obtain rfl : i = y := by omega
                    rw [Nat.sub_self, numsLeft_done] at hLR
                    have hR := hR'h.out
                    rw [hLR] at hR
                    simp only at hR
                    obtain ⟨hIn, hOw, -, -⟩ := hI.script (by have := hok'h.out; omega) (by have := hok'h.out; omega) hseed'h.out (by have := hol'h.out; have := hok'h.out; omega) (by rw [hpl]; have := hy'h.out; omega) hp64
                    have D := dright_any _ wr hIn
                    obtain ⟨r0, hr0⟩ : ∃ r0, r0 = rightS ⟨(j : Int), (sb : Int), seed, outs.map (·.cs), ps⟩ := ⟨_, rfl⟩
                    rw [← hr0] at hR
                    have D : Calls Tryd.prog 14 #[.agg #[.int .i64 (j : Int), .int .i64 (sb : Int), .int .u64 (seed : Int), .slice rp outs.length rc, .slice cp ps.length cc]] wr fun e w' => e = .returned (.bool r0) ∧ Below wr.heap.size wr w' := by rw [hr0]; exact D
                    obtain ⟨x0, x1, x2, x3, x4⟩ := cells5' hI.blk
                    clear hLR hi' hpl hp64 hOw hR'h
                    cases r0 with
                    | false =>
                      rw [if_neg (by simp)] at hR
                      subst hR
                      have hL'h := Lib.hid hL
                      have hI'h := Lib.hid hI
                      have hres'h := Lib.hid hres
                      have D'h := Lib.hid D
                      have hIn'h := Lib.hid hIn
                      have hr0'h := Lib.hid hr0
                      clear hL hI hres D hIn hr0
                      go_wp2_with fail
                      refine D'h.out.mono ?_
                      rintro e w6 ⟨rfl, hB6⟩
                      have hres := heap_below hB6 hres'h.out (lt_of_heap hres'h.out)
                      have hlow := below_next hI'h.out.low hB6
                      clear hB6 D'h hI'h hres'h x0 x1 x2 x3 x4
                      obtain ⟨z0, z1, z2, z3, z4⟩ := cells5' hres
                      have f0 := blk_free 0 hres
                      have f1 := blk_free 1 hres
                      have f2 := blk_free 2 hres
                      have f3 := blk_free 3 hres
                      have f4 := blk_free 4 hres
                      have hres'h := Lib.hid hres
                      have hlow'h := Lib.hid hlow
                      clear hres hlow
                      go_wp2
                      have hb3 := put5' hres'h.out (.int .i64 0) (.int .i64 0) (.int .u64 0) (.slice none 0 0) (.slice none 0 0)
                      have hB03 := low5 hlow'h.out (Nat.le_refl _) (.int .i64 0) (.int .i64 0) (.int .u64 0) (.slice none 0 0) (.slice none 0 0)
                      clear z0 z1 z2 z3 z4 f0 f1 f2 f3 f4 hres'h hlow'h
                      generalize World.setCell _ _ _ = W7 at hb3 hB03 ⊢
                      obtain ⟨d0, d1, d2, d3, d4⟩ := cells5' hb3
                      clear hb3
                      refine bodyPost_ret (v := .tuple #[.agg #[.int .i64 0, .int .i64 0, .int .u64 0, .slice none 0 0, .slice none 0 0], .int .i64 0, .bool false]) (by simp [results, Tryd.results27, go_sem, d0, d1, d2, d3, d4]) rfl ⟨hB03, rfl⟩
                    | true =>
                      rw [if_pos rfl] at hR
                      have hL'h := Lib.hid hL
                      have hI'h := Lib.hid hI
                      have hres'h := Lib.hid hres
                      have D'h := Lib.hid D
                      have hIn'h := Lib.hid hIn
                      have hr0'h := Lib.hid hr0
                      have hR'h := Lib.hid hR
                      clear hL hI hres D hIn hr0 hR
                      go_wp2_with fail
                      refine D'h.out.mono ?_
                      rintro e w6 ⟨rfl, hB6⟩
                      clear x0 x1 x2 x3 x4
                      have hI6 := hI'h.out.next hB6
                      have hres6 := heap_below hB6 hres'h.out (lt_of_heap hres'h.out)
                      obtain ⟨x0, x1, x2, x3, x4⟩ := cells5' hI6.blk
                      obtain ⟨z0, z1, z2, z3, z4⟩ := cells5' hres6
                      have f0 := blk_free 0 hres6
                      have f1 := blk_free 1 hres6
                      have f2 := blk_free 2 hres6
                      have f3 := blk_free 3 hres6
                      have f4 := blk_free 4 hres6
                      have hml := hL'h.out.1
                      have hmn : m ≤ n := by rw [hml, hnl'h.out]; exact hL'h.out.2.2.2.2
                      have q3 : IntKind.i64.wrap ((n : Int) - (m : Int)) = (n : Int) - (m : Int) := Go.IntWalk.i64_in _ (by have := hmax'h.out; unfold maxLen at this; omega)
                      clear hml hB6 D'h hI'h hres'h
                      have hI6'h := Lib.hid hI6
                      have hres6'h := Lib.hid hres6
                      have hmn'h := Lib.hid hmn
                      clear hI6 hres6 hmn
                      go_wp2
                      obtain ⟨hIn6, hOw6, -, -⟩ := hI6'h.out.script (by have := hok'h.out; omega) (by have := hok'h.out; omega) hseed'h.out hIn'h.out.rows.few hIn'h.out.many hIn'h.out.w64
                      have hb3 := put5' hres6'h.out (.int .i64 (j : Int)) (.int .i64 (sb : Int)) (.int .u64 (seed : Int)) (.slice rp outs.length rc) (.slice cp ps.length cc)
                      have hB03 := low5 hI6'h.out.low (Nat.le_refl _) (.int .i64 (j : Int)) (.int .i64 (sb : Int)) (.int .u64 (seed : Int)) (.slice rp outs.length rc) (.slice cp ps.length cc)
                      have hOw7 := hOw6.put5 hres6'h.out (.int .i64 (j : Int)) (.int .i64 (sb : Int)) (.int .u64 (seed : Int)) (.slice rp outs.length rc) (.slice cp ps.length cc)
                      clear z0 z1 z2 z3 z4 f0 f1 f2 f3 f4 x0 x1 x2 x3 x4 hres6'h hI6'h hOw6
                      generalize World.setCell _ _ _ = W7 at hb3 hB03 hOw7 ⊢
                      have hIn7 := hIn6.own hOw7
                      obtain ⟨d0, d1, d2, d3, d4⟩ := cells5' hb3
                      clear hb3
                      have hfin : DecRP w n R (.returned (.tuple #[.agg #[.int .i64 (j : Int), .int .i64 (sb : Int), .int .u64 (seed : Int), .slice rp outs.length rc, .slice cp ps.length cc], .int .i64 ((n : Int) - (m : Int)), .bool true])) W7 := by
                        rw [hR'h.out]
                        exact ⟨hB03, _, by rw [hL'h.out.1]; rfl, hIn7, rfl⟩
                      clear hIn7 hOw7 hIn6 hB03
                      have hfin'h := Lib.hid hfin
                      clear hfin
                      refine bodyPost_ret (v := .tuple #[.agg #[.int .i64 (j : Int), .int .i64 (sb : Int), .int .u64 (seed : Int), .slice rp outs.length rc, .slice cp ps.length cc], .int .i64 ((n : Int) - (m : Int)), .bool true]) (by simp [results, Tryd.results27, go_sem, d0, d1, d2, d3, d4]) rfl hfin'h.out
              · rw [if_neg hy] at hR
                have g1 : (y : Int) > 4096 := by omega
                simp only at hR
                subst hR
                clear hRW hrd hj hR'h
                have hL'h := Lib.hid hL
                have hol'h := Lib.hid hol
                have hI'h := Lib.hid hI
                have hres'h := Lib.hid hres
                have D'h := Lib.hid D
                have hy'h := Lib.hid hy
                have hy64'h := Lib.hid hy64
                have hby2'h := Lib.hid hby2
                have hl2'h := Lib.hid hl2
                clear hL hol hI hres D hy hy64 hby2 hl2
                go_wp2_with fail
                refine D'h.out.mono ?_
                rintro e w5 ⟨hB5, sp5, cap5, rfl, -, -⟩
                have hres := heap_below hB5 hres'h.out (lt_of_heap hres'h.out)
                have hlow := below_next hI'h.out.low hB5
                clear hB5 D'h hI'h hres'h
                obtain ⟨z0, z1, z2, z3, z4⟩ := cells5' hres
                have f0 := blk_free 0 hres
                have f1 := blk_free 1 hres
                have f2 := blk_free 2 hres
                have f3 := blk_free 3 hres
                have f4 := blk_free 4 hres
                have hres'h := Lib.hid hres
                have hlow'h := Lib.hid hlow
                clear hres hlow
                go_wp2
                have hb3 := put5' hres'h.out (.int .i64 0) (.int .i64 0) (.int .u64 0) (.slice none 0 0) (.slice none 0 0)
                have hB03 := low5 hlow'h.out (Nat.le_refl _) (.int .i64 0) (.int .i64 0) (.int .u64 0) (.slice none 0 0) (.slice none 0 0)
                clear z0 z1 z2 z3 z4 f0 f1 f2 f3 f4 hres'h hlow'h
                generalize World.setCell _ _ _ = W7 at hb3 hB03 ⊢
                obtain ⟨d0, d1, d2, d3, d4⟩ := cells5' hb3
                clear hb3
                refine bodyPost_ret (v := .tuple #[.agg #[.int .i64 0, .int .i64 0, .int .u64 0, .slice none 0 0, .slice none 0 0], .int .i64 0, .bool false]) (by simp [results, Tryd.results27, go_sem, d0, d1, d2, d3, d4]) rfl ⟨hB03, rfl⟩
      · rw [if_neg hok] at hR
        subst hR
        clear hb6 hb5 hL hg64 hs64 hseed
        by_cases h1 : 1 ≤ g
        · have g1 : ¬ (g : Int) < 1 := by omega
          by_cases h2 : g ≤ 8
          · have g2 : ¬ (g : Int) > 8 := by omega
            by_cases h3 : 2 ≤ sb
            · have g3 : ¬ (sb : Int) < 2 := by omega
              have g4 : (sb : Int) > 128 := by omega
              clear hok h1 h2 h3
              obtain ⟨z0, z1, z2, z3, z4⟩ := cells5' hres
              have f0 := blk_free 0 hres
              have f1 := blk_free 1 hres
              have f2 := blk_free 2 hres
              have f3 := blk_free 3 hres
              have f4 := blk_free 4 hres
              have hres'h := Lib.hid hres
              have hlow'h := Lib.hid hlow
              clear hres hlow
              go_wp2
              have hb3 := put5' hres'h.out (.int .i64 0) (.int .i64 0) (.int .u64 0) (.slice none 0 0) (.slice none 0 0)
              have hB03 := low5 hlow'h.out (Nat.le_refl _) (.int .i64 0) (.int .i64 0) (.int .u64 0) (.slice none 0 0) (.slice none 0 0)
              clear z0 z1 z2 z3 z4 f0 f1 f2 f3 f4 hres'h hlow'h
              generalize World.setCell _ _ _ = W7 at hb3 hB03 ⊢
              obtain ⟨d0, d1, d2, d3, d4⟩ := cells5' hb3
              clear hb3
              refine bodyPost_ret (v := .tuple #[.agg #[.int .i64 0, .int .i64 0, .int .u64 0, .slice none 0 0, .slice none 0 0], .int .i64 0, .bool false]) (by simp [results, Tryd.results27, go_sem, d0, d1, d2, d3, d4]) rfl ⟨hB03, rfl⟩
            · have g3 : (sb : Int) < 2 := by omega
              clear hok h1 h2 h3
              obtain ⟨z0, z1, z2, z3, z4⟩ := cells5' hres
              have f0 := blk_free 0 hres
              have f1 := blk_free 1 hres
              have f2 := blk_free 2 hres
              have f3 := blk_free 3 hres
              have f4 := blk_free 4 hres
              have hres'h := Lib.hid hres
              have hlow'h := Lib.hid hlow
              clear hres hlow
              go_wp2
              have hb3 := put5' hres'h.out (.int .i64 0) (.int .i64 0) (.int .u64 0) (.slice none 0 0) (.slice none 0 0)
              have hB03 := low5 hlow'h.out (Nat.le_refl _) (.int .i64 0) (.int .i64 0) (.int .u64 0) (.slice none 0 0) (.slice none 0 0)
              clear z0 z1 z2 z3 z4 f0 f1 f2 f3 f4 hres'h hlow'h
              generalize World.setCell _ _ _ = W7 at hb3 hB03 ⊢
              obtain ⟨d0, d1, d2, d3, d4⟩ := cells5' hb3
              clear hb3
              refine bodyPost_ret (v := .tuple #[.agg #[.int .i64 0, .int .i64 0, .int .u64 0, .slice none 0 0, .slice none 0 0], .int .i64 0, .bool false]) (by simp [results, Tryd.results27, go_sem, d0, d1, d2, d3, d4]) rfl ⟨hB03, rfl⟩
          · have g2 : (g : Int) > 8 := by omega
            clear hok h1 h2
            obtain ⟨z0, z1, z2, z3, z4⟩ := cells5' hres
            have f0 := blk_free 0 hres
            have f1 := blk_free 1 hres
            have f2 := blk_free 2 hres
            have f3 := blk_free 3 hres
            have f4 := blk_free 4 hres
            have hres'h := Lib.hid hres
            have hlow'h := Lib.hid hlow
            clear hres hlow
            go_wp2
            have hb3 := put5' hres'h.out (.int .i64 0) (.int .i64 0) (.int .u64 0) (.slice none 0 0) (.slice none 0 0)
            have hB03 := low5 hlow'h.out (Nat.le_refl _) (.int .i64 0) (.int .i64 0) (.int .u64 0) (.slice none 0 0) (.slice none 0 0)
            clear z0 z1 z2 z3 z4 f0 f1 f2 f3 f4 hres'h hlow'h
            generalize World.setCell _ _ _ = W7 at hb3 hB03 ⊢
            obtain ⟨d0, d1, d2, d3, d4⟩ := cells5' hb3
            clear hb3
            refine bodyPost_ret (v := .tuple #[.agg #[.int .i64 0, .int .i64 0, .int .u64 0, .slice none 0 0, .slice none 0 0], .int .i64 0, .bool false]) (by simp [results, Tryd.results27, go_sem, d0, d1, d2, d3, d4]) rfl ⟨hB03, rfl⟩
        · have g1 : (g : Int) < 1 := by omega
          clear hok h1
          obtain ⟨z0, z1, z2, z3, z4⟩ := cells5' hres
          have f0 := blk_free 0 hres
          have f1 := blk_free 1 hres
          have f2 := blk_free 2 hres
          have f3 := blk_free 3 hres
          have f4 := blk_free 4 hres
          have hres'h := Lib.hid hres
          have hlow'h := Lib.hid hlow
          clear hres hlow
          go_wp2
          have hb3 := put5' hres'h.out (.int .i64 0) (.int .i64 0) (.int .u64 0) (.slice none 0 0) (.slice none 0 0)
          have hB03 := low5 hlow'h.out (Nat.le_refl _) (.int .i64 0) (.int .i64 0) (.int .u64 0) (.slice none 0 0) (.slice none 0 0)
          clear z0 z1 z2 z3 z4 f0 f1 f2 f3 f4 hres'h hlow'h
          generalize World.setCell _ _ _ = W7 at hb3 hB03 ⊢
          obtain ⟨d0, d1, d2, d3, d4⟩ := cells5' hb3
          clear hb3
          refine bodyPost_ret (v := .tuple #[.agg #[.int .i64 0, .int .i64 0, .int .u64 0, .slice none 0 0, .slice none 0 0], .int .i64 0, .bool false]) (by simp [results, Tryd.results27, go_sem, d0, d1, d2, d3, d4]) rfl ⟨hB03, rfl⟩
end Go.Proofs.YtifofdciablljaaDoor
