/-
  Layer 3 (script): what calls take, the words of a call, whether something holds of all.
-/
import Derived.Test.YtogeohjeabbmaaaDoorScrPure
import Derived.Test.YtogeohjeabbmaaaDoorY1
import Derived.RegionTactic
import Derived.Deep.LoopGhost
import Derived.Deep.Cut
import Derived.Deep.CutRange
import Derived.Deep.RegionHeld3
import Derived.StillTailTactics
set_option linter.unusedSimpArgs false
set_option linter.unusedVariables false
set_option maxRecDepth 100000
namespace Go.Proofs.YtogeohjeabbmaaaDoor
open Go.RowKit

theorem takes_any (op : Int) (w : World) (hT : Tks w) : Calls Tryd.prog 88 #[.int .i64 op] w fun e w' => e = .returned (.int .i64 (takesI op)) ∧ w' = w := by
  by_cases h : op < 0 ∨ 8 ≤ op
  · have ht : takesI op = -1 := by unfold takesI; rw [if_pos h]
    rw [ht]
    clear ht hT
    rcases h with h | h
    · go_enter Tryd.func88, Tryd.ntmps88
      go_wp2
      go_ret
      exact ⟨rfl, rfl⟩
    · have h0 : ¬ op < 0 := by omega
      have h8 : op ≥ 8 := by omega
      go_enter Tryd.func88, Tryd.ntmps88
      go_wp2
      go_ret
      exact ⟨rfl, rfl⟩
  · obtain ⟨k, rfl⟩ : ∃ k : Nat, op = (k : Int) := ⟨op.toNat, by omega⟩
    have hk : k < 8 := by omega
    have ht : takesI (k : Int) = tkL.getD k 0 := by unfold takesI; rw [if_neg h, Int.toNat_natCast]
    rw [ht]
    have hc := hT k hk
    generalize tkL.getD k 0 = t at *
    clear ht hT h
    have h0 : ¬ (k : Int) < 0 := by omega
    have h8 : ¬ (k : Int) ≥ 8 := by omega
    go_enter Tryd.func88, Tryd.ntmps88
    go_wp2
    go_ret
    exact ⟨rfl, rfl⟩

theorem info_w3 : (Tryd.prog.info? 119).map (·.size) = some 3 := by kernel_rfl
theorem words_any (b o : Nat) (w : World) : Calls Tryd.prog 89 #[.pointer (some ⟨b, o, none⟩)] w fun e w' =>
    e = .returned (.agg #[.pointer (some ⟨b, o + 1, none⟩), .pointer (some ⟨b, o + 2, none⟩), .pointer (some ⟨b, o + 3, none⟩)]) ∧ Below w.heap.size w w' := by
  go_enter Tryd.func89, Tryd.ntmps89
  go_wp2
  go_region
  all_goals
    go_wp2
    exact bodyPost_ret (results_cell_row rfl _ _ w.heap.size 119 _ (0, 0) _ rfl (World.alloc_heap_new _ _) Tryd.underlying119 rfl info_w3) rfl ⟨rfl, ((Below.refl _ _).alloc (Nat.le_refl _) _).drew⟩

/-! ### Of numbers that pointers lead to: are all 0? -/
abbrev PA := Nat × Nat × Nat
def ptrP (x : PA) : Value := .pointer (some ⟨x.1, x.2.1, none⟩)
def Leads (w : World) (x : PA) : Prop := w.cell? ⟨x.1, x.2.1, none⟩ = some (.int .u64 (x.2.2 : Int))
def zeroP (x : PA) : Bool := x.2.2 == 0
theorem right1_any (x : PA) (w : World) (h : Leads w x) : Calls Tryd.prog 91 #[ptrP x] w fun e w' => e = .returned (.bool (zeroP x)) ∧ w' = w := by
  obtain ⟨b, o, v⟩ := x
  unfold ptrP zeroP
  have hc : w.cell? ⟨b, o, none⟩ = some (.int .u64 (v : Int)) := h
  clear h
  rcases Nat.eq_zero_or_pos v with rfl | hv
  · go_enter Tryd.func91, Tryd.ntmps91
    go_wp2
    go_ret
    exact ⟨rfl, rfl⟩
  · have hz : ¬ ((v : Int) = 0) := by omega
    have hb : (v == 0) = false := by simp; omega
    simp only [hb]
    go_enter Tryd.func91, Tryd.ntmps91
    go_wp2
    go_ret
    exact ⟨ret_bool (by simp; omega), rfl⟩
theorem allP1_any (x : PA) (g : Nat) (w : World) (h : Leads w x) (hg : w.cell? ⟨g, 0, none⟩ = some (.func (.func 91) #[] #[])) :
    Calls Tryd.prog 98 #[ptrP x, .pointer (some ⟨g, 0, none⟩)] w fun e w' => e = .returned (.bool (!zeroP x)) ∧ w' = w := by
  have C := right1_any x w h
  have C'h := Lib.hid C
  clear C
  clear h
  go_enter Tryd.func98, Tryd.ntmps98
  go_wp2_with fail
  refine (C'h.out).mono ?_
  rintro e w' ⟨rfl, rfl⟩
  go_wp2
  go_ret
  exact ⟨ret_bool rfl, rfl⟩
theorem idxP_any (sp : Option Addr) (n cap : Nat) (l : List PA) (g : Nat) (w : World) (h : SlK w 1 sp n (l.map ptrP)) (hl : ∀ x ∈ l, Leads w x) (hg : w.cell? ⟨g, 0, none⟩ = some (.func (.func 91) #[] #[])) :
    Calls Tryd.prog 101 #[.slice sp n cap, .func (.func 98) #[] #[.pointer (some ⟨g, 0, none⟩)]] w fun e w' => e = .returned (.int .i64 (idxG (fun x => !zeroP x) l)) ∧ w' = w := by
  have hlen : n = l.length := by have := h.1; simpa using this.symm
  have hmax := h.2.1
  unfold maxLen at hmax
  have hlen'h := Lib.hid hlen
  have h'h := Lib.hid h
  have hl'h := Lib.hid hl
  have hg'h := Lib.hid hg
  clear hlen h hl hg
  go_enter Tryd.func101, Tryd.ntmps101
  go_wp2
  go_loopg [8] n (fun q i wr => ∃ k : Nat, k + q = n ∧ i = .int .i64 k ∧ (∀ j, (h : j < k) → (h' : j < l.length) → (!zeroP (l[j]'h')) = false) ∧ wr = w)
  case atStart => exact ⟨0, by omega, rfl, fun j hj => by omega, rfl⟩
  case round =>
    obtain ⟨k, hk, rfl, hall, rfl⟩ := hrel
    have hkn : k ≤ n := by omega
    by_cases hlt : k < n
    · have hkl : k < l.length := by have := hlen'h.out; omega
      obtain ⟨b, off, rfl, hcs⟩ := h'h.out.some' (by omega)
      have c1 : wr.cell? ⟨b, off + k, none⟩ = some (ptrP l[k]) := hcs k _ (by rw [List.getElem?_map, List.getElem?_eq_getElem hkl]; rfl)
      have C := allP1_any l[k] g wr (hl'h.out _ (List.getElem_mem hkl)) hg'h.out
      clear hcs
      obtain ⟨v, hv⟩ : ∃ v, v = ptrP l[k] := ⟨_, rfl⟩
      rw [← hv] at c1 C
      clear hv
      cases hz : !zeroP l[k] with
      | true =>
        have hr := idxG_hit (p := fun x => !zeroP x) hkl (fun j hj => hall j hj (by omega)) hz
        rw [hz] at C
        have hk'h := Lib.hid hk
        have hall'h := Lib.hid hall
        have C'h := Lib.hid C
        have hr'h := Lib.hid hr
        clear hk hall C hr
        clear hz
        go_wp2_with fail
        refine (C'h.out).mono ?_
        rintro e w' ⟨rfl, rfl⟩
        go_wp2
        go_ret
        exact ⟨ret_i64 hr'h.out.symm, rfl⟩
      | false =>
        have hall' : ∀ j, (h : j < k + 1) → (h' : j < l.length) → (!zeroP (l[j]'h')) = false := fun j hj h' => by
          by_cases e : j = k
          · subst e; exact hz
          · exact hall j (by omega) h'
        rw [hz] at C
        have hk'h := Lib.hid hk
        have hall'h := Lib.hid hall
        have C'h := Lib.hid C
        have hall''h := Lib.hid hall'
        clear hk hall C hall'
        clear hz
        go_wp2_with fail
        refine (C'h.out).mono ?_
        rintro e w' ⟨rfl, rfl⟩
        go_wp2
        go_roundg (gk - 1)
        case measure => have := hk'h.out; omega
        case rel => exact ⟨k + 1, by have := hk'h.out; omega, by go_num, hall''h.out, rfl⟩
    · have hr := idxG_none (l := l) (p := fun x => !zeroP x) (fun j hj => hall j (by have := hlen'h.out; omega) hj)
      have hd : ¬ ((k : Int) < (n : Int)) := by omega
      have hk'h := Lib.hid hk
      have hall'h := Lib.hid hall
      have hr'h := Lib.hid hr
      clear hk hall hr
      go_wp2
      go_ret
      exact ⟨ret_i64 hr'h.out.symm, rfl⟩
theorem hasP_any (sp : Option Addr) (n cap : Nat) (l : List PA) (g : Nat) (w : World) (h : SlK w 1 sp n (l.map ptrP)) (hl : ∀ x ∈ l, Leads w x) (hg : w.cell? ⟨g, 0, none⟩ = some (.func (.func 91) #[] #[])) :
    Calls Tryd.prog 97 #[.slice sp n cap, .func (.func 98) #[] #[.pointer (some ⟨g, 0, none⟩)]] w fun e w' => e = .returned (.bool (l.any fun x => !zeroP x)) ∧ w' = w := by
  have I := idxP_any sp n cap l g w h hl hg
  rw [← idxG_any]
  generalize idxG (fun x => !zeroP x) l = i at *
  have I'h := Lib.hid I
  clear I
  clear hg hl h
  go_enter Tryd.func97, Tryd.ntmps97
  go_wp2_with fail
  refine (I'h.out).mono ?_
  rintro e w' ⟨rfl, rfl⟩
  by_cases hi : 0 ≤ i
  · go_wp2
    go_ret
    exact ⟨ret_bool (by simp [hi]), rfl⟩
  · go_wp2
    go_ret
    exact ⟨ret_bool (by simp [hi]), rfl⟩
theorem allP_any (sp : Option Addr) (n cap : Nat) (l : List PA) (w : World) (h : SlK w 1 sp n (l.map ptrP)) (hl : ∀ x ∈ l, Leads w x) :
    Calls Tryd.prog 90 #[.slice sp n cap, .func (.func 91) #[] #[]] w fun e w' => e = .returned (.bool (l.all zeroP)) ∧ Below w.heap.size w w' := by
  have hb : Below w.heap.size w (w.alloc (.cells #[.func (.func 91) #[] #[]] 124)) := (Below.refl _ _).alloc (Nat.le_refl _) _
  have hg : (w.alloc (.cells #[.func (.func 91) #[] #[]] 124)).cell? ⟨w.heap.size, 0, none⟩ = some (.func (.func 91) #[] #[]) := blk_cell (World.alloc_heap_new _ _) rfl
  have C := hasP_any sp n cap l w.heap.size _ (h.below hb) (fun x hx => (hb.cell (p := ⟨x.1, x.2.1, none⟩) (lt_of_cell (hl x hx))).trans (hl x hx)) hg
  have e : (!l.any fun x => !zeroP x) = l.all zeroP := by
    rw [← List.not_all_eq_any_not]; simp
  generalize (l.any fun x => !zeroP x) = v at *
  have C'h := Lib.hid C
  have hb'h := Lib.hid hb
  have e'h := Lib.hid e
  clear C hb e
  clear hl h hg
  go_enter Tryd.func90, Tryd.ntmps90
  go_wp2_with fail
  refine (C'h.out).mono ?_
  rintro e w' ⟨rfl, rfl⟩
  go_wp2
  go_ret
  exact ⟨ret_bool e'h.out, hb'h.out⟩

/-! ### May a call be? -/
theorem SlK.drop {w : World} {b off n : Nat} {vals : List Value} (h : SlK w 1 (some ⟨b, off, none⟩) n vals) (m : Nat) (hm : m ≤ n) : SlK w 1 (some ⟨b, off + m, none⟩) (n - m) (vals.drop m) := by
  obtain ⟨h1, h2, h3⟩ := h
  refine ⟨by rw [List.length_drop, h1]; omega, by omega, ?_⟩
  rcases h3 with h0 | ⟨b', o', e, hc⟩
  · exact .inl (by omega)
  · cases e
    refine .inr ⟨b, off + m, rfl, fun j u hu => ?_⟩
    rw [Nat.add_assoc]
    rw [List.getElem?_drop] at hu
    exact hc _ u hu
def paC (b : Nat) (c : Cal) : List PA := [(b, 1, c.key), (b, 2, c.a), (b, 3, c.b)]
theorem paC_all (b m : Nat) (c : Cal) : ((paC b c).drop m).all zeroP = ((wordsC c).drop m).all (· == 0) := by
  have : wordsC c = (paC b c).map fun x => x.2.2 := rfl
  rw [this, ← List.map_drop, List.all_map]
  rfl
theorem right_any (c : Cal) (w : World) (hT : Tks w) : Calls Tryd.prog 74 #[.agg (calA c)] w fun e w' => e = .returned (.bool (rightC c)) ∧ Below w.heap.size w w' := by
  have hB1 : Below w.heap.size w (w.alloc (.cells (calA c) 31)) := (Below.refl _ _).alloc (Nat.le_refl _) _
  have C := takes_any c.op _ (hT.next hB1)
  have hr := takesI_range c.op
  have hblk : (w.alloc (.cells (calA c) 31)).heap[w.heap.size]? = some (.cells (calA c) 31) := World.alloc_heap_new _ _
  unfold rightC
  obtain ⟨t, ht⟩ : ∃ t, t = takesI c.op := ⟨_, rfl⟩
  rw [← ht] at C hr ⊢
  clear ht hT
  obtain ⟨op, key, a, b⟩ := c
  unfold calA at hblk hB1 C ⊢
  by_cases ht : t < 0
  · have hd : decide (0 ≤ t) = false := decide_eq_false (by omega)
    simp only [hd, Bool.false_and]
    have C'h := Lib.hid C
    have hB1'h := Lib.hid hB1
    clear C hB1
    clear hblk hd
    go_enter Tryd.func74, Tryd.ntmps74
    go_wp2_with fail
    refine (C'h.out).mono ?_
    rintro e w' ⟨rfl, rfl⟩
    go_wp2
    go_ret
    exact ⟨rfl, hB1'h.out⟩
  · obtain ⟨m, rfl⟩ : ∃ m : Nat, t = (m : Int) := ⟨t.toNat, by omega⟩
    have hm : m ≤ 3 := by omega
    have hd : decide (0 ≤ (m : Int)) = true := decide_eq_true (by omega)
    simp only [hd, Bool.true_and, Int.toNat_natCast]
    have ht' : ¬ ((m : Int) < 0) := ht
    have C'h := Lib.hid C
    have hB1'h := Lib.hid hB1
    clear C hB1
    clear hd ht hr
    go_enter Tryd.func74, Tryd.ntmps74
    go_wp2_with fail
    refine (C'h.out).mono ?_
    rintro e w' ⟨rfl, rfl⟩
    go_wp2_with fail
    refine (words_any w.heap.size 0 _).mono ?_
    rintro e w2 ⟨rfl, hB2⟩
    have hblk2 := heap_below hB2 hblk (lt_of_heap hblk)
    have hBw2 := hB1'h.out.trans (hB2.mono hB1'h.out.size)
    have hz2 := lt_of_heap hblk2
    have hB2'h := Lib.hid hB2
    have hblk2'h := Lib.hid hblk2
    have hBw2'h := Lib.hid hBw2
    clear hB2 hblk2 hBw2
    clear hblk
    rcases (show m = 0 ∨ m = 1 ∨ m = 2 ∨ m = 3 by omega) with rfl | rfl | rfl | rfl
    ·
      go_wp2_with fail
      have hs : SlK (w2.alloc (Obj.cells #[.pointer (some ⟨w.heap.size, 1, none⟩), .pointer (some ⟨w.heap.size, 2, none⟩), .pointer (some ⟨w.heap.size, 3, none⟩)] 119)) 1 (some ⟨w2.heap.size, 0, none⟩) 3 ((paC w.heap.size ⟨op, key, a, b⟩).map ptrP) :=
        SlK.of_blk (World.alloc_heap_new _ _) rfl (by unfold maxLen; omega)
      have hbl : ∀ x ∈ (paC w.heap.size ⟨op, key, a, b⟩).drop 0, Leads (w2.alloc (Obj.cells #[.pointer (some ⟨w.heap.size, 1, none⟩), .pointer (some ⟨w.heap.size, 2, none⟩), .pointer (some ⟨w.heap.size, 3, none⟩)] 119)) x := by
        intro x hx
        have hx' := List.mem_of_mem_drop hx
        have hb := heap_below ((Below.refl w2.heap.size w2).alloc (Nat.le_refl _) (Obj.cells #[.pointer (some ⟨w.heap.size, 1, none⟩), .pointer (some ⟨w.heap.size, 2, none⟩), .pointer (some ⟨w.heap.size, 3, none⟩)] 119)) hblk2'h.out hz2
        simp only [paC, List.mem_cons, List.not_mem_nil, or_false] at hx'
        rcases hx' with rfl | rfl | rfl
        · exact blk_cell (i := 1) hb rfl
        · exact blk_cell (i := 2) hb rfl
        · exact blk_cell (i := 3) hb rfl
      refine (allP_any (some ⟨w2.heap.size, 0, none⟩) 3 3 ((paC w.heap.size ⟨op, key, a, b⟩).drop 0) _ (hs.drop 0 (by omega)) hbl).mono ?_
      rintro e w3 ⟨rfl, hB3⟩
      rw [paC_all]
      have hB23 : Below w2.heap.size w2 w3 := ((Below.refl _ _).alloc (Nat.le_refl _) _).trans (hB3.mono (by simp))
      clear hB3 hs hbl
      have hB23'h := Lib.hid hB23
      clear hB23
      go_wp2
      go_ret
      exact ⟨rfl, hBw2'h.out.trans (hB23'h.out.mono hBw2'h.out.size)⟩
    ·
      go_wp2_with fail
      have hs : SlK (w2.alloc (Obj.cells #[.pointer (some ⟨w.heap.size, 1, none⟩), .pointer (some ⟨w.heap.size, 2, none⟩), .pointer (some ⟨w.heap.size, 3, none⟩)] 119)) 1 (some ⟨w2.heap.size, 0, none⟩) 3 ((paC w.heap.size ⟨op, key, a, b⟩).map ptrP) :=
        SlK.of_blk (World.alloc_heap_new _ _) rfl (by unfold maxLen; omega)
      have hbl : ∀ x ∈ (paC w.heap.size ⟨op, key, a, b⟩).drop 1, Leads (w2.alloc (Obj.cells #[.pointer (some ⟨w.heap.size, 1, none⟩), .pointer (some ⟨w.heap.size, 2, none⟩), .pointer (some ⟨w.heap.size, 3, none⟩)] 119)) x := by
        intro x hx
        have hx' := List.mem_of_mem_drop hx
        have hb := heap_below ((Below.refl w2.heap.size w2).alloc (Nat.le_refl _) (Obj.cells #[.pointer (some ⟨w.heap.size, 1, none⟩), .pointer (some ⟨w.heap.size, 2, none⟩), .pointer (some ⟨w.heap.size, 3, none⟩)] 119)) hblk2'h.out hz2
        simp only [paC, List.mem_cons, List.not_mem_nil, or_false] at hx'
        rcases hx' with rfl | rfl | rfl
        · exact blk_cell (i := 1) hb rfl
        · exact blk_cell (i := 2) hb rfl
        · exact blk_cell (i := 3) hb rfl
      refine (allP_any (some ⟨w2.heap.size, 1, none⟩) 2 2 ((paC w.heap.size ⟨op, key, a, b⟩).drop 1) _ (hs.drop 1 (by omega)) hbl).mono ?_
      rintro e w3 ⟨rfl, hB3⟩
      rw [paC_all]
      have hB23 : Below w2.heap.size w2 w3 := ((Below.refl _ _).alloc (Nat.le_refl _) _).trans (hB3.mono (by simp))
      clear hB3 hs hbl
      have hB23'h := Lib.hid hB23
      clear hB23
      go_wp2
      go_ret
      exact ⟨rfl, hBw2'h.out.trans (hB23'h.out.mono hBw2'h.out.size)⟩
    ·
      go_wp2_with fail
      have hs : SlK (w2.alloc (Obj.cells #[.pointer (some ⟨w.heap.size, 1, none⟩), .pointer (some ⟨w.heap.size, 2, none⟩), .pointer (some ⟨w.heap.size, 3, none⟩)] 119)) 1 (some ⟨w2.heap.size, 0, none⟩) 3 ((paC w.heap.size ⟨op, key, a, b⟩).map ptrP) :=
        SlK.of_blk (World.alloc_heap_new _ _) rfl (by unfold maxLen; omega)
      have hbl : ∀ x ∈ (paC w.heap.size ⟨op, key, a, b⟩).drop 2, Leads (w2.alloc (Obj.cells #[.pointer (some ⟨w.heap.size, 1, none⟩), .pointer (some ⟨w.heap.size, 2, none⟩), .pointer (some ⟨w.heap.size, 3, none⟩)] 119)) x := by
        intro x hx
        have hx' := List.mem_of_mem_drop hx
        have hb := heap_below ((Below.refl w2.heap.size w2).alloc (Nat.le_refl _) (Obj.cells #[.pointer (some ⟨w.heap.size, 1, none⟩), .pointer (some ⟨w.heap.size, 2, none⟩), .pointer (some ⟨w.heap.size, 3, none⟩)] 119)) hblk2'h.out hz2
        simp only [paC, List.mem_cons, List.not_mem_nil, or_false] at hx'
        rcases hx' with rfl | rfl | rfl
        · exact blk_cell (i := 1) hb rfl
        · exact blk_cell (i := 2) hb rfl
        · exact blk_cell (i := 3) hb rfl
      refine (allP_any (some ⟨w2.heap.size, 2, none⟩) 1 1 ((paC w.heap.size ⟨op, key, a, b⟩).drop 2) _ (hs.drop 2 (by omega)) hbl).mono ?_
      rintro e w3 ⟨rfl, hB3⟩
      rw [paC_all]
      have hB23 : Below w2.heap.size w2 w3 := ((Below.refl _ _).alloc (Nat.le_refl _) _).trans (hB3.mono (by simp))
      clear hB3 hs hbl
      have hB23'h := Lib.hid hB23
      clear hB23
      go_wp2
      go_ret
      exact ⟨rfl, hBw2'h.out.trans (hB23'h.out.mono hBw2'h.out.size)⟩
    ·
      go_wp2_with fail
      have hs : SlK (w2.alloc (Obj.cells #[.pointer (some ⟨w.heap.size, 1, none⟩), .pointer (some ⟨w.heap.size, 2, none⟩), .pointer (some ⟨w.heap.size, 3, none⟩)] 119)) 1 (some ⟨w2.heap.size, 0, none⟩) 3 ((paC w.heap.size ⟨op, key, a, b⟩).map ptrP) :=
        SlK.of_blk (World.alloc_heap_new _ _) rfl (by unfold maxLen; omega)
      have hbl : ∀ x ∈ (paC w.heap.size ⟨op, key, a, b⟩).drop 3, Leads (w2.alloc (Obj.cells #[.pointer (some ⟨w.heap.size, 1, none⟩), .pointer (some ⟨w.heap.size, 2, none⟩), .pointer (some ⟨w.heap.size, 3, none⟩)] 119)) x := by
        intro x hx
        have hx' := List.mem_of_mem_drop hx
        have hb := heap_below ((Below.refl w2.heap.size w2).alloc (Nat.le_refl _) (Obj.cells #[.pointer (some ⟨w.heap.size, 1, none⟩), .pointer (some ⟨w.heap.size, 2, none⟩), .pointer (some ⟨w.heap.size, 3, none⟩)] 119)) hblk2'h.out hz2
        simp only [paC, List.mem_cons, List.not_mem_nil, or_false] at hx'
        rcases hx' with rfl | rfl | rfl
        · exact blk_cell (i := 1) hb rfl
        · exact blk_cell (i := 2) hb rfl
        · exact blk_cell (i := 3) hb rfl
      refine (allP_any (some ⟨w2.heap.size, 0, none⟩) 0 0 ((paC w.heap.size ⟨op, key, a, b⟩).drop 3) _ (SlK.nil _ _ _) hbl).mono ?_
      rintro e w3 ⟨rfl, hB3⟩
      rw [paC_all]
      have hB23 : Below w2.heap.size w2 w3 := ((Below.refl _ _).alloc (Nat.le_refl _) _).trans (hB3.mono (by simp))
      clear hB3 hs hbl
      have hB23'h := Lib.hid hB23
      clear hB23
      go_wp2
      go_ret
      exact ⟨rfl, hBw2'h.out.trans (hB23'h.out.mono hBw2'h.out.size)⟩
end Go.Proofs.YtogeohjeabbmaaaDoor
