/-
  Several texts of mine in one: ScrPure ScrA ScrB ScrC ScrD ScrE ScrF.
-/
import Derived.Test.YtifofdciablljaaDoorQ1
import Derived.RegionTactic
import Derived.Deep.LoopGhost
import Derived.Deep.Cut
import Derived.Deep.CutRange
import Derived.Deep.RegionHeld3
import Derived.StillTailTactics
import Derived.Deep.OwnRows
import Derived.Deep.QuietTactic
import Derived.BigQuiet
/-
  Layer 3 (script), plain: calls, scripts, what they read as in memory; the table of the words that calls take.
-/
set_option linter.unusedSimpArgs false
set_option linter.unusedVariables false
namespace Go.Proofs.YtifofdciablljaaDoor
open Go.RowKit

/-- The package's table, as its own text lays it. -/
def tkL : List Int := [-1, 1, 2, 1, 3, 2, 0, 0]
def Tks (w : World) : Prop := ∀ i : Nat, i < 8 → w.cell? ⟨0, i, none⟩ = some (.int .i64 (tkL.getD i 0))
theorem Tks.lt {w : World} (h : Tks w) : 0 < w.heap.size := lt_of_cell (h 0 (by omega))
theorem Tks.below {w w' : World} {B : Nat} (h : Tks w) (hb : Below B w w') (hB : 0 < B) : Tks w' := fun i hi => (hb.cell (p := ⟨0, i, none⟩) hB).trans (h i hi)
theorem Tks.next {w w' : World} (h : Tks w) (hb : Below w.heap.size w w') : Tks w' := h.below hb h.lt
def takesI (op : Int) : Int := if op < 0 ∨ 8 ≤ op then -1 else tkL.getD op.toNat 0
theorem takesI_range (op : Int) : -1 ≤ takesI op ∧ takesI op ≤ 3 := by
  unfold takesI
  split
  · omega
  · have : op.toNat < 8 := by omega
    generalize op.toNat = k at *
    match k, this with
    | 0, _ => decide
    | 1, _ => decide
    | 2, _ => decide
    | 3, _ => decide
    | 4, _ => decide
    | 5, _ => decide
    | 6, _ => decide
    | 7, _ => decide
theorem takesI_some {op : Int} (h : 0 ≤ takesI op) : 1 ≤ op ∧ op ≤ 7 := by
  unfold takesI at h
  split at h
  · omega
  · by_cases h0 : op = 0
    · subst h0; exact absurd h (by decide)
    · omega

/-- A call. -/
structure Cal where
  op : Int
  key : Nat
  a : Nat
  b : Nat
deriving DecidableEq
def calA (c : Cal) : Array Value := #[.int .i64 c.op, .int .u64 (c.key : Int), .int .u64 (c.a : Int), .int .u64 (c.b : Int)]
def calL (c : Cal) : List Value := [.int .i64 c.op, .int .u64 (c.key : Int), .int .u64 (c.a : Int), .int .u64 (c.b : Int)]
theorem calL_len (c : Cal) : (calL c).length = 4 := rfl
def cals (l : List Cal) : List Value := l.flatMap calL
def nthCal (l : List Cal) (k : Nat) : Cal := l.getD k ⟨0, 0, 0, 0⟩
theorem cals_length (l : List Cal) : (cals l).length = l.length * 4 := by unfold cals; exact flat_len calL_len l
structure CalOk (c : Cal) : Prop where
  lo : -9223372036854775808 ≤ c.op
  hi : c.op ≤ 9223372036854775807
  key : c.key < 2 ^ 64
  a : c.a < 2 ^ 64
  b : c.b < 2 ^ 64
/-- The words of a call, as many as it takes, the others 0. -/
def wordsC (c : Cal) : List Nat := [c.key, c.a, c.b]
def rightC (c : Cal) : Bool := decide (0 ≤ takesI c.op) && ((wordsC c).drop (takesI c.op).toNat).all (· == 0)

/-! ### The place of the first one of which something holds -/
def idxG {α : Type} (p : α → Bool) (l : List α) : Int := if l.findIdx p < l.length then (l.findIdx p : Int) else -1
theorem idxG_hit {α : Type} {p : α → Bool} {l : List α} {k : Nat} (hk : k < l.length) (hno : ∀ j, (h : j < k) → p (l[j]'(by omega)) = false) (h : p l[k] = true) : idxG p l = (k : Int) := by
  have e : l.findIdx p = k := (List.findIdx_eq hk).2 ⟨h, fun j hj => by have := hno j hj; simpa using this⟩
  unfold idxG; rw [e, if_pos hk]
theorem idxG_none {α : Type} {p : α → Bool} {l : List α} (hno : ∀ j, (h : j < l.length) → p l[j] = false) : idxG p l = -1 := by
  unfold idxG
  rw [if_neg]
  intro h
  have h1 := List.findIdx_getElem (w := h)
  rw [hno _ h] at h1
  cases h1
theorem idxG_any {α : Type} (p : α → Bool) (l : List α) : decide (0 ≤ idxG p l) = l.any p := by
  unfold idxG
  by_cases h : l.findIdx p < l.length
  · rw [if_pos h, decide_eq_true (by omega)]
    exact (List.any_eq_true.2 ⟨_, List.getElem_mem h, List.findIdx_getElem (w := h)⟩).symm
  · rw [if_neg h, decide_eq_false (by omega)]
    symm
    rw [List.any_eq_false]
    intro x hx hp
    exact h (List.findIdx_lt_length_of_exists ⟨x, hx, hp⟩)
end Go.Proofs.YtifofdciablljaaDoor

/-
  Layer 3 (script): what calls take, the words of a call, whether something holds of all.
-/
set_option linter.unusedSimpArgs false
set_option linter.unusedVariables false
set_option maxRecDepth 100000
namespace Go.Proofs.YtifofdciablljaaDoor
open Go.RowKit

theorem takes_any (op : Int) (w : World) (hT : Tks w) : Calls Tryd.prog 11 #[.int .i64 op] w fun e w' => e = .returned (.int .i64 (takesI op)) ∧ w' = w := by
  by_cases h : op < 0 ∨ 8 ≤ op
  · have ht : takesI op = -1 := by unfold takesI; rw [if_pos h]
    rw [ht]
    clear ht hT
    rcases h with h | h
    · go_enter Tryd.func11, Tryd.ntmps11
      go_wp2
      go_ret
      exact ⟨rfl, rfl⟩
    · have h0 : ¬ op < 0 := by omega
      have h8 : op ≥ 8 := by omega
      go_enter Tryd.func11, Tryd.ntmps11
      go_wp2
      go_ret
      exact ⟨rfl, rfl⟩
  · obtain ⟨k, rfl⟩ : ∃ k : Nat, op = (k : Int) := ⟨op.toNat, by omega⟩
    have hk : k < 8 := by omega
    have ht : takesI (k : Int) = tkL.getD k 0 := by unfold takesI; rw [if_neg h, Int.toNat_natCast]
    rw [ht]
    have hc := hT k hk
    generalize tkL.getD k 0 = t at *
    clear ht hT h
    have h0 : ¬ (k : Int) < 0 := by omega
    have h8 : ¬ (k : Int) ≥ 8 := by omega
    go_enter Tryd.func11, Tryd.ntmps11
    go_wp2
    go_ret
    exact ⟨rfl, rfl⟩

theorem info_w3 : (Tryd.prog.info? 93).map (·.size) = some 3 := by kernel_rfl
theorem words_any (b o : Nat) (w : World) : Calls Tryd.prog 56 #[.pointer (some ⟨b, o, none⟩)] w fun e w' =>
    e = .returned (.agg #[.pointer (some ⟨b, o + 1, none⟩), .pointer (some ⟨b, o + 2, none⟩), .pointer (some ⟨b, o + 3, none⟩)]) ∧ Below w.heap.size w w' := by
  go_enter Tryd.func56, Tryd.ntmps56
  go_wp2
  go_region
  all_goals
    go_wp2
    exact bodyPost_ret (results_cell_row rfl _ _ w.heap.size 93 _ (0, 0) _ rfl (World.alloc_heap_new _ _) Tryd.underlying93 rfl info_w3) rfl ⟨rfl, ((Below.refl _ _).alloc (Nat.le_refl _) _).drew⟩

/-! ### Of numbers that pointers lead to: are all 0? -/
abbrev PA := Nat × Nat × Nat
def ptrP (x : PA) : Value := .pointer (some ⟨x.1, x.2.1, none⟩)
def Leads (w : World) (x : PA) : Prop := w.cell? ⟨x.1, x.2.1, none⟩ = some (.int .u64 (x.2.2 : Int))
def zeroP (x : PA) : Bool := x.2.2 == 0
theorem right1_any (x : PA) (w : World) (h : Leads w x) : Calls Tryd.prog 58 #[ptrP x] w fun e w' => e = .returned (.bool (zeroP x)) ∧ w' = w := by
  obtain ⟨b, o, v⟩ := x
  unfold ptrP zeroP
  have hc : w.cell? ⟨b, o, none⟩ = some (.int .u64 (v : Int)) := h
  clear h
  rcases Nat.eq_zero_or_pos v with rfl | hv
  · go_enter Tryd.func58, Tryd.ntmps58
    go_wp2
    go_ret
    exact ⟨rfl, rfl⟩
  · have hz : ¬ ((v : Int) = 0) := by omega
    have hb : (v == 0) = false := by simp; omega
    simp only [hb]
    go_enter Tryd.func58, Tryd.ntmps58
    go_wp2
    go_ret
    exact ⟨ret_bool (by simp; omega), rfl⟩
theorem allP1_any (x : PA) (g : Nat) (w : World) (h : Leads w x) (hg : w.cell? ⟨g, 0, none⟩ = some (.func (.func 58) #[] #[])) :
    Calls Tryd.prog 70 #[ptrP x, .pointer (some ⟨g, 0, none⟩)] w fun e w' => e = .returned (.bool (!zeroP x)) ∧ w' = w := by
  have C := right1_any x w h
  have C'h := Lib.hid C
  clear C
  clear h
  go_enter Tryd.func70, Tryd.ntmps70
  go_wp2_with fail
  refine (C'h.out).mono ?_
  rintro e w' ⟨rfl, rfl⟩
  go_wp2
  go_ret
  exact ⟨ret_bool rfl, rfl⟩
theorem idxP_any (sp : Option Addr) (n cap : Nat) (l : List PA) (g : Nat) (w : World) (h : SlK w 1 sp n (l.map ptrP)) (hl : ∀ x ∈ l, Leads w x) (hg : w.cell? ⟨g, 0, none⟩ = some (.func (.func 58) #[] #[])) :
    Calls Tryd.prog 81 #[.slice sp n cap, .func (.func 70) #[] #[.pointer (some ⟨g, 0, none⟩)]] w fun e w' => e = .returned (.int .i64 (idxG (fun x => !zeroP x) l)) ∧ w' = w := by
  have hlen : n = l.length := by have := h.1; simpa using this.symm
  have hmax := h.2.1
  unfold maxLen at hmax
  have hlen'h := Lib.hid hlen
  have h'h := Lib.hid h
  have hl'h := Lib.hid hl
  have hg'h := Lib.hid hg
  clear hlen h hl hg
  go_enter Tryd.func81, Tryd.ntmps81
  go_wp2
  go_loopg [8] n (fun q i wr => ∃ k : Nat, k + q = n ∧ i = .int .i64 k ∧ (∀ j, (h : j < k) → (h' : j < l.length) → (!zeroP (l[j]'h')) = false) ∧ wr = w)
  case atStart => exact ⟨0, by omega, rfl, fun j hj => by omega, rfl⟩
  case round =>
    obtain ⟨k, hk, rfl, hall, rfl⟩ := hrel
    have hkn : k ≤ n := by omega
    by_cases hlt : k < n
    · have hkl : k < l.length := by have := hlen'h.out; omega
      obtain ⟨b, off, rfl, hcs⟩ := h'h.out.some' (by omega)
      have c1 : wr.cell? ⟨b, off + k, none⟩ = some (ptrP l[k]) := hcs k _ (by rw [List.getElem?_map, List.getElem?_eq_getElem hkl]; rfl)
      have C := allP1_any l[k] g wr (hl'h.out _ (List.getElem_mem hkl)) hg'h.out
      clear hcs
      obtain ⟨v, hv⟩ : ∃ v, v = ptrP l[k] := ⟨_, rfl⟩
      rw [← hv] at c1 C
      clear hv
      cases hz : !zeroP l[k] with
      | true =>
        have hr := idxG_hit (p := fun x => !zeroP x) hkl (fun j hj => hall j hj (by omega)) hz
        rw [hz] at C
        have hk'h := Lib.hid hk
        have hall'h := Lib.hid hall
        have C'h := Lib.hid C
        have hr'h := Lib.hid hr
        clear hk hall C hr
        clear hz
        go_wp2_with fail
        refine (C'h.out).mono ?_
        rintro e w' ⟨rfl, rfl⟩
        go_wp2
        go_ret
        exact ⟨ret_i64 hr'h.out.symm, rfl⟩
      | false =>
        have hall' : ∀ j, (h : j < k + 1) → (h' : j < l.length) → (!zeroP (l[j]'h')) = false := fun j hj h' => by
          by_cases e : j = k
          · subst e; exact hz
          · exact hall j (by omega) h'
        rw [hz] at C
        have hk'h := Lib.hid hk
        have hall'h := Lib.hid hall
        have C'h := Lib.hid C
        have hall''h := Lib.hid hall'
        clear hk hall C hall'
        clear hz
        go_wp2_with fail
        refine (C'h.out).mono ?_
        rintro e w' ⟨rfl, rfl⟩
        go_wp2
        go_roundg (gk - 1)
        case measure => have := hk'h.out; omega
        case rel => exact ⟨k + 1, by have := hk'h.out; omega, by go_num, hall''h.out, rfl⟩
    · have hr := idxG_none (l := l) (p := fun x => !zeroP x) (fun j hj => hall j (by have := hlen'h.out; omega) hj)
      have hd : ¬ ((k : Int) < (n : Int)) := by omega
      have hk'h := Lib.hid hk
      have hall'h := Lib.hid hall
      have hr'h := Lib.hid hr
      clear hk hall hr
      go_wp2
      go_ret
      exact ⟨ret_i64 hr'h.out.symm, rfl⟩
theorem hasP_any (sp : Option Addr) (n cap : Nat) (l : List PA) (g : Nat) (w : World) (h : SlK w 1 sp n (l.map ptrP)) (hl : ∀ x ∈ l, Leads w x) (hg : w.cell? ⟨g, 0, none⟩ = some (.func (.func 58) #[] #[])) :
    Calls Tryd.prog 69 #[.slice sp n cap, .func (.func 70) #[] #[.pointer (some ⟨g, 0, none⟩)]] w fun e w' => e = .returned (.bool (l.any fun x => !zeroP x)) ∧ w' = w := by
  have I := idxP_any sp n cap l g w h hl hg
  rw [← idxG_any]
  generalize idxG (fun x => !zeroP x) l = i at *
  have I'h := Lib.hid I
  clear I
  clear hg hl h
  go_enter Tryd.func69, Tryd.ntmps69
  go_wp2_with fail
  refine (I'h.out).mono ?_
  rintro e w' ⟨rfl, rfl⟩
  by_cases hi : 0 ≤ i
  · go_wp2
    go_ret
    exact ⟨ret_bool (by simp [hi]), rfl⟩
  · go_wp2
    go_ret
    exact ⟨ret_bool (by simp [hi]), rfl⟩
theorem allP_any (sp : Option Addr) (n cap : Nat) (l : List PA) (w : World) (h : SlK w 1 sp n (l.map ptrP)) (hl : ∀ x ∈ l, Leads w x) :
    Calls Tryd.prog 57 #[.slice sp n cap, .func (.func 58) #[] #[]] w fun e w' => e = .returned (.bool (l.all zeroP)) ∧ Below w.heap.size w w' := by
  have hb : Below w.heap.size w (w.alloc (.cells #[.func (.func 58) #[] #[]] 98)) := (Below.refl _ _).alloc (Nat.le_refl _) _
  have hg : (w.alloc (.cells #[.func (.func 58) #[] #[]] 98)).cell? ⟨w.heap.size, 0, none⟩ = some (.func (.func 58) #[] #[]) := blk_cell (World.alloc_heap_new _ _) rfl
  have C := hasP_any sp n cap l w.heap.size _ (h.below hb) (fun x hx => (hb.cell (p := ⟨x.1, x.2.1, none⟩) (lt_of_cell (hl x hx))).trans (hl x hx)) hg
  have e : (!l.any fun x => !zeroP x) = l.all zeroP := by
    rw [← List.not_all_eq_any_not]; simp
  generalize (l.any fun x => !zeroP x) = v at *
  have C'h := Lib.hid C
  have hb'h := Lib.hid hb
  have e'h := Lib.hid e
  clear C hb e
  clear hl h hg
  go_enter Tryd.func57, Tryd.ntmps57
  go_wp2_with fail
  refine (C'h.out).mono ?_
  rintro e w' ⟨rfl, rfl⟩
  go_wp2
  go_ret
  exact ⟨ret_bool e'h.out, hb'h.out⟩

/-! ### May a call be? -/
theorem SlK.drop {w : World} {b off n : Nat} {vals : List Value} (h : SlK w 1 (some ⟨b, off, none⟩) n vals) (m : Nat) (hm : m ≤ n) : SlK w 1 (some ⟨b, off + m, none⟩) (n - m) (vals.drop m) := by
  obtain ⟨h1, h2, h3⟩ := h
  refine ⟨by rw [List.length_drop, h1]; omega, by omega, ?_⟩
  rcases h3 with h0 | ⟨b', o', e, hc⟩
  · exact .inl (by omega)
  · cases e
    refine .inr ⟨b, off + m, rfl, fun j u hu => ?_⟩
    rw [Nat.add_assoc]
    rw [List.getElem?_drop] at hu
    exact hc _ u hu
def paC (b : Nat) (c : Cal) : List PA := [(b, 1, c.key), (b, 2, c.a), (b, 3, c.b)]
theorem paC_all (b m : Nat) (c : Cal) : ((paC b c).drop m).all zeroP = ((wordsC c).drop m).all (· == 0) := by
  have : wordsC c = (paC b c).map fun x => x.2.2 := rfl
  rw [this, ← List.map_drop, List.all_map]
  rfl
theorem right_any (c : Cal) (w : World) (hT : Tks w) : Calls Tryd.prog 39 #[.agg (calA c)] w fun e w' => e = .returned (.bool (rightC c)) ∧ Below w.heap.size w w' := by
  have hB1 : Below w.heap.size w (w.alloc (.cells (calA c) 57)) := (Below.refl _ _).alloc (Nat.le_refl _) _
  have C := takes_any c.op _ (hT.next hB1)
  have hr := takesI_range c.op
  have hblk : (w.alloc (.cells (calA c) 57)).heap[w.heap.size]? = some (.cells (calA c) 57) := World.alloc_heap_new _ _
  unfold rightC
  obtain ⟨t, ht⟩ : ∃ t, t = takesI c.op := ⟨_, rfl⟩
  rw [← ht] at C hr ⊢
  clear ht hT
  obtain ⟨op, key, a, b⟩ := c
  unfold calA at hblk hB1 C ⊢
  by_cases ht : t < 0
  · have hd : decide (0 ≤ t) = false := decide_eq_false (by omega)
    simp only [hd, Bool.false_and]
    have C'h := Lib.hid C
    have hB1'h := Lib.hid hB1
    clear C hB1
    clear hblk hd
    go_enter Tryd.func39, Tryd.ntmps39
    go_wp2_with fail
    refine (C'h.out).mono ?_
    rintro e w' ⟨rfl, rfl⟩
    go_wp2
    go_ret
    exact ⟨rfl, hB1'h.out⟩
  · obtain ⟨m, rfl⟩ : ∃ m : Nat, t = (m : Int) := ⟨t.toNat, by omega⟩
    have hm : m ≤ 3 := by omega
    have hd : decide (0 ≤ (m : Int)) = true := decide_eq_true (by omega)
    simp only [hd, Bool.true_and, Int.toNat_natCast]
    have ht' : ¬ ((m : Int) < 0) := ht
    have C'h := Lib.hid C
    have hB1'h := Lib.hid hB1
    clear C hB1
    clear hd ht hr
    go_enter Tryd.func39, Tryd.ntmps39
    go_wp2_with fail
    refine (C'h.out).mono ?_
    rintro e w' ⟨rfl, rfl⟩
    go_wp2_with fail
    refine (words_any w.heap.size 0 _).mono ?_
    rintro e w2 ⟨rfl, hB2⟩
    have hblk2 := heap_below hB2 hblk (lt_of_heap hblk)
    have hBw2 := hB1'h.out.trans (hB2.mono hB1'h.out.size)
    have hz2 := lt_of_heap hblk2
    have hB2'h := Lib.hid hB2
    have hblk2'h := Lib.hid hblk2
    have hBw2'h := Lib.hid hBw2
    clear hB2 hblk2 hBw2
    clear hblk
    rcases (show m = 0 ∨ m = 1 ∨ m = 2 ∨ m = 3 by omega) with rfl | rfl | rfl | rfl
    ·
      go_wp2_with fail
      have hs : SlK (w2.alloc (Obj.cells #[.pointer (some ⟨w.heap.size, 1, none⟩), .pointer (some ⟨w.heap.size, 2, none⟩), .pointer (some ⟨w.heap.size, 3, none⟩)] 93)) 1 (some ⟨w2.heap.size, 0, none⟩) 3 ((paC w.heap.size ⟨op, key, a, b⟩).map ptrP) :=
        SlK.of_blk (World.alloc_heap_new _ _) rfl (by unfold maxLen; omega)
      have hbl : ∀ x ∈ (paC w.heap.size ⟨op, key, a, b⟩).drop 0, Leads (w2.alloc (Obj.cells #[.pointer (some ⟨w.heap.size, 1, none⟩), .pointer (some ⟨w.heap.size, 2, none⟩), .pointer (some ⟨w.heap.size, 3, none⟩)] 93)) x := by
        intro x hx
        have hx' := List.mem_of_mem_drop hx
        have hb := heap_below ((Below.refl w2.heap.size w2).alloc (Nat.le_refl _) (Obj.cells #[.pointer (some ⟨w.heap.size, 1, none⟩), .pointer (some ⟨w.heap.size, 2, none⟩), .pointer (some ⟨w.heap.size, 3, none⟩)] 93)) hblk2'h.out hz2
        simp only [paC, List.mem_cons, List.not_mem_nil, or_false] at hx'
        rcases hx' with rfl | rfl | rfl
        · exact blk_cell (i := 1) hb rfl
        · exact blk_cell (i := 2) hb rfl
        · exact blk_cell (i := 3) hb rfl
      refine (allP_any (some ⟨w2.heap.size, 0, none⟩) 3 3 ((paC w.heap.size ⟨op, key, a, b⟩).drop 0) _ (hs.drop 0 (by omega)) hbl).mono ?_
      rintro e w3 ⟨rfl, hB3⟩
      rw [paC_all]
      have hB23 : Below w2.heap.size w2 w3 := ((Below.refl _ _).alloc (Nat.le_refl _) _).trans (hB3.mono (by simp))
      clear hB3 hs hbl
      have hB23'h := Lib.hid hB23
      clear hB23
      go_wp2
      go_ret
      exact ⟨rfl, hBw2'h.out.trans (hB23'h.out.mono hBw2'h.out.size)⟩
    ·
      go_wp2_with fail
      have hs : SlK (w2.alloc (Obj.cells #[.pointer (some ⟨w.heap.size, 1, none⟩), .pointer (some ⟨w.heap.size, 2, none⟩), .pointer (some ⟨w.heap.size, 3, none⟩)] 93)) 1 (some ⟨w2.heap.size, 0, none⟩) 3 ((paC w.heap.size ⟨op, key, a, b⟩).map ptrP) :=
        SlK.of_blk (World.alloc_heap_new _ _) rfl (by unfold maxLen; omega)
      have hbl : ∀ x ∈ (paC w.heap.size ⟨op, key, a, b⟩).drop 1, Leads (w2.alloc (Obj.cells #[.pointer (some ⟨w.heap.size, 1, none⟩), .pointer (some ⟨w.heap.size, 2, none⟩), .pointer (some ⟨w.heap.size, 3, none⟩)] 93)) x := by
        intro x hx
        have hx' := List.mem_of_mem_drop hx
        have hb := heap_below ((Below.refl w2.heap.size w2).alloc (Nat.le_refl _) (Obj.cells #[.pointer (some ⟨w.heap.size, 1, none⟩), .pointer (some ⟨w.heap.size, 2, none⟩), .pointer (some ⟨w.heap.size, 3, none⟩)] 93)) hblk2'h.out hz2
        simp only [paC, List.mem_cons, List.not_mem_nil, or_false] at hx'
        rcases hx' with rfl | rfl | rfl
        · exact blk_cell (i := 1) hb rfl
        · exact blk_cell (i := 2) hb rfl
        · exact blk_cell (i := 3) hb rfl
      refine (allP_any (some ⟨w2.heap.size, 1, none⟩) 2 2 ((paC w.heap.size ⟨op, key, a, b⟩).drop 1) _ (hs.drop 1 (by omega)) hbl).mono ?_
      rintro e w3 ⟨rfl, hB3⟩
      rw [paC_all]
      have hB23 : Below w2.heap.size w2 w3 := ((Below.refl _ _).alloc (Nat.le_refl _) _).trans (hB3.mono (by simp))
      clear hB3 hs hbl
      have hB23'h := Lib.hid hB23
      clear hB23
      go_wp2
      go_ret
      exact ⟨rfl, hBw2'h.out.trans (hB23'h.out.mono hBw2'h.out.size)⟩
    ·
      go_wp2_with fail
      have hs : SlK (w2.alloc (Obj.cells #[.pointer (some ⟨w.heap.size, 1, none⟩), .pointer (some ⟨w.heap.size, 2, none⟩), .pointer (some ⟨w.heap.size, 3, none⟩)] 93)) 1 (some ⟨w2.heap.size, 0, none⟩) 3 ((paC w.heap.size ⟨op, key, a, b⟩).map ptrP) :=
        SlK.of_blk (World.alloc_heap_new _ _) rfl (by unfold maxLen; omega)
      have hbl : ∀ x ∈ (paC w.heap.size ⟨op, key, a, b⟩).drop 2, Leads (w2.alloc (Obj.cells #[.pointer (some ⟨w.heap.size, 1, none⟩), .pointer (some ⟨w.heap.size, 2, none⟩), .pointer (some ⟨w.heap.size, 3, none⟩)] 93)) x := by
        intro x hx
        have hx' := List.mem_of_mem_drop hx
        have hb := heap_below ((Below.refl w2.heap.size w2).alloc (Nat.le_refl _) (Obj.cells #[.pointer (some ⟨w.heap.size, 1, none⟩), .pointer (some ⟨w.heap.size, 2, none⟩), .pointer (some ⟨w.heap.size, 3, none⟩)] 93)) hblk2'h.out hz2
        simp only [paC, List.mem_cons, List.not_mem_nil, or_false] at hx'
        rcases hx' with rfl | rfl | rfl
        · exact blk_cell (i := 1) hb rfl
        · exact blk_cell (i := 2) hb rfl
        · exact blk_cell (i := 3) hb rfl
      refine (allP_any (some ⟨w2.heap.size, 2, none⟩) 1 1 ((paC w.heap.size ⟨op, key, a, b⟩).drop 2) _ (hs.drop 2 (by omega)) hbl).mono ?_
      rintro e w3 ⟨rfl, hB3⟩
      rw [paC_all]
      have hB23 : Below w2.heap.size w2 w3 := ((Below.refl _ _).alloc (Nat.le_refl _) _).trans (hB3.mono (by simp))
      clear hB3 hs hbl
      have hB23'h := Lib.hid hB23
      clear hB23
      go_wp2
      go_ret
      exact ⟨rfl, hBw2'h.out.trans (hB23'h.out.mono hBw2'h.out.size)⟩
    ·
      go_wp2_with fail
      have hs : SlK (w2.alloc (Obj.cells #[.pointer (some ⟨w.heap.size, 1, none⟩), .pointer (some ⟨w.heap.size, 2, none⟩), .pointer (some ⟨w.heap.size, 3, none⟩)] 93)) 1 (some ⟨w2.heap.size, 0, none⟩) 3 ((paC w.heap.size ⟨op, key, a, b⟩).map ptrP) :=
        SlK.of_blk (World.alloc_heap_new _ _) rfl (by unfold maxLen; omega)
      have hbl : ∀ x ∈ (paC w.heap.size ⟨op, key, a, b⟩).drop 3, Leads (w2.alloc (Obj.cells #[.pointer (some ⟨w.heap.size, 1, none⟩), .pointer (some ⟨w.heap.size, 2, none⟩), .pointer (some ⟨w.heap.size, 3, none⟩)] 93)) x := by
        intro x hx
        have hx' := List.mem_of_mem_drop hx
        have hb := heap_below ((Below.refl w2.heap.size w2).alloc (Nat.le_refl _) (Obj.cells #[.pointer (some ⟨w.heap.size, 1, none⟩), .pointer (some ⟨w.heap.size, 2, none⟩), .pointer (some ⟨w.heap.size, 3, none⟩)] 93)) hblk2'h.out hz2
        simp only [paC, List.mem_cons, List.not_mem_nil, or_false] at hx'
        rcases hx' with rfl | rfl | rfl
        · exact blk_cell (i := 1) hb rfl
        · exact blk_cell (i := 2) hb rfl
        · exact blk_cell (i := 3) hb rfl
      refine (allP_any (some ⟨w2.heap.size, 0, none⟩) 0 0 ((paC w.heap.size ⟨op, key, a, b⟩).drop 3) _ (SlK.nil _ _ _) hbl).mono ?_
      rintro e w3 ⟨rfl, hB3⟩
      rw [paC_all]
      have hB23 : Below w2.heap.size w2 w3 := ((Below.refl _ _).alloc (Nat.le_refl _) _).trans (hB3.mono (by simp))
      clear hB3 hs hbl
      have hB23'h := Lib.hid hB23
      clear hB23
      go_wp2
      go_ret
      exact ⟨rfl, hBw2'h.out.trans (hB23'h.out.mono hBw2'h.out.size)⟩
end Go.Proofs.YtifofdciablljaaDoor

/-
  Layer 3 (script): does something hold of all calls of a row?
-/
set_option linter.unusedSimpArgs false
set_option linter.unusedVariables false
set_option maxRecDepth 100000
namespace Go.Proofs.YtifofdciablljaaDoor
open Go.RowKit

theorem info_cal : (Tryd.prog.info? 57).map (·.size) = some 4 := by kernel_rfl
theorem calA_one (c : Cal) : (calA c).all (·.oneCell') = true := by simp [calA, Value.oneCell', Value.cells]
theorem allC1_any (c : Cal) (g : Nat) (w : World) (hT : Tks w) (hg : w.cell? ⟨g, 0, none⟩ = some (.func (.func 39) #[] #[])) :
    Calls Tryd.prog 55 #[.agg (calA c), .pointer (some ⟨g, 0, none⟩)] w fun e w' => e = .returned (.bool (!rightC c)) ∧ Below w.heap.size w w' := by
  have hB1 : Below w.heap.size w (w.alloc (.cells (calA c) 57)) := (Below.refl _ _).alloc (Nat.le_refl _) _
  have C := right_any c _ (hT.next hB1)
  have hg1 := (hB1.cell (p := ⟨g, 0, none⟩) (lt_of_cell hg)).trans hg
  clear hg hT
  generalize rightC c = v at *
  obtain ⟨op, key, a, b⟩ := c
  unfold calA at *
  have C'h := Lib.hid C
  have hB1'h := Lib.hid hB1
  clear C hB1
  go_enter Tryd.func55, Tryd.ntmps55
  go_wp2_with fail
  refine C'h.out.mono ?_
  rintro e w2 ⟨rfl, hB2⟩
  have hBw2 := hB1'h.out.trans (hB2.mono hB1'h.out.size)
  have hBw2'h := Lib.hid hBw2
  clear hBw2
  clear hB2 C'h hB1'h hg1
  go_wp2
  go_ret
  exact ⟨ret_bool rfl, hBw2'h.out⟩
theorem idxC_any (sp : Option Addr) (n cap : Nat) (l : List Cal) (g : Nat) (w : World) (hT : Tks w) (h : SlK w 4 sp n (cals l)) (hg : w.cell? ⟨g, 0, none⟩ = some (.func (.func 39) #[] #[])) :
    Calls Tryd.prog 68 #[.slice sp n cap, .func (.func 55) #[] #[.pointer (some ⟨g, 0, none⟩)]] w fun e w' =>
      e = .returned (.int .i64 (idxG (fun x => !rightC x) l)) ∧ Below w.heap.size w w' := by
  have hlen : n = l.length := slk_len calL_len (by decide) h
  have hmax := h.2.1
  unfold maxLen at hmax
  have hlen'h := Lib.hid hlen
  have h'h := Lib.hid h
  have hg'h := Lib.hid hg
  have hT'h := Lib.hid hT
  clear hlen h hg hT
  go_enter Tryd.func68, Tryd.ntmps68
  go_wp2
  go_loopg [8] n (fun q i wr => ∃ k : Nat, k + q = n ∧ i = .int .i64 k ∧ (∀ j, (h : j < k) → (h' : j < l.length) → (!rightC (l[j]'h')) = false) ∧ Below w.heap.size w wr)
  case atStart => exact ⟨0, by omega, rfl, fun j hj => by omega, Below.refl _ _⟩
  case round =>
    obtain ⟨k, hk, rfl, hall, hbr⟩ := hrel
    have hkn : k ≤ n := by omega
    by_cases hlt : k < n
    · have hkl : k < l.length := by have := hlen'h.out; omega
      have hS := h'h.out.below hbr
      obtain ⟨b, off, rfl⟩ := slk_some hS (by omega)
      obtain ⟨c, hc⟩ : ∃ c, c = l[k] := ⟨_, rfl⟩
      have hlk : l[k]? = some c := by rw [hc]; exact List.getElem?_eq_getElem hkl
      have e0 : wr.cell? ⟨b, off + k * 4, none⟩ = some (.int .i64 c.op) := slk_cell calL_len hS (i := 0) hlk (by omega) rfl
      have e1 : wr.cell? ⟨b, off + k * 4 + 1, none⟩ = some (.int .u64 (c.key : Int)) := slk_cell calL_len hS (i := 1) hlk (by omega) rfl
      have e2 : wr.cell? ⟨b, off + k * 4 + 2, none⟩ = some (.int .u64 (c.a : Int)) := slk_cell calL_len hS (i := 2) hlk (by omega) rfl
      have e3 : wr.cell? ⟨b, off + k * 4 + 3, none⟩ = some (.int .u64 (c.b : Int)) := slk_cell calL_len hS (i := 3) hlk (by omega) rfl
      have C := allC1_any c g wr (hT'h.out.next (hbr.mono (Nat.le_refl _))) ((hbr.cell (p := ⟨g, 0, none⟩) (lt_of_cell hg'h.out)).trans hg'h.out)
      have hnx : ∀ j, (h : j < k + 1) → (h' : j < l.length) → rightC c = true → (!rightC (l[j]'h')) = false := fun j hj h' hz => by
        by_cases e : j = k
        · subst e; rw [← hc, hz]; rfl
        · exact hall j (by omega) h'
      have hit : rightC c = false → idxG (fun x => !rightC x) l = (k : Int) := fun hz => idxG_hit (p := fun x => !rightC x) hkl (fun j hj => hall j hj (by omega)) (by rw [← hc, hz]; rfl)
      have C := C
      clear hc hlk hall hS
      generalize rightC c = v at *
      obtain ⟨op, key, a, d⟩ := c
      unfold calA at C
      simp only at e0 e1 e2 e3
      cases v with
      | false =>
        have hr := hit rfl
        have hk'h := Lib.hid hk
        have C'h := Lib.hid C
        have hr'h := Lib.hid hr
        have hbr'h := Lib.hid hbr
        have hnx'h := Lib.hid hnx
        clear hk C hr hbr hnx
        clear hit
        go_wp2_with fail
        refine C'h.out.mono ?_
        rintro e w2 ⟨rfl, hB2⟩
        have hB2'h := Lib.hid hB2
        clear hB2
        go_wp2
        go_ret
        exact ⟨ret_i64 hr'h.out.symm, hbr'h.out.trans (hB2'h.out.mono hbr'h.out.size)⟩
      | true =>
        have hk'h := Lib.hid hk
        have C'h := Lib.hid C
        have hbr'h := Lib.hid hbr
        have hnx'h := Lib.hid hnx
        clear hk C hbr hnx
        clear hit
        go_wp2_with fail
        refine C'h.out.mono ?_
        rintro e w2 ⟨rfl, hB2⟩
        have hB2'h := Lib.hid hB2
        clear hB2
        go_wp2
        go_roundg (gk - 1)
        case measure => have := hk'h.out; omega
        case rel => exact ⟨k + 1, by have := hk'h.out; omega, by go_num, fun j hj h' => hnx'h.out j hj h' trivial, hbr'h.out.trans (hB2'h.out.mono hbr'h.out.size)⟩
    · have hr := idxG_none (l := l) (p := fun x => !rightC x) (fun j hj => hall j (by have := hlen'h.out; omega) hj)
      have hd : ¬ ((k : Int) < (n : Int)) := by omega
      have hk'h := Lib.hid hk
      have hall'h := Lib.hid hall
      have hr'h := Lib.hid hr
      have hbr'h := Lib.hid hbr
      clear hk hall hr hbr
      go_wp2
      go_ret
      exact ⟨ret_i64 hr'h.out.symm, hbr'h.out⟩
theorem hasC_any (sp : Option Addr) (n cap : Nat) (l : List Cal) (g : Nat) (w : World) (hT : Tks w) (h : SlK w 4 sp n (cals l)) (hg : w.cell? ⟨g, 0, none⟩ = some (.func (.func 39) #[] #[])) :
    Calls Tryd.prog 54 #[.slice sp n cap, .func (.func 55) #[] #[.pointer (some ⟨g, 0, none⟩)]] w fun e w' =>
      e = .returned (.bool (l.any fun x => !rightC x)) ∧ Below w.heap.size w w' := by
  have I := idxC_any sp n cap l g w hT h hg
  rw [← idxG_any]
  generalize idxG (fun x => !rightC x) l = i at *
  have I'h := Lib.hid I
  clear I
  clear hg hT h
  go_enter Tryd.func54, Tryd.ntmps54
  go_wp2_with fail
  refine I'h.out.mono ?_
  rintro e w2 ⟨rfl, hB2⟩
  have hB2'h := Lib.hid hB2
  clear hB2
  by_cases hi : 0 ≤ i
  · go_wp2
    go_ret
    exact ⟨ret_bool (by simp [hi]), hB2'h.out⟩
  · go_wp2
    go_ret
    exact ⟨ret_bool (by simp [hi]), hB2'h.out⟩
theorem allC_any (sp : Option Addr) (n cap : Nat) (l : List Cal) (w : World) (hT : Tks w) (h : SlK w 4 sp n (cals l)) :
    Calls Tryd.prog 38 #[.slice sp n cap, .func (.func 39) #[] #[]] w fun e w' => e = .returned (.bool (l.all rightC)) ∧ Below w.heap.size w w' := by
  have hb : Below w.heap.size w (w.alloc (.cells #[.func (.func 39) #[] #[]] 69)) := (Below.refl _ _).alloc (Nat.le_refl _) _
  have hg : (w.alloc (.cells #[.func (.func 39) #[] #[]] 69)).cell? ⟨w.heap.size, 0, none⟩ = some (.func (.func 39) #[] #[]) := blk_cell (World.alloc_heap_new _ _) rfl
  have C := hasC_any sp n cap l w.heap.size _ (hT.next hb) (h.below hb) hg
  have e : (!l.any fun x => !rightC x) = l.all rightC := by
    rw [← List.not_all_eq_any_not]; simp
  generalize (l.any fun x => !rightC x) = v at *
  have C'h := Lib.hid C
  have hb'h := Lib.hid hb
  have e'h := Lib.hid e
  clear C hb e
  clear hT h hg
  go_enter Tryd.func38, Tryd.ntmps38
  go_wp2_with fail
  refine C'h.out.mono ?_
  rintro ee w2 ⟨rfl, hB2⟩
  have hB2'h := Lib.hid hB2
  clear hB2
  go_wp2
  go_ret
  exact ⟨ret_bool e'h.out, hb'h.out.trans (hB2'h.out.mono hb'h.out.size)⟩
end Go.Proofs.YtifofdciablljaaDoor

/-
  Layer 3 (script): the library's Concat at rows of calls.
-/
set_option linter.unusedSimpArgs false
set_option linter.unusedVariables false
set_option maxRecDepth 100000
namespace Go.Proofs.YtifofdciablljaaDoor
open Go.RowKit

abbrev calZ : Value := .agg #[.int .i64 0, .int .u64 0, .int .u64 0, .int .u64 0]
theorem info_calz : (Tryd.prog.info? 57).map (fun i => (i.zero, i.size, i.bytes)) = some (some calZ, 4, 32) := by kernel_rfl
theorem info_calp : ∃ i : TypeInfo, Tryd.prog.info? 57 = some i ∧ i.zero = some calZ ∧ i.size = 4 ∧ i.bytes = 32 := by
  cases h : Tryd.prog.info? 57 with
  | none => have := info_calz; rw [h] at this; cases this
  | some i =>
    have := info_calz
    rw [h] at this
    simp at this
    exact ⟨i, rfl, this.1, this.2.1, this.2.2⟩
theorem cals_one (l : List Cal) : ∀ v ∈ cals l, v.oneCell' = true := by
  refine flat_one (fun c => ?_) l
  intro v hv
  simp only [calL, List.mem_cons, List.not_mem_nil, or_false] at hv
  rcases hv with rfl | rfl | rfl | rfl <;> rfl
theorem cals_app (a b : List Cal) : cals a ++ cals b = cals (a ++ b) := by unfold cals; rw [List.flatMap_append]
/-- Grow of nothing. -/
theorem growC_any (m : Nat) (w : World) (h0 : 0 < m) (hm : m ≤ 4096) :
    Calls Tryd.prog 53 #[.slice none 0 0, .int .i64 m] w fun e w' => ∃ s c, e = .returned (.slice s 0 c) ∧ Below w.heap.size w w' ∧ w'.ownsRow w.heap.size 57 4 (.slice s 0 c) 0 (cals []) := by
  obtain ⟨i0, hi, hz, hs, hby⟩ := info_calp
  have R := fun ty => Lib.run_append_nil_zeros w 55 3 ty 57 i0 _ .i64 .i64 Tryd.underlying55 Tryd.underlying3 hi hz m h0 (by omega) (by omega) (by rw [hby]; omega)
  have hge := grownCap_ge w m 0 57
  have hle := grownCap_le_maxLen w m 0 57 (by unfold maxLen; omega)
  have hz1 : ∀ q, (Builtin.zeroCells calZ.cells q).size = q * 4 := fun q => by rw [size_zeroCells]; simp [Value.cells]
  generalize grownCap w m 0 57 = gc at *
  have hrow : (w.drew.alloc (.cells (Builtin.zeroCells calZ.cells m ++ Builtin.zeroCells calZ.cells (gc - m)) 57)).ownsRow w.heap.size 57 4 (.slice (some ⟨w.heap.size, 0, none⟩) 0 gc) 0 (cals []) :=
    ⟨rfl, .inr ⟨w.heap.size, gc, _, rfl, Nat.le_refl _, World.alloc_heap_new _ _, Nat.zero_le _, hle, by rw [Array.size_append, hz1, hz1]; omega, by simp [cals]⟩⟩
  have hB : Below w.heap.size w (w.drew.alloc (.cells (Builtin.zeroCells calZ.cells m ++ Builtin.zeroCells calZ.cells (gc - m)) 57)) := (Below.drew (Below.refl _ _)).alloc (Nat.le_refl _) _
  obtain ⟨W, hW⟩ : ∃ W, W = w.drew.alloc (.cells (Builtin.zeroCells calZ.cells m ++ Builtin.zeroCells calZ.cells (gc - m)) 57) := ⟨_, rfl⟩
  rw [← hW] at hrow hB R
  have h1 : ¬ ((m : Int) < 0) := by omega
  have h2 : (0 : Int) < (m : Int) := by omega
  have h3 : (m : Int) ≤ (gc : Int) := by omega
  clear hW
  have hrow'h := Lib.hid hrow
  have hB'h := Lib.hid hB
  have R'h := Lib.hid R
  have hge'h := Lib.hid hge
  have hle'h := Lib.hid hle
  clear hrow hB R hge hle
  go_enter Tryd.func53, Tryd.ntmps53
  go_wp2_with (at_builtin; refine Lib.wpList_append_run _ rfl _ _ _ _ rfl _ _ rfl rfl _ _ (R'h.out _) ?_)
  go_ret
  exact ⟨_, _, rfl, hB'h.out, hrow'h.out⟩
theorem growC_none (w : World) :
    Calls Tryd.prog 53 #[.slice none 0 0, .int .i64 0] w fun e w' => ∃ s c, e = .returned (.slice s 0 c) ∧ Below w.heap.size w w' ∧ w'.ownsRow w.heap.size 57 4 (.slice s 0 c) 0 (cals []) := by
  go_enter Tryd.func53, Tryd.ntmps53
  go_wp2
  go_ret
  exact ⟨none, 0, rfl, Below.refl _ _, rfl, .inl ⟨rfl, rfl⟩⟩

/-! ### A row of rows of calls -/
structure CRow where
  sp : Option Addr
  len : Nat
  cap : Nat
  cs : List Cal
def crV (r : CRow) : Value := .slice r.sp r.len r.cap
def nthR (l : List CRow) (k : Nat) : CRow := l.getD k ⟨none, 0, 0, []⟩
theorem nthR_at {l : List CRow} {k : Nat} (h : k < l.length) : l[k]? = some (nthR l k) := by
  unfold nthR; rw [List.getD_eq_getElem?_getD, List.getElem?_eq_getElem h]; rfl
theorem nthR_mem {l : List CRow} {k : Nat} (h : k < l.length) : nthR l k ∈ l := List.mem_of_getElem? (nthR_at h)
/-- All calls of the first k rows. -/
def catC (rows : List CRow) (k : Nat) : List Cal := (rows.take k).flatMap (·.cs)
theorem catC_succ {rows : List CRow} {k : Nat} (h : k < rows.length) : catC rows (k + 1) = catC rows k ++ (nthR rows k).cs := by
  have e : rows[k] = nthR rows k := by have := nthR_at h; rw [List.getElem?_eq_getElem h] at this; injection this
  unfold catC; rw [List.take_succ_eq_append_getElem h, List.flatMap_append, e]; simp
theorem catC_le {rows : List CRow} (hr : ∀ r ∈ rows, r.cs.length ≤ 66) : ∀ k, k ≤ rows.length → (catC rows k).length ≤ 66 * k
  | 0, _ => by simp [catC]
  | k + 1, h => by
    rw [catC_succ (by omega), List.length_append]
    have := catC_le hr k (by omega)
    have := hr _ (nthR_mem (show k < rows.length by omega))
    omega
/-- A row of rows of calls in memory. -/
structure RowsIn (w : World) (sp : Option Addr) (n : Nat) (rows : List CRow) : Prop where
  sl : SlK w 1 sp n (rows.map crV)
  each : ∀ r ∈ rows, SlK w 4 r.sp r.len (cals r.cs)
  nil : ∀ r ∈ rows, r.sp = none → r.cap = 0
  le : ∀ r ∈ rows, r.len ≤ r.cap
  ok : ∀ r ∈ rows, ∀ c ∈ r.cs, CalOk c
  few : n ≤ 16
  short : ∀ r ∈ rows, r.cs.length ≤ 66
theorem RowsIn.len {w : World} {sp : Option Addr} {n : Nat} {rows : List CRow} (h : RowsIn w sp n rows) : n = rows.length := by have := h.sl.1; simpa using this.symm
theorem RowsIn.below {w w' : World} {sp : Option Addr} {n : Nat} {rows : List CRow} (h : RowsIn w sp n rows) (hb : Below w.heap.size w w') : RowsIn w' sp n rows :=
  ⟨h.sl.below hb, fun r hr => (h.each r hr).below hb, h.nil, h.le, h.ok, h.few, h.short⟩
theorem RowsIn.rlen {w : World} {sp : Option Addr} {n : Nat} {rows : List CRow} (h : RowsIn w sp n rows) {r : CRow} (hr : r ∈ rows) : r.len = r.cs.length := slk_len calL_len (by decide) (h.each r hr)
/-- A header of a row. -/
theorem RowsIn.head {w : World} {sp : Option Addr} {n : Nat} {rows : List CRow} (h : RowsIn w sp n rows) {k : Nat} (hk : k < n) : ∃ b o, sp = some ⟨b, o, none⟩ ∧ w.cell? ⟨b, o + k, none⟩ = some (.slice (nthR rows k).sp (nthR rows k).len (nthR rows k).cap) := by
  obtain ⟨b, o, rfl, hc⟩ := h.sl.some' (by omega)
  exact ⟨b, o, rfl, hc k _ (by rw [List.getElem?_map, nthR_at (by rw [← h.len]; exact hk)]; rfl)⟩
set_option maxHeartbeats 2000000 in
theorem concatC_any (sp : Option Addr) (n cap : Nat) (rows : List CRow) (w : World) (h : RowsIn w sp n rows) :
    Calls Tryd.prog 37 #[.slice sp n cap] w fun e w' => ∃ s c, e = .returned (.slice s (catC rows n).length c) ∧ Below w.heap.size w w' ∧
      w'.ownsRow w.heap.size 57 4 (.slice s (catC rows n).length c) (catC rows n).length (cals (catC rows n)) := by
  have hlen := h.len
  have hn := h.few
  have hle := catC_le h.short n (by omega)
  obtain ⟨i0, hi, hz, hs, hby⟩ := info_calp
  have h'h := Lib.hid h
  have hlen'h := Lib.hid hlen
  have hle'h := Lib.hid hle
  clear h hlen hle
  go_enter Tryd.func37, Tryd.ntmps37
  go_wp2
  go_loopg [3, 11] n (fun q sz i wr => ∃ k : Nat, k + q = n ∧ i = .int .i64 k ∧ sz = .int .i64 ((catC rows k).length : Nat) ∧ Below w.heap.size w wr)
  case atStart => exact ⟨0, by omega, rfl, rfl, Below.refl _ _⟩
  case round =>
    obtain ⟨k, hq, rfl, rfl, hB⟩ := hrel
    by_cases hlt : k < n
    · have hkl : k < rows.length := by have := hlen'h.out; omega
      obtain ⟨rb, ro, rfl, c1⟩ := (h'h.out.below hB).head hlt
      have hcl := catC_succ hkl
      have hc64 := catC_le h'h.out.short k (by omega)
      have hc65 := catC_le h'h.out.short (k + 1) (by omega)
      have hl := h'h.out.rlen (nthR_mem hkl)
      have hnx : ((catC rows k).length : Int) + ((nthR rows k).len : Int) = ((catC rows (k + 1)).length : Nat) := by rw [hcl, List.length_append, hl]; push_cast; rfl
      generalize (catC rows k).length = a at *
      obtain ⟨b, hbe⟩ : ∃ b, b = (catC rows (k + 1)).length := ⟨_, rfl⟩
      rw [← hbe] at hnx hc65
      generalize nthR rows k = r at *
      obtain ⟨rs, rl, rc, rws⟩ := r
      simp only at c1 hnx
      have hi1 : (k : Int) < (n : Int) := by omega
      have h0k : (0 : Int) ≤ (k : Int) := by omega
      have hb0 : ¬ ((b : Int) < 0) := by omega
      have hwr : IntKind.i64.wrap (b : Int) = (b : Int) := Go.IntWalk.i64_in _ (by omega)
      have hnx2 : IntKind.i64.wrap ((a : Int) + (rl : Int)) = (b : Int) := by rw [hnx]; exact hwr
      have hnx3 : RowKit.wrap64 ((a : Int) + (rl : Int)) = (b : Int) := (Go.IntWalk.i64_left _).symm.trans hnx2
      clear hlt hcl hl hwr
      have hq'h := Lib.hid hq
      have hB'h := Lib.hid hB
      have hkl'h := Lib.hid hkl
      have hc64'h := Lib.hid hc64
      have hc65'h := Lib.hid hc65
      have hnx'h := Lib.hid hnx
      have hbe'h := Lib.hid hbe
      clear hq hB hkl hc64 hc65 hnx hbe
      go_wp2
      go_roundg (gk - 1)
      case measure => have := hq'h.out; omega
      case rel => exact ⟨k + 1, by have := hq'h.out; omega, by go_num, by rw [← hbe'h.out], hB'h.out⟩
    · have hkn : k = n := by omega
      subst hkn
      have hi1 : ¬ (k : Int) < (k : Int) := by omega
      have G : Calls Tryd.prog 53 #[.slice none 0 0, .int .i64 ((catC rows k).length : Nat)] wr fun e w' => ∃ s c, e = .returned (.slice s 0 c) ∧ Below wr.heap.size wr w' ∧ w'.ownsRow wr.heap.size 57 4 (.slice s 0 c) 0 (cals []) := by
        rcases Nat.eq_zero_or_pos (catC rows k).length with h0 | h0
        · rw [h0]; exact growC_none wr
        · exact growC_any _ wr h0 (by have := hle'h.out; omega)
      clear hlt
      have hq'h := Lib.hid hq
      have hB'h := Lib.hid hB
      have G'h := Lib.hid G
      clear hq hB G
      go_wp2_with (go_at_call 53; refine G'h.out.mono ?_; rintro e w5 ⟨s5, c5, rfl, hb5, hrow5⟩)
      have B5 := below_next hB'h.out hb5
      have hrow5 := ownsRow_mono hrow5 hB'h.out.size
      clear hb5 hB'h G'h
      obtain ⟨go, rfl⟩ : ∃ go : Nat, go = gk := ⟨_, rfl⟩
      have B5'h := Lib.hid B5
      have hrow5'h := Lib.hid hrow5
      clear B5 hrow5
      go_loopg [6, 27] k (fun q x i wr => ∃ (j : Nat) (v : Value), v = x ∧ j + q = k ∧ i = .int .i64 j ∧ Below w.heap.size w wr ∧ wr.ownsRow w.heap.size 57 4 v (catC rows j).length (cals (catC rows j)))
      case atStart => exact ⟨0, _, rfl, by omega, rfl, B5'h.out, hrow5'h.out⟩
      case round =>
        obtain ⟨j, v, rfl, hq2, rfl, hB, hrow⟩ := hrel
        clear B5'h hrow5'h
        by_cases hlt : j < k
        · have hjl : j < rows.length := by have := hlen'h.out; omega
          obtain ⟨rb, ro, rfl, c1⟩ := (h'h.out.below hB).head hlt
          have hcl := catC_succ hjl
          have hc64 := catC_le h'h.out.short j (by omega)
          have hl := h'h.out.rlen (nthR_mem hjl)
          have hrS := (h'h.out.each _ (nthR_mem hjl)).below hB
          have hw64 := h'h.out.short _ (nthR_mem hjl)
          generalize catC rows j = A at *
          obtain ⟨A', hA'⟩ : ∃ A', A' = catC rows (j + 1) := ⟨_, rfl⟩
          rw [← hA'] at hcl
          generalize nthR rows j = r at *
          obtain ⟨rs, rl, rc, rws⟩ := r
          simp only at c1 hl hrS hw64 hcl
          have hi1 : (j : Int) < (k : Int) := by omega
          have h0k : (0 : Int) ≤ (j : Int) := by omega
          have hone := cals_one rws
          have hAl : (A ++ rws).length = A.length + rl := by rw [List.length_append, hl]
          have hrl64 : rl ≤ 66 := by omega
          clear hlt hl hw64
          have hq2'h := Lib.hid hq2
          have hB'h := Lib.hid hB
          have hrow'h := Lib.hid hrow
          have hrS'h := Lib.hid hrS
          have hone'h := Lib.hid hone
          have hcl'h := Lib.hid hcl
          have hjl'h := Lib.hid hjl
          have hAl'h := Lib.hid hAl
          have hA''h := Lib.hid hA'
          clear hq2 hB hrow hrS hone hcl hjl hAl hA'
          go_wp2_with (at_builtin; refine wpList_append_slk _ rfl (.tmp 31) (.tmp 32) 55 rfl w.heap.size 57 i0 calZ 4 32 Tryd.underlying55 hi hz hs hby rfl (by decide) v A.length _ rfl hrow'h.out rs rl rc _ rfl hrS'h.out hone'h.out (by unfold maxLen; omega) (by omega) hB'h.out.size ?_; intro v' w9 hown' hgrow hwh)
          have B9 : Below w.heap.size w w9 := hB'h.out.grown hgrow hB'h.out.size (fun q hq => And.left <| hrow'h.out.lt q hq)
          rw [cals_app, ← hAl'h.out, ← hcl'h.out] at hown'
          clear hgrow hwh
          have B9'h := Lib.hid B9
          have hown''h := Lib.hid hown'
          clear B9 hown'
          go_wp2
          go_roundg (gk - 1)
          case measure => have := hq2'h.out; omega
          case rel => exact ⟨j + 1, v', rfl, by have := hq2'h.out; omega, by go_num, B9'h.out, by rw [← hA''h.out]; exact hown''h.out⟩
        · have hjk : j = k := by omega
          subst hjk
          have hi1 : ¬ (j : Int) < (j : Int) := by omega
          obtain ⟨s9, c9, rfl, -, -, -⟩ := row_form hrow
          clear hlt
          have hq2'h := Lib.hid hq2
          have hB'h := Lib.hid hB
          have hrow'h := Lib.hid hrow
          clear hq2 hB hrow
          go_wp2
          go_ret
          exact ⟨s9, c9, rfl, hB'h.out, hrow'h.out⟩
end Go.Proofs.YtifofdciablljaaDoor

/-
  Layer 3 (script): scripts in memory; may a script be?
-/
set_option linter.unusedSimpArgs false
set_option linter.unusedVariables false
set_option maxRecDepth 100000
namespace Go.Proofs.YtifofdciablljaaDoor
open Go.RowKit

structure Scr where
  goers : Int
  slabs : Int
  seed : Nat
  lists : List (List Cal)
  picks : List Nat
deriving DecidableEq
def sizesS (s : Scr) : Bool := decide (1 ≤ s.goers) && decide (s.goers ≤ 8) && decide (2 ≤ s.slabs) && decide (s.slabs ≤ 128)
def headS (s : Scr) : Bool := sizesS s && decide ((s.lists.length : Int) = s.goers) && decide (s.picks.length ≤ 4096)
/-- May a script be? -/
def rightS (s : Scr) : Bool := headS s && (decide (s.lists.flatten.length ≤ 64) && s.lists.flatten.all rightC)
def chkS (s : Scr) : Int := if rightS s = true then 0 else 130

/-- A script as it lies in memory. -/
structure Sm where
  goers : Int
  slabs : Int
  seed : Nat
  lp : Option Addr
  ln : Nat
  lc : Nat
  rows : List CRow
  pp : Option Addr
  pn : Nat
  pc : Nat
  picks : List Nat
def smA (s : Sm) : Array Value := #[.int .i64 s.goers, .int .i64 s.slabs, .int .u64 (s.seed : Int), .slice s.lp s.ln s.lc, .slice s.pp s.pn s.pc]
def Sm.scr (s : Sm) : Scr := ⟨s.goers, s.slabs, s.seed, s.rows.map (·.cs), s.picks⟩
structure SmIn (w : World) (s : Sm) : Prop where
  rows : RowsIn w s.lp s.ln s.rows
  picks : Sl w s.pp s.pn (u64s s.picks)
  w64 : W64 s.picks
  seed : s.seed < 2 ^ 64
  g : -9223372036854775808 ≤ s.goers ∧ s.goers ≤ 9223372036854775807
  sl : -9223372036854775808 ≤ s.slabs ∧ s.slabs ≤ 9223372036854775807
  lnil : s.lp = none → s.lc = 0
  lle : s.ln ≤ s.lc
  pnil : s.pp = none → s.pc = 0
  ple : s.pn ≤ s.pc
  many : s.pn ≤ 4200
theorem SmIn.below {w w' : World} {s : Sm} (h : SmIn w s) (hb : Below w.heap.size w w') : SmIn w' s :=
  ⟨h.rows.below hb, h.picks.below hb, h.w64, h.seed, h.g, h.sl, h.lnil, h.lle, h.pnil, h.ple, h.many⟩
theorem catC_all (rows : List CRow) : catC rows rows.length = (rows.map (·.cs)).flatten := by
  unfold catC; rw [List.take_length, List.flatMap_def]
theorem SmIn.ln {w : World} {s : Sm} (h : SmIn w s) : s.ln = s.scr.lists.length := by rw [h.rows.len]; simp [Sm.scr]
theorem SmIn.pn {w : World} {s : Sm} (h : SmIn w s) : s.pn = s.scr.picks.length := by have := h.picks.1; rw [u64s_length] at this; exact this
theorem SmIn.cat {w : World} {s : Sm} (h : SmIn w s) : catC s.rows s.ln = s.scr.lists.flatten := by rw [h.rows.len, catC_all]; rfl

theorem info_sm : (Tryd.prog.info? 26).map (·.size) = some 5 := by kernel_rfl
set_option maxHeartbeats 1000000 in
theorem check_any (s : Sm) (w : World) (hT : Tks w) (h : SmIn w s) :
    Calls Tryd.prog 13 #[.agg (smA s)] w fun e w' => e = .returned (.int .i64 (chkS s.scr)) ∧ Below w.heap.size w w' := by
  have hln := h.ln
  have hpn := h.pn
  have hcat := h.cat
  have hB1 : Below w.heap.size w (w.alloc (.cells (smA s) 26)) := (Below.refl _ _).alloc (Nat.le_refl _) _
  have C := concatC_any s.lp s.ln s.lc s.rows _ (h.rows.below hB1)
  have hT1 := hT.next hB1
  rw [hcat] at C
  have e1 : chkS s.scr = if (headS s.scr && (decide (s.scr.lists.flatten.length ≤ 64) && s.scr.lists.flatten.all rightC)) = true then 0 else 130 := rfl
  have e2 : headS s.scr = (decide (1 ≤ s.goers) && decide (s.goers ≤ 8) && decide (2 ≤ s.slabs) && decide (s.slabs ≤ 128) && decide ((s.scr.lists.length : Int) = s.goers) && decide (s.scr.picks.length ≤ 4096)) := rfl
  rw [e1, e2, ← hln, ← hpn]
  generalize s.scr.lists.flatten = cs at *
  clear e1 e2 hln hpn hcat h hT
  obtain ⟨g, sb, seed, lp, ln, lc, rows, pp, pn, pc, picks⟩ := s
  simp only [smA] at C hB1 hT1 ⊢
  have C'h := Lib.hid C
  have hB1'h := Lib.hid hB1
  have hT1'h := Lib.hid hT1
  clear C hB1 hT1
  by_cases h1 : 1 ≤ g
  · by_cases h2 : g ≤ 8
    · by_cases h3 : 2 ≤ sb
      · by_cases h4 : sb ≤ 128
        · by_cases h5 : (ln : Int) = g
          · by_cases h6 : pn ≤ 4096
            · subst h5
              simp only [h1, h2, h3, h4, h6, decide_true, Bool.true_and, Bool.and_true, Bool.and_self]
              obtain ⟨r, hr⟩ : ∃ r : Int, r = (if (decide (cs.length ≤ 64) && cs.all rightC) = true then 0 else 130) := ⟨_, rfl⟩
              rw [← hr]
              have hr'h := Lib.hid hr
              clear hr
              go_enter Tryd.func13, Tryd.ntmps13
              go_wp2_with fail
              refine C'h.out.mono ?_
              rintro e w2 ⟨sp, cp, rfl, hB2, hrow⟩
              have hBw2 := hB1'h.out.trans (hB2.mono hB1'h.out.size)
              have hT2 := hT1'h.out.next hB2
              have hb1056 : cs.length ≤ maxLen := by
                obtain ⟨s9, c9, hv, hle, -, -⟩ := row_form hrow
                rcases hrow.2 with ⟨hv, h0⟩ | ⟨g', cap', cur, hv, -, -, hx, hy, -, -⟩
                · rw [h0]; exact Nat.zero_le _
                · omega
              have hS2 := SlK.of_row hrow hb1056
              unfold maxLen at hb1056
              clear hB2 hrow
              have D := allC_any sp cs.length cp cs w2 hT2 hS2
              obtain ⟨L, hL⟩ : ∃ L, L = cs.length := ⟨_, rfl⟩
              obtain ⟨v, hv⟩ : ∃ v, v = cs.all rightC := ⟨_, rfl⟩
              have hr2 := hr'h.out
              rw [← hL, ← hv] at hr2
              rw [← hL, ← hv] at D
              rw [← hL] at hb1056
              rw [← hL]
              clear hr'h hS2 hL hv
              have hBw2'h := Lib.hid hBw2
              have D'h := Lib.hid D
              have hr2'h := Lib.hid hr2
              clear hBw2 D hr2
              by_cases h7 : L ≤ 64
              · have h7z : ((L : Int) ≤ 64) := by omega
                cases v with
                | false =>
                  go_wp2_with fail
                  refine D'h.out.mono ?_
                  rintro e w3 ⟨rfl, hB3⟩
                  have hB3'h := Lib.hid hB3
                  clear hB3
                  go_wp2
                  go_ret
                  exact ⟨ret_i64 (by rw [hr2'h.out]; simp), hBw2'h.out.trans (hB3'h.out.mono hBw2'h.out.size)⟩
                | true =>
                  go_wp2_with fail
                  refine D'h.out.mono ?_
                  rintro e w3 ⟨rfl, hB3⟩
                  have hB3'h := Lib.hid hB3
                  clear hB3
                  go_wp2
                  go_ret
                  exact ⟨ret_i64 (by rw [hr2'h.out]; simp [h7]), hBw2'h.out.trans (hB3'h.out.mono hBw2'h.out.size)⟩
              · have h7z : ((L : Int) > 64) := by omega
                go_wp2
                go_ret
                exact ⟨ret_i64 (by rw [hr2'h.out]; simp [h7]), hBw2'h.out⟩
            · have h6z : ((pn : Int) > 4096) := by omega
              have hr : (if ((decide (1 ≤ g) && decide (g ≤ 8) && decide (2 ≤ sb) && decide (sb ≤ 128) && decide ((ln : Int) = g) && decide (pn ≤ 4096)) && (decide (cs.length ≤ 64) && cs.all rightC)) = true then (0 : Int) else 130) = 130 := by simp [h6]
              rw [hr]
              clear hr
              go_enter Tryd.func13, Tryd.ntmps13
              go_wp2
              go_ret
              exact ⟨rfl, hB1'h.out⟩
          · have h5z : ¬ ((ln : Int) = g) := by omega
            have hr : (if ((decide (1 ≤ g) && decide (g ≤ 8) && decide (2 ≤ sb) && decide (sb ≤ 128) && decide ((ln : Int) = g) && decide (pn ≤ 4096)) && (decide (cs.length ≤ 64) && cs.all rightC)) = true then (0 : Int) else 130) = 130 := by simp [h5]
            rw [hr]
            clear hr
            go_enter Tryd.func13, Tryd.ntmps13
            go_wp2
            go_ret
            exact ⟨rfl, hB1'h.out⟩
        · have h4z : ¬ (sb ≤ 128) := by omega
          have hr : (if ((decide (1 ≤ g) && decide (g ≤ 8) && decide (2 ≤ sb) && decide (sb ≤ 128) && decide ((ln : Int) = g) && decide (pn ≤ 4096)) && (decide (cs.length ≤ 64) && cs.all rightC)) = true then (0 : Int) else 130) = 130 := by simp [h4]
          rw [hr]
          clear hr
          go_enter Tryd.func13, Tryd.ntmps13
          go_wp2
          go_ret
          exact ⟨rfl, hB1'h.out⟩
      · have h3z : ¬ (sb ≥ 2) := by omega
        have hr : (if ((decide (1 ≤ g) && decide (g ≤ 8) && decide (2 ≤ sb) && decide (sb ≤ 128) && decide ((ln : Int) = g) && decide (pn ≤ 4096)) && (decide (cs.length ≤ 64) && cs.all rightC)) = true then (0 : Int) else 130) = 130 := by simp [h3]
        rw [hr]
        clear hr
        go_enter Tryd.func13, Tryd.ntmps13
        go_wp2
        go_ret
        exact ⟨rfl, hB1'h.out⟩
    · have h2z : ¬ (g ≤ 8) := by omega
      have hr : (if ((decide (1 ≤ g) && decide (g ≤ 8) && decide (2 ≤ sb) && decide (sb ≤ 128) && decide ((ln : Int) = g) && decide (pn ≤ 4096)) && (decide (cs.length ≤ 64) && cs.all rightC)) = true then (0 : Int) else 130) = 130 := by simp [h2]
      rw [hr]
      clear hr
      go_enter Tryd.func13, Tryd.ntmps13
      go_wp2
      go_ret
      exact ⟨rfl, hB1'h.out⟩
  · have h1z : ¬ (g ≥ 1) := by omega
    have hr : (if ((decide (1 ≤ g) && decide (g ≤ 8) && decide (2 ≤ sb) && decide (sb ≤ 128) && decide ((ln : Int) = g) && decide (pn ≤ 4096)) && (decide (cs.length ≤ 64) && cs.all rightC)) = true then (0 : Int) else 130) = 130 := by simp [h1]
    rw [hr]
    clear hr
    go_enter Tryd.func13, Tryd.ntmps13
    go_wp2
    go_ret
    exact ⟨rfl, hB1'h.out⟩
end Go.Proofs.YtifofdciablljaaDoor

/-
  Layer 3 (script): are scripts the same? Rows of calls compared; Clone at calls, words, bytes.
-/
set_option linter.unusedSimpArgs false
set_option linter.unusedVariables false
set_option maxRecDepth 100000
namespace Go.Proofs.YtifofdciablljaaDoor
open Go.RowKit

theorem nthCal_eq {l : List Cal} {k : Nat} (h : k < l.length) : l[k] = nthCal l k := by unfold nthCal; rw [List.getD_eq_getElem?_getD, List.getElem?_eq_getElem h]; rfl
theorem nthCal_at {l : List Cal} {k : Nat} (h : k < l.length) : l[k]? = some (nthCal l k) := by rw [List.getElem?_eq_getElem h, nthCal_eq h]
theorem cals_len {w : World} {sp : Option Addr} {n : Nat} {l : List Cal} (h : SlK w 4 sp n (cals l)) : n = l.length := slk_len calL_len (by decide) h
theorem cals_cells {w : World} {b off n : Nat} {l : List Cal} (h : SlK w 4 (some ⟨b, off, none⟩) n (cals l)) {k : Nat} (hk : k < l.length) :
    w.cell? ⟨b, off + k * 4, none⟩ = some (.int .i64 (nthCal l k).op) ∧ w.cell? ⟨b, off + k * 4 + 1, none⟩ = some (.int .u64 ((nthCal l k).key : Int)) ∧
    w.cell? ⟨b, off + k * 4 + 2, none⟩ = some (.int .u64 ((nthCal l k).a : Int)) ∧ w.cell? ⟨b, off + k * 4 + 3, none⟩ = some (.int .u64 ((nthCal l k).b : Int)) :=
  ⟨slk_cell0 calL_len h (nthCal_at hk) (by decide) rfl, slk_cell (i := 1) calL_len h (nthCal_at hk) (by decide) rfl, slk_cell (i := 2) calL_len h (nthCal_at hk) (by decide) rfl, slk_cell (i := 3) calL_len h (nthCal_at hk) (by decide) rfl⟩
theorem eqi_cal (c d : Cal) (w : World) : (Op.equalIn 10000 57 (.agg #[.int .i64 c.op, .int .u64 (c.key : Int), .int .u64 (c.a : Int), .int .u64 (c.b : Int)]) (.agg #[.int .i64 d.op, .int .u64 (d.key : Int), .int .u64 (d.a : Int), .int .u64 (d.b : Int)])).run Tryd.prog w = .ok (decide (c = d)) w := by
  have u3 := Tryd.underlying3
  have a3 := Tryd.isAgg3
  have z3 := Tryd.sizeOf3
  have u4 := Tryd.underlying22
  have a4 := Tryd.isAgg22
  have z4 := Tryd.sizeOf22
  rw [show (10000 : Nat) = 9999 + 1 from rfl, run_equalIn_struct w 9999 57 _ _ (by kernel_rfl) (by kernel_rfl)]
  simp only [Program.fieldsOf, Tryd.underlying57]
  go_simp
  obtain ⟨c1, c2, c3, c4⟩ := c
  obtain ⟨d1, d2, d3, d4⟩ := d
  by_cases h1 : c1 = d1 <;> by_cases h2 : c2 = d2 <;> by_cases h3 : c3 = d3 <;> by_cases h4 : c4 = d4 <;> simp [h1, h2, h3, h4] <;> omega
theorem neq_cal (c d : Cal) (w : World) : (binOp .neq 57 (.agg #[.int .i64 c.op, .int .u64 (c.key : Int), .int .u64 (c.a : Int), .int .u64 (c.b : Int)]) (.agg #[.int .i64 d.op, .int .u64 (d.key : Int), .int .u64 (d.a : Int), .int .u64 (d.b : Int)])).run Tryd.prog w = .ok (.bool (!decide (c = d))) w := by
  rw [run_neq_struct, eqi_cal]; rfl
set_option maxHeartbeats 1000000 in
theorem equalCal_any (sp sp' : Option Addr) (n n' cap cap' : Nat) (l l' : List Cal) (w : World) (h : SlK w 4 sp n (cals l)) (h' : SlK w 4 sp' n' (cals l')) :
    Calls Tryd.prog 42 #[.slice sp n cap, .slice sp' n' cap'] w fun e w' => e = .returned (.bool (decide (l = l'))) ∧ ∃ d, w' = w.drewN d := by
  have hlen := cals_len h
  have hlen' := cals_len h'
  have hmax := h.2.1
  unfold maxLen at hmax
  by_cases hnn : n = n'
  · subst hnn
    have hne : ((n : Int) != (n : Int)) = false := by simp
    have hlen'h := Lib.hid hlen
    have hlen''h := Lib.hid hlen'
    have h'h := Lib.hid h
    have h''h := Lib.hid h'
    clear hlen hlen' h h'
    go_enter Tryd.func42, Tryd.ntmps42
    go_wp2
    go_loopg [13] n (fun q i wr => ∃ k : Nat, k + q = n ∧ i = .int .i64 k ∧ (∀ j, j < k → nthCal l j = nthCal l' j) ∧ ∃ d, wr = w.drewN d)
    case atStart => exact ⟨0, by omega, rfl, fun j hj => by omega, 0, rfl⟩
    case round =>
      obtain ⟨k, hk, rfl, hall, d, rfl⟩ := hrel
      have hkn : k ≤ n := by omega
      have hk'h := Lib.hid hk
      have hall'h := Lib.hid hall
      clear hk hall
      by_cases hlt : k < n
      · obtain ⟨b, off, rfl⟩ := slk_some h'h.out (by omega)
        obtain ⟨b', off', rfl⟩ := slk_some h''h.out (by omega)
        have hkl : k < l.length := by have := hlen'h.out; omega
        have hkl' : k < l'.length := by have := hlen''h.out; omega
        obtain ⟨c1, c2, c3, c4⟩ := cals_cells h'h.out hkl
        obtain ⟨d1, d2, d3, d4⟩ := cals_cells h''h.out hkl'
        have c1' : ∀ q, (w.drewN q).cell? ⟨b, off + k * 4, none⟩ = some (.int .i64 (nthCal l k).op) := fun q => c1
        have c2' : ∀ q, (w.drewN q).cell? ⟨b, off + k * 4 + 1, none⟩ = some (.int .u64 ((nthCal l k).key : Int)) := fun q => c2
        have c3' : ∀ q, (w.drewN q).cell? ⟨b, off + k * 4 + 2, none⟩ = some (.int .u64 ((nthCal l k).a : Int)) := fun q => c3
        have c4' : ∀ q, (w.drewN q).cell? ⟨b, off + k * 4 + 3, none⟩ = some (.int .u64 ((nthCal l k).b : Int)) := fun q => c4
        have d1' : ∀ q, (w.drewN q).cell? ⟨b', off' + k * 4, none⟩ = some (.int .i64 (nthCal l' k).op) := fun q => d1
        have d2' : ∀ q, (w.drewN q).cell? ⟨b', off' + k * 4 + 1, none⟩ = some (.int .u64 ((nthCal l' k).key : Int)) := fun q => d2
        have d3' : ∀ q, (w.drewN q).cell? ⟨b', off' + k * 4 + 2, none⟩ = some (.int .u64 ((nthCal l' k).a : Int)) := fun q => d3
        have d4' : ∀ q, (w.drewN q).cell? ⟨b', off' + k * 4 + 3, none⟩ = some (.int .u64 ((nthCal l' k).b : Int)) := fun q => d4
        have i1 : (k : Int) < (n : Int) := by omega
        have i2 : (0 : Int) ≤ (k : Int) := by omega
        have hq := fun w => neq_cal (nthCal l k) (nthCal l' k) w
        clear c1 c2 c3 c4 d1 d2 d3 d4
        by_cases he : nthCal l k = nthCal l' k
        · have hx : (!decide (nthCal l k = nthCal l' k)) = false := by rw [he]; simp
          rw [hx] at hq
          have he'h := Lib.hid he
          clear he
          clear hx
          go_wp2_with fail
          go_quiet (fail)
          go_wp2
          go_roundg (gk - 1)
          case measure => have := hk'h.out; omega
          case rel =>
            refine ⟨k + 1, by have := hk'h.out; omega, by go_num, fun j hj => ?_, d + nq, rfl⟩
            by_cases e : j = k
            · rw [e]; exact he'h.out
            · exact hall'h.out j (by omega)
        · have hx : (!decide (nthCal l k = nthCal l' k)) = true := by simp [he]
          rw [hx] at hq
          have hf : decide (l = l') = false := by
            rw [decide_eq_false_iff_not]; intro e; exact he (by rw [e])
          have he'h := Lib.hid he
          have hf'h := Lib.hid hf
          clear he hf
          clear hx
          go_wp2_with fail
          go_quiet (fail)
          go_wp2
          go_ret
          exact ⟨ret_bool hf'h.out.symm, d + nq, by first | rfl | exact World.drewN_drewN ..⟩
      · have hn : ¬ (k : Int) < (n : Int) := by omega
        have ht : decide (l = l') = true := by
          rw [decide_eq_true_eq]
          refine List.ext_getElem (by have := hlen'h.out; have := hlen''h.out; omega) fun j h1 h2 => ?_
          rw [nthCal_eq h1, nthCal_eq h2]
          exact hall'h.out j (by have := hlen'h.out; omega)
        have ht'h := Lib.hid ht
        clear ht
        go_wp2
        go_ret
        exact ⟨ret_bool ht'h.out.symm, d, rfl⟩
  · have hne : ((n : Int) != (n' : Int)) = true := by simp; omega
    have hf : decide (l = l') = false := by
      rw [decide_eq_false_iff_not]; intro e; subst e; omega
    have hlen'h := Lib.hid hlen
    have hlen''h := Lib.hid hlen'
    have h'h := Lib.hid h
    have h''h := Lib.hid h'
    have hnn'h := Lib.hid hnn
    have hf'h := Lib.hid hf
    clear hlen hlen' h h' hnn hf
    go_enter Tryd.func42, Tryd.ntmps42
    go_wp2
    go_ret
    exact ⟨ret_bool hf'h.out.symm, 0, rfl⟩
/-! ### slices.Clone at []api.Call: 4 cells an element -/
theorem info_cloneCal : (Tryd.prog.info? 57).map (fun i => (i.zero, i.size, i.bytes)) = some (some (.agg #[.int .i64 0, .int .u64 0, .int .u64 0, .int .u64 0]), 4, 32) := by kernel_rfl
theorem cloneCal_nil (w : World) : Calls Tryd.prog 36 #[.slice none 0 0] w fun e w' => e = .returned (.slice none 0 0) ∧ w' = w := by
  have hnil := Lib.run_eql_slice_nil (P := Tryd.prog)
  go_enter Tryd.func36, Tryd.ntmps36
  go_wp2
  go_ret
  exact ⟨rfl, rfl⟩
theorem cloneCal_some (ad : Addr) (n cap : Nat) (vs : List Value) (w : World) (hn : n ≤ 4096) (hone : ∀ v ∈ vs, v.oneCell' = true) (h : SlK w 4 (some ad) n vs) :
    Calls Tryd.prog 36 #[.slice (some ad) n cap] w fun e w' => ∃ sp' cap', e = .returned (.slice sp' n cap') ∧ Below w.heap.size w w' ∧ w'.ownsRow w.heap.size 57 4 (.slice sp' n cap') n vs := by
  have hnil := Lib.run_eql_slice_nil (P := Tryd.prog)
  obtain ⟨i0, hi, hz0, hz1, hz2⟩ := info_parts info_cloneCal
  have hown0 : (w.alloc (.cells #[] 57)).ownsRow w.heap.size 57 4 (.slice (some ⟨w.heap.size, 0, none⟩) 0 0) 0 [] :=
    ⟨by simp, .inr ⟨w.heap.size, 0, #[], rfl, Nat.le_refl _, World.alloc_heap_new _ _, Nat.le_refl _, Nat.zero_le _, by simp, by simp⟩⟩
  have hS2 : SlK (w.alloc (.cells #[] 57)) 4 (some ad) n vs := h.below ((Below.refl _ w).alloc (Nat.le_refl _) _)
  have hS2'h := Lib.hid hS2
  have hone'h := Lib.hid hone
  clear hS2 hone
  clear h
  go_enter Tryd.func36, Tryd.ntmps36
  go_wp2_with (at_builtin; refine wpList_append_slk _ rfl (.tmp 5) (.tmp 6) 55 rfl w.heap.size 57 i0 (.agg #[.int .i64 0, .int .u64 0, .int .u64 0, .int .u64 0]) 4 32 Tryd.underlying55 hi hz0 hz1 hz2 rfl (by decide) _ 0 [] rfl hown0 (some ad) n cap vs rfl hS2'h.out hone'h.out (by unfold maxLen; omega) (by omega) (by simp) ?_; intro v' w1 hown' hgrow hwh)
  rw [Nat.zero_add, List.nil_append] at hown'
  obtain ⟨sp', cap', rfl⟩ := row_slice' hown'
  have hown''h := Lib.hid hown'
  have hwh'h := Lib.hid hwh
  clear hown' hwh
  go_wp2
  go_ret
  exact ⟨sp', cap', rfl, ((Below.refl _ w).alloc (Nat.le_refl _) _).grown hgrow (by simp) (fun j hj => by cases hj; exact Nat.le_refl _), hown''h.out⟩
theorem cloneCal_any (sp : Option Addr) (n cap : Nat) (vs : List Value) (w : World) (hn : n ≤ 4096) (hone : ∀ v ∈ vs, v.oneCell' = true) (hc : sp = none → cap = 0) (h : SlK w 4 sp n vs) :
    Calls Tryd.prog 36 #[.slice sp n cap] w fun e w' => ∃ sp' cap', e = .returned (.slice sp' n cap') ∧ Below w.heap.size w w' ∧ w'.ownsRow w.heap.size 57 4 (.slice sp' n cap') n vs := by
  cases sp with
  | some ad => exact cloneCal_some ad n cap vs w hn hone h
  | none =>
    obtain rfl : cap = 0 := hc rfl
    have h0 : n = 0 := by
      rcases h.2.2 with h0 | ⟨b, off, he, _⟩
      · exact h0
      · cases he
    subst h0
    have hl : vs = [] := List.eq_nil_of_length_eq_zero (by have := h.1; simpa using this)
    refine (cloneCal_nil w).mono ?_
    rintro e w' ⟨rfl, rfl⟩
    exact ⟨none, 0, rfl, Below.refl _ _, by rw [hl]; exact World.ownsRow_nil _ _ _ _⟩
/-! ### slices.Clone at []uint64 -/
theorem info_clone64 : (Tryd.prog.info? 22).map (fun i => (i.zero, i.size, i.bytes)) = some (some (.int .u64 0), 1, 8) := by kernel_rfl
theorem clone64_nil (w : World) : Calls Tryd.prog 35 #[.slice none 0 0] w fun e w' => e = .returned (.slice none 0 0) ∧ w' = w := by
  have hnil := Lib.run_eql_slice_nil (P := Tryd.prog)
  go_enter Tryd.func35, Tryd.ntmps35
  go_wp2
  go_ret
  exact ⟨rfl, rfl⟩
theorem clone64_some (ad : Addr) (n cap : Nat) (vs : List Value) (w : World) (hn : n ≤ 100000) (hone : ∀ v ∈ vs, v.oneCell' = true) (h : Sl w (some ad) n vs) :
    Calls Tryd.prog 35 #[.slice (some ad) n cap] w fun e w' => ∃ sp' cap', e = .returned (.slice sp' n cap') ∧ Below w.heap.size w w' ∧ w'.ownsRow w.heap.size 22 1 (.slice sp' n cap') n vs := by
  have hnil := Lib.run_eql_slice_nil (P := Tryd.prog)
  obtain ⟨i0, hi, hz0, hz1, hz2⟩ := info_parts info_clone64
  have hown0 : (w.alloc (.cells #[] 22)).ownsRow w.heap.size 22 1 (.slice (some ⟨w.heap.size, 0, none⟩) 0 0) 0 [] :=
    ⟨rfl, .inr ⟨w.heap.size, 0, #[], rfl, Nat.le_refl _, World.alloc_heap_new _ _, Nat.le_refl _, Nat.zero_le _, rfl, rfl⟩⟩
  have hl := h.1
  have hcs : ∀ j u, vs[j]? = some u → (w.alloc (.cells #[] 22)).cell? (ad.add j) = some u := by
    intro j u hu
    have hj : j < vs.length := (List.getElem?_eq_some_iff.1 hu).1
    obtain ⟨b, off, he, hc⟩ := h.some' (by omega)
    cases he
    have hadd : (⟨b, off, none⟩ : Addr).add j = ⟨b, off + j, none⟩ := by unfold Addr.add; split <;> simp_all
    rw [hadd]
    exact keep_alloc _ _ _ _ (hc j u hu)
  have hcs'h := Lib.hid hcs
  have hl'h := Lib.hid hl
  have hone'h := Lib.hid hone
  clear hcs hl hone
  clear h
  go_enter Tryd.func35, Tryd.ntmps35
  go_wp2_with (at_builtin; refine wpList_append_own _ rfl (.tmp 5) (.tmp 6) 24 rfl w.heap.size 22 i0 (.int .u64 0) 1 8 Tryd.underlying24 hi hz0 hz1 hz2 rfl (by decide) _ 0 [] rfl hown0 ad n cap vs rfl (by rw [← hl'h.out]; omega) hcs'h.out hone'h.out (by unfold maxLen; omega) (by omega) (by simp) ?_; intro v' w1 hown' hgrow hwh)
  rw [Nat.zero_add, List.nil_append] at hown'
  obtain ⟨sp', cap', rfl⟩ := row_slice' hown'
  have hown''h := Lib.hid hown'
  have hwh'h := Lib.hid hwh
  clear hown' hwh
  go_wp2
  go_ret
  exact ⟨sp', cap', rfl, ((Below.refl _ w).alloc (Nat.le_refl _) _).grown hgrow (by simp) (fun j hj => by cases hj; exact Nat.le_refl _), hown''h.out⟩
theorem clone64_any (sp : Option Addr) (n cap : Nat) (vs : List Value) (w : World) (hn : n ≤ 100000) (hone : ∀ v ∈ vs, v.oneCell' = true) (hc : sp = none → cap = 0) (h : Sl w sp n vs) :
    Calls Tryd.prog 35 #[.slice sp n cap] w fun e w' => ∃ sp' cap', e = .returned (.slice sp' n cap') ∧ Below w.heap.size w w' ∧ w'.ownsRow w.heap.size 22 1 (.slice sp' n cap') n vs := by
  cases sp with
  | some ad => exact clone64_some ad n cap vs w hn hone h
  | none =>
    obtain rfl : cap = 0 := hc rfl
    have h0 : n = 0 := by
      rcases h.2.2 with h0 | ⟨b, off, he, _⟩
      · exact h0
      · cases he
    subst h0
    have hl : vs = [] := List.eq_nil_of_length_eq_zero h.1.symm
    refine (clone64_nil w).mono ?_
    rintro e w' ⟨rfl, rfl⟩
    exact ⟨none, 0, rfl, Below.refl _ _, by rw [hl]; exact World.ownsRow_nil _ _ _ _⟩
/-! ### slices.Clone at []int -/
theorem info_cloneI : (Tryd.prog.info? 3).map (fun i => (i.zero, i.size, i.bytes)) = some (some (.int .i64 0), 1, 8) := by kernel_rfl
theorem cloneI_nil (w : World) : Calls Tryd.prog 29 #[.slice none 0 0] w fun e w' => e = .returned (.slice none 0 0) ∧ w' = w := by
  have hnil := Lib.run_eql_slice_nil (P := Tryd.prog)
  go_enter Tryd.func29, Tryd.ntmps29
  go_wp2
  go_ret
  exact ⟨rfl, rfl⟩
theorem cloneI_some (ad : Addr) (n cap : Nat) (vs : List Value) (w : World) (hn : n ≤ 100000) (hone : ∀ v ∈ vs, v.oneCell' = true) (h : Sl w (some ad) n vs) :
    Calls Tryd.prog 29 #[.slice (some ad) n cap] w fun e w' => ∃ sp' cap', e = .returned (.slice sp' n cap') ∧ Below w.heap.size w w' ∧ w'.ownsRow w.heap.size 3 1 (.slice sp' n cap') n vs := by
  have hnil := Lib.run_eql_slice_nil (P := Tryd.prog)
  obtain ⟨i0, hi, hz0, hz1, hz2⟩ := info_parts info_cloneI
  have hown0 : (w.alloc (.cells #[] 3)).ownsRow w.heap.size 3 1 (.slice (some ⟨w.heap.size, 0, none⟩) 0 0) 0 [] :=
    ⟨rfl, .inr ⟨w.heap.size, 0, #[], rfl, Nat.le_refl _, World.alloc_heap_new _ _, Nat.le_refl _, Nat.zero_le _, rfl, rfl⟩⟩
  have hl := h.1
  have hcs : ∀ j u, vs[j]? = some u → (w.alloc (.cells #[] 3)).cell? (ad.add j) = some u := by
    intro j u hu
    have hj : j < vs.length := (List.getElem?_eq_some_iff.1 hu).1
    obtain ⟨b, off, he, hc⟩ := h.some' (by omega)
    cases he
    have hadd : (⟨b, off, none⟩ : Addr).add j = ⟨b, off + j, none⟩ := by unfold Addr.add; split <;> simp_all
    rw [hadd]
    exact keep_alloc _ _ _ _ (hc j u hu)
  have hcs'h := Lib.hid hcs
  have hl'h := Lib.hid hl
  have hone'h := Lib.hid hone
  clear hcs hl hone
  clear h
  go_enter Tryd.func29, Tryd.ntmps29
  go_wp2_with (at_builtin; refine wpList_append_own _ rfl (.tmp 5) (.tmp 6) 27 rfl w.heap.size 3 i0 (.int .i64 0) 1 8 Tryd.underlying27 hi hz0 hz1 hz2 rfl (by decide) _ 0 [] rfl hown0 ad n cap vs rfl (by rw [← hl'h.out]; omega) hcs'h.out hone'h.out (by unfold maxLen; omega) (by omega) (by simp) ?_; intro v' w1 hown' hgrow hwh)
  rw [Nat.zero_add, List.nil_append] at hown'
  obtain ⟨sp', cap', rfl⟩ := row_slice' hown'
  have hown''h := Lib.hid hown'
  have hwh'h := Lib.hid hwh
  clear hown' hwh
  go_wp2
  go_ret
  exact ⟨sp', cap', rfl, ((Below.refl _ w).alloc (Nat.le_refl _) _).grown hgrow (by simp) (fun j hj => by cases hj; exact Nat.le_refl _), hown''h.out⟩
theorem cloneI_any (sp : Option Addr) (n cap : Nat) (vs : List Value) (w : World) (hn : n ≤ 100000) (hone : ∀ v ∈ vs, v.oneCell' = true) (hc : sp = none → cap = 0) (h : Sl w sp n vs) :
    Calls Tryd.prog 29 #[.slice sp n cap] w fun e w' => ∃ sp' cap', e = .returned (.slice sp' n cap') ∧ Below w.heap.size w w' ∧ w'.ownsRow w.heap.size 3 1 (.slice sp' n cap') n vs := by
  cases sp with
  | some ad => exact cloneI_some ad n cap vs w hn hone h
  | none =>
    obtain rfl : cap = 0 := hc rfl
    have h0 : n = 0 := by
      rcases h.2.2 with h0 | ⟨b, off, he, _⟩
      · exact h0
      · cases he
    subst h0
    have hl : vs = [] := List.eq_nil_of_length_eq_zero h.1.symm
    refine (cloneI_nil w).mono ?_
    rintro e w' ⟨rfl, rfl⟩
    exact ⟨none, 0, rfl, Below.refl _ _, by rw [hl]; exact World.ownsRow_nil _ _ _ _⟩
/-! ### slices.Clone at []uint8 -/
theorem info_clone8 : (Tryd.prog.info? 5).map (fun i => (i.zero, i.size, i.bytes)) = some (some (.int .u8 0), 1, 1) := by kernel_rfl
theorem clone8_nil (w : World) : Calls Tryd.prog 25 #[.slice none 0 0] w fun e w' => e = .returned (.slice none 0 0) ∧ w' = w := by
  have hnil := Lib.run_eql_slice_nil (P := Tryd.prog)
  go_enter Tryd.func25, Tryd.ntmps25
  go_wp2
  go_ret
  exact ⟨rfl, rfl⟩
theorem clone8_some (ad : Addr) (n cap : Nat) (vs : List Value) (w : World) (hn : n ≤ 100000) (hone : ∀ v ∈ vs, v.oneCell' = true) (h : Sl w (some ad) n vs) :
    Calls Tryd.prog 25 #[.slice (some ad) n cap] w fun e w' => ∃ sp' cap', e = .returned (.slice sp' n cap') ∧ Below w.heap.size w w' ∧ w'.ownsRow w.heap.size 5 1 (.slice sp' n cap') n vs := by
  have hnil := Lib.run_eql_slice_nil (P := Tryd.prog)
  obtain ⟨i0, hi, hz0, hz1, hz2⟩ := info_parts info_clone8
  have hown0 : (w.alloc (.cells #[] 5)).ownsRow w.heap.size 5 1 (.slice (some ⟨w.heap.size, 0, none⟩) 0 0) 0 [] :=
    ⟨rfl, .inr ⟨w.heap.size, 0, #[], rfl, Nat.le_refl _, World.alloc_heap_new _ _, Nat.le_refl _, Nat.zero_le _, rfl, rfl⟩⟩
  have hl := h.1
  have hcs : ∀ j u, vs[j]? = some u → (w.alloc (.cells #[] 5)).cell? (ad.add j) = some u := by
    intro j u hu
    have hj : j < vs.length := (List.getElem?_eq_some_iff.1 hu).1
    obtain ⟨b, off, he, hc⟩ := h.some' (by omega)
    cases he
    have hadd : (⟨b, off, none⟩ : Addr).add j = ⟨b, off + j, none⟩ := by unfold Addr.add; split <;> simp_all
    rw [hadd]
    exact keep_alloc _ _ _ _ (hc j u hu)
  have hcs'h := Lib.hid hcs
  have hl'h := Lib.hid hl
  have hone'h := Lib.hid hone
  clear hcs hl hone
  clear h
  go_enter Tryd.func25, Tryd.ntmps25
  go_wp2_with (at_builtin; refine wpList_append_own _ rfl (.tmp 5) (.tmp 6) 38 rfl w.heap.size 5 i0 (.int .u8 0) 1 1 Tryd.underlying38 hi hz0 hz1 hz2 rfl (by decide) _ 0 [] rfl hown0 ad n cap vs rfl (by rw [← hl'h.out]; omega) hcs'h.out hone'h.out (by unfold maxLen; omega) (by omega) (by simp) ?_; intro v' w1 hown' hgrow hwh)
  rw [Nat.zero_add, List.nil_append] at hown'
  obtain ⟨sp', cap', rfl⟩ := row_slice' hown'
  have hown''h := Lib.hid hown'
  have hwh'h := Lib.hid hwh
  clear hown' hwh
  go_wp2
  go_ret
  exact ⟨sp', cap', rfl, ((Below.refl _ w).alloc (Nat.le_refl _) _).grown hgrow (by simp) (fun j hj => by cases hj; exact Nat.le_refl _), hown''h.out⟩
theorem clone8_any (sp : Option Addr) (n cap : Nat) (vs : List Value) (w : World) (hn : n ≤ 100000) (hone : ∀ v ∈ vs, v.oneCell' = true) (hc : sp = none → cap = 0) (h : Sl w sp n vs) :
    Calls Tryd.prog 25 #[.slice sp n cap] w fun e w' => ∃ sp' cap', e = .returned (.slice sp' n cap') ∧ Below w.heap.size w w' ∧ w'.ownsRow w.heap.size 5 1 (.slice sp' n cap') n vs := by
  cases sp with
  | some ad => exact clone8_some ad n cap vs w hn hone h
  | none =>
    obtain rfl : cap = 0 := hc rfl
    have h0 : n = 0 := by
      rcases h.2.2 with h0 | ⟨b, off, he, _⟩
      · exact h0
      · cases he
    subst h0
    have hl : vs = [] := List.eq_nil_of_length_eq_zero h.1.symm
    refine (clone8_nil w).mono ?_
    rintro e w' ⟨rfl, rfl⟩
    exact ⟨none, 0, rfl, Below.refl _ _, by rw [hl]; exact World.ownsRow_nil _ _ _ _⟩

/-! ### EqualFunc at rows of calls -/
set_option maxHeartbeats 1000000 in
theorem equalRows_any (sp sp' : Option Addr) (n n' cap cap' : Nat) (l l' : List CRow) (w : World) (h : RowsIn w sp n l) (h' : RowsIn w sp' n' l') :
    Calls Tryd.prog 41 #[.slice sp n cap, .slice sp' n' cap', .func (.func 42) #[] #[]] w fun e w' =>
      e = .returned (.bool (decide (l.map (·.cs) = l'.map (·.cs)))) ∧ ∃ d, w' = w.drewN d := by
  have hlen := h.len
  have hlen' := h'.len
  have hfew := h.few
  have hfew' := h'.few
  by_cases hnn : n = n'
  · subst hnn
    have hne : ((n : Int) != (n : Int)) = false := by simp
    have hlen'h := Lib.hid hlen
    have hlen''h := Lib.hid hlen'
    have h'h := Lib.hid h
    have h''h := Lib.hid h'
    clear hlen hlen' h h'
    go_enter Tryd.func41, Tryd.ntmps41
    go_wp2
    go_loopg [17] n (fun q i wr => ∃ k : Nat, k + q = n ∧ i = .int .i64 k ∧ (∀ j, j < k → (nthR l j).cs = (nthR l' j).cs) ∧ ∃ d, wr = w.drewN d)
    case atStart => exact ⟨0, by omega, rfl, fun j hj => by omega, 0, rfl⟩
    case round =>
      obtain ⟨k, hk, rfl, hall, d, rfl⟩ := hrel
      have hkn : k ≤ n := by omega
      have hk'h := Lib.hid hk
      have hall'h := Lib.hid hall
      clear hk hall
      by_cases hlt : k < n
      · have hkl : k < l.length := by have := hlen'h.out; omega
        have hkl' : k < l'.length := by have := hlen''h.out; omega
        obtain ⟨b, off, rfl, c1⟩ := h'h.out.head hlt
        obtain ⟨b', off', rfl, c2⟩ := h''h.out.head hlt
        have c1' : ∀ q, (w.drewN q).cell? ⟨b, off + k, none⟩ = some (.slice (nthR l k).sp (nthR l k).len (nthR l k).cap) := fun q => c1
        have c2' : ∀ q, (w.drewN q).cell? ⟨b', off' + k, none⟩ = some (.slice (nthR l' k).sp (nthR l' k).len (nthR l' k).cap) := fun q => c2
        have E := equalCal_any (nthR l k).sp (nthR l' k).sp (nthR l k).len (nthR l' k).len (nthR l k).cap (nthR l' k).cap _ _ (w.drewN d) (h'h.out.each _ (nthR_mem hkl)) (h''h.out.each _ (nthR_mem hkl'))
        have i1 : (k : Int) < (n : Int) := by omega
        have i2 : (0 : Int) ≤ (k : Int) := by omega
        clear c1 c2 hkl hkl'
        have hf : ¬ (nthR l k).cs = (nthR l' k).cs → decide (l.map (·.cs) = l'.map (·.cs)) = false := fun he => by
          rw [decide_eq_false_iff_not]; intro e; apply he
          have h1 := congrArg (fun z : List (List Cal) => z[k]?) e
          simp only [List.getElem?_map] at h1
          rw [nthR_at (by have := hlen'h.out; omega), nthR_at (by have := hlen''h.out; omega)] at h1
          simpa using h1
        have hx : ∀ v : Bool, decide ((nthR l k).cs = (nthR l' k).cs) = v → (v = true ↔ (nthR l k).cs = (nthR l' k).cs) := fun v hv => by rw [← hv]; simp
        cases he : decide ((nthR l k).cs = (nthR l' k).cs) with
        | true =>
          rw [he] at E
          have he2 := (hx true he).1 rfl
          have he2'h := Lib.hid he2
          have E'h := Lib.hid E
          clear he2 E
          clear he hx hf
          go_wp2_with fail
          refine E'h.out.mono ?_
          rintro e w2 ⟨rfl, d2, rfl⟩
          go_wp2
          go_roundg (gk - 1)
          case measure => have := hk'h.out; omega
          case rel =>
            refine ⟨k + 1, by have := hk'h.out; omega, by go_num, fun j hj => ?_, d + d2, rfl⟩
            by_cases e : j = k
            · rw [e]; exact he2'h.out
            · exact hall'h.out j (by omega)
        | false =>
          rw [he] at E
          have hf2 := hf (fun e => by have := (hx false he).2 e; cases this)
          have hf2'h := Lib.hid hf2
          have E'h := Lib.hid E
          clear hf2 E
          clear he hx hf
          go_wp2_with fail
          refine E'h.out.mono ?_
          rintro e w2 ⟨rfl, d2, rfl⟩
          go_wp2
          go_ret
          exact ⟨ret_bool hf2'h.out.symm, d + d2, rfl⟩
      · have hn : ¬ (k : Int) < (n : Int) := by omega
        have ht : decide (l.map (·.cs) = l'.map (·.cs)) = true := by
          rw [decide_eq_true_eq]
          refine List.ext_getElem (by have := hlen'h.out; have := hlen''h.out; simp; omega) fun j h1 h2 => ?_
          have h1' : j < l.length := by simpa using h1
          have h2' : j < l'.length := by simpa using h2
          have e1 : l[j] = nthR l j := by have := nthR_at h1'; rw [List.getElem?_eq_getElem h1'] at this; injection this
          have e2 : l'[j] = nthR l' j := by have := nthR_at h2'; rw [List.getElem?_eq_getElem h2'] at this; injection this
          rw [List.getElem_map, List.getElem_map, e1, e2]
          exact hall'h.out j (by have := hlen'h.out; omega)
        have ht'h := Lib.hid ht
        clear ht
        go_wp2
        go_ret
        exact ⟨ret_bool ht'h.out.symm, d, rfl⟩
  · have hne : ((n : Int) != (n' : Int)) = true := by simp; omega
    have hf : decide (l.map (·.cs) = l'.map (·.cs)) = false := by
      rw [decide_eq_false_iff_not]; intro e
      have := congrArg List.length e
      simp at this
      omega
    have hlen'h := Lib.hid hlen
    have hlen''h := Lib.hid hlen'
    have h'h := Lib.hid h
    have h''h := Lib.hid h'
    have hnn'h := Lib.hid hnn
    have hf'h := Lib.hid hf
    clear hlen hlen' h h' hnn hf
    go_enter Tryd.func41, Tryd.ntmps41
    go_wp2
    go_ret
    exact ⟨ret_bool hf'h.out.symm, 0, rfl⟩
theorem equalU_any (sp sp' : Option Addr) (n n' cap cap' : Nat) (l l' : List Nat) (w : World) (h : Sl w sp n (u64s l)) (h' : Sl w sp' n' (u64s l')) :
    Calls Tryd.prog 17 #[.slice sp n cap, .slice sp' n' cap'] w fun e w' => e = .returned (.bool (decide (l = l'))) ∧ ∃ d, w' = w.drewN d := by
  have := equal64_any sp sp' n n' cap cap' (l.map Int.ofNat) (l'.map Int.ofNat) w (by rw [← u64s_ints]; exact h) (by rw [← u64s_ints]; exact h')
  have e : (l.map Int.ofNat == l'.map Int.ofNat) = decide (l = l') := by
    rw [Bool.eq_iff_iff, beq_iff_eq, decide_eq_true_eq]
    exact List.map_inj_right (fun x y h => Int.ofNat.inj h)
  rwa [e] at this
theorem scr_eq (s t : Sm) : decide (s.scr = t.scr) = (decide (s.goers = t.goers) && decide (s.slabs = t.slabs) && decide (s.seed = t.seed) && decide (s.picks = t.picks) && decide (s.rows.map (·.cs) = t.rows.map (·.cs))) := by
  have h : s.scr = t.scr ↔ (s.goers = t.goers ∧ s.slabs = t.slabs ∧ s.seed = t.seed ∧ s.picks = t.picks ∧ s.rows.map (·.cs) = t.rows.map (·.cs)) :=
    ⟨fun h => ⟨congrArg Scr.goers h, congrArg Scr.slabs h, congrArg Scr.seed h, congrArg Scr.picks h, congrArg Scr.lists h⟩, fun ⟨a, b, c, d, e⟩ => by unfold Sm.scr; rw [a, b, c, d, e]⟩
  rw [Bool.eq_iff_iff, decide_eq_true_eq, h]
  simp only [Bool.and_eq_true, decide_eq_true_eq, and_assoc]
set_option maxHeartbeats 1000000 in
theorem same_any (s t : Sm) (w : World) (h : SmIn w s) (h' : SmIn w t) :
    Calls Tryd.prog 15 #[.agg (smA s), .agg (smA t)] w fun e w' => e = .returned (.bool (decide (s.scr = t.scr))) ∧ Below w.heap.size w w' := by
  have hB1 : Below w.heap.size w (w.alloc (.cells (smA s) 26)) := (Below.refl _ _).alloc (Nat.le_refl _) _
  have hB2 : Below w.heap.size w ((w.alloc (.cells (smA s) 26)).alloc (.cells (smA t) 26)) := hB1.alloc (by simp) _
  have hs2 := h.below hB2
  have ht2 := h'.below hB2
  have P := equalU_any s.pp t.pp s.pn t.pn s.pc t.pc _ _ _ hs2.picks ht2.picks
  have R := fun q => equalRows_any s.lp t.lp s.ln t.ln s.lc t.lc _ _ (((w.alloc (.cells (smA s) 26)).alloc (.cells (smA t) 26)).drewN q) (hs2.below (below_drewN' _ _)).rows (ht2.below (below_drewN' _ _)).rows
  have e := scr_eq s t
  rw [e]
  generalize decide (s.picks = t.picks) = vp at *
  generalize decide (s.rows.map (·.cs) = t.rows.map (·.cs)) = vr at *
  clear e h h' hs2 ht2
  obtain ⟨g, sb, seed, lp, ln, lc, rows, pp, pn, pc, picks⟩ := s
  obtain ⟨g', sb', seed', lp', ln', lc', rows', pp', pn', pc', picks'⟩ := t
  simp only [smA] at P R hB1 hB2 ⊢
  have P'h := Lib.hid P
  have R'h := Lib.hid R
  have hB1'h := Lib.hid hB1
  have hB2'h := Lib.hid hB2
  clear P R hB1 hB2
  by_cases h1 : g = g'
  · by_cases h2 : sb = sb'
    · by_cases h3 : seed = seed'
      · subst h1 h2 h3
        cases vp with
        | false =>
          simp only [decide_true, Bool.true_and, Bool.and_false, Bool.false_and]
          go_enter Tryd.func15, Tryd.ntmps15
          go_wp2_with fail
          refine P'h.out.mono ?_
          rintro e w2 ⟨rfl, d, rfl⟩
          go_wp2
          go_ret
          exact ⟨rfl, hB2'h.out.trans ((below_drewN' _ _).mono hB2'h.out.size)⟩
        | true =>
          simp only [decide_true, Bool.true_and]
          go_enter Tryd.func15, Tryd.ntmps15
          go_wp2_with fail
          refine P'h.out.mono ?_
          rintro e w2 ⟨rfl, d, rfl⟩
          go_wp2_with fail
          refine (R'h.out d).mono ?_
          rintro e w2 ⟨rfl, d2, rfl⟩
          go_wp2
          go_ret
          exact ⟨ret_bool (by cases vr <;> rfl), hB2'h.out.trans ((below_drewN' _ (d + d2)).mono hB2'h.out.size)⟩
      · have h3z : ¬ ((seed : Int) = (seed' : Int)) := by omega
        subst h1 h2
        simp only [h3, decide_true, decide_false, Bool.true_and, Bool.and_false, Bool.false_and]
        go_enter Tryd.func15, Tryd.ntmps15
        go_wp2
        go_ret
        exact ⟨rfl, hB2'h.out⟩
    · subst h1
      simp only [h2, decide_true, decide_false, Bool.true_and, Bool.and_false, Bool.false_and]
      go_enter Tryd.func15, Tryd.ntmps15
      go_wp2
      go_ret
      exact ⟨rfl, hB2'h.out⟩
  · simp only [h1, decide_true, decide_false, Bool.true_and, Bool.and_false, Bool.false_and]
    go_enter Tryd.func15, Tryd.ntmps15
    go_wp2
    go_ret
    exact ⟨rfl, hB2'h.out⟩
end Go.Proofs.YtifofdciablljaaDoor

/-
  Layer 3 (script): a number's bytes.
-/
set_option linter.unusedSimpArgs false
set_option linter.unusedVariables false
set_option maxRecDepth 100000
namespace Go.Proofs.YtifofdciablljaaDoor
open Go.RowKit

def u8s (l : List Nat) : List Value := l.map fun (b : Nat) => .int .u8 (b : Int)
theorem u8s_length (l : List Nat) : (u8s l).length = l.length := by simp [u8s]
theorem u8s_app (a b : List Nat) : u8s a ++ u8s b = u8s (a ++ b) := by unfold u8s; rw [List.map_append]
theorem u8s_one (l : List Nat) : ∀ v ∈ u8s l, v.oneCell' = true := by
  unfold u8s; intro v hv; obtain ⟨k, _, rfl⟩ := List.mem_map.1 hv; rfl
theorem info_u8 : (Tryd.prog.info? 5).map (fun i => (i.zero, i.size, i.bytes)) = some (some (.int .u8 0), 1, 1) := by kernel_rfl

/-- A number's bytes: seven bits each, the lowest first; 128 more in all but the last. -/
def numB (n : Nat) : List Nat := if n < 128 then [n] else (n % 128 + 128) :: numB (n / 128)
termination_by n
decreasing_by omega
theorem numB_small {n : Nat} (h : n < 128) : numB n = [n] := by rw [numB, if_pos h]
theorem numB_great {n : Nat} (h : ¬ n < 128) : numB n = (n % 128 + 128) :: numB (n / 128) := by rw [numB, if_neg h]
theorem numB_pos (n : Nat) : 1 ≤ (numB n).length := by
  by_cases h : n < 128
  · rw [numB_small h]; simp
  · rw [numB_great h]; simp
theorem numB_len_le (k : Nat) : ∀ n : Nat, n < 128 ^ (k + 1) → (numB n).length ≤ k + 1 := by
  induction k with
  | zero => intro n h; rw [numB_small (by omega)]; simp
  | succ k ih =>
    intro n h
    by_cases hs : n < 128
    · rw [numB_small hs]; simp
    · rw [numB_great hs, List.length_cons]
      have := ih (n / 128) (by rw [Nat.div_lt_iff_lt_mul (by omega)]; rw [Nat.pow_succ] at h; omega)
      omega
theorem numB_ten {n : Nat} (h : n < 2 ^ 64) : (numB n).length ≤ 10 := numB_len_le 9 n (Nat.lt_of_lt_of_le h (by decide))
theorem numB_byte : ∀ n : Nat, ∀ b ∈ numB n, b < 256 := by
  intro n
  induction n using Nat.strongRecOn with
  | _ n ih =>
    intro b hb
    by_cases h : n < 128
    · rw [numB_small h] at hb; simp at hb; omega
    · rw [numB_great h] at hb
      rcases List.mem_cons.1 hb with rfl | hb
      · omega
      · exact ih (n / 128) (by omega) b hb

/-- A row of one's own that grew: what it was is as it was but for its block; its block is the old one, or a new one. -/
structure Grew (w : World) (v : Value) (w' : World) (v' : Value) : Prop where
  by' : w.grownBy w' v.ownBlock
  blk : v'.ownBlock = v.ownBlock ∨ ∃ b, v'.ownBlock = some b ∧ w.heap.size ≤ b
theorem Grew.refl (w : World) (v : Value) : Grew w v w v := ⟨World.grownBy.refl w _, .inl rfl⟩
theorem Grew.step {w w1 w2 : World} {v v1 v2 : Value} (h : Grew w v w1 v1) (hg : w1.grownBy w2 v1.ownBlock) (hb : v2.ownBlock = v1.ownBlock ∨ v2.ownBlock = some w1.heap.size) : Grew w v w2 v2 := by
  obtain ⟨h1, h2⟩ := h
  have hs := h1.size
  refine ⟨⟨hg.os.trans h1.os, hg.tape.trans h1.tape, hg.output.trans h1.output, Nat.le_trans hs hg.size, fun k hk hne => ?_⟩, ?_⟩
  · refine (hg.block k (by omega) (fun e => ?_)).trans (h1.block k hk hne)
    rcases h2 with h2 | ⟨b, h2, hb2⟩
    · exact hne (e.trans h2)
    · rw [h2] at e
      injection e with e
      omega
  · rcases hb with hb | hb
    · rcases h2 with h2 | ⟨b, h2, hb2⟩
      · exact .inl (hb.trans h2)
      · exact .inr ⟨b, hb.trans h2, hb2⟩
    · exact .inr ⟨_, hb, hs⟩
theorem Grew.wide {w w1 w1' : World} {v v1 : Value} (h : Grew w v w1 v1) (hb : Below w1.heap.size w1 w1') : Grew w v w1' v1 := by
  obtain ⟨h1, h2⟩ := h
  have hs := h1.size
  exact ⟨⟨hb.os.trans h1.os, hb.tape.trans h1.tape, hb.output.trans h1.output, Nat.le_trans hs hb.size, fun k hk hne => (hb.block k (by omega)).trans (h1.block k hk hne)⟩, h2⟩
theorem Grew.below {base : Nat} {w w' : World} {v v' : Value} (h : Grew w v w' v') (hb : base ≤ w.heap.size) (hv : ∀ b, v.ownBlock = some b → base ≤ b) : Below base w w' :=
  (Below.refl base w).grown h.by' hb hv

theorem or128 (x : Nat) (h : x < 256) : x ||| 128 = x % 128 + 128 := by
  have : ∀ x : Fin 256, x.val ||| 128 = x.val % 128 + 128 := by decide
  exact this ⟨x, h⟩
set_option maxHeartbeats 1000000 in
theorem put_any (base : Nat) (v : Value) (l : List Nat) (n : Nat) (w : World) (h : w.ownsRow base 5 1 v l.length (u8s l)) (hbase : base ≤ w.heap.size) (hn : n < 2 ^ 64) (hl : l.length ≤ 60000) :
    Calls Tryd.prog 44 #[v, .int .u64 n] w fun e w' => ∃ v', e = .returned v' ∧ w'.ownsRow base 5 1 v' (l ++ numB n).length (u8s (l ++ numB n)) ∧ Grew w v w' v' := by
  have h10 := numB_ten hn
  obtain ⟨i0, hi, hz0, hz1, hz2⟩ := info_parts info_u8
  have h'h := Lib.hid h
  have hbase'h := Lib.hid hbase
  have hn'h := Lib.hid hn
  have h10'h := Lib.hid h10
  clear h hbase hn h10
  go_enter Tryd.func44, Tryd.ntmps44
  go_wp2
  go_loopg [0, 1] n (fun q x y wr => ∃ (v1 : Value) (l1 : List Nat) (m : Nat), v1 = x ∧ y = .int .u64 (m : Int) ∧ m ≤ q ∧ m < 2 ^ 64 ∧ l1 ++ numB m = l ++ numB n ∧ wr.ownsRow base 5 1 v1 l1.length (u8s l1) ∧ Grew w v wr v1)
  case atStart => exact ⟨v, l, n, rfl, rfl, Nat.le_refl _, hn'h.out, rfl, h'h.out, Grew.refl _ _⟩
  case round =>
    obtain ⟨v1, l1, m, rfl, rfl, hq, hm, hE, hrow, hG⟩ := hrel
    have hlen : l1.length + (numB m).length = l.length + (numB n).length := by have := congrArg List.length hE; simpa using this
    have hsz := hG.by'.size
    by_cases hs : m < 128
    · have hsz2 : ¬ ((m : Int) ≥ 128) := by omega
      have hE2 : l1 ++ [m] = l ++ numB n := by rw [← numB_small hs]; exact hE
      have hB1 := (Below.refl wr.heap.size wr).alloc (Nat.le_refl _) (.cells #[.int .u8 (m : Int)] 5)
      have hrow1 := ownsRow_next hrow hB1
      have hG1 := hG.wide hB1
      have hsl : SlK (wr.alloc (.cells #[.int .u8 (m : Int)] 5)) 1 (some ⟨wr.heap.size, 0, none⟩) 1 (u8s [m]) := SlK.of_blk (World.alloc_heap_new _ _) rfl (by unfold maxLen; omega)
      have hb1 : base ≤ (wr.alloc (.cells #[.int .u8 (m : Int)] 5)).heap.size := by have := hbase'h.out; have := hB1.size; omega
      have hl61 : l1.length ≤ 60010 := by have := h10'h.out; omega
      clear hE hsz hrow hG hB1
      have hq'h := Lib.hid hq
      have hm'h := Lib.hid hm
      have hE2'h := Lib.hid hE2
      have hrow1'h := Lib.hid hrow1
      have hG1'h := Lib.hid hG1
      have hlen'h := Lib.hid hlen
      have hsl'h := Lib.hid hsl
      have hb1'h := Lib.hid hb1
      clear hq hm hE2 hrow1 hG1 hlen hsl hb1
      go_wp2_with (at_builtin; refine wpList_append_slk _ rfl (.tmp 15) (.tmp 18) 38 rfl base 5 i0 (.int .u8 0) 1 1 Tryd.underlying38 hi hz0 hz1 hz2 rfl (by decide) v1 l1.length _ rfl hrow1'h.out _ 1 1 _ rfl hsl'h.out (u8s_one _) (by unfold maxLen; omega) (by omega) hb1'h.out ?_; intro v' w9 hown' hgrow hwh)
      have hG9 := hG1'h.out.step hgrow hwh
      rw [u8s_app] at hown'
      clear hgrow hwh
      have hG9'h := Lib.hid hG9
      have hown''h := Lib.hid hown'
      clear hG9 hown'
      go_wp2
      go_ret
      refine ⟨v', rfl, ?_, hG9'h.out⟩
      have := hown''h.out
      rw [hE2'h.out] at this
      have e := congrArg List.length hE2'h.out
      simp only [List.length_append, List.length_singleton] at e ⊢
      rwa [e] at this
    · have hsz2 : ((m : Int) ≥ 128) := by omega
      have hE2 : (l1 ++ [m % 128 + 128]) ++ numB (m / 128) = l ++ numB n := by rw [← hE, numB_great hs]; simp
      obtain ⟨c, hc⟩ : ∃ c : Nat, c = m % 128 + 128 := ⟨_, rfl⟩
      rw [← hc] at hE2
      have hor : bits .or .u8 ((m : Int) % 256) 128 = (c : Int) := by
        have h1 := u8_or_nat (m % 256) 128 (by omega) (by omega)
        rw [or128 _ (by omega), show m % 256 % 128 + 128 = c by omega] at h1
        rw [← h1]
        push_cast
        rfl
      have hB1 := (Below.refl wr.heap.size wr).alloc (Nat.le_refl _) (.cells #[.int .u8 (c : Int)] 5)
      have hrow1 := ownsRow_next hrow hB1
      have hG1 := hG.wide hB1
      have hsl : SlK (wr.alloc (.cells #[.int .u8 (c : Int)] 5)) 1 (some ⟨wr.heap.size, 0, none⟩) 1 (u8s [c]) := SlK.of_blk (World.alloc_heap_new _ _) rfl (by unfold maxLen; omega)
      have hb1 : base ≤ (wr.alloc (.cells #[.int .u8 (c : Int)] 5)).heap.size := by have := hbase'h.out; have := hB1.size; omega
      have hl61 : l1.length ≤ 60010 := by have := h10'h.out; omega
      clear hE hsz hrow hG hB1 hc
      have hq'h := Lib.hid hq
      have hm'h := Lib.hid hm
      have hE2'h := Lib.hid hE2
      have hrow1'h := Lib.hid hrow1
      have hG1'h := Lib.hid hG1
      have hlen'h := Lib.hid hlen
      have hsl'h := Lib.hid hsl
      have hb1'h := Lib.hid hb1
      clear hq hm hE2 hrow1 hG1 hlen hsl hb1
      go_wp2_with (at_builtin; refine wpList_append_slk _ rfl (.tmp 7) (.tmp 11) 38 rfl base 5 i0 (.int .u8 0) 1 1 Tryd.underlying38 hi hz0 hz1 hz2 rfl (by decide) v1 l1.length _ rfl hrow1'h.out _ 1 1 _ rfl hsl'h.out (u8s_one _) (by unfold maxLen; omega) (by omega) hb1'h.out ?_; intro v' w9 hown' hgrow hwh)
      have hG9 := hG1'h.out.step hgrow hwh
      rw [u8s_app] at hown'
      clear hgrow hwh hor
      have hG9'h := Lib.hid hG9
      have hown''h := Lib.hid hown'
      clear hG9 hown'
      go_wp2
      go_roundg (m / 128)
      case measure => have := hq'h.out; omega
      case rel => exact ⟨v', l1 ++ [c], m / 128, rfl, by go_num, Nat.le_refl _, by have := hm'h.out; omega, hE2'h.out, by rw [List.length_append, List.length_singleton]; exact hown''h.out, hG9'h.out⟩
theorem number_any (n : Nat) (w : World) (hn : n < 2 ^ 64) :
    Calls Tryd.prog 21 #[.int .u64 n] w fun e w' => ∃ v', e = .returned v' ∧ w'.ownsRow w.heap.size 5 1 v' (numB n).length (u8s (numB n)) ∧ Below w.heap.size w w' := by
  have C := put_any w.heap.size (.slice none 0 0) [] n w ⟨rfl, .inl ⟨rfl, rfl⟩⟩ (Nat.le_refl _) hn (by simp)
  have C'h := Lib.hid C
  clear C
  go_enter Tryd.func21, Tryd.ntmps21
  go_wp2_with fail
  refine C'h.out.mono ?_
  rintro e w' ⟨v', rfl, hrow, hG⟩
  have hB := hG.below (Nat.le_refl _) (fun b hb => by cases hb)
  clear hG C'h
  have hrow'h := Lib.hid hrow
  have hB'h := Lib.hid hB
  clear hrow hB
  go_wp2
  go_ret
  exact ⟨v', rfl, hrow'h.out, hB'h.out⟩
end Go.Proofs.YtifofdciablljaaDoor

