/-
  Several texts of mine in one: Eq64 ScrPure ScrA ScrB ScrC ScrD DocA OrdPure.
-/
import Derived.Test.YtogeohjeabbmaaaDoorY1
import Derived.Deep.QuietTactic
import Derived.BigQuiet
import Derived.Deep.LoopGhost
import Derived.RegionTactic
import Derived.Deep.Cut
import Derived.Deep.CutRange
import Derived.Deep.RegionHeld3
import Derived.StillTailTactics
import Derived.Deep.OwnRows
import Derived.Test.YtogeohjeabbmaaaDoorY5
/-
  slices.Equal at rows of words.
-/
set_option linter.unusedSimpArgs false
set_option linter.unusedVariables false
set_option maxRecDepth 100000
namespace Go.Proofs.YtogeohjeabbmaaaDoor
open Go.RowKit

/-! ### slices.Equal at []uint64, of one kind of numbers -/
end Go.Proofs.YtogeohjeabbmaaaDoor

/-
  Layer 3 (script), plain: calls, scripts, what they read as in memory; the table of the words that calls take.
-/
set_option linter.unusedSimpArgs false
set_option linter.unusedVariables false
namespace Go.Proofs.YtogeohjeabbmaaaDoor
open Go.RowKit

/-- The package's table, as its own text lays it. -/
def tkL : List Int := [-1, 1, 2, 1, 3, 2, 0, 0]
def Tks (w : World) : Prop := ∀ i : Nat, i < 8 → w.cell? ⟨0, i, none⟩ = some (.int .i64 (tkL.getD i 0))
theorem Tks.lt {w : World} (h : Tks w) : 0 < w.heap.size := lt_of_cell (h 0 (by omega))
theorem Tks.below {w w' : World} {B : Nat} (h : Tks w) (hb : Below B w w') (hB : 0 < B) : Tks w' := fun i hi => (hb.cell (p := ⟨0, i, none⟩) hB).trans (h i hi)
theorem Tks.next {w w' : World} (h : Tks w) (hb : Below w.heap.size w w') : Tks w' := h.below hb h.lt
def takesI (op : Int) : Int := if op < 0 ∨ 8 ≤ op then -1 else tkL.getD op.toNat 0
theorem takesI_range (op : Int) : -1 ≤ takesI op ∧ takesI op ≤ 3 := by
  unfold takesI
  split
  · omega
  · have : op.toNat < 8 := by omega
    generalize op.toNat = k at *
    match k, this with
    | 0, _ => decide
    | 1, _ => decide
    | 2, _ => decide
    | 3, _ => decide
    | 4, _ => decide
    | 5, _ => decide
    | 6, _ => decide
    | 7, _ => decide
theorem takesI_some {op : Int} (h : 0 ≤ takesI op) : 1 ≤ op ∧ op ≤ 7 := by
  unfold takesI at h
  split at h
  · omega
  · by_cases h0 : op = 0
    · subst h0; exact absurd h (by decide)
    · omega

/-- A call. -/
structure Cal where
  op : Int
  key : Nat
  a : Nat
  b : Nat
deriving DecidableEq
def calA (c : Cal) : Array Value := #[.int .i64 c.op, .int .u64 (c.key : Int), .int .u64 (c.a : Int), .int .u64 (c.b : Int)]
def calL (c : Cal) : List Value := [.int .i64 c.op, .int .u64 (c.key : Int), .int .u64 (c.a : Int), .int .u64 (c.b : Int)]
theorem calL_len (c : Cal) : (calL c).length = 4 := rfl
def cals (l : List Cal) : List Value := l.flatMap calL
def nthCal (l : List Cal) (k : Nat) : Cal := l.getD k ⟨0, 0, 0, 0⟩
theorem cals_length (l : List Cal) : (cals l).length = l.length * 4 := by unfold cals; exact flat_len calL_len l
structure CalOk (c : Cal) : Prop where
  lo : -9223372036854775808 ≤ c.op
  hi : c.op ≤ 9223372036854775807
  key : c.key < 2 ^ 64
  a : c.a < 2 ^ 64
  b : c.b < 2 ^ 64
/-- The words of a call, as many as it takes, the others 0. -/
def wordsC (c : Cal) : List Nat := [c.key, c.a, c.b]
def rightC (c : Cal) : Bool := decide (0 ≤ takesI c.op) && ((wordsC c).drop (takesI c.op).toNat).all (· == 0)

/-! ### The place of the first one of which something holds -/
def idxG {α : Type} (p : α → Bool) (l : List α) : Int := if l.findIdx p < l.length then (l.findIdx p : Int) else -1
theorem idxG_hit {α : Type} {p : α → Bool} {l : List α} {k : Nat} (hk : k < l.length) (hno : ∀ j, (h : j < k) → p (l[j]'(by omega)) = false) (h : p l[k] = true) : idxG p l = (k : Int) := by
  have e : l.findIdx p = k := (List.findIdx_eq hk).2 ⟨h, fun j hj => by have := hno j hj; simpa using this⟩
  unfold idxG; rw [e, if_pos hk]
theorem idxG_none {α : Type} {p : α → Bool} {l : List α} (hno : ∀ j, (h : j < l.length) → p l[j] = false) : idxG p l = -1 := by
  unfold idxG
  rw [if_neg]
  intro h
  have h1 := List.findIdx_getElem (w := h)
  rw [hno _ h] at h1
  cases h1
theorem idxG_any {α : Type} (p : α → Bool) (l : List α) : decide (0 ≤ idxG p l) = l.any p := by
  unfold idxG
  by_cases h : l.findIdx p < l.length
  · rw [if_pos h, decide_eq_true (by omega)]
    exact (List.any_eq_true.2 ⟨_, List.getElem_mem h, List.findIdx_getElem (w := h)⟩).symm
  · rw [if_neg h, decide_eq_false (by omega)]
    symm
    rw [List.any_eq_false]
    intro x hx hp
    exact h (List.findIdx_lt_length_of_exists ⟨x, hx, hp⟩)
end Go.Proofs.YtogeohjeabbmaaaDoor

/-
  Layer 3 (script): what calls take, the words of a call, whether something holds of all.
-/
set_option linter.unusedSimpArgs false
set_option linter.unusedVariables false
set_option maxRecDepth 100000
namespace Go.Proofs.YtogeohjeabbmaaaDoor
open Go.RowKit

theorem takes_any (op : Int) (w : World) (hT : Tks w) : Calls Tryd.prog 88 #[.int .i64 op] w fun e w' => e = .returned (.int .i64 (takesI op)) ∧ w' = w := by
  by_cases h : op < 0 ∨ 8 ≤ op
  · have ht : takesI op = -1 := by unfold takesI; rw [if_pos h]
    rw [ht]
    clear ht hT
    rcases h with h | h
    · go_enter Tryd.func88, Tryd.ntmps88
      go_wp2
      go_ret
      exact ⟨rfl, rfl⟩
    · have h0 : ¬ op < 0 := by omega
      have h8 : op ≥ 8 := by omega
      go_enter Tryd.func88, Tryd.ntmps88
      go_wp2
      go_ret
      exact ⟨rfl, rfl⟩
  · obtain ⟨k, rfl⟩ : ∃ k : Nat, op = (k : Int) := ⟨op.toNat, by omega⟩
    have hk : k < 8 := by omega
    have ht : takesI (k : Int) = tkL.getD k 0 := by unfold takesI; rw [if_neg h, Int.toNat_natCast]
    rw [ht]
    have hc := hT k hk
    generalize tkL.getD k 0 = t at *
    clear ht hT h
    have h0 : ¬ (k : Int) < 0 := by omega
    have h8 : ¬ (k : Int) ≥ 8 := by omega
    go_enter Tryd.func88, Tryd.ntmps88
    go_wp2
    go_ret
    exact ⟨rfl, rfl⟩

theorem info_w3 : (Tryd.prog.info? 119).map (·.size) = some 3 := by kernel_rfl
theorem words_any (b o : Nat) (w : World) : Calls Tryd.prog 89 #[.pointer (some ⟨b, o, none⟩)] w fun e w' =>
    e = .returned (.agg #[.pointer (some ⟨b, o + 1, none⟩), .pointer (some ⟨b, o + 2, none⟩), .pointer (some ⟨b, o + 3, none⟩)]) ∧ Below w.heap.size w w' := by
  go_enter Tryd.func89, Tryd.ntmps89
  go_wp2
  go_region
  all_goals
    go_wp2
    exact bodyPost_ret (results_cell_row rfl _ _ w.heap.size 119 _ (0, 0) _ rfl (World.alloc_heap_new _ _) Tryd.underlying119 rfl info_w3) rfl ⟨rfl, ((Below.refl _ _).alloc (Nat.le_refl _) _).drew⟩

/-! ### Of numbers that pointers lead to: are all 0? -/
abbrev PA := Nat × Nat × Nat
def ptrP (x : PA) : Value := .pointer (some ⟨x.1, x.2.1, none⟩)
def Leads (w : World) (x : PA) : Prop := w.cell? ⟨x.1, x.2.1, none⟩ = some (.int .u64 (x.2.2 : Int))
def zeroP (x : PA) : Bool := x.2.2 == 0
theorem right1_any (x : PA) (w : World) (h : Leads w x) : Calls Tryd.prog 91 #[ptrP x] w fun e w' => e = .returned (.bool (zeroP x)) ∧ w' = w := by
  obtain ⟨b, o, v⟩ := x
  unfold ptrP zeroP
  have hc : w.cell? ⟨b, o, none⟩ = some (.int .u64 (v : Int)) := h
  clear h
  rcases Nat.eq_zero_or_pos v with rfl | hv
  · go_enter Tryd.func91, Tryd.ntmps91
    go_wp2
    go_ret
    exact ⟨rfl, rfl⟩
  · have hz : ¬ ((v : Int) = 0) := by omega
    have hb : (v == 0) = false := by simp; omega
    simp only [hb]
    go_enter Tryd.func91, Tryd.ntmps91
    go_wp2
    go_ret
    exact ⟨ret_bool (by simp; omega), rfl⟩
theorem allP1_any (x : PA) (g : Nat) (w : World) (h : Leads w x) (hg : w.cell? ⟨g, 0, none⟩ = some (.func (.func 91) #[] #[])) :
    Calls Tryd.prog 98 #[ptrP x, .pointer (some ⟨g, 0, none⟩)] w fun e w' => e = .returned (.bool (!zeroP x)) ∧ w' = w := by
  have C := right1_any x w h
  have C'h := Lib.hid C
  clear C
  clear h
  go_enter Tryd.func98, Tryd.ntmps98
  go_wp2_with fail
  refine (C'h.out).mono ?_
  rintro e w' ⟨rfl, rfl⟩
  go_wp2
  go_ret
  exact ⟨ret_bool rfl, rfl⟩
theorem idxP_any (sp : Option Addr) (n cap : Nat) (l : List PA) (g : Nat) (w : World) (h : SlK w 1 sp n (l.map ptrP)) (hl : ∀ x ∈ l, Leads w x) (hg : w.cell? ⟨g, 0, none⟩ = some (.func (.func 91) #[] #[])) :
    Calls Tryd.prog 101 #[.slice sp n cap, .func (.func 98) #[] #[.pointer (some ⟨g, 0, none⟩)]] w fun e w' => e = .returned (.int .i64 (idxG (fun x => !zeroP x) l)) ∧ w' = w := by
  have hlen : n = l.length := by have := h.1; simpa using this.symm
  have hmax := h.2.1
  unfold maxLen at hmax
  have hlen'h := Lib.hid hlen
  have h'h := Lib.hid h
  have hl'h := Lib.hid hl
  have hg'h := Lib.hid hg
  clear hlen h hl hg
  go_enter Tryd.func101, Tryd.ntmps101
  go_wp2
  go_loopg [8] n (fun q i wr => ∃ k : Nat, k + q = n ∧ i = .int .i64 k ∧ (∀ j, (h : j < k) → (h' : j < l.length) → (!zeroP (l[j]'h')) = false) ∧ wr = w)
  case atStart => exact ⟨0, by omega, rfl, fun j hj => by omega, rfl⟩
  case round =>
    obtain ⟨k, hk, rfl, hall, rfl⟩ := hrel
    have hkn : k ≤ n := by omega
    by_cases hlt : k < n
    · have hkl : k < l.length := by have := hlen'h.out; omega
      obtain ⟨b, off, rfl, hcs⟩ := h'h.out.some' (by omega)
      have c1 : wr.cell? ⟨b, off + k, none⟩ = some (ptrP l[k]) := hcs k _ (by rw [List.getElem?_map, List.getElem?_eq_getElem hkl]; rfl)
      have C := allP1_any l[k] g wr (hl'h.out _ (List.getElem_mem hkl)) hg'h.out
      clear hcs
      obtain ⟨v, hv⟩ : ∃ v, v = ptrP l[k] := ⟨_, rfl⟩
      rw [← hv] at c1 C
      clear hv
      cases hz : !zeroP l[k] with
      | true =>
        have hr := idxG_hit (p := fun x => !zeroP x) hkl (fun j hj => hall j hj (by omega)) hz
        rw [hz] at C
        have hk'h := Lib.hid hk
        have hall'h := Lib.hid hall
        have C'h := Lib.hid C
        have hr'h := Lib.hid hr
        clear hk hall C hr
        clear hz
        go_wp2_with fail
        refine (C'h.out).mono ?_
        rintro e w' ⟨rfl, rfl⟩
        go_wp2
        go_ret
        exact ⟨ret_i64 hr'h.out.symm, rfl⟩
      | false =>
        have hall' : ∀ j, (h : j < k + 1) → (h' : j < l.length) → (!zeroP (l[j]'h')) = false := fun j hj h' => by
          by_cases e : j = k
          · subst e; exact hz
          · exact hall j (by omega) h'
        rw [hz] at C
        have hk'h := Lib.hid hk
        have hall'h := Lib.hid hall
        have C'h := Lib.hid C
        have hall''h := Lib.hid hall'
        clear hk hall C hall'
        clear hz
        go_wp2_with fail
        refine (C'h.out).mono ?_
        rintro e w' ⟨rfl, rfl⟩
        go_wp2
        go_roundg (gk - 1)
        case measure => have := hk'h.out; omega
        case rel => exact ⟨k + 1, by have := hk'h.out; omega, by go_num, hall''h.out, rfl⟩
    · have hr := idxG_none (l := l) (p := fun x => !zeroP x) (fun j hj => hall j (by have := hlen'h.out; omega) hj)
      have hd : ¬ ((k : Int) < (n : Int)) := by omega
      have hk'h := Lib.hid hk
      have hall'h := Lib.hid hall
      have hr'h := Lib.hid hr
      clear hk hall hr
      go_wp2
      go_ret
      exact ⟨ret_i64 hr'h.out.symm, rfl⟩
theorem hasP_any (sp : Option Addr) (n cap : Nat) (l : List PA) (g : Nat) (w : World) (h : SlK w 1 sp n (l.map ptrP)) (hl : ∀ x ∈ l, Leads w x) (hg : w.cell? ⟨g, 0, none⟩ = some (.func (.func 91) #[] #[])) :
    Calls Tryd.prog 97 #[.slice sp n cap, .func (.func 98) #[] #[.pointer (some ⟨g, 0, none⟩)]] w fun e w' => e = .returned (.bool (l.any fun x => !zeroP x)) ∧ w' = w := by
  have I := idxP_any sp n cap l g w h hl hg
  rw [← idxG_any]
  generalize idxG (fun x => !zeroP x) l = i at *
  have I'h := Lib.hid I
  clear I
  clear hg hl h
  go_enter Tryd.func97, Tryd.ntmps97
  go_wp2_with fail
  refine (I'h.out).mono ?_
  rintro e w' ⟨rfl, rfl⟩
  by_cases hi : 0 ≤ i
  · go_wp2
    go_ret
    exact ⟨ret_bool (by simp [hi]), rfl⟩
  · go_wp2
    go_ret
    exact ⟨ret_bool (by simp [hi]), rfl⟩
theorem allP_any (sp : Option Addr) (n cap : Nat) (l : List PA) (w : World) (h : SlK w 1 sp n (l.map ptrP)) (hl : ∀ x ∈ l, Leads w x) :
    Calls Tryd.prog 90 #[.slice sp n cap, .func (.func 91) #[] #[]] w fun e w' => e = .returned (.bool (l.all zeroP)) ∧ Below w.heap.size w w' := by
  have hb : Below w.heap.size w (w.alloc (.cells #[.func (.func 91) #[] #[]] 124)) := (Below.refl _ _).alloc (Nat.le_refl _) _
  have hg : (w.alloc (.cells #[.func (.func 91) #[] #[]] 124)).cell? ⟨w.heap.size, 0, none⟩ = some (.func (.func 91) #[] #[]) := blk_cell (World.alloc_heap_new _ _) rfl
  have C := hasP_any sp n cap l w.heap.size _ (h.below hb) (fun x hx => (hb.cell (p := ⟨x.1, x.2.1, none⟩) (lt_of_cell (hl x hx))).trans (hl x hx)) hg
  have e : (!l.any fun x => !zeroP x) = l.all zeroP := by
    rw [← List.not_all_eq_any_not]; simp
  generalize (l.any fun x => !zeroP x) = v at *
  have C'h := Lib.hid C
  have hb'h := Lib.hid hb
  have e'h := Lib.hid e
  clear C hb e
  clear hl h hg
  go_enter Tryd.func90, Tryd.ntmps90
  go_wp2_with fail
  refine (C'h.out).mono ?_
  rintro e w' ⟨rfl, rfl⟩
  go_wp2
  go_ret
  exact ⟨ret_bool e'h.out, hb'h.out⟩

/-! ### May a call be? -/
theorem SlK.drop {w : World} {b off n : Nat} {vals : List Value} (h : SlK w 1 (some ⟨b, off, none⟩) n vals) (m : Nat) (hm : m ≤ n) : SlK w 1 (some ⟨b, off + m, none⟩) (n - m) (vals.drop m) := by
  obtain ⟨h1, h2, h3⟩ := h
  refine ⟨by rw [List.length_drop, h1]; omega, by omega, ?_⟩
  rcases h3 with h0 | ⟨b', o', e, hc⟩
  · exact .inl (by omega)
  · cases e
    refine .inr ⟨b, off + m, rfl, fun j u hu => ?_⟩
    rw [Nat.add_assoc]
    rw [List.getElem?_drop] at hu
    exact hc _ u hu
def paC (b : Nat) (c : Cal) : List PA := [(b, 1, c.key), (b, 2, c.a), (b, 3, c.b)]
theorem paC_all (b m : Nat) (c : Cal) : ((paC b c).drop m).all zeroP = ((wordsC c).drop m).all (· == 0) := by
  have : wordsC c = (paC b c).map fun x => x.2.2 := rfl
  rw [this, ← List.map_drop, List.all_map]
  rfl
theorem right_any (c : Cal) (w : World) (hT : Tks w) : Calls Tryd.prog 74 #[.agg (calA c)] w fun e w' => e = .returned (.bool (rightC c)) ∧ Below w.heap.size w w' := by
  have hB1 : Below w.heap.size w (w.alloc (.cells (calA c) 31)) := (Below.refl _ _).alloc (Nat.le_refl _) _
  have C := takes_any c.op _ (hT.next hB1)
  have hr := takesI_range c.op
  have hblk : (w.alloc (.cells (calA c) 31)).heap[w.heap.size]? = some (.cells (calA c) 31) := World.alloc_heap_new _ _
  unfold rightC
  obtain ⟨t, ht⟩ : ∃ t, t = takesI c.op := ⟨_, rfl⟩
  rw [← ht] at C hr ⊢
  clear ht hT
  obtain ⟨op, key, a, b⟩ := c
  unfold calA at hblk hB1 C ⊢
  by_cases ht : t < 0
  · have hd : decide (0 ≤ t) = false := decide_eq_false (by omega)
    simp only [hd, Bool.false_and]
    have C'h := Lib.hid C
    have hB1'h := Lib.hid hB1
    clear C hB1
    clear hblk hd
    go_enter Tryd.func74, Tryd.ntmps74
    go_wp2_with fail
    refine (C'h.out).mono ?_
    rintro e w' ⟨rfl, rfl⟩
    go_wp2
    go_ret
    exact ⟨rfl, hB1'h.out⟩
  · obtain ⟨m, rfl⟩ : ∃ m : Nat, t = (m : Int) := ⟨t.toNat, by omega⟩
    have hm : m ≤ 3 := by omega
    have hd : decide (0 ≤ (m : Int)) = true := decide_eq_true (by omega)
    simp only [hd, Bool.true_and, Int.toNat_natCast]
    have ht' : ¬ ((m : Int) < 0) := ht
    have C'h := Lib.hid C
    have hB1'h := Lib.hid hB1
    clear C hB1
    clear hd ht hr
    go_enter Tryd.func74, Tryd.ntmps74
    go_wp2_with fail
    refine (C'h.out).mono ?_
    rintro e w' ⟨rfl, rfl⟩
    go_wp2_with fail
    refine (words_any w.heap.size 0 _).mono ?_
    rintro e w2 ⟨rfl, hB2⟩
    have hblk2 := heap_below hB2 hblk (lt_of_heap hblk)
    have hBw2 := hB1'h.out.trans (hB2.mono hB1'h.out.size)
    have hz2 := lt_of_heap hblk2
    have hB2'h := Lib.hid hB2
    have hblk2'h := Lib.hid hblk2
    have hBw2'h := Lib.hid hBw2
    clear hB2 hblk2 hBw2
    clear hblk
    rcases (show m = 0 ∨ m = 1 ∨ m = 2 ∨ m = 3 by omega) with rfl | rfl | rfl | rfl
    ·
      go_wp2_with fail
      have hs : SlK (w2.alloc (Obj.cells #[.pointer (some ⟨w.heap.size, 1, none⟩), .pointer (some ⟨w.heap.size, 2, none⟩), .pointer (some ⟨w.heap.size, 3, none⟩)] 119)) 1 (some ⟨w2.heap.size, 0, none⟩) 3 ((paC w.heap.size ⟨op, key, a, b⟩).map ptrP) :=
        SlK.of_blk (World.alloc_heap_new _ _) rfl (by unfold maxLen; omega)
      have hbl : ∀ x ∈ (paC w.heap.size ⟨op, key, a, b⟩).drop 0, Leads (w2.alloc (Obj.cells #[.pointer (some ⟨w.heap.size, 1, none⟩), .pointer (some ⟨w.heap.size, 2, none⟩), .pointer (some ⟨w.heap.size, 3, none⟩)] 119)) x := by
        intro x hx
        have hx' := List.mem_of_mem_drop hx
        have hb := heap_below ((Below.refl w2.heap.size w2).alloc (Nat.le_refl _) (Obj.cells #[.pointer (some ⟨w.heap.size, 1, none⟩), .pointer (some ⟨w.heap.size, 2, none⟩), .pointer (some ⟨w.heap.size, 3, none⟩)] 119)) hblk2'h.out hz2
        simp only [paC, List.mem_cons, List.not_mem_nil, or_false] at hx'
        rcases hx' with rfl | rfl | rfl
        · exact blk_cell (i := 1) hb rfl
        · exact blk_cell (i := 2) hb rfl
        · exact blk_cell (i := 3) hb rfl
      refine (allP_any (some ⟨w2.heap.size, 0, none⟩) 3 3 ((paC w.heap.size ⟨op, key, a, b⟩).drop 0) _ (hs.drop 0 (by omega)) hbl).mono ?_
      rintro e w3 ⟨rfl, hB3⟩
      rw [paC_all]
      have hB23 : Below w2.heap.size w2 w3 := ((Below.refl _ _).alloc (Nat.le_refl _) _).trans (hB3.mono (by simp))
      clear hB3 hs hbl
      have hB23'h := Lib.hid hB23
      clear hB23
      go_wp2
      go_ret
      exact ⟨rfl, hBw2'h.out.trans (hB23'h.out.mono hBw2'h.out.size)⟩
    ·
      go_wp2_with fail
      have hs : SlK (w2.alloc (Obj.cells #[.pointer (some ⟨w.heap.size, 1, none⟩), .pointer (some ⟨w.heap.size, 2, none⟩), .pointer (some ⟨w.heap.size, 3, none⟩)] 119)) 1 (some ⟨w2.heap.size, 0, none⟩) 3 ((paC w.heap.size ⟨op, key, a, b⟩).map ptrP) :=
        SlK.of_blk (World.alloc_heap_new _ _) rfl (by unfold maxLen; omega)
      have hbl : ∀ x ∈ (paC w.heap.size ⟨op, key, a, b⟩).drop 1, Leads (w2.alloc (Obj.cells #[.pointer (some ⟨w.heap.size, 1, none⟩), .pointer (some ⟨w.heap.size, 2, none⟩), .pointer (some ⟨w.heap.size, 3, none⟩)] 119)) x := by
        intro x hx
        have hx' := List.mem_of_mem_drop hx
        have hb := heap_below ((Below.refl w2.heap.size w2).alloc (Nat.le_refl _) (Obj.cells #[.pointer (some ⟨w.heap.size, 1, none⟩), .pointer (some ⟨w.heap.size, 2, none⟩), .pointer (some ⟨w.heap.size, 3, none⟩)] 119)) hblk2'h.out hz2
        simp only [paC, List.mem_cons, List.not_mem_nil, or_false] at hx'
        rcases hx' with rfl | rfl | rfl
        · exact blk_cell (i := 1) hb rfl
        · exact blk_cell (i := 2) hb rfl
        · exact blk_cell (i := 3) hb rfl
      refine (allP_any (some ⟨w2.heap.size, 1, none⟩) 2 2 ((paC w.heap.size ⟨op, key, a, b⟩).drop 1) _ (hs.drop 1 (by omega)) hbl).mono ?_
      rintro e w3 ⟨rfl, hB3⟩
      rw [paC_all]
      have hB23 : Below w2.heap.size w2 w3 := ((Below.refl _ _).alloc (Nat.le_refl _) _).trans (hB3.mono (by simp))
      clear hB3 hs hbl
      have hB23'h := Lib.hid hB23
      clear hB23
      go_wp2
      go_ret
      exact ⟨rfl, hBw2'h.out.trans (hB23'h.out.mono hBw2'h.out.size)⟩
    ·
      go_wp2_with fail
      have hs : SlK (w2.alloc (Obj.cells #[.pointer (some ⟨w.heap.size, 1, none⟩), .pointer (some ⟨w.heap.size, 2, none⟩), .pointer (some ⟨w.heap.size, 3, none⟩)] 119)) 1 (some ⟨w2.heap.size, 0, none⟩) 3 ((paC w.heap.size ⟨op, key, a, b⟩).map ptrP) :=
        SlK.of_blk (World.alloc_heap_new _ _) rfl (by unfold maxLen; omega)
      have hbl : ∀ x ∈ (paC w.heap.size ⟨op, key, a, b⟩).drop 2, Leads (w2.alloc (Obj.cells #[.pointer (some ⟨w.heap.size, 1, none⟩), .pointer (some ⟨w.heap.size, 2, none⟩), .pointer (some ⟨w.heap.size, 3, none⟩)] 119)) x := by
        intro x hx
        have hx' := List.mem_of_mem_drop hx
        have hb := heap_below ((Below.refl w2.heap.size w2).alloc (Nat.le_refl _) (Obj.cells #[.pointer (some ⟨w.heap.size, 1, none⟩), .pointer (some ⟨w.heap.size, 2, none⟩), .pointer (some ⟨w.heap.size, 3, none⟩)] 119)) hblk2'h.out hz2
        simp only [paC, List.mem_cons, List.not_mem_nil, or_false] at hx'
        rcases hx' with rfl | rfl | rfl
        · exact blk_cell (i := 1) hb rfl
        · exact blk_cell (i := 2) hb rfl
        · exact blk_cell (i := 3) hb rfl
      refine (allP_any (some ⟨w2.heap.size, 2, none⟩) 1 1 ((paC w.heap.size ⟨op, key, a, b⟩).drop 2) _ (hs.drop 2 (by omega)) hbl).mono ?_
      rintro e w3 ⟨rfl, hB3⟩
      rw [paC_all]
      have hB23 : Below w2.heap.size w2 w3 := ((Below.refl _ _).alloc (Nat.le_refl _) _).trans (hB3.mono (by simp))
      clear hB3 hs hbl
      have hB23'h := Lib.hid hB23
      clear hB23
      go_wp2
      go_ret
      exact ⟨rfl, hBw2'h.out.trans (hB23'h.out.mono hBw2'h.out.size)⟩
    ·
      go_wp2_with fail
      have hs : SlK (w2.alloc (Obj.cells #[.pointer (some ⟨w.heap.size, 1, none⟩), .pointer (some ⟨w.heap.size, 2, none⟩), .pointer (some ⟨w.heap.size, 3, none⟩)] 119)) 1 (some ⟨w2.heap.size, 0, none⟩) 3 ((paC w.heap.size ⟨op, key, a, b⟩).map ptrP) :=
        SlK.of_blk (World.alloc_heap_new _ _) rfl (by unfold maxLen; omega)
      have hbl : ∀ x ∈ (paC w.heap.size ⟨op, key, a, b⟩).drop 3, Leads (w2.alloc (Obj.cells #[.pointer (some ⟨w.heap.size, 1, none⟩), .pointer (some ⟨w.heap.size, 2, none⟩), .pointer (some ⟨w.heap.size, 3, none⟩)] 119)) x := by
        intro x hx
        have hx' := List.mem_of_mem_drop hx
        have hb := heap_below ((Below.refl w2.heap.size w2).alloc (Nat.le_refl _) (Obj.cells #[.pointer (some ⟨w.heap.size, 1, none⟩), .pointer (some ⟨w.heap.size, 2, none⟩), .pointer (some ⟨w.heap.size, 3, none⟩)] 119)) hblk2'h.out hz2
        simp only [paC, List.mem_cons, List.not_mem_nil, or_false] at hx'
        rcases hx' with rfl | rfl | rfl
        · exact blk_cell (i := 1) hb rfl
        · exact blk_cell (i := 2) hb rfl
        · exact blk_cell (i := 3) hb rfl
      refine (allP_any (some ⟨w2.heap.size, 0, none⟩) 0 0 ((paC w.heap.size ⟨op, key, a, b⟩).drop 3) _ (SlK.nil _ _ _) hbl).mono ?_
      rintro e w3 ⟨rfl, hB3⟩
      rw [paC_all]
      have hB23 : Below w2.heap.size w2 w3 := ((Below.refl _ _).alloc (Nat.le_refl _) _).trans (hB3.mono (by simp))
      clear hB3 hs hbl
      have hB23'h := Lib.hid hB23
      clear hB23
      go_wp2
      go_ret
      exact ⟨rfl, hBw2'h.out.trans (hB23'h.out.mono hBw2'h.out.size)⟩
end Go.Proofs.YtogeohjeabbmaaaDoor

/-
  Layer 3 (script): does something hold of all calls of a row?
-/
set_option linter.unusedSimpArgs false
set_option linter.unusedVariables false
set_option maxRecDepth 100000
namespace Go.Proofs.YtogeohjeabbmaaaDoor
open Go.RowKit

theorem info_cal : (Tryd.prog.info? 31).map (·.size) = some 4 := by kernel_rfl
theorem calA_one (c : Cal) : (calA c).all (·.oneCell') = true := by simp [calA, Value.oneCell', Value.cells]
theorem allC1_any (c : Cal) (g : Nat) (w : World) (hT : Tks w) (hg : w.cell? ⟨g, 0, none⟩ = some (.func (.func 74) #[] #[])) :
    Calls Tryd.prog 87 #[.agg (calA c), .pointer (some ⟨g, 0, none⟩)] w fun e w' => e = .returned (.bool (!rightC c)) ∧ Below w.heap.size w w' := by
  have hB1 : Below w.heap.size w (w.alloc (.cells (calA c) 31)) := (Below.refl _ _).alloc (Nat.le_refl _) _
  have C := right_any c _ (hT.next hB1)
  have hg1 := (hB1.cell (p := ⟨g, 0, none⟩) (lt_of_cell hg)).trans hg
  clear hg hT
  generalize rightC c = v at *
  obtain ⟨op, key, a, b⟩ := c
  unfold calA at *
  have C'h := Lib.hid C
  have hB1'h := Lib.hid hB1
  clear C hB1
  go_enter Tryd.func87, Tryd.ntmps87
  go_wp2_with fail
  refine C'h.out.mono ?_
  rintro e w2 ⟨rfl, hB2⟩
  have hBw2 := hB1'h.out.trans (hB2.mono hB1'h.out.size)
  have hBw2'h := Lib.hid hBw2
  clear hBw2
  clear hB2 C'h hB1'h hg1
  go_wp2
  go_ret
  exact ⟨ret_bool rfl, hBw2'h.out⟩
theorem idxC_any (sp : Option Addr) (n cap : Nat) (l : List Cal) (g : Nat) (w : World) (hT : Tks w) (h : SlK w 4 sp n (cals l)) (hg : w.cell? ⟨g, 0, none⟩ = some (.func (.func 74) #[] #[])) :
    Calls Tryd.prog 96 #[.slice sp n cap, .func (.func 87) #[] #[.pointer (some ⟨g, 0, none⟩)]] w fun e w' =>
      e = .returned (.int .i64 (idxG (fun x => !rightC x) l)) ∧ Below w.heap.size w w' := by
  have hlen : n = l.length := slk_len calL_len (by decide) h
  have hmax := h.2.1
  unfold maxLen at hmax
  have hlen'h := Lib.hid hlen
  have h'h := Lib.hid h
  have hg'h := Lib.hid hg
  have hT'h := Lib.hid hT
  clear hlen h hg hT
  go_enter Tryd.func96, Tryd.ntmps96
  go_wp2
  go_loopg [8] n (fun q i wr => ∃ k : Nat, k + q = n ∧ i = .int .i64 k ∧ (∀ j, (h : j < k) → (h' : j < l.length) → (!rightC (l[j]'h')) = false) ∧ Below w.heap.size w wr)
  case atStart => exact ⟨0, by omega, rfl, fun j hj => by omega, Below.refl _ _⟩
  case round =>
    obtain ⟨k, hk, rfl, hall, hbr⟩ := hrel
    have hkn : k ≤ n := by omega
    by_cases hlt : k < n
    · have hkl : k < l.length := by have := hlen'h.out; omega
      have hS := h'h.out.below hbr
      obtain ⟨b, off, rfl⟩ := slk_some hS (by omega)
      obtain ⟨c, hc⟩ : ∃ c, c = l[k] := ⟨_, rfl⟩
      have hlk : l[k]? = some c := by rw [hc]; exact List.getElem?_eq_getElem hkl
      have e0 : wr.cell? ⟨b, off + k * 4, none⟩ = some (.int .i64 c.op) := slk_cell calL_len hS (i := 0) hlk (by omega) rfl
      have e1 : wr.cell? ⟨b, off + k * 4 + 1, none⟩ = some (.int .u64 (c.key : Int)) := slk_cell calL_len hS (i := 1) hlk (by omega) rfl
      have e2 : wr.cell? ⟨b, off + k * 4 + 2, none⟩ = some (.int .u64 (c.a : Int)) := slk_cell calL_len hS (i := 2) hlk (by omega) rfl
      have e3 : wr.cell? ⟨b, off + k * 4 + 3, none⟩ = some (.int .u64 (c.b : Int)) := slk_cell calL_len hS (i := 3) hlk (by omega) rfl
      have C := allC1_any c g wr (hT'h.out.next (hbr.mono (Nat.le_refl _))) ((hbr.cell (p := ⟨g, 0, none⟩) (lt_of_cell hg'h.out)).trans hg'h.out)
      have hnx : ∀ j, (h : j < k + 1) → (h' : j < l.length) → rightC c = true → (!rightC (l[j]'h')) = false := fun j hj h' hz => by
        by_cases e : j = k
        · subst e; rw [← hc, hz]; rfl
        · exact hall j (by omega) h'
      have hit : rightC c = false → idxG (fun x => !rightC x) l = (k : Int) := fun hz => idxG_hit (p := fun x => !rightC x) hkl (fun j hj => hall j hj (by omega)) (by rw [← hc, hz]; rfl)
      have C := C
      clear hc hlk hall hS
      generalize rightC c = v at *
      obtain ⟨op, key, a, d⟩ := c
      unfold calA at C
      simp only at e0 e1 e2 e3
      cases v with
      | false =>
        have hr := hit rfl
        have hk'h := Lib.hid hk
        have C'h := Lib.hid C
        have hr'h := Lib.hid hr
        have hbr'h := Lib.hid hbr
        have hnx'h := Lib.hid hnx
        clear hk C hr hbr hnx
        clear hit
        go_wp2_with fail
        refine C'h.out.mono ?_
        rintro e w2 ⟨rfl, hB2⟩
        have hB2'h := Lib.hid hB2
        clear hB2
        go_wp2
        go_ret
        exact ⟨ret_i64 hr'h.out.symm, hbr'h.out.trans (hB2'h.out.mono hbr'h.out.size)⟩
      | true =>
        have hk'h := Lib.hid hk
        have C'h := Lib.hid C
        have hbr'h := Lib.hid hbr
        have hnx'h := Lib.hid hnx
        clear hk C hbr hnx
        clear hit
        go_wp2_with fail
        refine C'h.out.mono ?_
        rintro e w2 ⟨rfl, hB2⟩
        have hB2'h := Lib.hid hB2
        clear hB2
        go_wp2
        go_roundg (gk - 1)
        case measure => have := hk'h.out; omega
        case rel => exact ⟨k + 1, by have := hk'h.out; omega, by go_num, fun j hj h' => hnx'h.out j hj h' trivial, hbr'h.out.trans (hB2'h.out.mono hbr'h.out.size)⟩
    · have hr := idxG_none (l := l) (p := fun x => !rightC x) (fun j hj => hall j (by have := hlen'h.out; omega) hj)
      have hd : ¬ ((k : Int) < (n : Int)) := by omega
      have hk'h := Lib.hid hk
      have hall'h := Lib.hid hall
      have hr'h := Lib.hid hr
      have hbr'h := Lib.hid hbr
      clear hk hall hr hbr
      go_wp2
      go_ret
      exact ⟨ret_i64 hr'h.out.symm, hbr'h.out⟩
theorem hasC_any (sp : Option Addr) (n cap : Nat) (l : List Cal) (g : Nat) (w : World) (hT : Tks w) (h : SlK w 4 sp n (cals l)) (hg : w.cell? ⟨g, 0, none⟩ = some (.func (.func 74) #[] #[])) :
    Calls Tryd.prog 86 #[.slice sp n cap, .func (.func 87) #[] #[.pointer (some ⟨g, 0, none⟩)]] w fun e w' =>
      e = .returned (.bool (l.any fun x => !rightC x)) ∧ Below w.heap.size w w' := by
  have I := idxC_any sp n cap l g w hT h hg
  rw [← idxG_any]
  generalize idxG (fun x => !rightC x) l = i at *
  have I'h := Lib.hid I
  clear I
  clear hg hT h
  go_enter Tryd.func86, Tryd.ntmps86
  go_wp2_with fail
  refine I'h.out.mono ?_
  rintro e w2 ⟨rfl, hB2⟩
  have hB2'h := Lib.hid hB2
  clear hB2
  by_cases hi : 0 ≤ i
  · go_wp2
    go_ret
    exact ⟨ret_bool (by simp [hi]), hB2'h.out⟩
  · go_wp2
    go_ret
    exact ⟨ret_bool (by simp [hi]), hB2'h.out⟩
theorem allC_any (sp : Option Addr) (n cap : Nat) (l : List Cal) (w : World) (hT : Tks w) (h : SlK w 4 sp n (cals l)) :
    Calls Tryd.prog 73 #[.slice sp n cap, .func (.func 74) #[] #[]] w fun e w' => e = .returned (.bool (l.all rightC)) ∧ Below w.heap.size w w' := by
  have hb : Below w.heap.size w (w.alloc (.cells #[.func (.func 74) #[] #[]] 101)) := (Below.refl _ _).alloc (Nat.le_refl _) _
  have hg : (w.alloc (.cells #[.func (.func 74) #[] #[]] 101)).cell? ⟨w.heap.size, 0, none⟩ = some (.func (.func 74) #[] #[]) := blk_cell (World.alloc_heap_new _ _) rfl
  have C := hasC_any sp n cap l w.heap.size _ (hT.next hb) (h.below hb) hg
  have e : (!l.any fun x => !rightC x) = l.all rightC := by
    rw [← List.not_all_eq_any_not]; simp
  generalize (l.any fun x => !rightC x) = v at *
  have C'h := Lib.hid C
  have hb'h := Lib.hid hb
  have e'h := Lib.hid e
  clear C hb e
  clear hT h hg
  go_enter Tryd.func73, Tryd.ntmps73
  go_wp2_with fail
  refine C'h.out.mono ?_
  rintro ee w2 ⟨rfl, hB2⟩
  have hB2'h := Lib.hid hB2
  clear hB2
  go_wp2
  go_ret
  exact ⟨ret_bool e'h.out, hb'h.out.trans (hB2'h.out.mono hb'h.out.size)⟩
end Go.Proofs.YtogeohjeabbmaaaDoor

/-
  Layer 3 (script): the library's Concat at rows of calls.
-/
set_option linter.unusedSimpArgs false
set_option linter.unusedVariables false
set_option maxRecDepth 100000
namespace Go.Proofs.YtogeohjeabbmaaaDoor
open Go.RowKit

abbrev calZ : Value := .agg #[.int .i64 0, .int .u64 0, .int .u64 0, .int .u64 0]
theorem info_calz : (Tryd.prog.info? 31).map (fun i => (i.zero, i.size, i.bytes)) = some (some calZ, 4, 32) := by kernel_rfl
theorem info_calp : ∃ i : TypeInfo, Tryd.prog.info? 31 = some i ∧ i.zero = some calZ ∧ i.size = 4 ∧ i.bytes = 32 := by
  cases h : Tryd.prog.info? 31 with
  | none => have := info_calz; rw [h] at this; cases this
  | some i =>
    have := info_calz
    rw [h] at this
    simp at this
    exact ⟨i, rfl, this.1, this.2.1, this.2.2⟩
theorem cals_one (l : List Cal) : ∀ v ∈ cals l, v.oneCell' = true := by
  refine flat_one (fun c => ?_) l
  intro v hv
  simp only [calL, List.mem_cons, List.not_mem_nil, or_false] at hv
  rcases hv with rfl | rfl | rfl | rfl <;> rfl
theorem cals_app (a b : List Cal) : cals a ++ cals b = cals (a ++ b) := by unfold cals; rw [List.flatMap_append]
/-- Grow of nothing. -/
theorem growC_any (m : Nat) (w : World) (h0 : 0 < m) (hm : m ≤ 4096) :
    Calls Tryd.prog 85 #[.slice none 0 0, .int .i64 m] w fun e w' => ∃ s c, e = .returned (.slice s 0 c) ∧ Below w.heap.size w w' ∧ w'.ownsRow w.heap.size 31 4 (.slice s 0 c) 0 (cals []) := by
  obtain ⟨i0, hi, hz, hs, hby⟩ := info_calp
  have R := fun ty => Lib.run_append_nil_zeros w 22 3 ty 31 i0 _ .i64 .i64 Tryd.underlying22 Tryd.underlying3 hi hz m h0 (by omega) (by omega) (by rw [hby]; omega)
  have hge := grownCap_ge w m 0 31
  have hle := grownCap_le_maxLen w m 0 31 (by unfold maxLen; omega)
  have hz1 : ∀ q, (Builtin.zeroCells calZ.cells q).size = q * 4 := fun q => by rw [size_zeroCells]; simp [Value.cells]
  generalize grownCap w m 0 31 = gc at *
  have hrow : (w.drew.alloc (.cells (Builtin.zeroCells calZ.cells m ++ Builtin.zeroCells calZ.cells (gc - m)) 31)).ownsRow w.heap.size 31 4 (.slice (some ⟨w.heap.size, 0, none⟩) 0 gc) 0 (cals []) :=
    ⟨rfl, .inr ⟨w.heap.size, gc, _, rfl, Nat.le_refl _, World.alloc_heap_new _ _, Nat.zero_le _, hle, by rw [Array.size_append, hz1, hz1]; omega, by simp [cals]⟩⟩
  have hB : Below w.heap.size w (w.drew.alloc (.cells (Builtin.zeroCells calZ.cells m ++ Builtin.zeroCells calZ.cells (gc - m)) 31)) := (Below.drew (Below.refl _ _)).alloc (Nat.le_refl _) _
  obtain ⟨W, hW⟩ : ∃ W, W = w.drew.alloc (.cells (Builtin.zeroCells calZ.cells m ++ Builtin.zeroCells calZ.cells (gc - m)) 31) := ⟨_, rfl⟩
  rw [← hW] at hrow hB R
  have h1 : ¬ ((m : Int) < 0) := by omega
  have h2 : (0 : Int) < (m : Int) := by omega
  have h3 : (m : Int) ≤ (gc : Int) := by omega
  clear hW
  have hrow'h := Lib.hid hrow
  have hB'h := Lib.hid hB
  have R'h := Lib.hid R
  have hge'h := Lib.hid hge
  have hle'h := Lib.hid hle
  clear hrow hB R hge hle
  go_enter Tryd.func85, Tryd.ntmps85
  go_wp2_with (at_builtin; refine Lib.wpList_append_run _ rfl _ _ _ _ rfl _ _ rfl rfl _ _ (R'h.out _) ?_)
  go_ret
  exact ⟨_, _, rfl, hB'h.out, hrow'h.out⟩
theorem growC_none (w : World) :
    Calls Tryd.prog 85 #[.slice none 0 0, .int .i64 0] w fun e w' => ∃ s c, e = .returned (.slice s 0 c) ∧ Below w.heap.size w w' ∧ w'.ownsRow w.heap.size 31 4 (.slice s 0 c) 0 (cals []) := by
  go_enter Tryd.func85, Tryd.ntmps85
  go_wp2
  go_ret
  exact ⟨none, 0, rfl, Below.refl _ _, rfl, .inl ⟨rfl, rfl⟩⟩

/-! ### A row of rows of calls -/
structure CRow where
  sp : Option Addr
  len : Nat
  cap : Nat
  cs : List Cal
def crV (r : CRow) : Value := .slice r.sp r.len r.cap
def nthR (l : List CRow) (k : Nat) : CRow := l.getD k ⟨none, 0, 0, []⟩
theorem nthR_at {l : List CRow} {k : Nat} (h : k < l.length) : l[k]? = some (nthR l k) := by
  unfold nthR; rw [List.getD_eq_getElem?_getD, List.getElem?_eq_getElem h]; rfl
theorem nthR_mem {l : List CRow} {k : Nat} (h : k < l.length) : nthR l k ∈ l := List.mem_of_getElem? (nthR_at h)
/-- All calls of the first k rows. -/
def catC (rows : List CRow) (k : Nat) : List Cal := (rows.take k).flatMap (·.cs)
theorem catC_succ {rows : List CRow} {k : Nat} (h : k < rows.length) : catC rows (k + 1) = catC rows k ++ (nthR rows k).cs := by
  have e : rows[k] = nthR rows k := by have := nthR_at h; rw [List.getElem?_eq_getElem h] at this; injection this
  unfold catC; rw [List.take_succ_eq_append_getElem h, List.flatMap_append, e]; simp
theorem catC_le {rows : List CRow} (hr : ∀ r ∈ rows, r.cs.length ≤ 66) : ∀ k, k ≤ rows.length → (catC rows k).length ≤ 66 * k
  | 0, _ => by simp [catC]
  | k + 1, h => by
    rw [catC_succ (by omega), List.length_append]
    have := catC_le hr k (by omega)
    have := hr _ (nthR_mem (show k < rows.length by omega))
    omega
/-- A row of rows of calls in memory. -/
structure RowsIn (w : World) (sp : Option Addr) (n : Nat) (rows : List CRow) : Prop where
  sl : SlK w 1 sp n (rows.map crV)
  each : ∀ r ∈ rows, SlK w 4 r.sp r.len (cals r.cs)
  nil : ∀ r ∈ rows, r.sp = none → r.cap = 0
  le : ∀ r ∈ rows, r.len ≤ r.cap
  ok : ∀ r ∈ rows, ∀ c ∈ r.cs, CalOk c
  few : n ≤ 16
  short : ∀ r ∈ rows, r.cs.length ≤ 66
theorem RowsIn.len {w : World} {sp : Option Addr} {n : Nat} {rows : List CRow} (h : RowsIn w sp n rows) : n = rows.length := by have := h.sl.1; simpa using this.symm
theorem RowsIn.below {w w' : World} {sp : Option Addr} {n : Nat} {rows : List CRow} (h : RowsIn w sp n rows) (hb : Below w.heap.size w w') : RowsIn w' sp n rows :=
  ⟨h.sl.below hb, fun r hr => (h.each r hr).below hb, h.nil, h.le, h.ok, h.few, h.short⟩
theorem RowsIn.rlen {w : World} {sp : Option Addr} {n : Nat} {rows : List CRow} (h : RowsIn w sp n rows) {r : CRow} (hr : r ∈ rows) : r.len = r.cs.length := slk_len calL_len (by decide) (h.each r hr)
/-- A header of a row. -/
theorem RowsIn.head {w : World} {sp : Option Addr} {n : Nat} {rows : List CRow} (h : RowsIn w sp n rows) {k : Nat} (hk : k < n) : ∃ b o, sp = some ⟨b, o, none⟩ ∧ w.cell? ⟨b, o + k, none⟩ = some (.slice (nthR rows k).sp (nthR rows k).len (nthR rows k).cap) := by
  obtain ⟨b, o, rfl, hc⟩ := h.sl.some' (by omega)
  exact ⟨b, o, rfl, hc k _ (by rw [List.getElem?_map, nthR_at (by rw [← h.len]; exact hk)]; rfl)⟩
set_option maxHeartbeats 2000000 in
theorem concatC_any (sp : Option Addr) (n cap : Nat) (rows : List CRow) (w : World) (h : RowsIn w sp n rows) :
    Calls Tryd.prog 72 #[.slice sp n cap] w fun e w' => ∃ s c, e = .returned (.slice s (catC rows n).length c) ∧ Below w.heap.size w w' ∧
      w'.ownsRow w.heap.size 31 4 (.slice s (catC rows n).length c) (catC rows n).length (cals (catC rows n)) := by
  have hlen := h.len
  have hn := h.few
  have hle := catC_le h.short n (by omega)
  obtain ⟨i0, hi, hz, hs, hby⟩ := info_calp
  have h'h := Lib.hid h
  have hlen'h := Lib.hid hlen
  have hle'h := Lib.hid hle
  clear h hlen hle
  go_enter Tryd.func72, Tryd.ntmps72
  go_wp2
  go_loopg [3, 11] n (fun q sz i wr => ∃ k : Nat, k + q = n ∧ i = .int .i64 k ∧ sz = .int .i64 ((catC rows k).length : Nat) ∧ Below w.heap.size w wr)
  case atStart => exact ⟨0, by omega, rfl, rfl, Below.refl _ _⟩
  case round =>
    obtain ⟨k, hq, rfl, rfl, hB⟩ := hrel
    by_cases hlt : k < n
    · have hkl : k < rows.length := by have := hlen'h.out; omega
      obtain ⟨rb, ro, rfl, c1⟩ := (h'h.out.below hB).head hlt
      have hcl := catC_succ hkl
      have hc64 := catC_le h'h.out.short k (by omega)
      have hc65 := catC_le h'h.out.short (k + 1) (by omega)
      have hl := h'h.out.rlen (nthR_mem hkl)
      have hnx : ((catC rows k).length : Int) + ((nthR rows k).len : Int) = ((catC rows (k + 1)).length : Nat) := by rw [hcl, List.length_append, hl]; push_cast; rfl
      generalize (catC rows k).length = a at *
      obtain ⟨b, hbe⟩ : ∃ b, b = (catC rows (k + 1)).length := ⟨_, rfl⟩
      rw [← hbe] at hnx hc65
      generalize nthR rows k = r at *
      obtain ⟨rs, rl, rc, rws⟩ := r
      simp only at c1 hnx
      have hi1 : (k : Int) < (n : Int) := by omega
      have h0k : (0 : Int) ≤ (k : Int) := by omega
      have hb0 : ¬ ((b : Int) < 0) := by omega
      have hwr : IntKind.i64.wrap (b : Int) = (b : Int) := Go.IntWalk.i64_in _ (by omega)
      have hnx2 : IntKind.i64.wrap ((a : Int) + (rl : Int)) = (b : Int) := by rw [hnx]; exact hwr
      have hnx3 : RowKit.wrap64 ((a : Int) + (rl : Int)) = (b : Int) := (Go.IntWalk.i64_left _).symm.trans hnx2
      clear hlt hcl hl hwr
      have hq'h := Lib.hid hq
      have hB'h := Lib.hid hB
      have hkl'h := Lib.hid hkl
      have hc64'h := Lib.hid hc64
      have hc65'h := Lib.hid hc65
      have hnx'h := Lib.hid hnx
      have hbe'h := Lib.hid hbe
      clear hq hB hkl hc64 hc65 hnx hbe
      go_wp2
      go_roundg (gk - 1)
      case measure => have := hq'h.out; omega
      case rel => exact ⟨k + 1, by have := hq'h.out; omega, by go_num, by rw [← hbe'h.out], hB'h.out⟩
    · have hkn : k = n := by omega
      subst hkn
      have hi1 : ¬ (k : Int) < (k : Int) := by omega
      have G : Calls Tryd.prog 85 #[.slice none 0 0, .int .i64 ((catC rows k).length : Nat)] wr fun e w' => ∃ s c, e = .returned (.slice s 0 c) ∧ Below wr.heap.size wr w' ∧ w'.ownsRow wr.heap.size 31 4 (.slice s 0 c) 0 (cals []) := by
        rcases Nat.eq_zero_or_pos (catC rows k).length with h0 | h0
        · rw [h0]; exact growC_none wr
        · exact growC_any _ wr h0 (by have := hle'h.out; omega)
      clear hlt
      have hq'h := Lib.hid hq
      have hB'h := Lib.hid hB
      have G'h := Lib.hid G
      clear hq hB G
      go_wp2_with (go_at_call 85; refine G'h.out.mono ?_; rintro e w5 ⟨s5, c5, rfl, hb5, hrow5⟩)
      have B5 := below_next hB'h.out hb5
      have hrow5 := ownsRow_mono hrow5 hB'h.out.size
      clear hb5 hB'h G'h
      obtain ⟨go, rfl⟩ : ∃ go : Nat, go = gk := ⟨_, rfl⟩
      have B5'h := Lib.hid B5
      have hrow5'h := Lib.hid hrow5
      clear B5 hrow5
      go_loopg [6, 27] k (fun q x i wr => ∃ (j : Nat) (v : Value), v = x ∧ j + q = k ∧ i = .int .i64 j ∧ Below w.heap.size w wr ∧ wr.ownsRow w.heap.size 31 4 v (catC rows j).length (cals (catC rows j)))
      case atStart => exact ⟨0, _, rfl, by omega, rfl, B5'h.out, hrow5'h.out⟩
      case round =>
        obtain ⟨j, v, rfl, hq2, rfl, hB, hrow⟩ := hrel
        clear B5'h hrow5'h
        by_cases hlt : j < k
        · have hjl : j < rows.length := by have := hlen'h.out; omega
          obtain ⟨rb, ro, rfl, c1⟩ := (h'h.out.below hB).head hlt
          have hcl := catC_succ hjl
          have hc64 := catC_le h'h.out.short j (by omega)
          have hl := h'h.out.rlen (nthR_mem hjl)
          have hrS := (h'h.out.each _ (nthR_mem hjl)).below hB
          have hw64 := h'h.out.short _ (nthR_mem hjl)
          generalize catC rows j = A at *
          obtain ⟨A', hA'⟩ : ∃ A', A' = catC rows (j + 1) := ⟨_, rfl⟩
          rw [← hA'] at hcl
          generalize nthR rows j = r at *
          obtain ⟨rs, rl, rc, rws⟩ := r
          simp only at c1 hl hrS hw64 hcl
          have hi1 : (j : Int) < (k : Int) := by omega
          have h0k : (0 : Int) ≤ (j : Int) := by omega
          have hone := cals_one rws
          have hAl : (A ++ rws).length = A.length + rl := by rw [List.length_append, hl]
          have hrl64 : rl ≤ 66 := by omega
          clear hlt hl hw64
          have hq2'h := Lib.hid hq2
          have hB'h := Lib.hid hB
          have hrow'h := Lib.hid hrow
          have hrS'h := Lib.hid hrS
          have hone'h := Lib.hid hone
          have hcl'h := Lib.hid hcl
          have hjl'h := Lib.hid hjl
          have hAl'h := Lib.hid hAl
          have hA''h := Lib.hid hA'
          clear hq2 hB hrow hrS hone hcl hjl hAl hA'
          go_wp2_with (at_builtin; refine wpList_append_slk _ rfl (.tmp 31) (.tmp 32) 22 rfl w.heap.size 31 i0 calZ 4 32 Tryd.underlying22 hi hz hs hby rfl (by decide) v A.length _ rfl hrow'h.out rs rl rc _ rfl hrS'h.out hone'h.out (by unfold maxLen; omega) (by omega) hB'h.out.size ?_; intro v' w9 hown' hgrow hwh)
          have B9 : Below w.heap.size w w9 := hB'h.out.grown hgrow hB'h.out.size (fun q hq => And.left <| hrow'h.out.lt q hq)
          rw [cals_app, ← hAl'h.out, ← hcl'h.out] at hown'
          clear hgrow hwh
          have B9'h := Lib.hid B9
          have hown''h := Lib.hid hown'
          clear B9 hown'
          go_wp2
          go_roundg (gk - 1)
          case measure => have := hq2'h.out; omega
          case rel => exact ⟨j + 1, v', rfl, by have := hq2'h.out; omega, by go_num, B9'h.out, by rw [← hA''h.out]; exact hown''h.out⟩
        · have hjk : j = k := by omega
          subst hjk
          have hi1 : ¬ (j : Int) < (j : Int) := by omega
          obtain ⟨s9, c9, rfl, -, -, -⟩ := row_form hrow
          clear hlt
          have hq2'h := Lib.hid hq2
          have hB'h := Lib.hid hB
          have hrow'h := Lib.hid hrow
          clear hq2 hB hrow
          go_wp2
          go_ret
          exact ⟨s9, c9, rfl, hB'h.out, hrow'h.out⟩
end Go.Proofs.YtogeohjeabbmaaaDoor

/-
  Layer 3 (script): scripts in memory; may a script be?
-/
set_option linter.unusedSimpArgs false
set_option linter.unusedVariables false
set_option maxRecDepth 100000
namespace Go.Proofs.YtogeohjeabbmaaaDoor
open Go.RowKit

structure Scr where
  goers : Int
  slabs : Int
  seed : Nat
  lists : List (List Cal)
  picks : List Nat
deriving DecidableEq
def sizesS (s : Scr) : Bool := decide (1 ≤ s.goers) && decide (s.goers ≤ 8) && decide (2 ≤ s.slabs) && decide (s.slabs ≤ 128)
def headS (s : Scr) : Bool := sizesS s && decide ((s.lists.length : Int) = s.goers) && decide (s.picks.length ≤ 4096)
/-- May a script be? -/
def rightS (s : Scr) : Bool := headS s && (decide (s.lists.flatten.length ≤ 64) && s.lists.flatten.all rightC)
def chkS (s : Scr) : Int := if rightS s = true then 0 else 130

/-- A script as it lies in memory. -/
structure Sm where
  goers : Int
  slabs : Int
  seed : Nat
  lp : Option Addr
  ln : Nat
  lc : Nat
  rows : List CRow
  pp : Option Addr
  pn : Nat
  pc : Nat
  picks : List Nat
def smA (s : Sm) : Array Value := #[.int .i64 s.goers, .int .i64 s.slabs, .int .u64 (s.seed : Int), .slice s.lp s.ln s.lc, .slice s.pp s.pn s.pc]
def Sm.scr (s : Sm) : Scr := ⟨s.goers, s.slabs, s.seed, s.rows.map (·.cs), s.picks⟩
structure SmIn (w : World) (s : Sm) : Prop where
  rows : RowsIn w s.lp s.ln s.rows
  picks : Sl w s.pp s.pn (u64s s.picks)
  w64 : W64 s.picks
  seed : s.seed < 2 ^ 64
  g : -9223372036854775808 ≤ s.goers ∧ s.goers ≤ 9223372036854775807
  sl : -9223372036854775808 ≤ s.slabs ∧ s.slabs ≤ 9223372036854775807
  lnil : s.lp = none → s.lc = 0
  lle : s.ln ≤ s.lc
  pnil : s.pp = none → s.pc = 0
  ple : s.pn ≤ s.pc
  many : s.pn ≤ 4200
theorem SmIn.below {w w' : World} {s : Sm} (h : SmIn w s) (hb : Below w.heap.size w w') : SmIn w' s :=
  ⟨h.rows.below hb, h.picks.below hb, h.w64, h.seed, h.g, h.sl, h.lnil, h.lle, h.pnil, h.ple, h.many⟩
theorem catC_all (rows : List CRow) : catC rows rows.length = (rows.map (·.cs)).flatten := by
  unfold catC; rw [List.take_length, List.flatMap_def]
theorem SmIn.ln {w : World} {s : Sm} (h : SmIn w s) : s.ln = s.scr.lists.length := by rw [h.rows.len]; simp [Sm.scr]
theorem SmIn.pn {w : World} {s : Sm} (h : SmIn w s) : s.pn = s.scr.picks.length := by have := h.picks.1; rw [u64s_length] at this; exact this
theorem SmIn.cat {w : World} {s : Sm} (h : SmIn w s) : catC s.rows s.ln = s.scr.lists.flatten := by rw [h.rows.len, catC_all]; rfl

theorem info_sm : (Tryd.prog.info? 92).map (·.size) = some 5 := by kernel_rfl
set_option maxHeartbeats 1000000 in
theorem check_any (s : Sm) (w : World) (hT : Tks w) (h : SmIn w s) :
    Calls Tryd.prog 54 #[.agg (smA s)] w fun e w' => e = .returned (.int .i64 (chkS s.scr)) ∧ Below w.heap.size w w' := by
  have hln := h.ln
  have hpn := h.pn
  have hcat := h.cat
  have hB1 : Below w.heap.size w (w.alloc (.cells (smA s) 92)) := (Below.refl _ _).alloc (Nat.le_refl _) _
  have C := concatC_any s.lp s.ln s.lc s.rows _ (h.rows.below hB1)
  have hT1 := hT.next hB1
  rw [hcat] at C
  have e1 : chkS s.scr = if (headS s.scr && (decide (s.scr.lists.flatten.length ≤ 64) && s.scr.lists.flatten.all rightC)) = true then 0 else 130 := rfl
  have e2 : headS s.scr = (decide (1 ≤ s.goers) && decide (s.goers ≤ 8) && decide (2 ≤ s.slabs) && decide (s.slabs ≤ 128) && decide ((s.scr.lists.length : Int) = s.goers) && decide (s.scr.picks.length ≤ 4096)) := rfl
  rw [e1, e2, ← hln, ← hpn]
  generalize s.scr.lists.flatten = cs at *
  clear e1 e2 hln hpn hcat h hT
  obtain ⟨g, sb, seed, lp, ln, lc, rows, pp, pn, pc, picks⟩ := s
  simp only [smA] at C hB1 hT1 ⊢
  have C'h := Lib.hid C
  have hB1'h := Lib.hid hB1
  have hT1'h := Lib.hid hT1
  clear C hB1 hT1
  by_cases h1 : 1 ≤ g
  · by_cases h2 : g ≤ 8
    · by_cases h3 : 2 ≤ sb
      · by_cases h4 : sb ≤ 128
        · by_cases h5 : (ln : Int) = g
          · by_cases h6 : pn ≤ 4096
            · subst h5
              simp only [h1, h2, h3, h4, h6, decide_true, Bool.true_and, Bool.and_true, Bool.and_self]
              obtain ⟨r, hr⟩ : ∃ r : Int, r = (if (decide (cs.length ≤ 64) && cs.all rightC) = true then 0 else 130) := ⟨_, rfl⟩
              rw [← hr]
              have hr'h := Lib.hid hr
              clear hr
              go_enter Tryd.func54, Tryd.ntmps54
              go_wp2_with fail
              refine C'h.out.mono ?_
              rintro e w2 ⟨sp, cp, rfl, hB2, hrow⟩
              have hBw2 := hB1'h.out.trans (hB2.mono hB1'h.out.size)
              have hT2 := hT1'h.out.next hB2
              have hb1056 : cs.length ≤ maxLen := by
                obtain ⟨s9, c9, hv, hle, -, -⟩ := row_form hrow
                rcases hrow.2 with ⟨hv, h0⟩ | ⟨g', cap', cur, hv, -, -, hx, hy, -, -⟩
                · rw [h0]; exact Nat.zero_le _
                · omega
              have hS2 := SlK.of_row hrow hb1056
              unfold maxLen at hb1056
              clear hB2 hrow
              have D := allC_any sp cs.length cp cs w2 hT2 hS2
              obtain ⟨L, hL⟩ : ∃ L, L = cs.length := ⟨_, rfl⟩
              obtain ⟨v, hv⟩ : ∃ v, v = cs.all rightC := ⟨_, rfl⟩
              have hr2 := hr'h.out
              rw [← hL, ← hv] at hr2
              rw [← hL, ← hv] at D
              rw [← hL] at hb1056
              rw [← hL]
              clear hr'h hS2 hL hv
              have hBw2'h := Lib.hid hBw2
              have D'h := Lib.hid D
              have hr2'h := Lib.hid hr2
              clear hBw2 D hr2
              by_cases h7 : L ≤ 64
              · have h7z : ((L : Int) ≤ 64) := by omega
                cases v with
                | false =>
                  go_wp2_with fail
                  refine D'h.out.mono ?_
                  rintro e w3 ⟨rfl, hB3⟩
                  have hB3'h := Lib.hid hB3
                  clear hB3
                  go_wp2
                  go_ret
                  exact ⟨ret_i64 (by rw [hr2'h.out]; simp), hBw2'h.out.trans (hB3'h.out.mono hBw2'h.out.size)⟩
                | true =>
                  go_wp2_with fail
                  refine D'h.out.mono ?_
                  rintro e w3 ⟨rfl, hB3⟩
                  have hB3'h := Lib.hid hB3
                  clear hB3
                  go_wp2
                  go_ret
                  exact ⟨ret_i64 (by rw [hr2'h.out]; simp [h7]), hBw2'h.out.trans (hB3'h.out.mono hBw2'h.out.size)⟩
              · have h7z : ((L : Int) > 64) := by omega
                go_wp2
                go_ret
                exact ⟨ret_i64 (by rw [hr2'h.out]; simp [h7]), hBw2'h.out⟩
            · have h6z : ((pn : Int) > 4096) := by omega
              have hr : (if ((decide (1 ≤ g) && decide (g ≤ 8) && decide (2 ≤ sb) && decide (sb ≤ 128) && decide ((ln : Int) = g) && decide (pn ≤ 4096)) && (decide (cs.length ≤ 64) && cs.all rightC)) = true then (0 : Int) else 130) = 130 := by simp [h6]
              rw [hr]
              clear hr
              go_enter Tryd.func54, Tryd.ntmps54
              go_wp2
              go_ret
              exact ⟨rfl, hB1'h.out⟩
          · have h5z : ¬ ((ln : Int) = g) := by omega
            have hr : (if ((decide (1 ≤ g) && decide (g ≤ 8) && decide (2 ≤ sb) && decide (sb ≤ 128) && decide ((ln : Int) = g) && decide (pn ≤ 4096)) && (decide (cs.length ≤ 64) && cs.all rightC)) = true then (0 : Int) else 130) = 130 := by simp [h5]
            rw [hr]
            clear hr
            go_enter Tryd.func54, Tryd.ntmps54
            go_wp2
            go_ret
            exact ⟨rfl, hB1'h.out⟩
        · have h4z : ¬ (sb ≤ 128) := by omega
          have hr : (if ((decide (1 ≤ g) && decide (g ≤ 8) && decide (2 ≤ sb) && decide (sb ≤ 128) && decide ((ln : Int) = g) && decide (pn ≤ 4096)) && (decide (cs.length ≤ 64) && cs.all rightC)) = true then (0 : Int) else 130) = 130 := by simp [h4]
          rw [hr]
          clear hr
          go_enter Tryd.func54, Tryd.ntmps54
          go_wp2
          go_ret
          exact ⟨rfl, hB1'h.out⟩
      · have h3z : ¬ (sb ≥ 2) := by omega
        have hr : (if ((decide (1 ≤ g) && decide (g ≤ 8) && decide (2 ≤ sb) && decide (sb ≤ 128) && decide ((ln : Int) = g) && decide (pn ≤ 4096)) && (decide (cs.length ≤ 64) && cs.all rightC)) = true then (0 : Int) else 130) = 130 := by simp [h3]
        rw [hr]
        clear hr
        go_enter Tryd.func54, Tryd.ntmps54
        go_wp2
        go_ret
        exact ⟨rfl, hB1'h.out⟩
    · have h2z : ¬ (g ≤ 8) := by omega
      have hr : (if ((decide (1 ≤ g) && decide (g ≤ 8) && decide (2 ≤ sb) && decide (sb ≤ 128) && decide ((ln : Int) = g) && decide (pn ≤ 4096)) && (decide (cs.length ≤ 64) && cs.all rightC)) = true then (0 : Int) else 130) = 130 := by simp [h2]
      rw [hr]
      clear hr
      go_enter Tryd.func54, Tryd.ntmps54
      go_wp2
      go_ret
      exact ⟨rfl, hB1'h.out⟩
  · have h1z : ¬ (g ≥ 1) := by omega
    have hr : (if ((decide (1 ≤ g) && decide (g ≤ 8) && decide (2 ≤ sb) && decide (sb ≤ 128) && decide ((ln : Int) = g) && decide (pn ≤ 4096)) && (decide (cs.length ≤ 64) && cs.all rightC)) = true then (0 : Int) else 130) = 130 := by simp [h1]
    rw [hr]
    clear hr
    go_enter Tryd.func54, Tryd.ntmps54
    go_wp2
    go_ret
    exact ⟨rfl, hB1'h.out⟩
end Go.Proofs.YtogeohjeabbmaaaDoor

/-
  The document's answer for layer 3: what calls take; may a call be, and a script?
-/
set_option linter.unusedSimpArgs false
set_option linter.unusedVariables false
set_option maxRecDepth 100000
namespace Go.Proofs.YtogeohjeabbmaaaDoor
open Go.RowKit

theorem dtakes_any (op : Int) (w : World) : Calls Tryd.prog 81 #[.int .i64 op] w fun e w' => e = .returned (.int .i64 (takesI op)) ∧ w' = w := by
  by_cases h : 1 ≤ op ∧ op ≤ 7
  · have h7 : op = 1 ∨ op = 2 ∨ op = 3 ∨ op = 4 ∨ op = 5 ∨ op = 6 ∨ op = 7 := by omega
    rcases h7 with rfl | rfl | rfl | rfl | rfl | rfl | rfl <;> clear h <;>
    · go_enter Tryd.func81, Tryd.ntmps81
      go_wp2
      go_ret
      exact ⟨rfl, rfl⟩
  · have h1 : (op == 1) = false := by simp; omega
    have h2 : (op == 2) = false := by simp; omega
    have h3 : (op == 3) = false := by simp; omega
    have h4 : (op == 4) = false := by simp; omega
    have h5 : (op == 5) = false := by simp; omega
    have h6 : (op == 6) = false := by simp; omega
    have h7 : (op == 7) = false := by simp; omega
    have ht : takesI op = -1 := by
      unfold takesI
      by_cases h0 : op < 0 ∨ 8 ≤ op
      · rw [if_pos h0]
      · have : op = 0 := by omega
        subst this
        rfl
    rw [ht]
    clear h ht
    go_enter Tryd.func81, Tryd.ntmps81
    go_wp2
    go_ret
    exact ⟨rfl, rfl⟩
theorem rightC_neg {c : Cal} (h : takesI c.op = -1) : rightC c = false := by unfold rightC; rw [h]; rfl
theorem rightC_0 {c : Cal} (h : takesI c.op = 0) : rightC c = (decide (c.key = 0) && (decide (c.a = 0) && decide (c.b = 0))) := by unfold rightC wordsC; rw [h]; simp; rfl
theorem rightC_1 {c : Cal} (h : takesI c.op = 1) : rightC c = (decide (c.a = 0) && decide (c.b = 0)) := by unfold rightC wordsC; rw [h]; simp; rfl
theorem rightC_2 {c : Cal} (h : takesI c.op = 2) : rightC c = decide (c.b = 0) := by unfold rightC wordsC; rw [h]; simp; rfl
theorem rightC_3 {c : Cal} (h : takesI c.op = 3) : rightC c = true := by unfold rightC wordsC; rw [h]; simp
theorem takesI_five (op : Int) : takesI op = -1 ∨ takesI op = 0 ∨ takesI op = 1 ∨ takesI op = 2 ∨ takesI op = 3 := by have := takesI_range op; omega
theorem zero_or (n : Nat) : n = 0 ∨ ((((n : Int) == 0) = false) ∧ ¬ ((n : Int) = 0) ∧ decide (n = 0) = false) := by
  by_cases h : n = 0
  · exact .inl h
  · exact .inr ⟨by simp; omega, by omega, by simp [h]⟩
theorem dcall_any (c : Cal) (w : World) : Calls Tryd.prog 65 #[.agg (calA c)] w fun e w' => e = .returned (.bool (rightC c)) ∧ Below w.heap.size w w' := by
  have T := dtakes_any c.op (w.alloc (.cells (calA c) 31))
  have hB : Below w.heap.size w (w.alloc (.cells (calA c) 31)) := (Below.refl _ _).alloc (Nat.le_refl _) _
  obtain ⟨r, hr⟩ : ∃ r, r = rightC c := ⟨_, rfl⟩
  rw [← hr]
  have h5 := takesI_five c.op
  have r1 := fun h => hr.trans (rightC_neg (c := c) h)
  have r2 := fun h => hr.trans (rightC_0 (c := c) h)
  have r3 := fun h => hr.trans (rightC_1 (c := c) h)
  have r4 := fun h => hr.trans (rightC_2 (c := c) h)
  have r5 := fun h => hr.trans (rightC_3 (c := c) h)
  clear hr
  obtain ⟨op, key, a, b⟩ := c
  simp only [calA] at *
  obtain ⟨t, ht⟩ : ∃ t, t = takesI op := ⟨_, rfl⟩
  rw [← ht] at T h5 r1 r2 r3 r4 r5
  clear ht
  rcases h5 with rfl | rfl | rfl | rfl | rfl
  · have e := r1 rfl
    subst e
    clear r1 r2 r3 r4 r5
    have T'h := Lib.hid T
    have hB'h := Lib.hid hB
    clear T hB
    go_enter Tryd.func65, Tryd.ntmps65
    go_wp2_with fail
    refine T'h.out.mono ?_
    rintro e w7 ⟨rfl, hw7⟩
    obtain rfl := hw7.symm
    go_wp2
    go_ret
    exact ⟨rfl, hB'h.out⟩
  · have e := r2 rfl
    clear r1 r2 r3 r4 r5
    rcases zero_or key with rfl | ⟨k1, k2, k3⟩
    · rcases zero_or a with rfl | ⟨k1, k2, k3⟩
      · rcases zero_or b with rfl | ⟨k1, k2, k3⟩
        · obtain rfl : r = true := by rw [e]; rfl
          clear e
          have T'h := Lib.hid T
          have hB'h := Lib.hid hB
          clear T hB
          go_enter Tryd.func65, Tryd.ntmps65
          go_wp2_with fail
          refine T'h.out.mono ?_
          rintro e w7 ⟨rfl, hw7⟩
          obtain rfl := hw7.symm
          go_wp2
          go_ret
          exact ⟨rfl, hB'h.out⟩
        · obtain rfl : r = false := by rw [e, k3]; simp
          clear e
          have T'h := Lib.hid T
          have hB'h := Lib.hid hB
          clear T hB
          go_enter Tryd.func65, Tryd.ntmps65
          go_wp2_with fail
          refine T'h.out.mono ?_
          rintro e w7 ⟨rfl, hw7⟩
          obtain rfl := hw7.symm
          go_wp2
          go_ret
          exact ⟨rfl, hB'h.out⟩
      · obtain rfl : r = false := by rw [e, k3]; simp
        clear e
        have T'h := Lib.hid T
        have hB'h := Lib.hid hB
        clear T hB
        go_enter Tryd.func65, Tryd.ntmps65
        go_wp2_with fail
        refine T'h.out.mono ?_
        rintro e w7 ⟨rfl, hw7⟩
        obtain rfl := hw7.symm
        go_wp2
        go_ret
        exact ⟨rfl, hB'h.out⟩
    · obtain rfl : r = false := by rw [e, k3]; simp
      clear e
      have T'h := Lib.hid T
      have hB'h := Lib.hid hB
      clear T hB
      go_enter Tryd.func65, Tryd.ntmps65
      go_wp2_with fail
      refine T'h.out.mono ?_
      rintro e w7 ⟨rfl, hw7⟩
      obtain rfl := hw7.symm
      go_wp2
      go_ret
      exact ⟨rfl, hB'h.out⟩
  · have e := r3 rfl
    clear r1 r2 r3 r4 r5
    rcases zero_or a with rfl | ⟨k1, k2, k3⟩
    · rcases zero_or b with rfl | ⟨k1, k2, k3⟩
      · obtain rfl : r = true := by rw [e]; rfl
        clear e
        have T'h := Lib.hid T
        have hB'h := Lib.hid hB
        clear T hB
        go_enter Tryd.func65, Tryd.ntmps65
        go_wp2_with fail
        refine T'h.out.mono ?_
        rintro e w7 ⟨rfl, hw7⟩
        obtain rfl := hw7.symm
        go_wp2
        go_ret
        exact ⟨rfl, hB'h.out⟩
      · obtain rfl : r = false := by rw [e, k3]; simp
        clear e
        have T'h := Lib.hid T
        have hB'h := Lib.hid hB
        clear T hB
        go_enter Tryd.func65, Tryd.ntmps65
        go_wp2_with fail
        refine T'h.out.mono ?_
        rintro e w7 ⟨rfl, hw7⟩
        obtain rfl := hw7.symm
        go_wp2
        go_ret
        exact ⟨rfl, hB'h.out⟩
    · obtain rfl : r = false := by rw [e, k3]; simp
      clear e
      have T'h := Lib.hid T
      have hB'h := Lib.hid hB
      clear T hB
      go_enter Tryd.func65, Tryd.ntmps65
      go_wp2_with fail
      refine T'h.out.mono ?_
      rintro e w7 ⟨rfl, hw7⟩
      obtain rfl := hw7.symm
      go_wp2
      go_ret
      exact ⟨rfl, hB'h.out⟩
  · have e := r4 rfl
    clear r1 r2 r3 r4 r5
    rcases zero_or b with rfl | ⟨k1, k2, k3⟩
    · obtain rfl : r = true := by rw [e]; rfl
      clear e
      have T'h := Lib.hid T
      have hB'h := Lib.hid hB
      clear T hB
      go_enter Tryd.func65, Tryd.ntmps65
      go_wp2_with fail
      refine T'h.out.mono ?_
      rintro e w7 ⟨rfl, hw7⟩
      obtain rfl := hw7.symm
      go_wp2
      go_ret
      exact ⟨rfl, hB'h.out⟩
    · obtain rfl : r = false := by rw [e, k3]
      clear e
      have T'h := Lib.hid T
      have hB'h := Lib.hid hB
      clear T hB
      go_enter Tryd.func65, Tryd.ntmps65
      go_wp2_with fail
      refine T'h.out.mono ?_
      rintro e w7 ⟨rfl, hw7⟩
      obtain rfl := hw7.symm
      go_wp2
      go_ret
      exact ⟨rfl, hB'h.out⟩
  · have e := r5 rfl
    clear r1 r2 r3 r4 r5
    subst e
    have e : True := trivial
    clear e
    have T'h := Lib.hid T
    have hB'h := Lib.hid hB
    clear T hB
    go_enter Tryd.func65, Tryd.ntmps65
    go_wp2_with fail
    refine T'h.out.mono ?_
    rintro e w7 ⟨rfl, hw7⟩
    obtain rfl := hw7.symm
    go_wp2
    go_ret
    exact ⟨rfl, hB'h.out⟩
end Go.Proofs.YtogeohjeabbmaaaDoor

/-
  Layer 27 (order), plain: calls that were made, as they read in memory.
-/
set_option linter.unusedSimpArgs false
set_option linter.unusedVariables false
set_option maxRecDepth 100000
namespace Go.Proofs.YtogeohjeabbmaaaDoor
open Go.RowKit

/-- A call that was made. -/
structure Md where
  goer : Int
  call : Cal
  ans : An
  prs : Ps
  began : Int
  at' : Int
  over : Int
  told : List Int
deriving DecidableEq
/-- A call that was made, as it lies in memory. -/
structure Mm where
  md : Md
  pp : Option Addr
  pn : Nat
  pc : Nat
  tp : Option Addr
  tn : Nat
  tc : Nat
def mmA (m : Mm) : Array Value := #[.int .i64 m.md.goer, .int .i64 m.md.call.op, .int .u64 (m.md.call.key : Int), .int .u64 (m.md.call.a : Int), .int .u64 (m.md.call.b : Int), .int .i64 m.md.ans.err, .int .u64 (m.md.ans.val : Int), .bool m.md.ans.done, .slice m.pp m.pn m.pc, .int .i64 m.md.began, .int .i64 m.md.at', .int .i64 m.md.over, .slice m.tp m.tn m.tc]
def mmL (m : Mm) : List Value := [.int .i64 m.md.goer, .int .i64 m.md.call.op, .int .u64 (m.md.call.key : Int), .int .u64 (m.md.call.a : Int), .int .u64 (m.md.call.b : Int), .int .i64 m.md.ans.err, .int .u64 (m.md.ans.val : Int), .bool m.md.ans.done, .slice m.pp m.pn m.pc, .int .i64 m.md.began, .int .i64 m.md.at', .int .i64 m.md.over, .slice m.tp m.tn m.tc]
theorem mmL_len (m : Mm) : (mmL m).length = 13 := rfl
def mms (l : List Mm) : List Value := l.flatMap mmL
def I64 (x : Int) : Prop := -9223372036854775808 ≤ x ∧ x ≤ 9223372036854775807
structure MdOk (m : Md) : Prop where
  goer : I64 m.goer
  call : CalOk m.call
  err : I64 m.ans.err
  val : m.ans.val < 2 ^ 64
  began : I64 m.began
  at' : I64 m.at'
  over : I64 m.over
  told : ∀ x ∈ m.told, I64 x
  prs : ∀ p ∈ m.prs, p.1 < 2 ^ 64 ∧ p.2 < 2 ^ 64
structure MmIn (w : World) (m : Mm) : Prop where
  prs : SlK w 2 m.pp m.pn (prs m.md.prs)
  told : Sl w m.tp m.tn (m.md.told.map (Value.int .i64))
  pnil : m.pp = none → m.pc = 0
  ple : m.pn ≤ m.pc
  tnil : m.tp = none → m.tc = 0
  tle : m.tn ≤ m.tc
  ok : MdOk m.md
theorem MmIn.below {w w' : World} {m : Mm} (h : MmIn w m) (hb : Below w.heap.size w w') : MmIn w' m := ⟨h.prs.below hb, h.told.below hb, h.pnil, h.ple, h.tnil, h.tle, h.ok⟩
theorem MmIn.pn {w : World} {m : Mm} (h : MmIn w m) : m.pn = m.md.prs.length := by have := h.prs.1; rw [prs_length] at this; omega
theorem MmIn.tn {w : World} {m : Mm} (h : MmIn w m) : m.tn = m.md.told.length := by have := h.told.1; simpa using this
def nthM (l : List Mm) (k : Nat) : Mm := l.getD k ⟨⟨0, ⟨0, 0, 0, 0⟩, ⟨0, 0, false⟩, [], 0, 0, 0, []⟩, none, 0, 0, none, 0, 0⟩
theorem nthM_eq {l : List Mm} {k : Nat} (h : k < l.length) : l[k] = nthM l k := by unfold nthM; rw [List.getD_eq_getElem?_getD, List.getElem?_eq_getElem h]; rfl
theorem nthM_at {l : List Mm} {k : Nat} (h : k < l.length) : l[k]? = some (nthM l k) := by rw [List.getElem?_eq_getElem h, nthM_eq h]
theorem nthM_mem {l : List Mm} {k : Nat} (h : k < l.length) : nthM l k ∈ l := List.mem_of_getElem? (nthM_at h)
/-- Calls that lie in a row. -/
structure MsIn (w : World) (sp : Option Addr) (n : Nat) (l : List Mm) : Prop where
  sl : SlK w 13 sp n (mms l)
  each : ∀ m ∈ l, MmIn w m
theorem MsIn.below {w w' : World} {sp : Option Addr} {n : Nat} {l : List Mm} (h : MsIn w sp n l) (hb : Below w.heap.size w w') : MsIn w' sp n l := ⟨h.sl.below hb, fun m hm => (h.each m hm).below hb⟩
theorem MsIn.len {w : World} {sp : Option Addr} {n : Nat} {l : List Mm} (h : MsIn w sp n l) : n = l.length := slk_len mmL_len (by decide) h.sl
theorem MsIn.cells {w : World} {b off n : Nat} {l : List Mm} (h : MsIn w (some ⟨b, off, none⟩) n l) {k : Nat} (hk : k < l.length) {i : Nat} {v : Value} (hi : i < 13) (hv : (mmL (nthM l k))[i]? = some v) : w.cell? ⟨b, off + k * 13 + i, none⟩ = some v :=
  slk_cell mmL_len h.sl (nthM_at hk) hi hv
/-! ### What the layer says, plain -/
def aheadM (a b : Md) : Bool := decide (a.over ≠ 0) && decide (a.over < b.began)
def emptyM (m : Md) : Bool := decide (m.ans.err = 0) && decide (m.ans.val = 0) && !m.ans.done && decide (m.prs.length = 0)
def lastM (m : Md) : Int := if m.over = 0 then 1073741824 else m.over
def flatM (m : Md) : Bool := decide (0 ≤ m.goer) && decide (m.goer < 8) && rightC m.call && decide (1 ≤ m.began) && decide (m.began ≤ 1073741824)
def stepsM (m : Md) : Bool := decide (m.over ≤ 1073741824) && decide (lastM m ≥ m.began) && (decide (m.at' = 0) || (decide (m.at' ≥ m.began) && (decide (m.over = 0) || decide (m.at' ≤ m.over))))
def withinM (m : Md) : Bool := m.told.all fun x => decide (x ≥ m.began) && decide (x ≤ lastM m)
def toldM (m : Md) : Bool := decide (m.told.length = m.prs.length) && (decide (m.told.length = 0) || decide (m.call.op = 6))
def rightM (m : Md) : Bool := flatM m && stepsM m && withinM m && toldM m && (decide (m.over ≠ 0) || emptyM m)
def apartM (a b : Md) : Bool := decide (a.goer ≠ b.goer) || aheadM a b || aheadM b a
def rangesM (m : Md) : Bool := decide (m.call.op = 6)
end Go.Proofs.YtogeohjeabbmaaaDoor

