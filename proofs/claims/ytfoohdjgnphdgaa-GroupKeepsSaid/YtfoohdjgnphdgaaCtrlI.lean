/-
  Fills.
-/
import Derived.Test.YtfoohdjgnphdgaaCtrlH
set_option linter.unusedSimpArgs false
set_option linter.unusedVariables false
set_option maxRecDepth 100000
namespace Go.Proofs.Ytfoohdjgnphdgaa
open Go.RowKit

/-- What Fills comes to: the word, the lanes, the error. -/
def fillsT (x : Nat) (hs : List Nat) : Nat × List Nat × Nat :=
  if rightW x = true then (match fillsK x hs hs.length with | none => (0, [], 2) | some (y, l) => (y, l, 0)) else (0, [], 190)
def RowRes (base : Nat) (v0 z : Value) (k : Nat) (l : List Value) (w : World) (e : Ending) (w' : World) : Prop :=
  ∃ sp n cap, e = .returned (.tuple #[.agg #[v0, .slice sp n cap], z]) ∧ Below base w w' ∧ w'.ownsRow base 3 1 (.slice sp n cap) k l
theorem xfills_any (x n cap : Nat) (sp : Option Addr) (hs : List Nat) (w : World) (hx : x < 2 ^ 64) (hby : Bytey hs) (hS : Sl w sp n (u8s hs)) (hn : n ≤ 4096) :
    Calls Try.prog 78 #[.int .u64 x, .slice sp n cap] w fun e w' => ∃ sp' n' cap', e = .returned (.tuple #[.int .u64 (fillsT x hs).1, .slice sp' n' cap', .int .i64 (fillsT x hs).2.2]) ∧ Below w.heap.size w w' ∧
      w'.ownsRow w.heap.size 3 1 (.slice sp' n' cap') (fillsT x hs).2.1.length (ints (fillsT x hs).2.1) := by
  have hmf : ∀ (fn : Fn) (first cap : Array Value) (w : World), (Instr.makeFunc fn first cap).run Try.prog w = .ok (.func fn first cap) w := fun _ _ _ _ => rfl
  obtain ⟨W, hW⟩ : ∃ W, W = w.alloc (.cells #[.slice sp n cap] 62) := ⟨_, rfl⟩
  have hB : Below w.heap.size w W := by rw [hW]; exact (Below.refl _ _).alloc (Nat.le_refl _) _
  have hs1 : W.heap.size = w.heap.size + 1 := by rw [hW]; simp
  have hp : W.heap[w.heap.size]? = some (.cells #[.slice sp n cap] 62 (0, 0)) := by rw [hW]; exact World.alloc_heap_new _ _
  have hlt : ∀ a, sp = some a → 0 < n → a.block < w.heap.size := by
    rintro a rfl h0
    obtain ⟨b, off, e, hc⟩ := hS.some' h0
    cases e
    have hl : 0 < (u8s hs).length := by have := hS.1; omega
    exact lt_of_cell (hc 0 _ (List.getElem?_eq_getElem hl))
  have T : Calls Try.prog 89 #[.int .u64 x, .func (.func 90) #[] #[.pointer (some ⟨w.heap.size, 0, none⟩)]] W
      (RowRes W.heap.size (.int .u64 (fillsT x hs).1) (.int .i64 (fillsT x hs).2.2) (fillsT x hs).2.1.length (ints (fillsT x hs).2.1) W) := by
    unfold fillsT
    cases hr : rightW x with
    | false => exact (tries_notL x _ W hx hr).mono fun e w' ⟨h1, h2⟩ => ⟨none, 0, 0, h1, h2, World.ownsRow_nil _ _ _ _⟩
    | true =>
      have D := fun (g : Nat) (W1 : World) (hg : W.heap.size + 2 ≤ g) (hb1 : Below W.heap.size W W1) (hh1 : W1.heap[g]? = some (HandB x)) =>
        fills1_any x g w.heap.size n cap sp hs W1 hx hby hh1 (by omega) (heap_below hb1 hp (by omega)) ((hS.below hB).below hb1) (fun a ha h0 => by have := hlt a ha h0; omega) hn
      cases hf : fillsK x hs hs.length with
      | none =>
        refine (tries_noFills x _ 2 W hx hr fun g W1 hg hb1 hh1 => (D g W1 hg hb1 hh1).mono fun e w' ⟨h1, h2⟩ => ?_).mono fun e w' ⟨h1, h2⟩ => ⟨none, 0, 0, h1, h2, World.ownsRow_nil _ _ _ _⟩
        rw [hf] at h2
        exact ⟨h2, h1⟩
      | some yl =>
        obtain ⟨y, l⟩ := yl
        refine (tries_yesFills x _ y (ints l) l.length W hx hr fun g W1 hg hb1 hh1 => (D g W1 hg hb1 hh1).mono fun e w' ⟨h1, h2⟩ => ?_).mono fun e w' ⟨sp', n', cap', h1, h2, h3⟩ => ⟨sp', n', cap', h1, h2, h3⟩
        rw [hf] at h2
        obtain ⟨sp', n', cap', h2, h3⟩ := h2
        exact ⟨sp', n', cap', h2, h1, h3⟩
  generalize (fillsT x hs).1 = m at *
  generalize (fillsT x hs).2.2 = z at *
  generalize (fillsT x hs).2.1 = l at *
  have T'h := Lib.hid T
  have hB'h := Lib.hid hB
  have hs1'h := Lib.hid hs1
  have hp'h := Lib.hid hp
  have hx'h := Lib.hid hx
  have hby'h := Lib.hid hby
  have hS'h := Lib.hid hS
  have hlt'h := Lib.hid hlt
  clear T hB hs1 hp hx hby hS hlt
  go_enter Try.func78, Try.ntmps78
  go_wp2_with fail
  rw [← hW]
  refine T'h.out.mono ?_
  rintro e w' ⟨sp', n', cap', rfl, hb1, hrow⟩
  clear hW
  have hBB := hB'h.out.trans (hb1.mono hB'h.out.size)
  have hone : (#[.int .u64 m, .slice sp' n' cap'] : Array Value).all (·.oneCell') = true := by kernel_rfl
  have hle := hs1'h.out
  clear hb1
  have hrow'h := Lib.hid hrow
  have hBB'h := Lib.hid hBB
  have hone'h := Lib.hid hone
  have hle'h := Lib.hid hle
  clear hrow hBB hone hle
  go_wp2_with (first | (refine wpList_store_row rfl 134 (.tmp 7) (.tmp 13) rfl w'.heap.size #[.int .u64 m, .slice sp' n' cap'] rfl rfl 134 _ (World.alloc_heap_new _ _) infoL rfl hone'h.out ?_))
  obtain ⟨W2, hW2⟩ : ∃ W2, W2 = (w'.alloc (.cells #[.int .u64 0, .slice none 0 0] 134)).setRow w'.heap.size #[.int .u64 m, .slice sp' n' cap'] := ⟨_, rfl⟩
  have hn2 : W2.heap[w'.heap.size]? = some (.cells #[.int .u64 m, .slice sp' n' cap'] 134 (0, 0)) := by rw [hW2]; exact setRow_heap _ _ _ _ _ _ (World.alloc_heap_new _ _)
  have hb2 : Below w'.heap.size w' W2 := by rw [hW2]; exact below_setRow' ((Below.refl _ _).alloc (Nat.le_refl _) _) (Nat.le_refl _) _
  have hB2 := hBB'h.out.trans (hb2.mono hBB'h.out.size)
  have hrow2 := ownsRow_next (ownsRow_mono hrow'h.out (show w.heap.size ≤ W.heap.size by have := hle'h.out; omega)) hb2
  rw [← hW2]
  have d0 : W2.cell? ⟨w'.heap.size, 0, none⟩ = some (.int .u64 m) := blk_cell hn2 rfl
  have d1 : W2.cell? ⟨w'.heap.size, 1, none⟩ = some (.slice sp' n' cap') := blk_cell hn2 rfl
  clear hW2 hn2 hb2
  have hB2'h := Lib.hid hB2
  have hrow2'h := Lib.hid hrow2
  clear hB2 hrow2
  go_quiet (fail)
  go_wp2
  go_ret3
  exact ⟨_, _, _, rfl, hB2'h.out.trans (below_drewN' _ _), hrow2'h.out⟩
end Go.Proofs.Ytfoohdjgnphdgaa
