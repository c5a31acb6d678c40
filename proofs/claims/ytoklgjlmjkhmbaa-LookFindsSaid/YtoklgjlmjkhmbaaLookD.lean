/-
  Package look: one load.
-/
import Derived.Test.YtoklgjlmjkhmbaaLookC
set_option linter.unusedSimpArgs false
set_option linter.unusedVariables false
set_option maxRecDepth 100000
namespace Go.Proofs.Ytoklgjlmjkhmbaa
open Go.RowKit

theorem lfirst_any (s : Sg) (x g : Nat) (w : World) (h : SgOk s) (hr : SgRight s) (hx : x < 2 ^ 64) (hp : s.phase = 0) (hg : w.heap[g]? = some (SiB s)) :
    Calls Try.prog 74 #[.pointer (some ⟨g, 0, none⟩), .int .u64 x] w fun e w' => e = .returned (.tuple #[]) ∧ w'.heap[g]? = some (SiB (takeS s x)) ∧ OnlyB g w w' := by
  have c0 : w.cell? ⟨g, 0, none⟩ = some (.int .i64 s.phase) := blk_cell hg rfl
  have c4 : w.cell? ⟨g, 4, none⟩ = some (.int .u64 s.began) := blk_cell hg rfl
  have c5 : w.cell? ⟨g, 5, none⟩ = some (.int .i64 s.grp) := blk_cell hg rfl
  have f0 : w.frozen? ⟨g, 0, none⟩ = false := blk_free 0 hg
  have f4 : w.frozen? ⟨g, 4, none⟩ = false := blk_free 4 hg
  have f5 : w.frozen? ⟨g, 5, none⟩ = false := blk_free 5 hg
  have hand := u64_low x hx
  obtain ⟨m, hm⟩ : ∃ m, m = x % 2 := ⟨_, rfl⟩
  rw [← hm] at hand
  by_cases h1 : x % 2 = 1
  · have d1 : ((m : Int) == 1) = true := by simp; omega
    have hfin : takeS s x = { s with phase := 6 } := by unfold takeS; rw [if_pos hp, if_pos h1]
    rw [hfin, SiB, ← set_phase]
    generalize s.phase = ph at *
    generalize s.began = be at *
    generalize s.grp = gr at *
    have h'h := Lib.hid h
    have hr'h := Lib.hid hr
    have hx'h := Lib.hid hx
    have hp'h := Lib.hid hp
    have hg'h := Lib.hid hg
    have hm'h := Lib.hid hm
    have h1'h := Lib.hid h1
    have hfin'h := Lib.hid hfin
    clear h hr hx hp hg hm h1 hfin
    go_enter Try.func74, Try.ntmps74
    go_wp2
    refine bodyPost_ret (results_none rfl _ _ _) rfl ?_
    exact ⟨rfl, blk_set _ hg'h.out, (OnlyB.refl _ _).set _ _⟩
  · have d1 : ((m : Int) == 1) = false := by simp; omega
    have hfin : takeS s x = { s with phase := 1, began := x, grp := 0 } := by unfold takeS; rw [if_pos hp, if_neg h1]
    rw [hfin, SiB, ← set_grp { s with phase := 1, began := x } 0, ← set_began { s with phase := 1 } x, ← set_phase]
    generalize s.phase = ph at *
    generalize s.began = be at *
    generalize s.grp = gr at *
    have h'h := Lib.hid h
    have hr'h := Lib.hid hr
    have hx'h := Lib.hid hx
    have hp'h := Lib.hid hp
    have hg'h := Lib.hid hg
    have hm'h := Lib.hid hm
    have h1'h := Lib.hid h1
    have hfin'h := Lib.hid hfin
    clear h hr hx hp hg hm h1 hfin
    go_enter Try.func74, Try.ntmps74
    go_wp2
    go_end0
    exact ⟨rfl, blk_set _ (blk_set _ (blk_set _ hg'h.out)), (((OnlyB.refl _ _).set _ _).set _ _).set _ _⟩
theorem lctrl_any (s : Sg) (x g : Nat) (w : World) (h : SgOk s) (hr : SgRight s) (hx : x < 2 ^ 64) (hp : s.phase = 1) (hg : w.heap[g]? = some (SiB s)) :
    Calls Try.prog 75 #[.pointer (some ⟨g, 0, none⟩), .int .u64 x] w fun e w' => e = .returned (.tuple #[]) ∧ w'.heap[g]? = some (SiB (takeS s x)) ∧ OnlyB g w w' := by
  have c3 : w.cell? ⟨g, 3, none⟩ = some (.int .u64 s.hash) := blk_cell hg rfl
  have c6 : w.cell? ⟨g, 6, none⟩ = some (.int .u64 s.ctrl) := blk_cell hg rfl
  have c7 : w.cell? ⟨g, 7, none⟩ = some (.int .u8 s.left) := blk_cell hg rfl
  have f6 : w.frozen? ⟨g, 6, none⟩ = false := blk_free 6 hg
  have f7 : w.frozen? ⟨g, 7, none⟩ = false := blk_free 7 hg
  have hfin : takeS s x = onS { s with ctrl := x, left := equalM x (s.hash % 128) } := by unfold takeS; rw [if_neg (by omega), if_pos hp]
  rw [hfin]
  have H := fun w => h2_any s.hash w h.hash
  have E := fun w => equal_any x (s.hash % 128) w hx (by omega)
  have hset := blk_set (i := 7) (.int .u8 (equalM x (s.hash % 128))) (blk_set (i := 6) (.int .u64 x) hg)
  rw [set_ctrl, set_left] at hset
  have O := on_any { s with ctrl := x, left := equalM x (s.hash % 128) } g _ hr.grp hx hset
  have hO := (((OnlyB.refl g w).set 6 (.int .u64 x)).set 7 (.int .u8 (equalM x (s.hash % 128))))
  generalize onS { s with ctrl := x, left := equalM x (s.hash % 128) } = s2 at *
  generalize equalM x (s.hash % 128) = m at *
  generalize s.hash % 128 = h2 at *
  generalize s.hash = ha at *
  generalize s.ctrl = ct at *
  generalize s.left = le at *
  clear hset
  have h'h := Lib.hid h
  have hr'h := Lib.hid hr
  have hx'h := Lib.hid hx
  have hp'h := Lib.hid hp
  have hg'h := Lib.hid hg
  have hfin'h := Lib.hid hfin
  have H'h := Lib.hid H
  have E'h := Lib.hid E
  have O'h := Lib.hid O
  have hO'h := Lib.hid hO
  clear h hr hx hp hg hfin H E O hO
  go_enter Try.func75, Try.ntmps75
  go_wp2_with (first | (go_at_call 33; refine (H'h.out _).mono ?_; rintro e w2 ⟨rfl, rfl⟩) | (go_at_call 40; refine (E'h.out _).mono ?_; rintro e w2 ⟨rfl, rfl⟩) | (go_at_call 100; refine O'h.out.mono ?_; rintro e w3 ⟨rfl, hg3, hO3⟩))
  go_end0
  exact ⟨rfl, hg3, hO'h.out.trans hO3⟩
theorem lkey_any (s : Sg) (x g : Nat) (w : World) (h : SgOk s) (hr : SgRight s) (hx : x < 2 ^ 64) (hp : s.phase = 2) (hg : w.heap[g]? = some (SiB s)) :
    Calls Try.prog 76 #[.pointer (some ⟨g, 0, none⟩), .int .u64 x] w fun e w' => e = .returned (.tuple #[]) ∧ w'.heap[g]? = some (SiB (takeS s x)) ∧ OnlyB g w w' := by
  have c0 : w.cell? ⟨g, 0, none⟩ = some (.int .i64 s.phase) := blk_cell hg rfl
  have c2 : w.cell? ⟨g, 2, none⟩ = some (.int .u64 s.key) := blk_cell hg rfl
  have c7 : w.cell? ⟨g, 7, none⟩ = some (.int .u8 s.left) := blk_cell hg rfl
  have f0 : w.frozen? ⟨g, 0, none⟩ = false := blk_free 0 hg
  have f7 : w.frozen? ⟨g, 7, none⟩ = false := blk_free 7 hg
  by_cases hk : x = s.key
  · have d1 : ((x : Int) == (s.key : Int)) = true := by simp [hk]
    have hfin : takeS s x = { s with phase := 3 } := by unfold takeS; rw [if_neg (by omega), if_neg (by omega), if_pos hp, if_pos hk]
    rw [hfin, SiB, ← set_phase]
    generalize s.phase = ph at *
    generalize s.key = ky at *
    have h'h := Lib.hid h
    have hr'h := Lib.hid hr
    have hx'h := Lib.hid hx
    have hp'h := Lib.hid hp
    have hg'h := Lib.hid hg
    have hk'h := Lib.hid hk
    have hfin'h := Lib.hid hfin
    clear h hr hx hp hg hk hfin
    go_enter Try.func76, Try.ntmps76
    go_wp2
    refine bodyPost_ret (results_none rfl _ _ _) rfl ?_
    exact ⟨rfl, blk_set _ hg'h.out, (OnlyB.refl _ _).set _ _⟩
  · have d1 : ((x : Int) == (s.key : Int)) = false := by simp; omega
    have hfin : takeS s x = onS { s with left := dropM s.left } := by unfold takeS; rw [if_neg (by omega), if_neg (by omega), if_pos hp, if_neg hk]
    rw [hfin]
    have hl0 : s.left ≠ 0 := by rcases hr.left with h | h
                                · exact h
                                · exact absurd hp h.1
    have hsub : IntKind.u8.wrap ((s.left : Int) - 1) = ((s.left - 1 : Nat) : Int) := by rw [IntKind.wrap_u8]; have := h.left; omega
    have hand : bits .and .u8 (s.left : Int) ((s.left - 1 : Nat) : Int) = ((dropM s.left : Nat) : Int) := u8_and_nat _ _ h.left (by have := h.left; omega)
    have hset := blk_set (i := 7) (.int .u8 (dropM s.left)) (show w.drew.heap[g]? = _ from hg)
    rw [set_left] at hset
    have O := on_any { s with left := dropM s.left } g _ hr.grp h.ctrl hset
    have hO := ((OnlyB.refl g w).drew.set 7 (.int .u8 (dropM s.left)))
    generalize onS { s with left := dropM s.left } = s2 at *
    generalize dropM s.left = dm at *
    generalize s.left - 1 = l1 at *
    generalize s.left = le at *
    generalize s.phase = ph at *
    generalize s.key = ky at *
    clear hset
    have h'h := Lib.hid h
    have hr'h := Lib.hid hr
    have hx'h := Lib.hid hx
    have hp'h := Lib.hid hp
    have hg'h := Lib.hid hg
    have hfin'h := Lib.hid hfin
    have O'h := Lib.hid O
    have hO'h := Lib.hid hO
    have hk'h := Lib.hid hk
    have hl0'h := Lib.hid hl0
    clear h hr hx hp hg hfin O hO hk hl0
    go_enter Try.func76, Try.ntmps76
    go_wp2
    go_still_tail 15, (by kernel_rfl)
    change wpList _ _ _ _ _ w.drew
    go_wp2_with (go_at_call 100; refine O'h.out.mono ?_; rintro e w3 ⟨rfl, hg3, hO3⟩)
    go_end0
    exact ⟨rfl, hg3, hO'h.out.trans hO3⟩
theorem lvalue_any (s : Sg) (x g : Nat) (w : World) (h : SgOk s) (hr : SgRight s) (hx : x < 2 ^ 64) (hp : s.phase = 3) (hg : w.heap[g]? = some (SiB s)) :
    Calls Try.prog 77 #[.pointer (some ⟨g, 0, none⟩), .int .u64 x] w fun e w' => e = .returned (.tuple #[]) ∧ w'.heap[g]? = some (SiB (takeS s x)) ∧ OnlyB g w w' := by
  have c0 : w.cell? ⟨g, 0, none⟩ = some (.int .i64 s.phase) := blk_cell hg rfl
  have c8 : w.cell? ⟨g, 8, none⟩ = some (.int .u64 s.value) := blk_cell hg rfl
  have c9 : w.cell? ⟨g, 9, none⟩ = some (.bool s.found) := blk_cell hg rfl
  have f0 : w.frozen? ⟨g, 0, none⟩ = false := blk_free 0 hg
  have f8 : w.frozen? ⟨g, 8, none⟩ = false := blk_free 8 hg
  have f9 : w.frozen? ⟨g, 9, none⟩ = false := blk_free 9 hg
  have hfin : takeS s x = { s with value := x, found := true, phase := 4 } := by unfold takeS; rw [if_neg (by omega), if_neg (by omega), if_neg (by omega), if_pos hp]
  rw [hfin, SiB, ← set_phase { s with value := x, found := true } 4, ← set_found { s with value := x } true, ← set_value]
  generalize s.phase = ph at *
  generalize s.value = va at *
  generalize s.found = fo at *
  have h'h := Lib.hid h
  have hr'h := Lib.hid hr
  have hx'h := Lib.hid hx
  have hp'h := Lib.hid hp
  have hg'h := Lib.hid hg
  have hfin'h := Lib.hid hfin
  clear h hr hx hp hg hfin
  go_enter Try.func77, Try.ntmps77
  go_wp2
  go_end0
  exact ⟨rfl, blk_set _ (blk_set _ (blk_set _ hg'h.out)), (((OnlyB.refl _ _).set _ _).set _ _).set _ _⟩
theorem llast_any (s : Sg) (x g : Nat) (w : World) (h : SgOk s) (hr : SgRight s) (hx : x < 2 ^ 64) (hp : s.phase = 4) (hg : w.heap[g]? = some (SiB s)) :
    Calls Try.prog 78 #[.pointer (some ⟨g, 0, none⟩), .int .u64 x] w fun e w' => e = .returned (.tuple #[]) ∧ w'.heap[g]? = some (SiB (takeS s x)) ∧ OnlyB g w w' := by
  have c0 : w.cell? ⟨g, 0, none⟩ = some (.int .i64 s.phase) := blk_cell hg rfl
  have c4 : w.cell? ⟨g, 4, none⟩ = some (.int .u64 s.began) := blk_cell hg rfl
  have f0 : w.frozen? ⟨g, 0, none⟩ = false := blk_free 0 hg
  have hfin0 : takeS s x = { s with phase := if x = s.began then 5 else 6 } := by unfold takeS; rw [if_neg (by omega), if_neg (by omega), if_neg (by omega), if_neg (by omega)]
  by_cases hb : x = s.began
  · have d1 : ((x : Int) != (s.began : Int)) = false := by simp [hb]
    have hfin : takeS s x = { s with phase := 5 } := by rw [hfin0, if_pos hb]
    rw [hfin, SiB, ← set_phase]
    generalize s.phase = ph at *
    generalize s.began = be at *
    have h'h := Lib.hid h
    have hr'h := Lib.hid hr
    have hx'h := Lib.hid hx
    have hp'h := Lib.hid hp
    have hg'h := Lib.hid hg
    have hfin'h := Lib.hid hfin
    have hfin0'h := Lib.hid hfin0
    have hb'h := Lib.hid hb
    clear h hr hx hp hg hfin hfin0 hb
    go_enter Try.func78, Try.ntmps78
    go_wp2
    go_end0
    exact ⟨rfl, blk_set _ hg'h.out, (OnlyB.refl _ _).set _ _⟩
  · have d1 : ((x : Int) != (s.began : Int)) = true := by simp; omega
    have hfin : takeS s x = { s with phase := 6 } := by rw [hfin0, if_neg hb]
    rw [hfin, SiB, ← set_phase { s with phase := 5 } 6, ← set_phase]
    generalize s.phase = ph at *
    generalize s.began = be at *
    have h'h := Lib.hid h
    have hr'h := Lib.hid hr
    have hx'h := Lib.hid hx
    have hp'h := Lib.hid hp
    have hg'h := Lib.hid hg
    have hfin'h := Lib.hid hfin
    have hfin0'h := Lib.hid hfin0
    have hb'h := Lib.hid hb
    clear h hr hx hp hg hfin hfin0 hb
    go_enter Try.func78, Try.ntmps78
    go_wp2
    go_end0
    exact ⟨rfl, blk_set _ (blk_set _ hg'h.out), ((OnlyB.refl _ _).set _ _).set _ _⟩
theorem infoWays : (Try.prog.info? 120).map (·.size) = some 5 := by kernel_rfl
theorem take0_any (s : Sg) (x g : Nat) (w : World) (h : SgOk s) (hr : SgRight s) (hx : x < 2 ^ 64) (hp : s.phase = 0) (hg : w.heap[g]? = some (SiB s)) :
    Calls Try.prog 49 #[.pointer (some ⟨g, 0, none⟩), .int .u64 x] w fun e w' => e = .returned (.tuple #[]) ∧ w'.heap[g]? = some (SiB (takeS s x)) ∧ OnlyB g w w' := by
  have hgl := lt_of_heap hg
  have hn := World.alloc_heap_new w (.cells #[.nilFunc, .nilFunc, .nilFunc, .nilFunc, .nilFunc] 120)
  have hb0 : Below w.heap.size w ((w.alloc (.cells #[.nilFunc, .nilFunc, .nilFunc, .nilFunc, .nilFunc] 120)).setRow w.heap.size #[.func (.func 74) #[] #[], .func (.func 75) #[] #[], .func (.func 76) #[] #[], .func (.func 77) #[] #[], .func (.func 78) #[] #[]]) :=
    below_setRow' ((Below.refl _ _).alloc (Nat.le_refl _) _) (Nat.le_refl _) _
  have hh := setRow_heap _ _ _ #[.func (.func 74) #[] #[], .func (.func 75) #[] #[], .func (.func 76) #[] #[], .func (.func 77) #[] #[], .func (.func 78) #[] #[]] _ _ hn
  obtain ⟨W, hW⟩ : ∃ W, W = (w.alloc (.cells #[.nilFunc, .nilFunc, .nilFunc, .nilFunc, .nilFunc] 120)).setRow w.heap.size #[.func (.func 74) #[] #[], .func (.func 75) #[] #[], .func (.func 76) #[] #[], .func (.func 77) #[] #[], .func (.func 78) #[] #[]] := ⟨_, rfl⟩
  rw [← hW] at hh hb0
  have hgW := heap_below hb0 hg hgl
  have c0 : W.cell? ⟨g, 0, none⟩ = some (.int .i64 0) := by rw [← hp]; exact blk_cell hgW rfl
  have cf : W.cell? ⟨w.heap.size, 0, none⟩ = some (.func (.func 74) #[] #[]) := blk_cell hh rfl
  have F := lfirst_any s x g W h hr hx hp hgW
  have hone : (#[.func (.func 74) #[] #[], .func (.func 75) #[] #[], .func (.func 76) #[] #[], .func (.func 77) #[] #[], .func (.func 78) #[] #[]] : Array Value).all (·.oneCell') = true := by kernel_rfl
  clear hgW hh
  have h'h := Lib.hid h
  have hr'h := Lib.hid hr
  have hx'h := Lib.hid hx
  have hp'h := Lib.hid hp
  have hg'h := Lib.hid hg
  have hgl'h := Lib.hid hgl
  have hn'h := Lib.hid hn
  have hb0'h := Lib.hid hb0
  have hW'h := Lib.hid hW
  have F'h := Lib.hid F
  have hone'h := Lib.hid hone
  clear h hr hx hp hg hgl hn hb0 hW F hone
  go_enter Try.func49, Try.ntmps49
  go_wp2_with (first | (refine wpList_store_row rfl _ _ _ rfl w.heap.size _ rfl rfl 120 _ hn'h.out infoWays rfl hone'h.out ?_; rw [← hW'h.out]))
  go_wp2_with fail
  refine F'h.out.mono ?_
  rintro e w2 ⟨rfl, hg2, hO2⟩
  have hO := OnlyB.old hb0'h.out hO2 hgl'h.out
  clear hO2
  have hg2'h := Lib.hid hg2
  have hO'h := Lib.hid hO
  clear hg2 hO
  go_wp2
  go_end0
  exact ⟨rfl, hg2'h.out, hO'h.out⟩
theorem take1_any (s : Sg) (x g : Nat) (w : World) (h : SgOk s) (hr : SgRight s) (hx : x < 2 ^ 64) (hp : s.phase = 1) (hg : w.heap[g]? = some (SiB s)) :
    Calls Try.prog 49 #[.pointer (some ⟨g, 0, none⟩), .int .u64 x] w fun e w' => e = .returned (.tuple #[]) ∧ w'.heap[g]? = some (SiB (takeS s x)) ∧ OnlyB g w w' := by
  have hgl := lt_of_heap hg
  have hn := World.alloc_heap_new w (.cells #[.nilFunc, .nilFunc, .nilFunc, .nilFunc, .nilFunc] 120)
  have hb0 : Below w.heap.size w ((w.alloc (.cells #[.nilFunc, .nilFunc, .nilFunc, .nilFunc, .nilFunc] 120)).setRow w.heap.size #[.func (.func 74) #[] #[], .func (.func 75) #[] #[], .func (.func 76) #[] #[], .func (.func 77) #[] #[], .func (.func 78) #[] #[]]) :=
    below_setRow' ((Below.refl _ _).alloc (Nat.le_refl _) _) (Nat.le_refl _) _
  have hh := setRow_heap _ _ _ #[.func (.func 74) #[] #[], .func (.func 75) #[] #[], .func (.func 76) #[] #[], .func (.func 77) #[] #[], .func (.func 78) #[] #[]] _ _ hn
  obtain ⟨W, hW⟩ : ∃ W, W = (w.alloc (.cells #[.nilFunc, .nilFunc, .nilFunc, .nilFunc, .nilFunc] 120)).setRow w.heap.size #[.func (.func 74) #[] #[], .func (.func 75) #[] #[], .func (.func 76) #[] #[], .func (.func 77) #[] #[], .func (.func 78) #[] #[]] := ⟨_, rfl⟩
  rw [← hW] at hh hb0
  have hgW := heap_below hb0 hg hgl
  have c0 : W.cell? ⟨g, 0, none⟩ = some (.int .i64 1) := by rw [← hp]; exact blk_cell hgW rfl
  have cf : W.cell? ⟨w.heap.size, 1, none⟩ = some (.func (.func 75) #[] #[]) := blk_cell hh rfl
  have F := lctrl_any s x g W h hr hx hp hgW
  have hone : (#[.func (.func 74) #[] #[], .func (.func 75) #[] #[], .func (.func 76) #[] #[], .func (.func 77) #[] #[], .func (.func 78) #[] #[]] : Array Value).all (·.oneCell') = true := by kernel_rfl
  clear hgW hh
  have h'h := Lib.hid h
  have hr'h := Lib.hid hr
  have hx'h := Lib.hid hx
  have hp'h := Lib.hid hp
  have hg'h := Lib.hid hg
  have hgl'h := Lib.hid hgl
  have hn'h := Lib.hid hn
  have hb0'h := Lib.hid hb0
  have hW'h := Lib.hid hW
  have F'h := Lib.hid F
  have hone'h := Lib.hid hone
  clear h hr hx hp hg hgl hn hb0 hW F hone
  go_enter Try.func49, Try.ntmps49
  go_wp2_with (first | (refine wpList_store_row rfl _ _ _ rfl w.heap.size _ rfl rfl 120 _ hn'h.out infoWays rfl hone'h.out ?_; rw [← hW'h.out]))
  go_wp2_with fail
  refine F'h.out.mono ?_
  rintro e w2 ⟨rfl, hg2, hO2⟩
  have hO := OnlyB.old hb0'h.out hO2 hgl'h.out
  clear hO2
  have hg2'h := Lib.hid hg2
  have hO'h := Lib.hid hO
  clear hg2 hO
  go_wp2
  go_end0
  exact ⟨rfl, hg2'h.out, hO'h.out⟩
theorem take2_any (s : Sg) (x g : Nat) (w : World) (h : SgOk s) (hr : SgRight s) (hx : x < 2 ^ 64) (hp : s.phase = 2) (hg : w.heap[g]? = some (SiB s)) :
    Calls Try.prog 49 #[.pointer (some ⟨g, 0, none⟩), .int .u64 x] w fun e w' => e = .returned (.tuple #[]) ∧ w'.heap[g]? = some (SiB (takeS s x)) ∧ OnlyB g w w' := by
  have hgl := lt_of_heap hg
  have hn := World.alloc_heap_new w (.cells #[.nilFunc, .nilFunc, .nilFunc, .nilFunc, .nilFunc] 120)
  have hb0 : Below w.heap.size w ((w.alloc (.cells #[.nilFunc, .nilFunc, .nilFunc, .nilFunc, .nilFunc] 120)).setRow w.heap.size #[.func (.func 74) #[] #[], .func (.func 75) #[] #[], .func (.func 76) #[] #[], .func (.func 77) #[] #[], .func (.func 78) #[] #[]]) :=
    below_setRow' ((Below.refl _ _).alloc (Nat.le_refl _) _) (Nat.le_refl _) _
  have hh := setRow_heap _ _ _ #[.func (.func 74) #[] #[], .func (.func 75) #[] #[], .func (.func 76) #[] #[], .func (.func 77) #[] #[], .func (.func 78) #[] #[]] _ _ hn
  obtain ⟨W, hW⟩ : ∃ W, W = (w.alloc (.cells #[.nilFunc, .nilFunc, .nilFunc, .nilFunc, .nilFunc] 120)).setRow w.heap.size #[.func (.func 74) #[] #[], .func (.func 75) #[] #[], .func (.func 76) #[] #[], .func (.func 77) #[] #[], .func (.func 78) #[] #[]] := ⟨_, rfl⟩
  rw [← hW] at hh hb0
  have hgW := heap_below hb0 hg hgl
  have c0 : W.cell? ⟨g, 0, none⟩ = some (.int .i64 2) := by rw [← hp]; exact blk_cell hgW rfl
  have cf : W.cell? ⟨w.heap.size, 2, none⟩ = some (.func (.func 76) #[] #[]) := blk_cell hh rfl
  have F := lkey_any s x g W h hr hx hp hgW
  have hone : (#[.func (.func 74) #[] #[], .func (.func 75) #[] #[], .func (.func 76) #[] #[], .func (.func 77) #[] #[], .func (.func 78) #[] #[]] : Array Value).all (·.oneCell') = true := by kernel_rfl
  clear hgW hh
  have h'h := Lib.hid h
  have hr'h := Lib.hid hr
  have hx'h := Lib.hid hx
  have hp'h := Lib.hid hp
  have hg'h := Lib.hid hg
  have hgl'h := Lib.hid hgl
  have hn'h := Lib.hid hn
  have hb0'h := Lib.hid hb0
  have hW'h := Lib.hid hW
  have F'h := Lib.hid F
  have hone'h := Lib.hid hone
  clear h hr hx hp hg hgl hn hb0 hW F hone
  go_enter Try.func49, Try.ntmps49
  go_wp2_with (first | (refine wpList_store_row rfl _ _ _ rfl w.heap.size _ rfl rfl 120 _ hn'h.out infoWays rfl hone'h.out ?_; rw [← hW'h.out]))
  go_wp2_with fail
  refine F'h.out.mono ?_
  rintro e w2 ⟨rfl, hg2, hO2⟩
  have hO := OnlyB.old hb0'h.out hO2 hgl'h.out
  clear hO2
  have hg2'h := Lib.hid hg2
  have hO'h := Lib.hid hO
  clear hg2 hO
  go_wp2
  go_end0
  exact ⟨rfl, hg2'h.out, hO'h.out⟩
theorem take3_any (s : Sg) (x g : Nat) (w : World) (h : SgOk s) (hr : SgRight s) (hx : x < 2 ^ 64) (hp : s.phase = 3) (hg : w.heap[g]? = some (SiB s)) :
    Calls Try.prog 49 #[.pointer (some ⟨g, 0, none⟩), .int .u64 x] w fun e w' => e = .returned (.tuple #[]) ∧ w'.heap[g]? = some (SiB (takeS s x)) ∧ OnlyB g w w' := by
  have hgl := lt_of_heap hg
  have hn := World.alloc_heap_new w (.cells #[.nilFunc, .nilFunc, .nilFunc, .nilFunc, .nilFunc] 120)
  have hb0 : Below w.heap.size w ((w.alloc (.cells #[.nilFunc, .nilFunc, .nilFunc, .nilFunc, .nilFunc] 120)).setRow w.heap.size #[.func (.func 74) #[] #[], .func (.func 75) #[] #[], .func (.func 76) #[] #[], .func (.func 77) #[] #[], .func (.func 78) #[] #[]]) :=
    below_setRow' ((Below.refl _ _).alloc (Nat.le_refl _) _) (Nat.le_refl _) _
  have hh := setRow_heap _ _ _ #[.func (.func 74) #[] #[], .func (.func 75) #[] #[], .func (.func 76) #[] #[], .func (.func 77) #[] #[], .func (.func 78) #[] #[]] _ _ hn
  obtain ⟨W, hW⟩ : ∃ W, W = (w.alloc (.cells #[.nilFunc, .nilFunc, .nilFunc, .nilFunc, .nilFunc] 120)).setRow w.heap.size #[.func (.func 74) #[] #[], .func (.func 75) #[] #[], .func (.func 76) #[] #[], .func (.func 77) #[] #[], .func (.func 78) #[] #[]] := ⟨_, rfl⟩
  rw [← hW] at hh hb0
  have hgW := heap_below hb0 hg hgl
  have c0 : W.cell? ⟨g, 0, none⟩ = some (.int .i64 3) := by rw [← hp]; exact blk_cell hgW rfl
  have cf : W.cell? ⟨w.heap.size, 3, none⟩ = some (.func (.func 77) #[] #[]) := blk_cell hh rfl
  have F := lvalue_any s x g W h hr hx hp hgW
  have hone : (#[.func (.func 74) #[] #[], .func (.func 75) #[] #[], .func (.func 76) #[] #[], .func (.func 77) #[] #[], .func (.func 78) #[] #[]] : Array Value).all (·.oneCell') = true := by kernel_rfl
  clear hgW hh
  have h'h := Lib.hid h
  have hr'h := Lib.hid hr
  have hx'h := Lib.hid hx
  have hp'h := Lib.hid hp
  have hg'h := Lib.hid hg
  have hgl'h := Lib.hid hgl
  have hn'h := Lib.hid hn
  have hb0'h := Lib.hid hb0
  have hW'h := Lib.hid hW
  have F'h := Lib.hid F
  have hone'h := Lib.hid hone
  clear h hr hx hp hg hgl hn hb0 hW F hone
  go_enter Try.func49, Try.ntmps49
  go_wp2_with (first | (refine wpList_store_row rfl _ _ _ rfl w.heap.size _ rfl rfl 120 _ hn'h.out infoWays rfl hone'h.out ?_; rw [← hW'h.out]))
  go_wp2_with fail
  refine F'h.out.mono ?_
  rintro e w2 ⟨rfl, hg2, hO2⟩
  have hO := OnlyB.old hb0'h.out hO2 hgl'h.out
  clear hO2
  have hg2'h := Lib.hid hg2
  have hO'h := Lib.hid hO
  clear hg2 hO
  go_wp2
  go_end0
  exact ⟨rfl, hg2'h.out, hO'h.out⟩
theorem take4_any (s : Sg) (x g : Nat) (w : World) (h : SgOk s) (hr : SgRight s) (hx : x < 2 ^ 64) (hp : s.phase = 4) (hg : w.heap[g]? = some (SiB s)) :
    Calls Try.prog 49 #[.pointer (some ⟨g, 0, none⟩), .int .u64 x] w fun e w' => e = .returned (.tuple #[]) ∧ w'.heap[g]? = some (SiB (takeS s x)) ∧ OnlyB g w w' := by
  have hgl := lt_of_heap hg
  have hn := World.alloc_heap_new w (.cells #[.nilFunc, .nilFunc, .nilFunc, .nilFunc, .nilFunc] 120)
  have hb0 : Below w.heap.size w ((w.alloc (.cells #[.nilFunc, .nilFunc, .nilFunc, .nilFunc, .nilFunc] 120)).setRow w.heap.size #[.func (.func 74) #[] #[], .func (.func 75) #[] #[], .func (.func 76) #[] #[], .func (.func 77) #[] #[], .func (.func 78) #[] #[]]) :=
    below_setRow' ((Below.refl _ _).alloc (Nat.le_refl _) _) (Nat.le_refl _) _
  have hh := setRow_heap _ _ _ #[.func (.func 74) #[] #[], .func (.func 75) #[] #[], .func (.func 76) #[] #[], .func (.func 77) #[] #[], .func (.func 78) #[] #[]] _ _ hn
  obtain ⟨W, hW⟩ : ∃ W, W = (w.alloc (.cells #[.nilFunc, .nilFunc, .nilFunc, .nilFunc, .nilFunc] 120)).setRow w.heap.size #[.func (.func 74) #[] #[], .func (.func 75) #[] #[], .func (.func 76) #[] #[], .func (.func 77) #[] #[], .func (.func 78) #[] #[]] := ⟨_, rfl⟩
  rw [← hW] at hh hb0
  have hgW := heap_below hb0 hg hgl
  have c0 : W.cell? ⟨g, 0, none⟩ = some (.int .i64 4) := by rw [← hp]; exact blk_cell hgW rfl
  have cf : W.cell? ⟨w.heap.size, 4, none⟩ = some (.func (.func 78) #[] #[]) := blk_cell hh rfl
  have F := llast_any s x g W h hr hx hp hgW
  have hone : (#[.func (.func 74) #[] #[], .func (.func 75) #[] #[], .func (.func 76) #[] #[], .func (.func 77) #[] #[], .func (.func 78) #[] #[]] : Array Value).all (·.oneCell') = true := by kernel_rfl
  clear hgW hh
  have h'h := Lib.hid h
  have hr'h := Lib.hid hr
  have hx'h := Lib.hid hx
  have hp'h := Lib.hid hp
  have hg'h := Lib.hid hg
  have hgl'h := Lib.hid hgl
  have hn'h := Lib.hid hn
  have hb0'h := Lib.hid hb0
  have hW'h := Lib.hid hW
  have F'h := Lib.hid F
  have hone'h := Lib.hid hone
  clear h hr hx hp hg hgl hn hb0 hW F hone
  go_enter Try.func49, Try.ntmps49
  go_wp2_with (first | (refine wpList_store_row rfl _ _ _ rfl w.heap.size _ rfl rfl 120 _ hn'h.out infoWays rfl hone'h.out ?_; rw [← hW'h.out]))
  go_wp2_with fail
  refine F'h.out.mono ?_
  rintro e w2 ⟨rfl, hg2, hO2⟩
  have hO := OnlyB.old hb0'h.out hO2 hgl'h.out
  clear hO2
  have hg2'h := Lib.hid hg2
  have hO'h := Lib.hid hO
  clear hg2 hO
  go_wp2
  go_end0
  exact ⟨rfl, hg2'h.out, hO'h.out⟩
theorem ltake_any (s : Sg) (x g : Nat) (w : World) (h : SgOk s) (hr : SgRight s) (hh : hasS s = true) (hx : x < 2 ^ 64) (hg : w.heap[g]? = some (SiB s)) :
    Calls Try.prog 49 #[.pointer (some ⟨g, 0, none⟩), .int .u64 x] w fun e w' => e = .returned (.tuple #[]) ∧ w'.heap[g]? = some (SiB (takeS s x)) ∧ OnlyB g w w' := by
  have hp := hr.phase
  have h4 : s.phase ≤ 4 := by simpa [hasS] using hh
  by_cases p0 : s.phase = 0
  · exact take0_any s x g w h hr hx p0 hg
  by_cases p1 : s.phase = 1
  · exact take1_any s x g w h hr hx p1 hg
  by_cases p2 : s.phase = 2
  · exact take2_any s x g w h hr hx p2 hg
  by_cases p3 : s.phase = 3
  · exact take3_any s x g w h hr hx p3 hg
  exact take4_any s x g w h hr hx (by omega) hg
end Go.Proofs.Ytoklgjlmjkhmbaa
