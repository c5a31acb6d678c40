/-
  Package look: Most.
-/
import Derived.Test.YtoklgjlmjkhmbaaLookH
import Derived.Test.YtoklgjlmjkhmbaaRoundF
import Derived.Test.YtoklgjlmjkhmbaaMarks
import Derived.OrdersHeld
import Derived.Deep.RegionHeld
set_option linter.unusedSimpArgs false
set_option linter.unusedVariables false
set_option maxRecDepth 100000
namespace Go.Proofs.Ytoklgjlmjkhmbaa
open Go.RowKit

theorem ownsRow_len {w : World} {base : Nat} {e : TypeId} {size : Nat} {sp : Option Addr} {n cap k : Nat} {xs : List Value} (h : w.ownsRow base e size (.slice sp n cap) k xs) : n = k := by
  rcases h.2 with ⟨h1, h2⟩ | ⟨g, cp, cur, h1, _⟩
  · injection h1 with a b c; omega
  · injection h1
def accK (xs : List Nat) (h2 k : Nat) : Nat := 2 + ((xs.take k).map fun c => 1 + (lanesOf (equalM c h2)).length).sum
theorem accK_succ (xs : List Nat) (h2 : Nat) {k : Nat} (h : k < xs.length) : accK xs h2 (k + 1) = accK xs h2 k + (1 + (lanesOf (equalM (nthN xs k) h2)).length) := by
  unfold accK
  rw [List.take_succ_eq_append_getElem h, List.map_append, List.sum_append, nthN_eq h]
  simp; omega
def mostS (ws : List Nat) (slab hash : Nat) : Nat :=
  if nthN ws (16 + 40 * slab) % 2 = 1 then 1 else accK (groupsOf ws slab (hash / 128)) (hash % 128) (groupsOf ws slab (hash / 128)).length
structure MostI (N hb : Nat) (hash : Nat) (xs : List Nat) (w : World) (k : Nat) (S : Nat → Prop) (W : World) : Prop where
  acc : Own1 ⟨N, 0, none⟩ (.int .i64 (accK xs (hash % 128) k)) S W
  hbx : Own1 ⟨hb, 0, none⟩ (.int .u64 hash) S W
  old : Old w.heap.size w S W
theorem MostI.stable (N hb hash : Nat) (xs : List Nat) (w : World) (k : Nat) : Stable (MostI N hb hash xs w k) := fun S S' W W' h f =>
  ⟨Own1.stable _ _ _ _ _ _ h.acc f, Own1.stable _ _ _ _ _ _ h.hbx f, Old.stable _ _ _ _ _ _ h.old f⟩
def noXl (_c : Code) (_k : Nat) (_S : Nat → Prop) (_W : World) : Prop := False
theorem noXl_stable (c : Code) (k : Nat) : Stable (noXl c k) := fun _ _ _ _ h _ => h
theorem groups_any (fn : Fn) (fa fb : Array Value) (h1 : Nat) (w : World) : Calls Try.prog 38 #[.func fn fa fb, .int .u64 h1] w fun e w' => e = .returned (.func (.func 64) #[] #[.pointer (some ⟨w.heap.size + 1, 0, none⟩), .pointer (some ⟨w.heap.size, 0, none⟩)]) ∧ w' = (w.alloc (.cells #[.func fn fa fb] 79)).alloc (.cells #[.int .u64 h1] 29) := by
  go_enter Try.func38, Try.ntmps38
  go_wp2
  go_ret
  exact ⟨rfl, rfl⟩
theorem enters_groups (args : Array Value) (w : World) : (callFunc 64 args).run Try.prog w = .ok (.enter 64 args) w := by
  exact enters_of Try.func64 (by kernel_rfl) rfl args w
theorem groupsOf_lt {ws : List Nat} (h64 : W64 ws) (slab h1 : Nat) (hl : 16 + 40 * slab + 39 < ws.length) : ∀ c ∈ groupsOf ws slab h1, c < 2 ^ 64 := by
  have hcl : ∀ j, ctlW ws slab h1 j < 2 ^ 64 := fun j => by unfold ctlW; have hp := prB2 h1 j; exact h64 _ (nthN_mem (by omega))
  unfold groupsOf
  split <;> simp [hcl]
theorem accK_le (xs : List Nat) (h2 k : Nat) (hx : xs.length ≤ 2) : accK xs h2 k ≤ 20 := by
  unfold accK
  have hb : ∀ c, (lanesOf (equalM c h2)).length ≤ 8 := fun c => length_lanesOf _
  match xs, hx with
  | [], _ => simp
  | [c], _ => cases k with
    | zero => simp
    | succ k => have := hb c; simp; omega
  | [c, d], _ => match k with
    | 0 => simp
    | 1 => have := hb c; simp; omega
    | k + 2 => have := hb c; have := hb d; simp; omega
theorem groupsOf_len (ws : List Nat) (slab h1 : Nat) : (groupsOf ws slab h1).length ≤ 2 := by unfold groupsOf; split <;> simp
set_option maxHeartbeats 2000000 in
theorem most_even (sp : Option Addr) (n cap : Nat) (ws : List Nat) (slab hash : Nat) (w : World) (h64 : W64 ws) (hS : Sl w sp n (u64s ws)) (hn : 1 ≤ n ∧ n ≤ 8192) (ht : thereB n slab = true) (hh : hash < 2 ^ 64) (hev : nthN ws (16 + 40 * slab) % 2 ≠ 1) :
    Calls Try.prog 14 #[.slice sp n cap, .int .i64 slab, .int .u64 hash] w fun e w' => e = .returned (.tuple #[.int .i64 (mostS ws slab hash), .int .i64 0]) ∧ Below w.heap.size w w' := by
  have hlen : n = ws.length := by have := hS.1; rwa [u64s_length] at this
  have T := fun w => there_any sp n cap slab w (by omega)
  rw [if_pos hn, if_pos ht] at T
  have H := fun w => h1_any hash w
  obtain ⟨B, hBs⟩ : ∃ B, B = w.heap.size := ⟨_, rfl⟩
  obtain ⟨W0, hW0⟩ : ∃ W0, W0 = ((w.alloc (.cells #[.slice sp n cap] 22)).alloc (.cells #[.int .i64 slab] 3)).alloc (.cells #[.int .u64 hash] 29) := ⟨_, rfl⟩
  have hz0 : W0.heap.size = B + 3 := by rw [hW0, hBs]; simp
  have hb0 : Below w.heap.size w W0 := by rw [hW0]; exact (((Below.refl _ _).alloc (Nat.le_refl _) _).alloc (by simp) _).alloc (by simp; omega) _
  have x0 : W0.heap[B]? = some (.cells #[.slice sp n cap] 22 (0, 0)) := by rw [hW0, hBs]; exact (Below.heap_alloc _ _ _ (by simp; omega)).trans ((Below.heap_alloc _ _ _ (by simp)).trans (World.alloc_heap_new _ _))
  have x1 : W0.heap[B + 1]? = some (.cells #[.int .i64 slab] 3 (0, 0)) := by rw [hW0, hBs]; exact (Below.heap_alloc _ _ _ (by simp)).trans (heap_alloc2_new w _ _)
  have x2 : W0.heap[B + 2]? = some (.cells #[.int .u64 hash] 29 (0, 0)) := by
    rw [hW0, hBs]
    have := heap_alloc2_new (w.alloc (.cells #[.slice sp n cap] 22)) (.cells #[.int .i64 slab] 3) (.cells #[.int .u64 hash] 29)
    simpa using this
  have M := most1_any sp n cap (B + 1) B slab 0 ws W0 (hS.below hb0) hn.2 ht (by decide) (blk_cell x1 rfl) (blk_cell x0 rfl)
  have hS0 := hS.below hb0
  have hlow := u64_low (nthN ws (16 + 40 * slab)) (h64 _ (nthN_mem (by unfold thereB at ht; simp at ht; omega)))
  rw [Nat.add_zero] at M
  obtain ⟨m, hm⟩ : ∃ m, m = nthN ws (16 + 40 * slab) % 2 := ⟨_, rfl⟩
  rw [← hm] at hlow
  have hm1 : ((m : Int) == 1) = false := by simp; omega
  have G := fun fn fa fb w => groups_any fn fa fb (hash / 128) w
  have hms : mostS ws slab hash = accK (groupsOf ws slab (hash / 128)) (hash % 128) (groupsOf ws slab (hash / 128)).length := by
    unfold mostS; rw [if_neg hev]
  have hms'h := Lib.hid hms
  clear hms
  generalize nthN ws (16 + 40 * slab) = ct0 at *
  rw [show B + 2 = B + 1 + 1 by omega] at x2
  rw [hW0, hBs] at M
  have T'h := Lib.hid T
  have H'h := Lib.hid H
  have G'h := Lib.hid G
  have M'h := Lib.hid M
  have hS'h := Lib.hid hS
  have hS0'h := Lib.hid hS0
  have h64'h := Lib.hid h64
  have hn'h := Lib.hid hn
  have ht'h := Lib.hid ht
  have hh'h := Lib.hid hh
  have hev'h := Lib.hid hev
  have hlen'h := Lib.hid hlen
  have hb0'h := Lib.hid hb0
  have x0'h := Lib.hid x0
  have x1'h := Lib.hid x1
  have x2'h := Lib.hid x2
  have hz0'h := Lib.hid hz0
  have hm'h := Lib.hid hm
  have hBs'h := Lib.hid hBs
  have hW0'h := Lib.hid hW0
  clear T H G M hS hS0 h64 hn ht hh hev hlen hb0 x0 x1 x2 hz0 hm hBs hW0
  refine (callsIn_wide (n := 0)).1 ?_
  refine callsIn_of_wp_marks Try.func14 rfl trivial ?_
  simp only [Try.ntmps14, List.size_toArray, List.length_cons, List.length_nil, Nat.reduceAdd, Nat.reduceSub, Array.replicate_succ, Array.replicate_zero, List.push_toArray, List.append_toArray, List.nil_append, List.cons_append]
  refine wpIn_wide.2 ?_
  go_wp2_with (first | (go_at_call 36; refine (T'h.out _).mono ?_; rintro e w1 ⟨rfl, rfl⟩) | (go_at_call 37; refine M'h.out.mono ?_; rintro e w2 ⟨rfl, rfl⟩) | (go_at_call 31; refine (H'h.out _).mono ?_; rintro e w3 ⟨rfl, rfl⟩) | (go_at_call 38; refine (G'h.out _ _ _ _).mono ?_; rintro e w4 ⟨rfl, rfl⟩))
  obtain ⟨V, hV⟩ : ∃ V, V = ((W0.alloc (.cells #[.int .i64 2] 3)).alloc (.cells #[.func (.func 37) #[] #[.pointer (some ⟨w.heap.size + 1, 0, none⟩), .pointer (some ⟨w.heap.size, 0, none⟩)]] 79)).alloc (.cells #[.int .u64 ((hash : Int) / 128)] 29) := ⟨_, rfl⟩
  have hBw := hBs'h.out
  have hz0 := hz0'h.out
  have hzV : V.heap.size = B + 6 := by rw [hV]; simp; omega
  have hbV : Below W0.heap.size W0 V := by rw [hV]; exact (((Below.refl _ _).alloc (Nat.le_refl _) _).alloc (by simp) _).alloc (by simp; omega) _
  have y0 : V.heap[B]? = some (.cells #[.slice sp n cap] 22 (0, 0)) := heap_below hbV x0'h.out (by omega)
  have y1 : V.heap[B + 1]? = some (.cells #[.int .i64 slab] 3 (0, 0)) := heap_below hbV x1'h.out (by omega)
  have y2 : V.heap[B + 2]? = some (.cells #[.int .u64 hash] 29 (0, 0)) := heap_below hbV x2'h.out (by omega)
  have y3 : V.heap[B + 3]? = some (.cells #[.int .i64 2] 3 (0, 0)) := by
    rw [hV, ← hz0]; exact (Below.heap_alloc _ _ _ (by simp; omega)).trans ((Below.heap_alloc _ _ _ (by simp)).trans (World.alloc_heap_new _ _))
  have y4 : V.heap[B + 4]? = some (.cells #[.func (.func 37) #[] #[.pointer (some ⟨B + 1, 0, none⟩), .pointer (some ⟨B, 0, none⟩)]] 79 (0, 0)) := by
    rw [hV, hBw, show w.heap.size + 4 = W0.heap.size + 1 by omega]; exact (Below.heap_alloc _ _ _ (by simp)).trans (heap_alloc2_new W0 _ _)
  have y5 : V.heap[B + 5]? = some (.cells #[.int .u64 ((hash / 128 : Nat) : Int)] 29 (0, 0)) := by
    rw [hV, show B + 5 = W0.heap.size + 2 by omega, Int.natCast_ediv]
    have := heap_alloc2_new (W0.alloc (.cells #[.int .i64 2] 3)) (.cells #[.func (.func 37) #[] #[.pointer (some ⟨w.heap.size + 1, 0, none⟩), .pointer (some ⟨w.heap.size, 0, none⟩)]] 79) (.cells #[.int .u64 ((hash : Int) / 128)] 29)
    simpa using this
  have hSV : Sl V sp n (u64s ws) := (hS'h.out.below hb0'h.out).below hbV
  have hG : GrpC sp n cap (B + 5) (B + 4) (B + 1) B slab (hash / 128) ws V := ⟨y5, y4, y1, y0, hSV⟩
  have hsp : sp.map (·.block) ≠ some (B + 3) := by
    intro e
    have ht2 : 16 + 40 * slab + 39 < n := by have := ht'h.out; unfold thereB at this; simp at this; omega
    obtain ⟨ab, aoff, rfl, hcs⟩ := hS'h.out.some' (by omega)
    have := lt_of_cell (hcs 0 _ (List.getElem?_eq_getElem (by have := hS'h.out.1; omega)))
    have e' : ab = B + 3 := by simpa using e
    simp at this
    omega
  have hbig : Below w.heap.size w V := hb0'h.out.trans (hbV.mono (by omega))
  have hlt := groupsOf_lt h64'h.out slab (hash / 128) (by have := ht'h.out; unfold thereB at this; simp at this; have := hlen'h.out; omega)
  have h2c := groupsOf_len ws slab (hash / 128)
  have hit := groups_it sp n cap (B + 5) (B + 4) (B + 1) B slab (hash / 128) (B + 3) ws V hn'h.out.2 ht'h.out h64'h.out (by have := hh'h.out; omega) hG (by refine ⟨by omega, by omega, by omega, by omega, hsp⟩)
  refine (wpIn_wide (n := 0)).1 ?_
  rw [hW0'h.out] at hV
  rw [← hV]
  clear hV
  simp only [← hBw, Nat.add_assoc, Nat.reduceAdd]
  have hle20 := fun k => accK_le (groupsOf ws slab (hash / 128)) (hash % 128) k h2c
  have hsucc := fun k h => accK_succ (groupsOf ws slab (hash / 128)) (hash % 128) (k := k) h
  have hacc0 : accK (groupsOf ws slab (hash / 128)) (hash % 128) 0 = 2 := rfl
  have hO1 : Own1 ⟨B + 3, 0, none⟩ (.int .i64 2) (fun _ => False) V := ⟨blk_cell y3 rfl, blk_free _ y3, fun h => h⟩
  have hO2 : Own1 ⟨B + 2, 0, none⟩ (.int .u64 hash) (fun _ => False) V := ⟨blk_cell y2 rfl, blk_free _ y2, fun h => h⟩
  have hI0 : MostI (B + 3) (B + 2) hash (groupsOf ws slab (hash / 128)) w 0 (fun _ => False) V := ⟨hO1, hO2, hbig, Nat.le_refl _, fun b hb h => h⟩
  have H2 := fun w => h2_any hash w hh'h.out
  clear y0 y1 y2 y3 y4 y5 hG hO1 hO2 hsp
  generalize hxs : groupsOf ws slab (hash / 128) = xs at *
  have hle20'h := Lib.hid hle20
  have hsucc'h := Lib.hid hsucc
  have hacc0'h := Lib.hid hacc0
  have hI0'h := Lib.hid hI0
  have H2'h := Lib.hid H2
  have hit'h := Lib.hid hit
  have hlt'h := Lib.hid hlt
  have h2c'h := Lib.hid h2c
  have hSV'h := Lib.hid hSV
  have hbig'h := Lib.hid hbig
  have hxs'h := Lib.hid hxs
  have hbV'h := Lib.hid hbV
  have hBw'h := Lib.hid hBw
  have hz0'h := Lib.hid hz0
  have hzV'h := Lib.hid hzV
  clear hle20 hsucc hacc0 hI0 H2 hit hlt h2c hSV hbig hxs hbV hBw hz0 hzV
  refine' wpIn_range rfl (fun h => by cases h) rfl trivial enters_groups hit'h.out (fun b hb => False.elim hb) (fun _ => rfl)
    (fun b hb => ⟨hb.1, fun h => h⟩)
    (MostI (B + 3) (B + 2) hash xs w) noXl (MostI.stable _ _ _ _ _) noXl_stable hI0'h.out
    (AxOf _ (MostI (B + 3) (B + 2) hash xs w)) (AxOf.stable (MostI.stable _ _ _ _ _)) ?assign ?body ?done (fun _ _ _ _ _ _ _ _ _ h _ => h.elim)
  case assign =>
    intro l j S W2 hj hl hr hSb hI
    rw [nthN_eq hj]
    clear hr
    gi_wp2
    exact ⟨⟨rfl, hI⟩, Kept.refl _ _⟩
  case body =>
    rintro l j S a2 W2 r hj hl hlr hr hSb ⟨rfl, hI⟩
    have hhb : W2.cell? ⟨B + 2, 0, none⟩ = some (.int .u64 hash) := hI.hbx.cell
    have hac : W2.cell? ⟨B + 3, 0, none⟩ = some (.int .i64 (accK xs (hash % 128) j)) := hI.acc.cell
    have hfr := hI.acc.free
    have hc64 := hlt'h.out _ (nthN_mem hj)
    have E := fun w => equal_any (nthN xs j) (hash % 128) w hc64 (by omega)
    have hm8 : equalM (nthN xs j) (hash % 128) < 256 := equalM_lt8 _ _
    have A := fun w => all_any (equalM (nthN xs j) (hash % 128)) hm8 w
    have hb1 := hle20'h.out j
    have hb2 := hle20'h.out (j + 1)
    have hsu := hsucc'h.out j hj
    refine wpIn_block ?_
    refine wpIn_round_heldF (fun w' => w'.cell? ⟨B + 3, 0, none⟩ = some (.int .i64 (accK xs (hash % 128) j)) ∧ w'.cell? ⟨B + 2, 0, none⟩ = some (.int .u64 hash)) 9 (by kernel_rfl) (by kernel_rfl) (inBlock_noLet rangePost_noLet) ?_
    refine wpAnyF_take (i := 0) (v := .int .i64 (accK xs (hash % 128) j)) rfl (by kernel_rfl) (by kernel_rfl) (by kernel_rfl) (by kernel_rfl) (fun _ _ _ h => h) (Or.inl ⟨by rfl, ?_⟩) ⟨hac, hhb⟩ ?_
    · intro w hSw; (try dsimp only at hSw); go_simp
    simp only [Act.put, List.setIfInBounds_toArray, List.set_cons_zero, List.set_cons_succ]
    refine wpAnyF_take (i := 1) (v := .int .u64 (nthN xs j)) rfl (by kernel_rfl) (by kernel_rfl) (by kernel_rfl) (by kernel_rfl) (fun _ _ _ h => h) (Or.inl ⟨by rfl, ?_⟩) ⟨hac, hhb⟩ ?_
    · intro w hSw; (try dsimp only at hSw); go_simp
    simp only [Act.put, List.setIfInBounds_toArray, List.set_cons_zero, List.set_cons_succ]
    refine wpAnyF_take (i := 2) (v := .int .u64 hash) rfl (by kernel_rfl) (by kernel_rfl) (by kernel_rfl) (by kernel_rfl) (fun _ _ _ h => h) (Or.inl ⟨by rfl, ?_⟩) ⟨hac, hhb⟩ ?_
    · intro w hSw; (try dsimp only at hSw); go_simp
    try simp only [Act.put, List.setIfInBounds_toArray, List.set_cons_zero, List.set_cons_succ]
    refine wpAnyF_one (i := 3) (by kernel_rfl) rfl (fun K hK => ?_)
    go_simp
    refine (H2'h.out _).mono ?_
    rintro e w5 ⟨rfl, rfl⟩
    dsimp only
    refine hK.out _ _ (fun _ => ⟨hac, hhb⟩) ?_
    clear hK K
    try simp only [Act.put, List.setIfInBounds_toArray, List.set_cons_zero, List.set_cons_succ]
    refine wpAnyF_one (i := 4) (by kernel_rfl) rfl (fun K hK => ?_)
    go_simp
    refine (E _).mono ?_
    rintro e w5 ⟨rfl, rfl⟩
    dsimp only
    refine hK.out _ _ (fun _ => ⟨hac, hhb⟩) ?_
    clear hK K
    try simp only [Act.put, List.setIfInBounds_toArray, List.set_cons_zero, List.set_cons_succ]
    refine wpAnyF_one (i := 5) (by kernel_rfl) rfl (fun K hK => ?_)
    go_simp
    refine (A _).mono ?_
    rintro e w5 ⟨ls, ln, lc, rfl, hB5, hrow⟩
    have hln := ownsRow_len hrow
    have hl8 : (lanesOf (equalM (nthN xs j) (hash % 128))).length ≤ 8 := length_lanesOf _
    subst hln
    have ho5 : Own1 ⟨B + 3, 0, none⟩ (.int .i64 (accK xs (hash % 128) j)) S w5 := hI.acc.below ((Below.drew (Below.refl _ _)).trans hB5)
    have hf5 := ho5.free
    have hac5 : w5.cell? ⟨B + 3, 0, none⟩ = some (.int .i64 (accK xs (hash % 128) j)) := (hB5.cell (lt_of_cell hac)).trans hac
    have hhb5 : w5.cell? ⟨B + 2, 0, none⟩ = some (.int .u64 hash) := (hB5.cell (lt_of_cell hhb)).trans hhb
    dsimp only
    refine hK.out _ _ (fun _ => ⟨hac5, hhb5⟩) ?_
    clear hK K
    try simp only [Act.put, List.setIfInBounds_toArray, List.set_cons_zero, List.set_cons_succ]
    refine wpAnyF_take (i := 6) (v := .int .i64 ((lanesOf (equalM (nthN xs j) (hash % 128))).length : Int)) rfl (by kernel_rfl) (by kernel_rfl) (by kernel_rfl) (by kernel_rfl) (fun _ _ _ h => h) (Or.inl ⟨by rfl, ?_⟩) ⟨hac5, hhb5⟩ ?_
    · intro w hSw; (try dsimp only at hSw); go_simp
    simp only [Act.put, List.setIfInBounds_toArray, List.set_cons_zero, List.set_cons_succ]
    refine wpAnyF_take (i := 7) (v := .int .i64 ((1 + (lanesOf (equalM (nthN xs j) (hash % 128))).length : Nat) : Int)) rfl (by kernel_rfl) (by kernel_rfl) (by kernel_rfl) (by kernel_rfl) (fun _ _ _ h => h) (Or.inl ⟨by rfl, ?_⟩) ⟨hac5, hhb5⟩ ?_
    · intro w hSw; (try dsimp only at hSw); go_simp
      rw [IntKind.wrap_i64]; omega
    simp only [Act.put, List.setIfInBounds_toArray, List.set_cons_zero, List.set_cons_succ]
    refine wpAnyF_take (i := 8) (v := .int .i64 ((accK xs (hash % 128) j + (1 + (lanesOf (equalM (nthN xs j) (hash % 128))).length) : Nat) : Int)) rfl (by kernel_rfl) (by kernel_rfl) (by kernel_rfl) (by kernel_rfl) (fun _ _ _ h => h) (Or.inl ⟨by rfl, ?_⟩) ⟨hac5, hhb5⟩ ?_
    · intro w hSw; (try dsimp only at hSw); go_simp
      rw [IntKind.wrap_i64]; omega
    simp only [Act.put, List.setIfInBounds_toArray, List.set_cons_zero, List.set_cons_succ]
    refine wpAnyF_one (i := 9) (by kernel_rfl) rfl (fun K hK => ?_)
    go_simp
    refine hK.out _ _ (fun h => absurd rfl h) ?_
    clear hK K
    have hB := (Below.drew (Below.refl W2.heap.size W2)).trans hB5
    have hx5 : Own1 ⟨B + 2, 0, none⟩ (.int .u64 hash) S w5 := hI.hbx.below hB
    have hVz := hzV'h.out
    have hBz := hBw'h.out
    have hoth : ∀ b v, b ≠ B + 3 → (w5.setCell ⟨B + 3, 0, none⟩ v).heap[b]? = w5.heap[b]? := fun b v hb => Below.heap_setCell _ _ _ _ hb
    refine wpAnyF_done (by kernel_rfl) ?_ _
    refine ⟨⟨hB.os, hB.tape, hB.output, by rw [World.size_setCell]; exact hB.size, fun b hb hs => (hoth b _ ?_).trans (hB.block b hb)⟩, ⟨?_, ?_, ?_⟩⟩
    · rcases hs with ⟨_, hs⟩ | hs
      · exact hs
      · rintro rfl; exact hI.acc.mine hs
    · rw [hsu, show ((accK xs (hash % 128) j : Int) + (1 + ((lanesOf (equalM (nthN xs j) (hash % 128))).length : Int))) = ((accK xs (hash % 128) j + (1 + (lanesOf (equalM (nthN xs j) (hash % 128))).length) : Nat) : Int) by omega]
      exact ho5.set _
    · exact ⟨by rw [World.cell?_setCell_far _ _ _ _ (by simp)]; exact hx5.cell, (World.frozen?_of_block (hoth _ _ (by simp))).trans hx5.free, hx5.mine⟩
    · exact ⟨(hI.old.below.trans (hB.mono hI.old.below.size)).setCell (by simp; omega) _, Nat.le_refl _, hI.old.mine⟩
  case done =>
    rintro D S W3 hD hSD hr hI hK3
    have ca := hI.acc.cell
    have hob := hI.old.below
    rw [← hms'h.out] at ca
    have hI'h := Lib.hid hI
    have hK3'h := Lib.hid hK3
    have hr'h := Lib.hid hr
    have hob'h := Lib.hid hob
    clear hI hK3 hr hob
    go_wp2
    refine post_mark (.inl rfl) hK3'h.out (results_tmp2 rfl _ _ _) ⟨rfl, below_putObj hob'h.out (by have := hzV'h.out; have := hBw'h.out; omega) _⟩
set_option maxHeartbeats 2000000 in
theorem most_odd (sp : Option Addr) (n cap : Nat) (ws : List Nat) (slab hash : Nat) (w : World) (h64 : W64 ws) (hS : Sl w sp n (u64s ws)) (hn : 1 ≤ n ∧ n ≤ 8192) (ht : thereB n slab = true) (hev : nthN ws (16 + 40 * slab) % 2 = 1) :
    Calls Try.prog 14 #[.slice sp n cap, .int .i64 slab, .int .u64 hash] w fun e w' => e = .returned (.tuple #[.int .i64 1, .int .i64 0]) ∧ Below w.heap.size w w' := by
  have T := fun w => there_any sp n cap slab w (by omega)
  rw [if_pos hn, if_pos ht] at T
  obtain ⟨B, hBs⟩ : ∃ B, B = w.heap.size := ⟨_, rfl⟩
  obtain ⟨W0, hW0⟩ : ∃ W0, W0 = ((w.alloc (.cells #[.slice sp n cap] 22)).alloc (.cells #[.int .i64 slab] 3)).alloc (.cells #[.int .u64 hash] 29) := ⟨_, rfl⟩
  have hb0 : Below w.heap.size w W0 := by rw [hW0]; exact (((Below.refl _ _).alloc (Nat.le_refl _) _).alloc (by simp) _).alloc (by simp; omega) _
  have x0 : W0.heap[B]? = some (.cells #[.slice sp n cap] 22 (0, 0)) := by rw [hW0, hBs]; exact (Below.heap_alloc _ _ _ (by simp; omega)).trans ((Below.heap_alloc _ _ _ (by simp)).trans (World.alloc_heap_new _ _))
  have x1 : W0.heap[B + 1]? = some (.cells #[.int .i64 slab] 3 (0, 0)) := by rw [hW0, hBs]; exact (Below.heap_alloc _ _ _ (by simp)).trans (heap_alloc2_new w _ _)
  have M := most1_any sp n cap (B + 1) B slab 0 ws W0 (hS.below hb0) hn.2 ht (by decide) (blk_cell x1 rfl) (blk_cell x0 rfl)
  have hlow := u64_low (nthN ws (16 + 40 * slab)) (h64 _ (nthN_mem (by have := hS.1; rw [u64s_length] at this; unfold thereB at ht; simp at ht; omega)))
  rw [Nat.add_zero] at M
  rw [hev] at hlow
  generalize nthN ws (16 + 40 * slab) = ct0 at *
  rw [hW0, hBs] at M
  rw [hW0] at hb0
  have T'h := Lib.hid T
  have M'h := Lib.hid M
  have hS'h := Lib.hid hS
  have h64'h := Lib.hid h64
  have hn'h := Lib.hid hn
  have ht'h := Lib.hid ht
  have hb0'h := Lib.hid hb0
  clear T M hS h64 hn ht hb0
  clear hev x0 x1 hBs hW0
  refine (callsIn_wide (n := 0)).1 ?_
  refine callsIn_of_wp_marks Try.func14 rfl trivial ?_
  simp only [Try.ntmps14, List.size_toArray, List.length_cons, List.length_nil, Nat.reduceAdd, Nat.reduceSub, Array.replicate_succ, Array.replicate_zero, List.push_toArray, List.append_toArray, List.nil_append, List.cons_append]
  refine wpIn_wide.2 ?_
  go_wp2_with (first | (go_at_call 36; refine (T'h.out _).mono ?_; rintro e w1 ⟨rfl, rfl⟩) | (go_at_call 37; refine M'h.out.mono ?_; rintro e w2 ⟨rfl, rfl⟩))
  refine post_plain (.inl rfl) (results_tmp2 rfl _ _ _) ⟨rfl, hb0'h.out⟩
set_option maxHeartbeats 2000000 in
theorem most_no (sp : Option Addr) (n cap : Nat) (z : Int) (slab hash : Nat) (w : World) (hz : z ≠ 0) (T : ∀ w, Calls Try.prog 36 #[.slice sp n cap, .int .i64 slab] w fun e w' => e = .returned (.int .i64 z) ∧ w' = w) :
    Calls Try.prog 14 #[.slice sp n cap, .int .i64 slab, .int .u64 hash] w fun e w' => e = .returned (.tuple #[.int .i64 0, .int .i64 z]) ∧ Below w.heap.size w w' := by
  have hb0 : Below w.heap.size w (((w.alloc (.cells #[.slice sp n cap] 22)).alloc (.cells #[.int .i64 slab] 3)).alloc (.cells #[.int .u64 hash] 29)) := (((Below.refl _ _).alloc (Nat.le_refl _) _).alloc (by simp) _).alloc (by simp; omega) _
  have hz' : (z == 0) = false := by simp [hz]
  have T'h := Lib.hid T
  have hb0'h := Lib.hid hb0
  clear T hb0
  refine (callsIn_wide (n := 0)).1 ?_
  refine callsIn_of_wp_marks Try.func14 rfl trivial ?_
  simp only [Try.ntmps14, List.size_toArray, List.length_cons, List.length_nil, Nat.reduceAdd, Nat.reduceSub, Array.replicate_succ, Array.replicate_zero, List.push_toArray, List.append_toArray, List.nil_append, List.cons_append]
  refine wpIn_wide.2 ?_
  go_wp2_with (first | (go_at_call 36; refine (T'h.out _).mono ?_; rintro e w1 ⟨rfl, rfl⟩))
  refine post_plain (.inl rfl) (results_tmp2 rfl _ _ _) ⟨rfl, hb0'h.out⟩
end Go.Proofs.Ytoklgjlmjkhmbaa
