/-
  Several texts of mine in one: LookH LookI Ref07 Ref07B.
-/
import Derived.Test.YtoklgjlmjkhmbaaPe
import Derived.OwnWalkIn
import Derived.Sort.LoopGhostIn
import Derived.Test.YtoklgjlmjkhmbaaPb
import Derived.Test.YtoklgjlmjkhmbaaPc
import Derived.OrdersHeld
import Derived.Deep.RegionHeld
/-
  Package look: the control words of a row.
-/
set_option linter.unusedSimpArgs false
set_option linter.unusedVariables false
set_option maxRecDepth 100000
namespace Go.Proofs.Ytoklgjlmjkhmbaa
open Go.RowKit

theorem most1_any (sp : Option Addr) (n cap sb wb slab word : Nat) (ws : List Nat) (w : World) (hS : Sl w sp n (u64s ws)) (hn : n ≤ 8192) (ht : thereB n slab = true) (hw : word < 40)
    (hs : w.cell? ⟨sb, 0, none⟩ = some (.int .i64 slab)) (hb : w.cell? ⟨wb, 0, none⟩ = some (.slice sp n cap)) :
    Calls Try.prog 37 #[.int .i64 word, .pointer (some ⟨sb, 0, none⟩), .pointer (some ⟨wb, 0, none⟩)] w fun e w' => e = .returned (.int .u64 (nthN ws (16 + 40 * slab + word))) ∧ w' = w := by
  have hlen : n = ws.length := by have := hS.1; rwa [u64s_length] at this
  have ht' : slab < 128 ∧ 16 + 40 * slab + 39 < n := by unfold thereB at ht; simp at ht; omega
  have L := fun w => cell_yes slab word w ht'.1 hw
  obtain ⟨ab, aoff, rfl, hcs⟩ := hS.some' (by omega)
  have c1 := hcs (16 + 40 * slab + word) _ (u64s_at (by omega))
  have hlt : 16 + 40 * slab + word < n := by omega
  generalize nthN ws (16 + 40 * slab + word) = x at *
  generalize 16 + 40 * slab + word = cl at *
  have hcl : (cl : Int) < (n : Int) := by omega
  clear hcs hS ht ht'
  have L'h := Lib.hid L
  have hlt'h := Lib.hid hlt
  have hlen'h := Lib.hid hlen
  clear L hlt hlen
  go_enter Try.func37, Try.ntmps37
  go_wp2_with (go_at_call 29; refine (L'h.out _).mono ?_; rintro e w2 ⟨rfl, rfl⟩)
  go_ret
  exact ⟨rfl, rfl⟩
theorem foreign_new {S : Nat → Prop} {W W' : World} (h : Below W.heap.size W W') : Foreign S (fun b => S b ∨ (W.heap.size ≤ b ∧ b < W'.heap.size)) W W' :=
  ⟨h.os, h.tape, h.output, h.size, fun _ h => .inl h, fun _ h => h, fun b hb _ => h.block b hb⟩
/-- The control words that are looked at. -/
def ctlW (ws : List Nat) (slab h1 j : Nat) : Nat := nthN ws (16 + 40 * slab + (4 + prB 2 h1 j))
def groupsOf (ws : List Nat) (slab h1 : Nat) : List Nat := if equalM (ctlW ws slab h1 0) 128 = 0 then [ctlW ws slab h1 0, ctlW ws slab h1 1] else [ctlW ws slab h1 0]
theorem zN_row {h1 j : Nat} (hj : j < 2) : (zN (rowB 2 h1))[j]? = some (.int .i64 (prB 2 h1 j)) := by
  unfold zN rowB
  rw [List.getElem?_map, List.getElem?_map, List.getElem?_map, List.getElem?_range hj]; rfl
/-- What the iterator reads. -/
structure GrpC (sp : Option Addr) (n cap b1 b2 sb wb slab h1 : Nat) (ws : List Nat) (W : World) : Prop where
  h1c : W.heap[b1]? = some (.cells #[.int .u64 h1] 29 (0, 0))
  atc : W.heap[b2]? = some (.cells #[.func (.func 37) #[] #[.pointer (some ⟨sb, 0, none⟩), .pointer (some ⟨wb, 0, none⟩)]] 79 (0, 0))
  sc : W.heap[sb]? = some (.cells #[.int .i64 slab] 3 (0, 0))
  wc : W.heap[wb]? = some (.cells #[.slice sp n cap] 22 (0, 0))
  sl : Sl W sp n (u64s ws)
theorem GrpC.keep {sp : Option Addr} {n cap b1 b2 sb wb slab h1 : Nat} {ws : List Nat} {W W' : World} (h : GrpC sp n cap b1 b2 sb wb slab h1 ws W) (hk : ∀ b, b < W.heap.size → (b = b1 ∨ b = b2 ∨ b = sb ∨ b = wb ∨ sp.map (·.block) = some b) → W'.heap[b]? = W.heap[b]?) : GrpC sp n cap b1 b2 sb wb slab h1 ws W' :=
  ⟨(hk _ (lt_of_heap h.h1c) (.inl rfl)).trans h.h1c, (hk _ (lt_of_heap h.atc) (.inr (.inl rfl))).trans h.atc, (hk _ (lt_of_heap h.sc) (.inr (.inr (.inl rfl)))).trans h.sc, (hk _ (lt_of_heap h.wc) (.inr (.inr (.inr (.inl rfl))))).trans h.wc,
    h.sl.keep fun b o hlt hs ho => (hk b hlt (.inr (.inr (.inr (.inr hs))))).trans ho⟩
set_option maxHeartbeats 2000000 in
theorem groups_it (sp : Option Addr) (n cap b1 b2 sb wb slab h1 N : Nat) (ws : List Nat) (w : World) (hn : n ≤ 8192) (ht : thereB n slab = true) (h64 : W64 ws) (hh : h1 < 2 ^ 64) (hC : GrpC sp n cap b1 b2 sb wb slab h1 ws w)
    (hN : b1 ≠ N ∧ b2 ≠ N ∧ sb ≠ N ∧ wb ≠ N ∧ sp.map (·.block) ≠ some N) :
    SeqIt Fence.wide 0 Try.prog 64 #[.pointer (some ⟨b1, 0, none⟩), .pointer (some ⟨b2, 0, none⟩)] (fun c : Nat => #[.int .u64 c]) (groupsOf ws slab h1) (fun _ => False) (fun b => b < w.heap.size ∧ b ≠ N) w := by
  intro l J Jx W hJ hJx hW hY h0
  have hCW := hC.keep fun b hb _ => hW.block b hb
  have hbs : ∀ b, (b = b1 ∨ b = b2 ∨ b = sb ∨ b = wb ∨ sp.map (·.block) = some b) → b < w.heap.size ∧ b ≠ N := by
    intro b hb
    obtain ⟨n1, n2, n3, n4, n5⟩ := hN
    rcases hb with rfl | rfl | rfl | rfl | hb
    · exact ⟨lt_of_heap hC.h1c, n1⟩
    · exact ⟨lt_of_heap hC.atc, n2⟩
    · exact ⟨lt_of_heap hC.sc, n3⟩
    · exact ⟨lt_of_heap hC.wc, n4⟩
    · refine ⟨?_, fun e => n5 (by rw [hb, e])⟩
      have ht2 : 16 + 40 * slab + 39 < n := by unfold thereB at ht; simp at ht; omega
      obtain ⟨ab, aoff, rfl, hcs⟩ := hC.sl.some' (by omega)
      have : ab = b := by simpa using hb
      subst this
      have := hcs 0 _ (List.getElem?_eq_getElem (by have := hC.sl.1; omega))
      exact lt_of_cell this
  have RW := fun w => row_yes 2 h1 w rfl hh
  have hpos : 0 < (groupsOf ws slab h1).length := by unfold groupsOf; split <;> simp
  have hc0 : nthN (groupsOf ws slab h1) 0 = ctlW ws slab h1 0 := by unfold groupsOf; split <;> rfl
  have hstop : equalM (ctlW ws slab h1 0) 128 ≠ 0 → (groupsOf ws slab h1).length = 1 := fun h => by unfold groupsOf; rw [if_neg h]; rfl
  have hgo : equalM (ctlW ws slab h1 0) 128 = 0 → (groupsOf ws slab h1).length = 2 ∧ nthN (groupsOf ws slab h1) 1 = ctlW ws slab h1 1 := fun h => by unfold groupsOf; rw [if_pos h]; exact ⟨rfl, rfl⟩
  have hcl : ∀ j, ctlW ws slab h1 j < 2 ^ 64 := fun j => by
    unfold ctlW
    have ht2 : 16 + 40 * slab + 39 < n := by unfold thereB at ht; simp at ht; omega
    have hp := prB2 h1 j
    refine h64 _ (nthN_mem ?_)
    have := hC.sl.1
    rw [u64s_length] at this
    omega
  have M1 := fun j w (hS : Sl w sp n (u64s ws)) hs hb => most1_any sp n cap sb wb slab (4 + prB 2 h1 j) ws w hS hn ht (by have := prB2 h1 j; omega) hs hb
  have E := fun j w => equal_any (ctlW ws slab h1 j) 128 w (hcl j) (by decide)
  have c1 : W.cell? ⟨b1, 0, none⟩ = some (.int .u64 h1) := blk_cell hCW.h1c rfl
  generalize groupsOf ws slab h1 = xs at *
  have hfold : ∀ j, nthN ws (16 + 40 * slab + (4 + prB 2 h1 j)) = ctlW ws slab h1 j := fun _ => rfl
  simp only [hfold] at M1
  have RW'h := Lib.hid RW
  have M1'h := Lib.hid M1
  have E'h := Lib.hid E
  have hpos'h := Lib.hid hpos
  have hc0'h := Lib.hid hc0
  have hstop'h := Lib.hid hstop
  have hgo'h := Lib.hid hgo
  have hcl'h := Lib.hid hcl
  have hCW'h := Lib.hid hCW
  have hbs'h := Lib.hid hbs
  have hJ'h := Lib.hid hJ
  have hJx'h := Lib.hid hJx
  have hY'h := Lib.hid hY
  have h0'h := Lib.hid h0
  have hW'h := Lib.hid hW
  have hC'h := Lib.hid hC
  have hN'h := Lib.hid hN
  have ht'h := Lib.hid ht
  have h64'h := Lib.hid h64
  have hh'h := Lib.hid hh
  have hn'h := Lib.hid hn
  clear RW M1 E hpos hc0 hstop hgo hcl hCW hbs hJ hJx hY h0 hW hC hN ht h64 hh hn
  clear hfold
  refine callsIn_of_wp Try.func64 rfl trivial ?_ rfl
  simp only [Try.ntmps64, List.size_toArray, List.length_cons, List.length_nil, Nat.reduceAdd, Nat.reduceSub, Array.replicate_succ, Array.replicate_zero, List.push_toArray, List.append_toArray, List.nil_append, List.cons_append]
  gi_wp2
  refine wpIn_scope_straight ?_
  gi_wp2_with (gi_at_call 30; refine (callsIn_wide.2 (RW'h.out _)).mono ?_; rintro e w9 ⟨rs, rcap, rfl, hB9, hrow9⟩)
  have hJ1 := hJ'h.out 0 _ _ _ _ h0'h.out (foreign_new hB9)
  have hC9 := hCW'h.out.keep fun b hb _ => hB9.block b hb
  have hrc : ∃ rg, rs = some ⟨rg, 0, none⟩ ∧ (W.heap.size ≤ rg ∧ rg < w9.heap.size) ∧ ∀ j, j < 2 → w9.cell? ⟨rg, j, none⟩ = some (.int .i64 (prB 2 h1 j)) := by
    rcases hrow9.2 with ⟨_, h0⟩ | ⟨rg, cp, cur, h1', hg, hh', hq⟩
    · omega
    · injection h1' with h1'
      refine ⟨rg, h1', ⟨hg, lt_of_heap hh'⟩, fun j hj => ?_⟩
      subst h1'
      exact row_cell hrow9 hj (zN_row hj)
  obtain ⟨rg, rfl, hrg, hrc⟩ := hrc
  clear hB9 hrow9 c1
  have hJ1'h := Lib.hid hJ1
  have hC9'h := Lib.hid hC9
  have hrg'h := Lib.hid hrg
  have hrc'h := Lib.hid hrc
  clear hJ1 hC9 hrg hrc
  refine wpIn_label ?_
  gi_wp2
  gi_loopg [16] 2 (fun q i wr => ∃ (k : Nat) (S : Nat → Prop), k + q = 2 ∧ i = .int .i64 k ∧ J k S wr ∧ S rg ∧ (∀ j, j < 2 → wr.cell? ⟨rg, j, none⟩ = some (.int .i64 (prB 2 h1 j))) ∧ GrpC sp n cap b1 b2 sb wb slab h1 ws wr ∧ (1 ≤ k → equalM (ctlW ws slab h1 0) 128 = 0))
  case atStart => exact ⟨0, _, by omega, rfl, hJ1'h.out, .inr hrg'h.out, hrc'h.out, hC9'h.out, fun h => absurd h (by omega)⟩
  case round =>
    obtain ⟨k, S, hk, rfl, hJk, hSr, hcs, hG, hfl⟩ := hrel
    by_cases hk2 : k < 2
    · have hkx : k < xs.length ∧ nthN xs k = ctlW ws slab h1 k := by
        rcases (show k = 0 ∨ k = 1 by omega) with rfl | rfl
        · exact ⟨hpos'h.out, hc0'h.out⟩
        · have := hgo'h.out (hfl (by omega)); exact ⟨by omega, this.2⟩
      obtain ⟨fn, tmps, assign, body, hy, hR⟩ := hY'h.out k _ wr hJk hkx.1
      rw [nthN_eq hkx.1, hkx.2] at hy
      have hc := hcs k hk2
      have hp2 := prB2 h1 k
      have M := M1'h.out k wr hG.sl (blk_cell hG.sc rfl) (blk_cell hG.wc rfl)
      rw [show ((4 + prB 2 h1 k : Nat) : Int) = 4 + (prB 2 h1 k : Int) by omega] at M
      have hp2' : (prB 2 h1 k : Int) < 2 := by omega
      have cat := blk_cell (i := 0) hG.atc rfl
      have EE := fun w => E'h.out k w
      have hend : equalM (ctlW ws slab h1 k) 128 ≠ 0 → k + 1 = xs.length := fun h => by
        rcases (show k = 0 ∨ k = 1 by omega) with rfl | rfl
        · rw [hstop'h.out h]
        · rw [(hgo'h.out (hfl (by omega))).1]
      have hnext : equalM (ctlW ws slab h1 k) 128 = 0 → equalM (ctlW ws slab h1 0) 128 = 0 := fun h => by
        rcases (show k = 0 ∨ k = 1 by omega) with rfl | rfl
        · exact h
        · exact hfl (by omega)
      have hlt2 : (k : Int) < 2 := by omega
      generalize ctlW ws slab h1 k = ck at *
      generalize prB 2 h1 k = pk at *
      have hk'h := Lib.hid hk
      have hJk'h := Lib.hid hJk
      have hSr'h := Lib.hid hSr
      have hcs'h := Lib.hid hcs
      have hG'h := Lib.hid hG
      have hfl'h := Lib.hid hfl
      have hkx'h := Lib.hid hkx
      have M'h := Lib.hid M
      have EE'h := Lib.hid EE
      have hend'h := Lib.hid hend
      have hnext'h := Lib.hid hnext
      clear hk hJk hSr hcs hG hfl hkx M EE hend hnext
      clear hp2
      gi_wp2_with (gi_at_call 37; refine (callsIn_wide.2 M'h.out).mono ?_; rintro e w3 ⟨rfl, rfl⟩)
      refine hR.mono ?_
      clear hR hy
      rintro e W' (⟨rfl, hJ3, hk3⟩ | ⟨rfl, hJx3, hk3⟩)
      · have hG3 := hG'h.out.keep (fun b hb hs => hk3.block b hb (.inl (hbs'h.out b hs)))
        have hcs3 : ∀ j, j < 2 → W'.cell? ⟨rg, j, none⟩ = some (.int .i64 (prB 2 h1 j)) := fun j hj => hk3.cell (p := ⟨rg, j, none⟩) (.inr hSr'h.out) (hcs'h.out j hj)
        clear hk3 hc cat
        by_cases hm : equalM ck 128 = 0
        · have d2 : ((equalM ck 128 : Int) != 0) = false := by simp [hm]
          have hn0 := hnext'h.out hm
          generalize equalM ck 128 = m at *
          have hJ3'h := Lib.hid hJ3
          have hG3'h := Lib.hid hG3
          have hcs3'h := Lib.hid hcs3
          have hm'h := Lib.hid hm
          have hn0'h := Lib.hid hn0
          clear hJ3 hG3 hcs3 hm hn0
          gi_wp2_with (gi_at_call 40; refine (callsIn_wide.2 (EE'h.out _)).mono ?_; rintro e w4 ⟨rfl, rfl⟩)
          go_roundg (gk - 1)
          case measure => have := hk'h.out; omega
          case rel => exact ⟨k + 1, S, by have := hk'h.out; omega, by go_num, hJ3'h.out, hSr'h.out, hcs3'h.out, hG3'h.out, fun _ => hn0'h.out⟩
        · have d2 : ((equalM ck 128 : Int) != 0) = true := by simp; omega
          have hke := hend'h.out hm
          generalize equalM ck 128 = m at *
          have hJ3'h := Lib.hid hJ3
          have hG3'h := Lib.hid hG3
          have hcs3'h := Lib.hid hcs3
          have hm'h := Lib.hid hm
          have hke'h := Lib.hid hke
          clear hJ3 hG3 hcs3 hm hke
          gi_wp2_with (gi_at_call 40; refine (callsIn_wide.2 (EE'h.out _)).mono ?_; rintro e w4 ⟨rfl, rfl⟩)
          simp only [Exit.noGoto]
          go_end0
          exact ⟨⟨_, rfl⟩, .inl ⟨_, by rw [← hke'h.out]; exact hJ3'h.out⟩⟩
      · clear hk3 hc cat
        have hJx3'h := Lib.hid hJx3
        clear hJx3
        gi_wp2
        simp only [Exit.noGoto]
        go_end0
        exact ⟨⟨_, rfl⟩, .inr ⟨_, hJx3'h.out⟩⟩
    · have hke : k = 2 := by omega
      subst hke
      have hlen := (hgo'h.out (hfl (by omega))).1
      clear hcs hk2 hk
      have hJk'h := Lib.hid hJk
      have hG'h := Lib.hid hG
      have hfl'h := Lib.hid hfl
      have hSr'h := Lib.hid hSr
      have hlen'h := Lib.hid hlen
      clear hJk hG hfl hSr hlen
      gi_wp2
      simp only [Exit.noGoto]
      go_end0
      exact ⟨⟨_, rfl⟩, .inl ⟨_, by rw [hlen'h.out]; exact hJk'h.out⟩⟩
end Go.Proofs.Ytoklgjlmjkhmbaa

/-
  Package look: Most.
-/
set_option linter.unusedSimpArgs false
set_option linter.unusedVariables false
set_option maxRecDepth 100000
namespace Go.Proofs.Ytoklgjlmjkhmbaa
open Go.RowKit

theorem ownsRow_len {w : World} {base : Nat} {e : TypeId} {size : Nat} {sp : Option Addr} {n cap k : Nat} {xs : List Value} (h : w.ownsRow base e size (.slice sp n cap) k xs) : n = k := by
  rcases h.2 with ⟨h1, h2⟩ | ⟨g, cp, cur, h1, _⟩
  · injection h1 with a b c; omega
  · injection h1
def accK (xs : List Nat) (h2 k : Nat) : Nat := 2 + ((xs.take k).map fun c => 1 + (lanesOf (equalM c h2)).length).sum
theorem accK_succ (xs : List Nat) (h2 : Nat) {k : Nat} (h : k < xs.length) : accK xs h2 (k + 1) = accK xs h2 k + (1 + (lanesOf (equalM (nthN xs k) h2)).length) := by
  unfold accK
  rw [List.take_succ_eq_append_getElem h, List.map_append, List.sum_append, nthN_eq h]
  simp; omega
def mostS (ws : List Nat) (slab hash : Nat) : Nat :=
  if nthN ws (16 + 40 * slab) % 2 = 1 then 1 else accK (groupsOf ws slab (hash / 128)) (hash % 128) (groupsOf ws slab (hash / 128)).length
structure MostI (N hb : Nat) (hash : Nat) (xs : List Nat) (w : World) (k : Nat) (S : Nat → Prop) (W : World) : Prop where
  acc : Own1 ⟨N, 0, none⟩ (.int .i64 (accK xs (hash % 128) k)) S W
  hbx : Own1 ⟨hb, 0, none⟩ (.int .u64 hash) S W
  old : Old w.heap.size w S W
theorem MostI.stable (N hb hash : Nat) (xs : List Nat) (w : World) (k : Nat) : Stable (MostI N hb hash xs w k) := fun S S' W W' h f =>
  ⟨Own1.stable _ _ _ _ _ _ h.acc f, Own1.stable _ _ _ _ _ _ h.hbx f, Old.stable _ _ _ _ _ _ h.old f⟩
def noXl (_c : Code) (_k : Nat) (_S : Nat → Prop) (_W : World) : Prop := False
theorem noXl_stable (c : Code) (k : Nat) : Stable (noXl c k) := fun _ _ _ _ h _ => h
theorem groups_any (fn : Fn) (fa fb : Array Value) (h1 : Nat) (w : World) : Calls Try.prog 38 #[.func fn fa fb, .int .u64 h1] w fun e w' => e = .returned (.func (.func 64) #[] #[.pointer (some ⟨w.heap.size + 1, 0, none⟩), .pointer (some ⟨w.heap.size, 0, none⟩)]) ∧ w' = (w.alloc (.cells #[.func fn fa fb] 79)).alloc (.cells #[.int .u64 h1] 29) := by
  go_enter Try.func38, Try.ntmps38
  go_wp2
  go_ret
  exact ⟨rfl, rfl⟩
theorem enters_groups (args : Array Value) (w : World) : (callFunc 64 args).run Try.prog w = .ok (.enter 64 args) w := by
  exact enters_of Try.func64 (by kernel_rfl) rfl args w
theorem groupsOf_lt {ws : List Nat} (h64 : W64 ws) (slab h1 : Nat) (hl : 16 + 40 * slab + 39 < ws.length) : ∀ c ∈ groupsOf ws slab h1, c < 2 ^ 64 := by
  have hcl : ∀ j, ctlW ws slab h1 j < 2 ^ 64 := fun j => by unfold ctlW; have hp := prB2 h1 j; exact h64 _ (nthN_mem (by omega))
  unfold groupsOf
  split <;> simp [hcl]
theorem accK_le (xs : List Nat) (h2 k : Nat) (hx : xs.length ≤ 2) : accK xs h2 k ≤ 20 := by
  unfold accK
  have hb : ∀ c, (lanesOf (equalM c h2)).length ≤ 8 := fun c => length_lanesOf _
  match xs, hx with
  | [], _ => simp
  | [c], _ => cases k with
    | zero => simp
    | succ k => have := hb c; simp; omega
  | [c, d], _ => match k with
    | 0 => simp
    | 1 => have := hb c; simp; omega
    | k + 2 => have := hb c; have := hb d; simp; omega
theorem groupsOf_len (ws : List Nat) (slab h1 : Nat) : (groupsOf ws slab h1).length ≤ 2 := by unfold groupsOf; split <;> simp
set_option maxHeartbeats 2000000 in
theorem most_even (sp : Option Addr) (n cap : Nat) (ws : List Nat) (slab hash : Nat) (w : World) (h64 : W64 ws) (hS : Sl w sp n (u64s ws)) (hn : 1 ≤ n ∧ n ≤ 8192) (ht : thereB n slab = true) (hh : hash < 2 ^ 64) (hev : nthN ws (16 + 40 * slab) % 2 ≠ 1) :
    Calls Try.prog 14 #[.slice sp n cap, .int .i64 slab, .int .u64 hash] w fun e w' => e = .returned (.tuple #[.int .i64 (mostS ws slab hash), .int .i64 0]) ∧ Below w.heap.size w w' := by
  have hlen : n = ws.length := by have := hS.1; rwa [u64s_length] at this
  have T := fun w => there_any sp n cap slab w (by omega)
  rw [if_pos hn, if_pos ht] at T
  have H := fun w => h1_any hash w
  obtain ⟨B, hBs⟩ : ∃ B, B = w.heap.size := ⟨_, rfl⟩
  obtain ⟨W0, hW0⟩ : ∃ W0, W0 = ((w.alloc (.cells #[.slice sp n cap] 22)).alloc (.cells #[.int .i64 slab] 3)).alloc (.cells #[.int .u64 hash] 29) := ⟨_, rfl⟩
  have hz0 : W0.heap.size = B + 3 := by rw [hW0, hBs]; simp
  have hb0 : Below w.heap.size w W0 := by rw [hW0]; exact (((Below.refl _ _).alloc (Nat.le_refl _) _).alloc (by simp) _).alloc (by simp; omega) _
  have x0 : W0.heap[B]? = some (.cells #[.slice sp n cap] 22 (0, 0)) := by rw [hW0, hBs]; exact (Below.heap_alloc _ _ _ (by simp; omega)).trans ((Below.heap_alloc _ _ _ (by simp)).trans (World.alloc_heap_new _ _))
  have x1 : W0.heap[B + 1]? = some (.cells #[.int .i64 slab] 3 (0, 0)) := by rw [hW0, hBs]; exact (Below.heap_alloc _ _ _ (by simp)).trans (heap_alloc2_new w _ _)
  have x2 : W0.heap[B + 2]? = some (.cells #[.int .u64 hash] 29 (0, 0)) := by
    rw [hW0, hBs]
    have := heap_alloc2_new (w.alloc (.cells #[.slice sp n cap] 22)) (.cells #[.int .i64 slab] 3) (.cells #[.int .u64 hash] 29)
    simpa using this
  have M := most1_any sp n cap (B + 1) B slab 0 ws W0 (hS.below hb0) hn.2 ht (by decide) (blk_cell x1 rfl) (blk_cell x0 rfl)
  have hS0 := hS.below hb0
  have hlow := u64_low (nthN ws (16 + 40 * slab)) (h64 _ (nthN_mem (by unfold thereB at ht; simp at ht; omega)))
  rw [Nat.add_zero] at M
  obtain ⟨m, hm⟩ : ∃ m, m = nthN ws (16 + 40 * slab) % 2 := ⟨_, rfl⟩
  rw [← hm] at hlow
  have hm1 : ((m : Int) == 1) = false := by simp; omega
  have G := fun fn fa fb w => groups_any fn fa fb (hash / 128) w
  have hms : mostS ws slab hash = accK (groupsOf ws slab (hash / 128)) (hash % 128) (groupsOf ws slab (hash / 128)).length := by
    unfold mostS; rw [if_neg hev]
  have hms'h := Lib.hid hms
  clear hms
  generalize nthN ws (16 + 40 * slab) = ct0 at *
  rw [show B + 2 = B + 1 + 1 by omega] at x2
  rw [hW0, hBs] at M
  have T'h := Lib.hid T
  have H'h := Lib.hid H
  have G'h := Lib.hid G
  have M'h := Lib.hid M
  have hS'h := Lib.hid hS
  have hS0'h := Lib.hid hS0
  have h64'h := Lib.hid h64
  have hn'h := Lib.hid hn
  have ht'h := Lib.hid ht
  have hh'h := Lib.hid hh
  have hev'h := Lib.hid hev
  have hlen'h := Lib.hid hlen
  have hb0'h := Lib.hid hb0
  have x0'h := Lib.hid x0
  have x1'h := Lib.hid x1
  have x2'h := Lib.hid x2
  have hz0'h := Lib.hid hz0
  have hm'h := Lib.hid hm
  have hBs'h := Lib.hid hBs
  have hW0'h := Lib.hid hW0
  clear T H G M hS hS0 h64 hn ht hh hev hlen hb0 x0 x1 x2 hz0 hm hBs hW0
  refine (callsIn_wide (n := 0)).1 ?_
  refine callsIn_of_wp_marks Try.func14 rfl trivial ?_
  simp only [Try.ntmps14, List.size_toArray, List.length_cons, List.length_nil, Nat.reduceAdd, Nat.reduceSub, Array.replicate_succ, Array.replicate_zero, List.push_toArray, List.append_toArray, List.nil_append, List.cons_append]
  refine wpIn_wide.2 ?_
  go_wp2_with (first | (go_at_call 36; refine (T'h.out _).mono ?_; rintro e w1 ⟨rfl, rfl⟩) | (go_at_call 37; refine M'h.out.mono ?_; rintro e w2 ⟨rfl, rfl⟩) | (go_at_call 31; refine (H'h.out _).mono ?_; rintro e w3 ⟨rfl, rfl⟩) | (go_at_call 38; refine (G'h.out _ _ _ _).mono ?_; rintro e w4 ⟨rfl, rfl⟩))
  obtain ⟨V, hV⟩ : ∃ V, V = ((W0.alloc (.cells #[.int .i64 2] 3)).alloc (.cells #[.func (.func 37) #[] #[.pointer (some ⟨w.heap.size + 1, 0, none⟩), .pointer (some ⟨w.heap.size, 0, none⟩)]] 79)).alloc (.cells #[.int .u64 ((hash : Int) / 128)] 29) := ⟨_, rfl⟩
  have hBw := hBs'h.out
  have hz0 := hz0'h.out
  have hzV : V.heap.size = B + 6 := by rw [hV]; simp; omega
  have hbV : Below W0.heap.size W0 V := by rw [hV]; exact (((Below.refl _ _).alloc (Nat.le_refl _) _).alloc (by simp) _).alloc (by simp; omega) _
  have y0 : V.heap[B]? = some (.cells #[.slice sp n cap] 22 (0, 0)) := heap_below hbV x0'h.out (by omega)
  have y1 : V.heap[B + 1]? = some (.cells #[.int .i64 slab] 3 (0, 0)) := heap_below hbV x1'h.out (by omega)
  have y2 : V.heap[B + 2]? = some (.cells #[.int .u64 hash] 29 (0, 0)) := heap_below hbV x2'h.out (by omega)
  have y3 : V.heap[B + 3]? = some (.cells #[.int .i64 2] 3 (0, 0)) := by
    rw [hV, ← hz0]; exact (Below.heap_alloc _ _ _ (by simp; omega)).trans ((Below.heap_alloc _ _ _ (by simp)).trans (World.alloc_heap_new _ _))
  have y4 : V.heap[B + 4]? = some (.cells #[.func (.func 37) #[] #[.pointer (some ⟨B + 1, 0, none⟩), .pointer (some ⟨B, 0, none⟩)]] 79 (0, 0)) := by
    rw [hV, hBw, show w.heap.size + 4 = W0.heap.size + 1 by omega]; exact (Below.heap_alloc _ _ _ (by simp)).trans (heap_alloc2_new W0 _ _)
  have y5 : V.heap[B + 5]? = some (.cells #[.int .u64 ((hash / 128 : Nat) : Int)] 29 (0, 0)) := by
    rw [hV, show B + 5 = W0.heap.size + 2 by omega, Int.natCast_ediv]
    have := heap_alloc2_new (W0.alloc (.cells #[.int .i64 2] 3)) (.cells #[.func (.func 37) #[] #[.pointer (some ⟨w.heap.size + 1, 0, none⟩), .pointer (some ⟨w.heap.size, 0, none⟩)]] 79) (.cells #[.int .u64 ((hash : Int) / 128)] 29)
    simpa using this
  have hSV : Sl V sp n (u64s ws) := (hS'h.out.below hb0'h.out).below hbV
  have hG : GrpC sp n cap (B + 5) (B + 4) (B + 1) B slab (hash / 128) ws V := ⟨y5, y4, y1, y0, hSV⟩
  have hsp : sp.map (·.block) ≠ some (B + 3) := by
    intro e
    have ht2 : 16 + 40 * slab + 39 < n := by have := ht'h.out; unfold thereB at this; simp at this; omega
    obtain ⟨ab, aoff, rfl, hcs⟩ := hS'h.out.some' (by omega)
    have := lt_of_cell (hcs 0 _ (List.getElem?_eq_getElem (by have := hS'h.out.1; omega)))
    have e' : ab = B + 3 := by simpa using e
    simp at this
    omega
  have hbig : Below w.heap.size w V := hb0'h.out.trans (hbV.mono (by omega))
  have hlt := groupsOf_lt h64'h.out slab (hash / 128) (by have := ht'h.out; unfold thereB at this; simp at this; have := hlen'h.out; omega)
  have h2c := groupsOf_len ws slab (hash / 128)
  have hit := groups_it sp n cap (B + 5) (B + 4) (B + 1) B slab (hash / 128) (B + 3) ws V hn'h.out.2 ht'h.out h64'h.out (by have := hh'h.out; omega) hG (by refine ⟨by omega, by omega, by omega, by omega, hsp⟩)
  refine (wpIn_wide (n := 0)).1 ?_
  rw [hW0'h.out] at hV
  rw [← hV]
  clear hV
  simp only [← hBw, Nat.add_assoc, Nat.reduceAdd]
  have hle20 := fun k => accK_le (groupsOf ws slab (hash / 128)) (hash % 128) k h2c
  have hsucc := fun k h => accK_succ (groupsOf ws slab (hash / 128)) (hash % 128) (k := k) h
  have hacc0 : accK (groupsOf ws slab (hash / 128)) (hash % 128) 0 = 2 := rfl
  have hO1 : Own1 ⟨B + 3, 0, none⟩ (.int .i64 2) (fun _ => False) V := ⟨blk_cell y3 rfl, blk_free _ y3, fun h => h⟩
  have hO2 : Own1 ⟨B + 2, 0, none⟩ (.int .u64 hash) (fun _ => False) V := ⟨blk_cell y2 rfl, blk_free _ y2, fun h => h⟩
  have hI0 : MostI (B + 3) (B + 2) hash (groupsOf ws slab (hash / 128)) w 0 (fun _ => False) V := ⟨hO1, hO2, hbig, Nat.le_refl _, fun b hb h => h⟩
  have H2 := fun w => h2_any hash w hh'h.out
  clear y0 y1 y2 y3 y4 y5 hG hO1 hO2 hsp
  generalize hxs : groupsOf ws slab (hash / 128) = xs at *
  have hle20'h := Lib.hid hle20
  have hsucc'h := Lib.hid hsucc
  have hacc0'h := Lib.hid hacc0
  have hI0'h := Lib.hid hI0
  have H2'h := Lib.hid H2
  have hit'h := Lib.hid hit
  have hlt'h := Lib.hid hlt
  have h2c'h := Lib.hid h2c
  have hSV'h := Lib.hid hSV
  have hbig'h := Lib.hid hbig
  have hxs'h := Lib.hid hxs
  have hbV'h := Lib.hid hbV
  have hBw'h := Lib.hid hBw
  have hz0'h := Lib.hid hz0
  have hzV'h := Lib.hid hzV
  clear hle20 hsucc hacc0 hI0 H2 hit hlt h2c hSV hbig hxs hbV hBw hz0 hzV
  refine' wpIn_range rfl (fun h => by cases h) rfl trivial enters_groups hit'h.out (fun b hb => False.elim hb) (fun _ => rfl)
    (fun b hb => ⟨hb.1, fun h => h⟩)
    (MostI (B + 3) (B + 2) hash xs w) noXl (MostI.stable _ _ _ _ _) noXl_stable hI0'h.out
    (AxOf _ (MostI (B + 3) (B + 2) hash xs w)) (AxOf.stable (MostI.stable _ _ _ _ _)) ?assign ?body ?done (fun _ _ _ _ _ _ _ _ _ h _ => h.elim)
  case assign =>
    intro l j S W2 hj hl hr hSb hI
    rw [nthN_eq hj]
    clear hr
    gi_wp2
    exact ⟨⟨rfl, hI⟩, Kept.refl _ _⟩
  case body =>
    rintro l j S a2 W2 r hj hl hlr hr hSb ⟨rfl, hI⟩
    have hhb : W2.cell? ⟨B + 2, 0, none⟩ = some (.int .u64 hash) := hI.hbx.cell
    have hac : W2.cell? ⟨B + 3, 0, none⟩ = some (.int .i64 (accK xs (hash % 128) j)) := hI.acc.cell
    have hfr := hI.acc.free
    have hc64 := hlt'h.out _ (nthN_mem hj)
    have E := fun w => equal_any (nthN xs j) (hash % 128) w hc64 (by omega)
    have hm8 : equalM (nthN xs j) (hash % 128) < 256 := equalM_lt8 _ _
    have A := fun w => all_any (equalM (nthN xs j) (hash % 128)) hm8 w
    have hb1 := hle20'h.out j
    have hb2 := hle20'h.out (j + 1)
    have hsu := hsucc'h.out j hj
    refine wpIn_block ?_
    refine wpIn_round_heldF (fun w' => w'.cell? ⟨B + 3, 0, none⟩ = some (.int .i64 (accK xs (hash % 128) j)) ∧ w'.cell? ⟨B + 2, 0, none⟩ = some (.int .u64 hash)) 9 (by kernel_rfl) (by kernel_rfl) (inBlock_noLet rangePost_noLet) ?_
    refine wpAnyF_take (i := 0) (v := .int .i64 (accK xs (hash % 128) j)) rfl (by kernel_rfl) (by kernel_rfl) (by kernel_rfl) (by kernel_rfl) (fun _ _ _ h => h) (Or.inl ⟨by rfl, ?_⟩) ⟨hac, hhb⟩ ?_
    · intro w hSw; (try dsimp only at hSw); go_simp
    simp only [Act.put, List.setIfInBounds_toArray, List.set_cons_zero, List.set_cons_succ]
    refine wpAnyF_take (i := 1) (v := .int .u64 (nthN xs j)) rfl (by kernel_rfl) (by kernel_rfl) (by kernel_rfl) (by kernel_rfl) (fun _ _ _ h => h) (Or.inl ⟨by rfl, ?_⟩) ⟨hac, hhb⟩ ?_
    · intro w hSw; (try dsimp only at hSw); go_simp
    simp only [Act.put, List.setIfInBounds_toArray, List.set_cons_zero, List.set_cons_succ]
    refine wpAnyF_take (i := 2) (v := .int .u64 hash) rfl (by kernel_rfl) (by kernel_rfl) (by kernel_rfl) (by kernel_rfl) (fun _ _ _ h => h) (Or.inl ⟨by rfl, ?_⟩) ⟨hac, hhb⟩ ?_
    · intro w hSw; (try dsimp only at hSw); go_simp
    try simp only [Act.put, List.setIfInBounds_toArray, List.set_cons_zero, List.set_cons_succ]
    refine wpAnyF_one (i := 3) (by kernel_rfl) rfl (fun K hK => ?_)
    go_simp
    refine (H2'h.out _).mono ?_
    rintro e w5 ⟨rfl, rfl⟩
    dsimp only
    refine hK.out _ _ (fun _ => ⟨hac, hhb⟩) ?_
    clear hK K
    try simp only [Act.put, List.setIfInBounds_toArray, List.set_cons_zero, List.set_cons_succ]
    refine wpAnyF_one (i := 4) (by kernel_rfl) rfl (fun K hK => ?_)
    go_simp
    refine (E _).mono ?_
    rintro e w5 ⟨rfl, rfl⟩
    dsimp only
    refine hK.out _ _ (fun _ => ⟨hac, hhb⟩) ?_
    clear hK K
    try simp only [Act.put, List.setIfInBounds_toArray, List.set_cons_zero, List.set_cons_succ]
    refine wpAnyF_one (i := 5) (by kernel_rfl) rfl (fun K hK => ?_)
    go_simp
    refine (A _).mono ?_
    rintro e w5 ⟨ls, ln, lc, rfl, hB5, hrow⟩
    have hln := ownsRow_len hrow
    have hl8 : (lanesOf (equalM (nthN xs j) (hash % 128))).length ≤ 8 := length_lanesOf _
    subst hln
    have ho5 : Own1 ⟨B + 3, 0, none⟩ (.int .i64 (accK xs (hash % 128) j)) S w5 := hI.acc.below ((Below.drew (Below.refl _ _)).trans hB5)
    have hf5 := ho5.free
    have hac5 : w5.cell? ⟨B + 3, 0, none⟩ = some (.int .i64 (accK xs (hash % 128) j)) := (hB5.cell (lt_of_cell hac)).trans hac
    have hhb5 : w5.cell? ⟨B + 2, 0, none⟩ = some (.int .u64 hash) := (hB5.cell (lt_of_cell hhb)).trans hhb
    dsimp only
    refine hK.out _ _ (fun _ => ⟨hac5, hhb5⟩) ?_
    clear hK K
    try simp only [Act.put, List.setIfInBounds_toArray, List.set_cons_zero, List.set_cons_succ]
    refine wpAnyF_take (i := 6) (v := .int .i64 ((lanesOf (equalM (nthN xs j) (hash % 128))).length : Int)) rfl (by kernel_rfl) (by kernel_rfl) (by kernel_rfl) (by kernel_rfl) (fun _ _ _ h => h) (Or.inl ⟨by rfl, ?_⟩) ⟨hac5, hhb5⟩ ?_
    · intro w hSw; (try dsimp only at hSw); go_simp
    simp only [Act.put, List.setIfInBounds_toArray, List.set_cons_zero, List.set_cons_succ]
    refine wpAnyF_take (i := 7) (v := .int .i64 ((1 + (lanesOf (equalM (nthN xs j) (hash % 128))).length : Nat) : Int)) rfl (by kernel_rfl) (by kernel_rfl) (by kernel_rfl) (by kernel_rfl) (fun _ _ _ h => h) (Or.inl ⟨by rfl, ?_⟩) ⟨hac5, hhb5⟩ ?_
    · intro w hSw; (try dsimp only at hSw); go_simp
      rw [IntKind.wrap_i64]; omega
    simp only [Act.put, List.setIfInBounds_toArray, List.set_cons_zero, List.set_cons_succ]
    refine wpAnyF_take (i := 8) (v := .int .i64 ((accK xs (hash % 128) j + (1 + (lanesOf (equalM (nthN xs j) (hash % 128))).length) : Nat) : Int)) rfl (by kernel_rfl) (by kernel_rfl) (by kernel_rfl) (by kernel_rfl) (fun _ _ _ h => h) (Or.inl ⟨by rfl, ?_⟩) ⟨hac5, hhb5⟩ ?_
    · intro w hSw; (try dsimp only at hSw); go_simp
      rw [IntKind.wrap_i64]; omega
    simp only [Act.put, List.setIfInBounds_toArray, List.set_cons_zero, List.set_cons_succ]
    refine wpAnyF_one (i := 9) (by kernel_rfl) rfl (fun K hK => ?_)
    go_simp
    refine hK.out _ _ (fun h => absurd rfl h) ?_
    clear hK K
    have hB := (Below.drew (Below.refl W2.heap.size W2)).trans hB5
    have hx5 : Own1 ⟨B + 2, 0, none⟩ (.int .u64 hash) S w5 := hI.hbx.below hB
    have hVz := hzV'h.out
    have hBz := hBw'h.out
    have hoth : ∀ b v, b ≠ B + 3 → (w5.setCell ⟨B + 3, 0, none⟩ v).heap[b]? = w5.heap[b]? := fun b v hb => Below.heap_setCell _ _ _ _ hb
    refine wpAnyF_done (by kernel_rfl) ?_ _
    refine ⟨⟨hB.os, hB.tape, hB.output, by rw [World.size_setCell]; exact hB.size, fun b hb hs => (hoth b _ ?_).trans (hB.block b hb)⟩, ⟨?_, ?_, ?_⟩⟩
    · rcases hs with ⟨_, hs⟩ | hs
      · exact hs
      · rintro rfl; exact hI.acc.mine hs
    · rw [hsu, show ((accK xs (hash % 128) j : Int) + (1 + ((lanesOf (equalM (nthN xs j) (hash % 128))).length : Int))) = ((accK xs (hash % 128) j + (1 + (lanesOf (equalM (nthN xs j) (hash % 128))).length) : Nat) : Int) by omega]
      exact ho5.set _
    · exact ⟨by rw [World.cell?_setCell_far _ _ _ _ (by simp)]; exact hx5.cell, (World.frozen?_of_block (hoth _ _ (by simp))).trans hx5.free, hx5.mine⟩
    · exact ⟨(hI.old.below.trans (hB.mono hI.old.below.size)).setCell (by simp; omega) _, Nat.le_refl _, hI.old.mine⟩
  case done =>
    rintro D S W3 hD hSD hr hI hK3
    have ca := hI.acc.cell
    have hob := hI.old.below
    rw [← hms'h.out] at ca
    have hI'h := Lib.hid hI
    have hK3'h := Lib.hid hK3
    have hr'h := Lib.hid hr
    have hob'h := Lib.hid hob
    clear hI hK3 hr hob
    go_wp2
    refine post_mark (.inl rfl) hK3'h.out (results_tmp2 rfl _ _ _) ⟨rfl, below_putObj hob'h.out (by have := hzV'h.out; have := hBw'h.out; omega) _⟩
set_option maxHeartbeats 2000000 in
theorem most_odd (sp : Option Addr) (n cap : Nat) (ws : List Nat) (slab hash : Nat) (w : World) (h64 : W64 ws) (hS : Sl w sp n (u64s ws)) (hn : 1 ≤ n ∧ n ≤ 8192) (ht : thereB n slab = true) (hev : nthN ws (16 + 40 * slab) % 2 = 1) :
    Calls Try.prog 14 #[.slice sp n cap, .int .i64 slab, .int .u64 hash] w fun e w' => e = .returned (.tuple #[.int .i64 1, .int .i64 0]) ∧ Below w.heap.size w w' := by
  have T := fun w => there_any sp n cap slab w (by omega)
  rw [if_pos hn, if_pos ht] at T
  obtain ⟨B, hBs⟩ : ∃ B, B = w.heap.size := ⟨_, rfl⟩
  obtain ⟨W0, hW0⟩ : ∃ W0, W0 = ((w.alloc (.cells #[.slice sp n cap] 22)).alloc (.cells #[.int .i64 slab] 3)).alloc (.cells #[.int .u64 hash] 29) := ⟨_, rfl⟩
  have hb0 : Below w.heap.size w W0 := by rw [hW0]; exact (((Below.refl _ _).alloc (Nat.le_refl _) _).alloc (by simp) _).alloc (by simp; omega) _
  have x0 : W0.heap[B]? = some (.cells #[.slice sp n cap] 22 (0, 0)) := by rw [hW0, hBs]; exact (Below.heap_alloc _ _ _ (by simp; omega)).trans ((Below.heap_alloc _ _ _ (by simp)).trans (World.alloc_heap_new _ _))
  have x1 : W0.heap[B + 1]? = some (.cells #[.int .i64 slab] 3 (0, 0)) := by rw [hW0, hBs]; exact (Below.heap_alloc _ _ _ (by simp)).trans (heap_alloc2_new w _ _)
  have M := most1_any sp n cap (B + 1) B slab 0 ws W0 (hS.below hb0) hn.2 ht (by decide) (blk_cell x1 rfl) (blk_cell x0 rfl)
  have hlow := u64_low (nthN ws (16 + 40 * slab)) (h64 _ (nthN_mem (by have := hS.1; rw [u64s_length] at this; unfold thereB at ht; simp at ht; omega)))
  rw [Nat.add_zero] at M
  rw [hev] at hlow
  generalize nthN ws (16 + 40 * slab) = ct0 at *
  rw [hW0, hBs] at M
  rw [hW0] at hb0
  have T'h := Lib.hid T
  have M'h := Lib.hid M
  have hS'h := Lib.hid hS
  have h64'h := Lib.hid h64
  have hn'h := Lib.hid hn
  have ht'h := Lib.hid ht
  have hb0'h := Lib.hid hb0
  clear T M hS h64 hn ht hb0
  clear hev x0 x1 hBs hW0
  refine (callsIn_wide (n := 0)).1 ?_
  refine callsIn_of_wp_marks Try.func14 rfl trivial ?_
  simp only [Try.ntmps14, List.size_toArray, List.length_cons, List.length_nil, Nat.reduceAdd, Nat.reduceSub, Array.replicate_succ, Array.replicate_zero, List.push_toArray, List.append_toArray, List.nil_append, List.cons_append]
  refine wpIn_wide.2 ?_
  go_wp2_with (first | (go_at_call 36; refine (T'h.out _).mono ?_; rintro e w1 ⟨rfl, rfl⟩) | (go_at_call 37; refine M'h.out.mono ?_; rintro e w2 ⟨rfl, rfl⟩))
  refine post_plain (.inl rfl) (results_tmp2 rfl _ _ _) ⟨rfl, hb0'h.out⟩
set_option maxHeartbeats 2000000 in
theorem most_no (sp : Option Addr) (n cap : Nat) (z : Int) (slab hash : Nat) (w : World) (hz : z ≠ 0) (T : ∀ w, Calls Try.prog 36 #[.slice sp n cap, .int .i64 slab] w fun e w' => e = .returned (.int .i64 z) ∧ w' = w) :
    Calls Try.prog 14 #[.slice sp n cap, .int .i64 slab, .int .u64 hash] w fun e w' => e = .returned (.tuple #[.int .i64 0, .int .i64 z]) ∧ Below w.heap.size w w' := by
  have hb0 : Below w.heap.size w (((w.alloc (.cells #[.slice sp n cap] 22)).alloc (.cells #[.int .i64 slab] 3)).alloc (.cells #[.int .u64 hash] 29)) := (((Below.refl _ _).alloc (Nat.le_refl _) _).alloc (by simp) _).alloc (by simp; omega) _
  have hz' : (z == 0) = false := by simp [hz]
  have T'h := Lib.hid T
  have hb0'h := Lib.hid hb0
  clear T hb0
  refine (callsIn_wide (n := 0)).1 ?_
  refine callsIn_of_wp_marks Try.func14 rfl trivial ?_
  simp only [Try.ntmps14, List.size_toArray, List.length_cons, List.length_nil, Nat.reduceAdd, Nat.reduceSub, Array.replicate_succ, Array.replicate_zero, List.push_toArray, List.append_toArray, List.nil_append, List.cons_append]
  refine wpIn_wide.2 ?_
  go_wp2_with (first | (go_at_call 36; refine (T'h.out _).mono ?_; rintro e w1 ⟨rfl, rfl⟩))
  refine post_plain (.inl rfl) (results_tmp2 rfl _ _ _) ⟨rfl, hb0'h.out⟩
end Go.Proofs.Ytoklgjlmjkhmbaa

/-
  The document's functions of layer 7, each by its contract.
-/
set_option linter.unusedSimpArgs false
set_option linter.unusedVariables false
namespace Go.Proofs.Ytoklgjlmjkhmbaa
open Go.RowKit

def powN (k : Nat) : Nat := 2 ^ k
def lowN (x k : Nat) : Nat := x % 2 ^ k
def highN (x k : Nat) : Nat := x / 2 ^ k * 2 ^ k
theorem two_pow_lt {k : Nat} (h : k < 64) : 2 ^ k < 2 ^ 64 := Nat.pow_lt_pow_right (by decide) h
theorem has_val {x p : Nat} {t : Bool} (hq : x / p < 2 ^ 64) (ht : (x / p % 2 == 1) = t) : ((IntKind.u64.wrap ((x : Int) / (p : Int))).tmod 2 == 1) = t := by
  rw [← ht, Bool.eq_iff_iff, beq_iff_eq, beq_iff_eq, ← Int.natCast_ediv, wrap_u64_nat _ hq, Int.tmod_eq_emod_of_nonneg (Int.natCast_nonneg _)]; omega
theorem mod_two_pow_lt (x k : Nat) (h : k ≤ 64) : x % 2 ^ k < 2 ^ 64 := Nat.lt_of_lt_of_le (Nat.mod_lt _ (Nat.two_pow_pos _)) (Nat.pow_le_pow_right (by decide) h)
theorem wrap_add {a b c : Nat} (h : c = a + b) (hc : c < 2 ^ 64) : IntKind.u64.wrap ((a : Int) + (b : Int)) = (c : Int) := by
  rw [IntKind.wrap_u64]; omega
theorem low_step {r k : Nat} (hk : k < 64) : (r.testBit k = true → IntKind.u64.wrap ((lowN r k : Int) + (powN k : Int)) = (lowN r (k + 1) : Int)) ∧ (r.testBit k = false → lowN r k = lowN r (k + 1)) := by
  have hn := low_next r k
  have hl1 := mod_two_pow_lt r (k + 1) (by omega)
  unfold lowN powN
  refine ⟨fun h => ?_, fun h => ?_⟩
  · rw [h, if_pos rfl] at hn; exact wrap_add hn hl1
  · rw [h] at hn; simpa using hn.symm
theorem low_all {r : Nat} (hr : r < 2 ^ 64) : lowN r 64 = r := Nat.mod_eq_of_lt hr
theorem low_none (r : Nat) : lowN r 0 = 0 := Nat.mod_one r
theorem wrap_div {x p : Nat} (hx : x < 2 ^ 64) : IntKind.u64.wrap ((x : Int) / (p : Int)) = ((x / p : Nat) : Int) := by
  rw [← Int.natCast_ediv, wrap_u64_nat _ (Nat.lt_of_le_of_lt (Nat.div_le_self _ _) hx)]
theorem high_step {r k : Nat} (hr : r < 2 ^ 64) : (r.testBit k = true → IntKind.u64.wrap ((highN r (k + 1) : Int) + (powN k : Int)) = (highN r k : Int)) ∧ (r.testBit k = false → highN r (k + 1) = highN r k) := by
  have hn := high_next r k
  have hl : r / 2 ^ k * 2 ^ k < 2 ^ 64 := Nat.lt_of_le_of_lt (Nat.div_mul_le_self _ _) hr
  unfold highN powN
  refine ⟨fun h => ?_, fun h => ?_⟩
  · rw [h, if_pos rfl] at hn; exact wrap_add hn hl
  · rw [h] at hn; simpa using hn.symm
theorem high_all {r : Nat} : highN r 0 = r := by unfold highN; simp
theorem high_none {r : Nat} (hr : r < 2 ^ 64) : highN r 64 = 0 := by unfold highN; rw [Nat.div_eq_of_lt hr, Nat.zero_mul]
theorem high_lt {r : Nat} (k : Nat) (hr : r < 2 ^ 64) : highN r k < 2 ^ 64 := Nat.lt_of_le_of_lt (Nat.div_mul_le_self _ _) hr
theorem wrap_mul (a c : Nat) : IntKind.u64.wrap ((a : Int) * (c : Int)) = ((a * c % 2 ^ 64 : Nat) : Int) := by
  rw [IntKind.wrap_u64, ← Int.natCast_mul]; omega
end Go.Proofs.Ytoklgjlmjkhmbaa

/-
  The document's answers of layer 7, each by its contract.
-/
set_option linter.unusedSimpArgs false
set_option linter.unusedVariables false
namespace Go.Proofs.Ytoklgjlmjkhmbaa
open Go.RowKit

theorem mul_one' (x : Nat) : IntKind.u64.wrap ((x : Int) * 13787848793156543929) = ((hMul x hOne : Nat) : Int) := wrap_mul x hOne
theorem mul_two' (x : Nat) : IntKind.u64.wrap ((x : Int) * 10723151780598845931) = ((hMul x hTwo : Nat) : Int) := wrap_mul x hTwo
theorem ref_h1 (h : Nat) (w : World) (hh : h < 2 ^ 64) : Calls Try.prog 42 #[.int .u64 h] w fun e w' => e = .returned (.int .u64 (h / 128 : Nat)) ∧ w' = w := by
  have hw : IntKind.u64.wrap ((h : Int) / 128) = ((h / 128 : Nat) : Int) := wrap_div (p := 128) hh
  have hh'h := Lib.hid hh
  have hw'h := Lib.hid hw
  clear hh hw
  go_enter Try.func42, Try.ntmps42
  go_wp2
  go_ret
  exact ⟨ret_u64 (by have := hw'h.out; have := hh'h.out; omega), rfl⟩
theorem ref_h2 (h : Nat) (w : World) (hh : h < 2 ^ 64) : Calls Try.prog 45 #[.int .u64 h] w fun e w' => e = .returned (.int .u8 (h % 128 : Nat)) ∧ w' = w := by
  have hh'h := Lib.hid hh
  clear hh
  go_enter Try.func45, Try.ntmps45
  go_wp2
  go_ret
  refine ⟨ret_u8 ?_, rfl⟩
  first | omega | (rw [Int.tmod_eq_emod_of_nonneg (Int.natCast_nonneg _), IntKind.wrap_u8]; omega)
theorem prefix_step {h k : Nat} (hh : h < 2 ^ 64) (hk : k < 64) : (h.testBit (63 - k) = true → IntKind.u64.wrap (IntKind.u64.wrap (2 * (hPrefix h k : Int)) + 1) = (hPrefix h (k + 1) : Int)) ∧ (h.testBit (63 - k) = false → IntKind.u64.wrap (2 * (hPrefix h k : Int)) = (hPrefix h (k + 1) : Int)) := by
  have hn := prefix_next (a := h) hk
  have hl := hPrefix_lt (k + 1) hh
  simp only [IntKind.wrap_u64]
  refine ⟨fun e => ?_, fun e => ?_⟩
  · rw [e, if_pos rfl] at hn; omega
  · rw [e] at hn; simp at hn; omega
theorem prefix_none {h : Nat} (hh : h < 2 ^ 64) : hPrefix h 0 = 0 := Nat.div_eq_of_lt hh
end Go.Proofs.Ytoklgjlmjkhmbaa

