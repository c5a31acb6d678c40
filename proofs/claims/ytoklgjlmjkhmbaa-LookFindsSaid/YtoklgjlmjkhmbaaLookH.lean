/-
  Package look: the control words of a row.
-/
import Derived.Test.YtoklgjlmjkhmbaaLookG
import Derived.OwnWalkIn
import Derived.Sort.LoopGhostIn
import Derived.Test.YtoklgjlmjkhmbaaLanesS
set_option linter.unusedSimpArgs false
set_option linter.unusedVariables false
set_option maxRecDepth 100000
namespace Go.Proofs.Ytoklgjlmjkhmbaa
open Go.RowKit

theorem most1_any (sp : Option Addr) (n cap sb wb slab word : Nat) (ws : List Nat) (w : World) (hS : Sl w sp n (u64s ws)) (hn : n ≤ 8192) (ht : thereB n slab = true) (hw : word < 40)
    (hs : w.cell? ⟨sb, 0, none⟩ = some (.int .i64 slab)) (hb : w.cell? ⟨wb, 0, none⟩ = some (.slice sp n cap)) :
    Calls Try.prog 37 #[.int .i64 word, .pointer (some ⟨sb, 0, none⟩), .pointer (some ⟨wb, 0, none⟩)] w fun e w' => e = .returned (.int .u64 (nthN ws (16 + 40 * slab + word))) ∧ w' = w := by
  have hlen : n = ws.length := by have := hS.1; rwa [u64s_length] at this
  have ht' : slab < 128 ∧ 16 + 40 * slab + 39 < n := by unfold thereB at ht; simp at ht; omega
  have L := fun w => cell_yes slab word w ht'.1 hw
  obtain ⟨ab, aoff, rfl, hcs⟩ := hS.some' (by omega)
  have c1 := hcs (16 + 40 * slab + word) _ (u64s_at (by omega))
  have hlt : 16 + 40 * slab + word < n := by omega
  generalize nthN ws (16 + 40 * slab + word) = x at *
  generalize 16 + 40 * slab + word = cl at *
  have hcl : (cl : Int) < (n : Int) := by omega
  clear hcs hS ht ht'
  have L'h := Lib.hid L
  have hlt'h := Lib.hid hlt
  have hlen'h := Lib.hid hlen
  clear L hlt hlen
  go_enter Try.func37, Try.ntmps37
  go_wp2_with (go_at_call 29; refine (L'h.out _).mono ?_; rintro e w2 ⟨rfl, rfl⟩)
  go_ret
  exact ⟨rfl, rfl⟩
theorem foreign_new {S : Nat → Prop} {W W' : World} (h : Below W.heap.size W W') : Foreign S (fun b => S b ∨ (W.heap.size ≤ b ∧ b < W'.heap.size)) W W' :=
  ⟨h.os, h.tape, h.output, h.size, fun _ h => .inl h, fun _ h => h, fun b hb _ => h.block b hb⟩
/-- The control words that are looked at. -/
def ctlW (ws : List Nat) (slab h1 j : Nat) : Nat := nthN ws (16 + 40 * slab + (4 + prB 2 h1 j))
def groupsOf (ws : List Nat) (slab h1 : Nat) : List Nat := if equalM (ctlW ws slab h1 0) 128 = 0 then [ctlW ws slab h1 0, ctlW ws slab h1 1] else [ctlW ws slab h1 0]
theorem zN_row {h1 j : Nat} (hj : j < 2) : (zN (rowB 2 h1))[j]? = some (.int .i64 (prB 2 h1 j)) := by
  unfold zN rowB
  rw [List.getElem?_map, List.getElem?_map, List.getElem?_map, List.getElem?_range hj]; rfl
/-- What the iterator reads. -/
structure GrpC (sp : Option Addr) (n cap b1 b2 sb wb slab h1 : Nat) (ws : List Nat) (W : World) : Prop where
  h1c : W.heap[b1]? = some (.cells #[.int .u64 h1] 29 (0, 0))
  atc : W.heap[b2]? = some (.cells #[.func (.func 37) #[] #[.pointer (some ⟨sb, 0, none⟩), .pointer (some ⟨wb, 0, none⟩)]] 79 (0, 0))
  sc : W.heap[sb]? = some (.cells #[.int .i64 slab] 3 (0, 0))
  wc : W.heap[wb]? = some (.cells #[.slice sp n cap] 22 (0, 0))
  sl : Sl W sp n (u64s ws)
theorem GrpC.keep {sp : Option Addr} {n cap b1 b2 sb wb slab h1 : Nat} {ws : List Nat} {W W' : World} (h : GrpC sp n cap b1 b2 sb wb slab h1 ws W) (hk : ∀ b, b < W.heap.size → (b = b1 ∨ b = b2 ∨ b = sb ∨ b = wb ∨ sp.map (·.block) = some b) → W'.heap[b]? = W.heap[b]?) : GrpC sp n cap b1 b2 sb wb slab h1 ws W' :=
  ⟨(hk _ (lt_of_heap h.h1c) (.inl rfl)).trans h.h1c, (hk _ (lt_of_heap h.atc) (.inr (.inl rfl))).trans h.atc, (hk _ (lt_of_heap h.sc) (.inr (.inr (.inl rfl)))).trans h.sc, (hk _ (lt_of_heap h.wc) (.inr (.inr (.inr (.inl rfl))))).trans h.wc,
    h.sl.keep fun b o hlt hs ho => (hk b hlt (.inr (.inr (.inr (.inr hs))))).trans ho⟩
set_option maxHeartbeats 2000000 in
theorem groups_it (sp : Option Addr) (n cap b1 b2 sb wb slab h1 N : Nat) (ws : List Nat) (w : World) (hn : n ≤ 8192) (ht : thereB n slab = true) (h64 : W64 ws) (hh : h1 < 2 ^ 64) (hC : GrpC sp n cap b1 b2 sb wb slab h1 ws w)
    (hN : b1 ≠ N ∧ b2 ≠ N ∧ sb ≠ N ∧ wb ≠ N ∧ sp.map (·.block) ≠ some N) :
    SeqIt Fence.wide 0 Try.prog 64 #[.pointer (some ⟨b1, 0, none⟩), .pointer (some ⟨b2, 0, none⟩)] (fun c : Nat => #[.int .u64 c]) (groupsOf ws slab h1) (fun _ => False) (fun b => b < w.heap.size ∧ b ≠ N) w := by
  intro l J Jx W hJ hJx hW hY h0
  have hCW := hC.keep fun b hb _ => hW.block b hb
  have hbs : ∀ b, (b = b1 ∨ b = b2 ∨ b = sb ∨ b = wb ∨ sp.map (·.block) = some b) → b < w.heap.size ∧ b ≠ N := by
    intro b hb
    obtain ⟨n1, n2, n3, n4, n5⟩ := hN
    rcases hb with rfl | rfl | rfl | rfl | hb
    · exact ⟨lt_of_heap hC.h1c, n1⟩
    · exact ⟨lt_of_heap hC.atc, n2⟩
    · exact ⟨lt_of_heap hC.sc, n3⟩
    · exact ⟨lt_of_heap hC.wc, n4⟩
    · refine ⟨?_, fun e => n5 (by rw [hb, e])⟩
      have ht2 : 16 + 40 * slab + 39 < n := by unfold thereB at ht; simp at ht; omega
      obtain ⟨ab, aoff, rfl, hcs⟩ := hC.sl.some' (by omega)
      have : ab = b := by simpa using hb
      subst this
      have := hcs 0 _ (List.getElem?_eq_getElem (by have := hC.sl.1; omega))
      exact lt_of_cell this
  have RW := fun w => row_yes 2 h1 w rfl hh
  have hpos : 0 < (groupsOf ws slab h1).length := by unfold groupsOf; split <;> simp
  have hc0 : nthN (groupsOf ws slab h1) 0 = ctlW ws slab h1 0 := by unfold groupsOf; split <;> rfl
  have hstop : equalM (ctlW ws slab h1 0) 128 ≠ 0 → (groupsOf ws slab h1).length = 1 := fun h => by unfold groupsOf; rw [if_neg h]; rfl
  have hgo : equalM (ctlW ws slab h1 0) 128 = 0 → (groupsOf ws slab h1).length = 2 ∧ nthN (groupsOf ws slab h1) 1 = ctlW ws slab h1 1 := fun h => by unfold groupsOf; rw [if_pos h]; exact ⟨rfl, rfl⟩
  have hcl : ∀ j, ctlW ws slab h1 j < 2 ^ 64 := fun j => by
    unfold ctlW
    have ht2 : 16 + 40 * slab + 39 < n := by unfold thereB at ht; simp at ht; omega
    have hp := prB2 h1 j
    refine h64 _ (nthN_mem ?_)
    have := hC.sl.1
    rw [u64s_length] at this
    omega
  have M1 := fun j w (hS : Sl w sp n (u64s ws)) hs hb => most1_any sp n cap sb wb slab (4 + prB 2 h1 j) ws w hS hn ht (by have := prB2 h1 j; omega) hs hb
  have E := fun j w => equal_any (ctlW ws slab h1 j) 128 w (hcl j) (by decide)
  have c1 : W.cell? ⟨b1, 0, none⟩ = some (.int .u64 h1) := blk_cell hCW.h1c rfl
  generalize groupsOf ws slab h1 = xs at *
  have hfold : ∀ j, nthN ws (16 + 40 * slab + (4 + prB 2 h1 j)) = ctlW ws slab h1 j := fun _ => rfl
  simp only [hfold] at M1
  have RW'h := Lib.hid RW
  have M1'h := Lib.hid M1
  have E'h := Lib.hid E
  have hpos'h := Lib.hid hpos
  have hc0'h := Lib.hid hc0
  have hstop'h := Lib.hid hstop
  have hgo'h := Lib.hid hgo
  have hcl'h := Lib.hid hcl
  have hCW'h := Lib.hid hCW
  have hbs'h := Lib.hid hbs
  have hJ'h := Lib.hid hJ
  have hJx'h := Lib.hid hJx
  have hY'h := Lib.hid hY
  have h0'h := Lib.hid h0
  have hW'h := Lib.hid hW
  have hC'h := Lib.hid hC
  have hN'h := Lib.hid hN
  have ht'h := Lib.hid ht
  have h64'h := Lib.hid h64
  have hh'h := Lib.hid hh
  have hn'h := Lib.hid hn
  clear RW M1 E hpos hc0 hstop hgo hcl hCW hbs hJ hJx hY h0 hW hC hN ht h64 hh hn
  clear hfold
  refine callsIn_of_wp Try.func64 rfl trivial ?_ rfl
  simp only [Try.ntmps64, List.size_toArray, List.length_cons, List.length_nil, Nat.reduceAdd, Nat.reduceSub, Array.replicate_succ, Array.replicate_zero, List.push_toArray, List.append_toArray, List.nil_append, List.cons_append]
  gi_wp2
  refine wpIn_scope_straight ?_
  gi_wp2_with (gi_at_call 30; refine (callsIn_wide.2 (RW'h.out _)).mono ?_; rintro e w9 ⟨rs, rcap, rfl, hB9, hrow9⟩)
  have hJ1 := hJ'h.out 0 _ _ _ _ h0'h.out (foreign_new hB9)
  have hC9 := hCW'h.out.keep fun b hb _ => hB9.block b hb
  have hrc : ∃ rg, rs = some ⟨rg, 0, none⟩ ∧ (W.heap.size ≤ rg ∧ rg < w9.heap.size) ∧ ∀ j, j < 2 → w9.cell? ⟨rg, j, none⟩ = some (.int .i64 (prB 2 h1 j)) := by
    rcases hrow9.2 with ⟨_, h0⟩ | ⟨rg, cp, cur, h1', hg, hh', hq⟩
    · omega
    · injection h1' with h1'
      refine ⟨rg, h1', ⟨hg, lt_of_heap hh'⟩, fun j hj => ?_⟩
      subst h1'
      exact row_cell hrow9 hj (zN_row hj)
  obtain ⟨rg, rfl, hrg, hrc⟩ := hrc
  clear hB9 hrow9 c1
  have hJ1'h := Lib.hid hJ1
  have hC9'h := Lib.hid hC9
  have hrg'h := Lib.hid hrg
  have hrc'h := Lib.hid hrc
  clear hJ1 hC9 hrg hrc
  refine wpIn_label ?_
  gi_wp2
  gi_loopg [16] 2 (fun q i wr => ∃ (k : Nat) (S : Nat → Prop), k + q = 2 ∧ i = .int .i64 k ∧ J k S wr ∧ S rg ∧ (∀ j, j < 2 → wr.cell? ⟨rg, j, none⟩ = some (.int .i64 (prB 2 h1 j))) ∧ GrpC sp n cap b1 b2 sb wb slab h1 ws wr ∧ (1 ≤ k → equalM (ctlW ws slab h1 0) 128 = 0))
  case atStart => exact ⟨0, _, by omega, rfl, hJ1'h.out, .inr hrg'h.out, hrc'h.out, hC9'h.out, fun h => absurd h (by omega)⟩
  case round =>
    obtain ⟨k, S, hk, rfl, hJk, hSr, hcs, hG, hfl⟩ := hrel
    by_cases hk2 : k < 2
    · have hkx : k < xs.length ∧ nthN xs k = ctlW ws slab h1 k := by
        rcases (show k = 0 ∨ k = 1 by omega) with rfl | rfl
        · exact ⟨hpos'h.out, hc0'h.out⟩
        · have := hgo'h.out (hfl (by omega)); exact ⟨by omega, this.2⟩
      obtain ⟨fn, tmps, assign, body, hy, hR⟩ := hY'h.out k _ wr hJk hkx.1
      rw [nthN_eq hkx.1, hkx.2] at hy
      have hc := hcs k hk2
      have hp2 := prB2 h1 k
      have M := M1'h.out k wr hG.sl (blk_cell hG.sc rfl) (blk_cell hG.wc rfl)
      rw [show ((4 + prB 2 h1 k : Nat) : Int) = 4 + (prB 2 h1 k : Int) by omega] at M
      have hp2' : (prB 2 h1 k : Int) < 2 := by omega
      have cat := blk_cell (i := 0) hG.atc rfl
      have EE := fun w => E'h.out k w
      have hend : equalM (ctlW ws slab h1 k) 128 ≠ 0 → k + 1 = xs.length := fun h => by
        rcases (show k = 0 ∨ k = 1 by omega) with rfl | rfl
        · rw [hstop'h.out h]
        · rw [(hgo'h.out (hfl (by omega))).1]
      have hnext : equalM (ctlW ws slab h1 k) 128 = 0 → equalM (ctlW ws slab h1 0) 128 = 0 := fun h => by
        rcases (show k = 0 ∨ k = 1 by omega) with rfl | rfl
        · exact h
        · exact hfl (by omega)
      have hlt2 : (k : Int) < 2 := by omega
      generalize ctlW ws slab h1 k = ck at *
      generalize prB 2 h1 k = pk at *
      have hk'h := Lib.hid hk
      have hJk'h := Lib.hid hJk
      have hSr'h := Lib.hid hSr
      have hcs'h := Lib.hid hcs
      have hG'h := Lib.hid hG
      have hfl'h := Lib.hid hfl
      have hkx'h := Lib.hid hkx
      have M'h := Lib.hid M
      have EE'h := Lib.hid EE
      have hend'h := Lib.hid hend
      have hnext'h := Lib.hid hnext
      clear hk hJk hSr hcs hG hfl hkx M EE hend hnext
      clear hp2
      gi_wp2_with (gi_at_call 37; refine (callsIn_wide.2 M'h.out).mono ?_; rintro e w3 ⟨rfl, rfl⟩)
      refine hR.mono ?_
      clear hR hy
      rintro e W' (⟨rfl, hJ3, hk3⟩ | ⟨rfl, hJx3, hk3⟩)
      · have hG3 := hG'h.out.keep (fun b hb hs => hk3.block b hb (.inl (hbs'h.out b hs)))
        have hcs3 : ∀ j, j < 2 → W'.cell? ⟨rg, j, none⟩ = some (.int .i64 (prB 2 h1 j)) := fun j hj => hk3.cell (p := ⟨rg, j, none⟩) (.inr hSr'h.out) (hcs'h.out j hj)
        clear hk3 hc cat
        by_cases hm : equalM ck 128 = 0
        · have d2 : ((equalM ck 128 : Int) != 0) = false := by simp [hm]
          have hn0 := hnext'h.out hm
          generalize equalM ck 128 = m at *
          have hJ3'h := Lib.hid hJ3
          have hG3'h := Lib.hid hG3
          have hcs3'h := Lib.hid hcs3
          have hm'h := Lib.hid hm
          have hn0'h := Lib.hid hn0
          clear hJ3 hG3 hcs3 hm hn0
          gi_wp2_with (gi_at_call 40; refine (callsIn_wide.2 (EE'h.out _)).mono ?_; rintro e w4 ⟨rfl, rfl⟩)
          go_roundg (gk - 1)
          case measure => have := hk'h.out; omega
          case rel => exact ⟨k + 1, S, by have := hk'h.out; omega, by go_num, hJ3'h.out, hSr'h.out, hcs3'h.out, hG3'h.out, fun _ => hn0'h.out⟩
        · have d2 : ((equalM ck 128 : Int) != 0) = true := by simp; omega
          have hke := hend'h.out hm
          generalize equalM ck 128 = m at *
          have hJ3'h := Lib.hid hJ3
          have hG3'h := Lib.hid hG3
          have hcs3'h := Lib.hid hcs3
          have hm'h := Lib.hid hm
          have hke'h := Lib.hid hke
          clear hJ3 hG3 hcs3 hm hke
          gi_wp2_with (gi_at_call 40; refine (callsIn_wide.2 (EE'h.out _)).mono ?_; rintro e w4 ⟨rfl, rfl⟩)
          simp only [Exit.noGoto]
          go_end0
          exact ⟨⟨_, rfl⟩, .inl ⟨_, by rw [← hke'h.out]; exact hJ3'h.out⟩⟩
      · clear hk3 hc cat
        have hJx3'h := Lib.hid hJx3
        clear hJx3
        gi_wp2
        simp only [Exit.noGoto]
        go_end0
        exact ⟨⟨_, rfl⟩, .inr ⟨_, hJx3'h.out⟩⟩
    · have hke : k = 2 := by omega
      subst hke
      have hlen := (hgo'h.out (hfl (by omega))).1
      clear hcs hk2 hk
      have hJk'h := Lib.hid hJk
      have hG'h := Lib.hid hG
      have hfl'h := Lib.hid hfl
      have hSr'h := Lib.hid hSr
      have hlen'h := Lib.hid hlen
      clear hJk hG hfl hSr hlen
      gi_wp2
      simp only [Exit.noGoto]
      go_end0
      exact ⟨⟨_, rfl⟩, .inl ⟨_, by rw [hlen'h.out]; exact hJk'h.out⟩⟩
end Go.Proofs.Ytoklgjlmjkhmbaa
