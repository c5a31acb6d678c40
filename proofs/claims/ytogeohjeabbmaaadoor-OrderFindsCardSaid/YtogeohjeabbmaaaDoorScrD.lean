/-
  Layer 3 (script): scripts in memory; may a script be?
-/
import Derived.Test.YtogeohjeabbmaaaDoorScrC
set_option linter.unusedSimpArgs false
set_option linter.unusedVariables false
set_option maxRecDepth 100000
namespace Go.Proofs.YtogeohjeabbmaaaDoor
open Go.RowKit

structure Scr where
  goers : Int
  slabs : Int
  seed : Nat
  lists : List (List Cal)
  picks : List Nat
deriving DecidableEq
def sizesS (s : Scr) : Bool := decide (1 ≤ s.goers) && decide (s.goers ≤ 8) && decide (2 ≤ s.slabs) && decide (s.slabs ≤ 128)
def headS (s : Scr) : Bool := sizesS s && decide ((s.lists.length : Int) = s.goers) && decide (s.picks.length ≤ 4096)
/-- May a script be? -/
def rightS (s : Scr) : Bool := headS s && (decide (s.lists.flatten.length ≤ 64) && s.lists.flatten.all rightC)
def chkS (s : Scr) : Int := if rightS s = true then 0 else 130

/-- A script as it lies in memory. -/
structure Sm where
  goers : Int
  slabs : Int
  seed : Nat
  lp : Option Addr
  ln : Nat
  lc : Nat
  rows : List CRow
  pp : Option Addr
  pn : Nat
  pc : Nat
  picks : List Nat
def smA (s : Sm) : Array Value := #[.int .i64 s.goers, .int .i64 s.slabs, .int .u64 (s.seed : Int), .slice s.lp s.ln s.lc, .slice s.pp s.pn s.pc]
def Sm.scr (s : Sm) : Scr := ⟨s.goers, s.slabs, s.seed, s.rows.map (·.cs), s.picks⟩
structure SmIn (w : World) (s : Sm) : Prop where
  rows : RowsIn w s.lp s.ln s.rows
  picks : Sl w s.pp s.pn (u64s s.picks)
  w64 : W64 s.picks
  seed : s.seed < 2 ^ 64
  g : -9223372036854775808 ≤ s.goers ∧ s.goers ≤ 9223372036854775807
  sl : -9223372036854775808 ≤ s.slabs ∧ s.slabs ≤ 9223372036854775807
  lnil : s.lp = none → s.lc = 0
  lle : s.ln ≤ s.lc
  pnil : s.pp = none → s.pc = 0
  ple : s.pn ≤ s.pc
  many : s.pn ≤ 4200
theorem SmIn.below {w w' : World} {s : Sm} (h : SmIn w s) (hb : Below w.heap.size w w') : SmIn w' s :=
  ⟨h.rows.below hb, h.picks.below hb, h.w64, h.seed, h.g, h.sl, h.lnil, h.lle, h.pnil, h.ple, h.many⟩
theorem catC_all (rows : List CRow) : catC rows rows.length = (rows.map (·.cs)).flatten := by
  unfold catC; rw [List.take_length, List.flatMap_def]
theorem SmIn.ln {w : World} {s : Sm} (h : SmIn w s) : s.ln = s.scr.lists.length := by rw [h.rows.len]; simp [Sm.scr]
theorem SmIn.pn {w : World} {s : Sm} (h : SmIn w s) : s.pn = s.scr.picks.length := by have := h.picks.1; rw [u64s_length] at this; exact this
theorem SmIn.cat {w : World} {s : Sm} (h : SmIn w s) : catC s.rows s.ln = s.scr.lists.flatten := by rw [h.rows.len, catC_all]; rfl

theorem info_sm : (Tryd.prog.info? 92).map (·.size) = some 5 := by kernel_rfl
set_option maxHeartbeats 1000000 in
theorem check_any (s : Sm) (w : World) (hT : Tks w) (h : SmIn w s) :
    Calls Tryd.prog 54 #[.agg (smA s)] w fun e w' => e = .returned (.int .i64 (chkS s.scr)) ∧ Below w.heap.size w w' := by
  have hln := h.ln
  have hpn := h.pn
  have hcat := h.cat
  have hB1 : Below w.heap.size w (w.alloc (.cells (smA s) 92)) := (Below.refl _ _).alloc (Nat.le_refl _) _
  have C := concatC_any s.lp s.ln s.lc s.rows _ (h.rows.below hB1)
  have hT1 := hT.next hB1
  rw [hcat] at C
  have e1 : chkS s.scr = if (headS s.scr && (decide (s.scr.lists.flatten.length ≤ 64) && s.scr.lists.flatten.all rightC)) = true then 0 else 130 := rfl
  have e2 : headS s.scr = (decide (1 ≤ s.goers) && decide (s.goers ≤ 8) && decide (2 ≤ s.slabs) && decide (s.slabs ≤ 128) && decide ((s.scr.lists.length : Int) = s.goers) && decide (s.scr.picks.length ≤ 4096)) := rfl
  rw [e1, e2, ← hln, ← hpn]
  generalize s.scr.lists.flatten = cs at *
  clear e1 e2 hln hpn hcat h hT
  obtain ⟨g, sb, seed, lp, ln, lc, rows, pp, pn, pc, picks⟩ := s
  simp only [smA] at C hB1 hT1 ⊢
  have C'h := Lib.hid C
  have hB1'h := Lib.hid hB1
  have hT1'h := Lib.hid hT1
  clear C hB1 hT1
  by_cases h1 : 1 ≤ g
  · by_cases h2 : g ≤ 8
    · by_cases h3 : 2 ≤ sb
      · by_cases h4 : sb ≤ 128
        · by_cases h5 : (ln : Int) = g
          · by_cases h6 : pn ≤ 4096
            · subst h5
              simp only [h1, h2, h3, h4, h6, decide_true, Bool.true_and, Bool.and_true, Bool.and_self]
              obtain ⟨r, hr⟩ : ∃ r : Int, r = (if (decide (cs.length ≤ 64) && cs.all rightC) = true then 0 else 130) := ⟨_, rfl⟩
              rw [← hr]
              have hr'h := Lib.hid hr
              clear hr
              go_enter Tryd.func54, Tryd.ntmps54
              go_wp2_with fail
              refine C'h.out.mono ?_
              rintro e w2 ⟨sp, cp, rfl, hB2, hrow⟩
              have hBw2 := hB1'h.out.trans (hB2.mono hB1'h.out.size)
              have hT2 := hT1'h.out.next hB2
              have hb1056 : cs.length ≤ maxLen := by
                obtain ⟨s9, c9, hv, hle, -, -⟩ := row_form hrow
                rcases hrow.2 with ⟨hv, h0⟩ | ⟨g', cap', cur, hv, -, -, hx, hy, -, -⟩
                · rw [h0]; exact Nat.zero_le _
                · omega
              have hS2 := SlK.of_row hrow hb1056
              unfold maxLen at hb1056
              clear hB2 hrow
              have D := allC_any sp cs.length cp cs w2 hT2 hS2
              obtain ⟨L, hL⟩ : ∃ L, L = cs.length := ⟨_, rfl⟩
              obtain ⟨v, hv⟩ : ∃ v, v = cs.all rightC := ⟨_, rfl⟩
              have hr2 := hr'h.out
              rw [← hL, ← hv] at hr2
              rw [← hL, ← hv] at D
              rw [← hL] at hb1056
              rw [← hL]
              clear hr'h hS2 hL hv
              have hBw2'h := Lib.hid hBw2
              have D'h := Lib.hid D
              have hr2'h := Lib.hid hr2
              clear hBw2 D hr2
              by_cases h7 : L ≤ 64
              · have h7z : ((L : Int) ≤ 64) := by omega
                cases v with
                | false =>
                  go_wp2_with fail
                  refine D'h.out.mono ?_
                  rintro e w3 ⟨rfl, hB3⟩
                  have hB3'h := Lib.hid hB3
                  clear hB3
                  go_wp2
                  go_ret
                  exact ⟨ret_i64 (by rw [hr2'h.out]; simp), hBw2'h.out.trans (hB3'h.out.mono hBw2'h.out.size)⟩
                | true =>
                  go_wp2_with fail
                  refine D'h.out.mono ?_
                  rintro e w3 ⟨rfl, hB3⟩
                  have hB3'h := Lib.hid hB3
                  clear hB3
                  go_wp2
                  go_ret
                  exact ⟨ret_i64 (by rw [hr2'h.out]; simp [h7]), hBw2'h.out.trans (hB3'h.out.mono hBw2'h.out.size)⟩
              · have h7z : ((L : Int) > 64) := by omega
                go_wp2
                go_ret
                exact ⟨ret_i64 (by rw [hr2'h.out]; simp [h7]), hBw2'h.out⟩
            · have h6z : ((pn : Int) > 4096) := by omega
              have hr : (if ((decide (1 ≤ g) && decide (g ≤ 8) && decide (2 ≤ sb) && decide (sb ≤ 128) && decide ((ln : Int) = g) && decide (pn ≤ 4096)) && (decide (cs.length ≤ 64) && cs.all rightC)) = true then (0 : Int) else 130) = 130 := by simp [h6]
              rw [hr]
              clear hr
              go_enter Tryd.func54, Tryd.ntmps54
              go_wp2
              go_ret
              exact ⟨rfl, hB1'h.out⟩
          · have h5z : ¬ ((ln : Int) = g) := by omega
            have hr : (if ((decide (1 ≤ g) && decide (g ≤ 8) && decide (2 ≤ sb) && decide (sb ≤ 128) && decide ((ln : Int) = g) && decide (pn ≤ 4096)) && (decide (cs.length ≤ 64) && cs.all rightC)) = true then (0 : Int) else 130) = 130 := by simp [h5]
            rw [hr]
            clear hr
            go_enter Tryd.func54, Tryd.ntmps54
            go_wp2
            go_ret
            exact ⟨rfl, hB1'h.out⟩
        · have h4z : ¬ (sb ≤ 128) := by omega
          have hr : (if ((decide (1 ≤ g) && decide (g ≤ 8) && decide (2 ≤ sb) && decide (sb ≤ 128) && decide ((ln : Int) = g) && decide (pn ≤ 4096)) && (decide (cs.length ≤ 64) && cs.all rightC)) = true then (0 : Int) else 130) = 130 := by simp [h4]
          rw [hr]
          clear hr
          go_enter Tryd.func54, Tryd.ntmps54
          go_wp2
          go_ret
          exact ⟨rfl, hB1'h.out⟩
      · have h3z : ¬ (sb ≥ 2) := by omega
        have hr : (if ((decide (1 ≤ g) && decide (g ≤ 8) && decide (2 ≤ sb) && decide (sb ≤ 128) && decide ((ln : Int) = g) && decide (pn ≤ 4096)) && (decide (cs.length ≤ 64) && cs.all rightC)) = true then (0 : Int) else 130) = 130 := by simp [h3]
        rw [hr]
        clear hr
        go_enter Tryd.func54, Tryd.ntmps54
        go_wp2
        go_ret
        exact ⟨rfl, hB1'h.out⟩
    · have h2z : ¬ (g ≤ 8) := by omega
      have hr : (if ((decide (1 ≤ g) && decide (g ≤ 8) && decide (2 ≤ sb) && decide (sb ≤ 128) && decide ((ln : Int) = g) && decide (pn ≤ 4096)) && (decide (cs.length ≤ 64) && cs.all rightC)) = true then (0 : Int) else 130) = 130 := by simp [h2]
      rw [hr]
      clear hr
      go_enter Tryd.func54, Tryd.ntmps54
      go_wp2
      go_ret
      exact ⟨rfl, hB1'h.out⟩
  · have h1z : ¬ (g ≥ 1) := by omega
    have hr : (if ((decide (1 ≤ g) && decide (g ≤ 8) && decide (2 ≤ sb) && decide (sb ≤ 128) && decide ((ln : Int) = g) && decide (pn ≤ 4096)) && (decide (cs.length ≤ 64) && cs.all rightC)) = true then (0 : Int) else 130) = 130 := by simp [h1]
    rw [hr]
    clear hr
    go_enter Tryd.func54, Tryd.ntmps54
    go_wp2
    go_ret
    exact ⟨rfl, hB1'h.out⟩
end Go.Proofs.YtogeohjeabbmaaaDoor
