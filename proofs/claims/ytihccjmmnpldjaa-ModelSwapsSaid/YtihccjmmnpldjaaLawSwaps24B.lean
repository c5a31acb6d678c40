/-
  ModelSwaps: the walk, of every map.
-/
import Derived.Test.YtihccjmmnpldjaaLawSwaps24
set_option linter.unusedSimpArgs false
set_option linter.unusedVariables false
set_option maxRecDepth 100000
namespace Go.Proofs.Ytihccjmmnpldjaa
open Go.RowKit

set_option maxHeartbeats 4000000 in
theorem swaps_no (sp : Option Addr) (n cap : Nat) (ps qs : Ps) (key old wth : Nat) (w : World) (hin : RowIn w sp n cap ps) (hqs : qs = ps.take 40) (hup : upB qs = false) :
    Calls Try.prog 6 #[.agg #[.slice sp n cap], .int .u64 (key : Int), .agg #[.int .u64 (old : Int), .int .u64 (wth : Int)]] w fun e w' => e = .returned (.bool true) ∧ Below w.heap.size w w' := by
  have H0 := ((Hs.nil w).new2 #[.slice sp n cap] #[.int .u64 (key : Int)] 24 31).new #[.int .u64 (old : Int), .int .u64 (wth : Int)] 55
  simp only [World.size_alloc] at H0
  obtain ⟨W0, hW0⟩ : ∃ W0, W0 = ((w.alloc (.cells #[.slice sp n cap] 24)).alloc (.cells #[.int .u64 (key : Int)] 31)).alloc (.cells #[.int .u64 (old : Int), .int .u64 (wth : Int)] 55) := ⟨_, rfl⟩
  rw [← hW0] at H0
  obtain ⟨hsl, _, hnil, hle⟩ := hin
  obtain ⟨m, hm⟩ : ∃ m, m = min n 40 := ⟨_, rfl⟩
  have H0'h := Lib.hid H0
  have hW0'h := Lib.hid hW0
  have hsl'h := Lib.hid hsl
  have hnil'h := Lib.hid hnil
  have hle'h := Lib.hid hle
  have hqs'h := Lib.hid hqs
  have hm'h := Lib.hid hm
  have hup'h := Lib.hid hup
  clear H0 hW0 hsl hnil hle hqs hm hup
  go_enter Try.func6, Try.ntmps6
  go_upto_region 1 with fail
  rw [← hW0'h.out]
  go_upto_region 3 with (go_at_call 7; refine (wakes_any _).mono ?_; rintro e w1 ⟨rfl, hb1⟩)
  have H1 := H0'h.out.next hb1
  have OW := own_any sp n cap ps w1 (hsl'h.out.below H1.old) hnil'h.out hle'h.out
  rw [← hqs'h.out, ← hm'h.out] at OW
  have x0 : w1.cell? ⟨w.heap.size, 0, none⟩ = some (.slice sp n cap) := blk_cell (i := 0) H1.rows.2.2.1 rfl
  have H1'h := Lib.hid H1
  have OW'h := Lib.hid OW
  have hb1'h := Lib.hid hb1
  clear H1 OW hb1
  go_upto_region 4 with (go_at_call 8; refine OW'h.out.mono ?_; rintro e w2 ⟨sp0, cap0, rfl, hb2, hS2⟩; have hb2'h := Lib.hid hb2; have hS2'h := Lib.hid hS2; clear hb2 hS2)
  clear x0
  have H := (H1'h.out.next hb2'h.out).new #[.slice sp0 m cap0] 24
  have M0 := hS2'h.out.below (w' := w2.alloc (.cells #[.slice sp0 m cap0] 24)) ((Below.refl _ _).alloc (Nat.le_refl _) _)
  generalize w2.alloc (.cells #[.slice sp0 m cap0] 24) = V0 at H M0 ⊢
  have C := mcheck_no sp0 m cap0 qs V0 M0 hup'h.out
  have x0 : V0.cell? ⟨w2.heap.size, 0, none⟩ = some (.slice sp0 m cap0) := blk_cell (i := 0) H.rows.1 rfl
  have H'h := Lib.hid H
  have M0'h := Lib.hid M0
  have C'h := Lib.hid C
  clear H M0 C
  go_wp2_with (go_at_call 9; refine C'h.out.mono ?_; rintro e w3 ⟨rfl, hb3⟩; have hb3'h := Lib.hid hb3; clear hb3)
  go_ret
  exact ⟨rfl, below_next H'h.out.old hb3'h.out⟩
theorem walk_ModelSwaps (sp : Option Addr) (n cap : Nat) (ps : Ps) (x1 x2 x3 : Int) (w : World) (hin : RowIn w sp n cap ps) (wf1 : (Lit.int .u64 x1).wf = true) (wf2 : (Lit.int .u64 x2).wf = true) (wf3 : (Lit.int .u64 x3).wf = true) :
    Calls Try.prog 6 #[.agg #[.slice sp n cap], .int .u64 x1, .agg #[.int .u64 x2, .int .u64 x3]] w fun e w' => e = .returned (.bool true) ∧ Below w.heap.size w w' := by
  obtain ⟨key, rfl, _⟩ := nat_of_u64 wf1
  obtain ⟨old, rfl, _⟩ := nat_of_u64 wf2
  obtain ⟨wth, rfl, _⟩ := nat_of_u64 wf3
  cases hu : upB (ps.take 40) with
  | false => exact swaps_no sp n cap ps _ key old wth w hin rfl hu
  | true =>
    rcases sw_cases hu key old wth with ⟨v, F⟩ | ⟨v, F⟩ | ⟨v, E, F⟩
    · exact swaps_a sp n cap ps _ key old wth v w hin rfl hu F
    · exact swaps_b sp n cap ps _ key old wth v w hin rfl hu F
    · exact swaps_c sp n cap ps _ key old wth v E w hin rfl hu F
end Go.Proofs.Ytihccjmmnpldjaa
