/-
  LookTakes: the walk.
-/
import Derived.Test.YtoklgjlmjkhmbaaTakesA
import Derived.Test.YtoklgjlmjkhmbaaTakesB
import Derived.Test.YtoklgjlmjkhmbaaTakesC
set_option linter.unusedSimpArgs false
set_option linter.unusedVariables false
namespace Go.Proofs.Ytoklgjlmjkhmbaa
open Go.RowKit

theorem walk_LookTakes (s : Sg) (sp1 : Option Addr) (n1 cap1 : Nat) (z1 : List Int) (sp2 : Option Addr) (n2 cap2 : Nat) (z2 : List Int) (w : World) (h : SgOk s)
    (nl1 : sp1 = none → cap1 = 0) (lc1 : n1 ≤ cap1) (sl1 : Sl w sp1 n1 (z1.map (Value.int .u64))) (wf1 : ∀ n ∈ z1, (Lit.int .u64 n).wf = true)
    (nl2 : sp2 = none → cap2 = 0) (lc2 : n2 ≤ cap2) (sl2 : Sl w sp2 n2 (z2.map (Value.int .u64))) (wf2 : ∀ n ∈ z2, (Lit.int .u64 n).wf = true) :
    Calls Try.prog 4 #[.agg (sgA s), .slice sp1 n1 cap1, .slice sp2 n2 cap2] w fun e w' => e = .returned (.bool true) ∧ Below w.heap.size w w' := by
  rw [u64s_nats wf1] at sl1
  rw [u64s_nats wf2] at sl2
  have w1 := nats_w64 wf1
  have w2 := nats_w64 wf2
  have m1 := sl1.2.1
  have m2 := sl2.2.1
  unfold maxLen at m1 m2
  by_cases hr : SgRight s
  · cases hh : hasS s with
    | true => exact takesC s sp1 n1 cap1 _ sp2 n2 cap2 _ w h w1 w2 sl1 sl2 nl1 lc1 nl2 lc2 (by omega) (by omega) hr hh
    | false => exact takesB s sp1 n1 cap1 _ sp2 n2 cap2 _ w h w1 w2 sl1 sl2 nl1 lc1 nl2 lc2 (by omega) (by omega) hr hh
  · exact takesA s sp1 n1 cap1 _ sp2 n2 cap2 _ w h w1 w2 sl1 sl2 nl1 lc1 nl2 lc2 (by omega) (by omega) hr
end Go.Proofs.Ytoklgjlmjkhmbaa
