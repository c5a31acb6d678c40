/-
  LookRuns: the walk.
-/
import Derived.Test.YtoklgjlmjkhmbaaRunsA0
import Derived.Test.YtoklgjlmjkhmbaaRunsA1
import Derived.Test.YtoklgjlmjkhmbaaRunsB0
import Derived.Test.YtoklgjlmjkhmbaaRunsB1
import Derived.Test.YtoklgjlmjkhmbaaRunsC
set_option linter.unusedSimpArgs false
set_option linter.unusedVariables false
namespace Go.Proofs.Ytoklgjlmjkhmbaa
open Go.RowKit

theorem walk_LookRuns (sp1 : Option Addr) (n1 cap1 : Nat) (z1 : List Int) (slab : Int) (sp2 : Option Addr) (n2 cap2 : Nat) (ks : List (Nat × Nat)) (w : World)
    (nl1 : sp1 = none → cap1 = 0) (lc1 : n1 ≤ cap1) (sl1 : Sl w sp1 n1 (z1.map (Value.int .u64))) (wf1 : ∀ n ∈ z1, (Lit.int .u64 n).wf = true) (wfs : (Lit.int .i64 slab).wf = true)
    (nl2 : sp2 = none → cap2 = 0) (lc2 : n2 ≤ cap2) (sl2 : SlK w 2 sp2 n2 (prs ks)) (wf2 : P64 ks) :
    Calls Try.prog 3 #[.slice sp1 n1 cap1, .int .i64 slab, .slice sp2 n2 cap2] w fun e w' => e = .returned (.bool true) ∧ Below w.heap.size w w' := by
  rw [u64s_nats wf1] at sl1
  have w1 := nats_w64 wf1
  have m1 := sl1.2.1
  have m2 := sl2.2.1
  unfold maxLen at m1 m2
  by_cases hs : 0 ≤ slab ∧ slab < 128
  · obtain ⟨sl, rfl⟩ : ∃ sl : Nat, slab = (sl : Int) := ⟨slab.toNat, by omega⟩
    cases ht : thereB (min n1 140) sl with
    | true => exact runsC sp1 n1 cap1 _ sl sp2 n2 cap2 ks w w1 wf2 sl1 sl2 nl1 lc1 nl2 lc2 (by omega) (by omega) ht
    | false =>
      by_cases h1 : 1 ≤ min n1 140
      · exact runsB1 sp1 n1 cap1 _ sl sp2 n2 cap2 ks w w1 wf2 sl1 sl2 nl1 lc1 nl2 lc2 (by omega) (by omega) (by omega) ht h1
      · exact runsB0 sp1 n1 cap1 _ sl sp2 n2 cap2 ks w w1 wf2 sl1 sl2 nl1 lc1 nl2 lc2 (by omega) (by omega) (by omega) ht h1
  · by_cases h1 : 1 ≤ min n1 140
    · exact runsA1 sp1 n1 cap1 _ slab sp2 n2 cap2 ks w w1 wf2 sl1 sl2 nl1 lc1 nl2 lc2 (by omega) (by omega) hs h1
    · exact runsA0 sp1 n1 cap1 _ slab sp2 n2 cap2 ks w w1 wf2 sl1 sl2 nl1 lc1 nl2 lc2 (by omega) (by omega) hs h1
end Go.Proofs.Ytoklgjlmjkhmbaa
