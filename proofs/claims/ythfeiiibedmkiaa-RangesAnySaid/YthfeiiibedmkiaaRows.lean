/-
  No cell of these rows narrows 'for every input' (looked for: loops, veiled, ifaces, maps, wideKeys, modest, calm, conditions, laid).
  DERIVED. THE GIVEN ROWS OF THIS SEAT. 6 by the template 'for every input the law returns true; each argument reads behind the call as it read before'; 0 by the template 'total and deterministic' (their statements: YthfeiiibedmkiaaTotals.lean).
  GIVEN WITH THE SEED: the statements are not yours to turn. If you find one false, say at which input.
  Laid BY PROGRAM, IN A SANDBOX (cutbox-rows.mjs): the forced cells as the released guide's own fill.sh prints them over the translation 0b1162921d2324a6… (all of the seat's roots in one cut). By AI agents, Wed Nov 11 2026. No macro, syntax, notation, axiom, sorry.
-/
import Derived.Test.YthfeiiibedmkiaaChecked
import GoSem.Claim
import GoSem.ClaimJoined
import GoSem.ClaimMapViews
import Derived.JoinedTies
import Derived.KernelRfl
namespace Go.Proofs.Ythfeiiibedmkiaa
/- THE CELL 'sum', in the pinned program and in every row, IS THE sha256 OF THE DUMP (.gsa) THAT YthfeiiibedmkiaaProg.lean LOADS. Nothing in Lean hashes anything: it is a label: what it is worth is what the hold of that sum in a sandbox is worth. -/
noncomputable def Try.pinned : Pinned := { name := "ythfeiiibedmkiaa", sum := "0b1162921d2324a69e1fe1cab5968fa36966a98896abe1aed6d99a96b928145c", checked := Try.checked }
namespace Rows
def none {H : Type} : Left H := { results := [], args := [] }

/-- 'honeycomblaw28.RangesMaps': WHATEVER THE INPUT: true; the input reads as it did. -/
def rangesMapsSpec : ChangeSpec := { name := "rangesMaps", fn := fun _ => fun
  | [d1, d2, d3] => { results := [.lit (.bool true)], args := [d1, d2, d3] }
  | _ => none }
def rangesMapsRow : OpenClaim := { program := "ythfeiiibedmkiaa", sum := "0b1162921d2324a69e1fe1cab5968fa36966a98896abe1aed6d99a96b928145c", func := "honeycomb/honeycomblaw28.RangesMaps", spec := "rangesMaps", inPlace := ["slices.overlaps[honeycomb/api.Pair]"], unfollowed := true, recurses := true, apart := false }
def RangesMapsSaid : Prop := rangesMapsRow.holds Try.pinned (OpenSpec.ofChange rangesMapsSpec)

/-- ITS FALSE NEIGHBOUR: 'it returns false'. Refute it at one input. -/
def rangesMapsWrong : ChangeSpec := { name := "rangesMaps", fn := fun _ => fun
  | [d1, d2, d3] => { results := [.lit (.bool false)], args := [d1, d2, d3] }
  | _ => none }
def RangesMapsWrongFalsely : Prop := rangesMapsRow.holds Try.pinned (OpenSpec.ofChange rangesMapsWrong)

/-- 'honeycomblaw28.RangesTell': WHATEVER THE INPUT: true; the input reads as it did. -/
def rangesTellSpec : ChangeSpec := { name := "rangesTell", fn := fun _ => fun
  | [d1, d2, d3] => { results := [.lit (.bool true)], args := [d1, d2, d3] }
  | _ => none }
def rangesTellRow : OpenClaim := { program := "ythfeiiibedmkiaa", sum := "0b1162921d2324a69e1fe1cab5968fa36966a98896abe1aed6d99a96b928145c", func := "honeycomb/honeycomblaw28.RangesTell", spec := "rangesTell", inPlace := ["slices.overlaps[honeycomb/api.Pair]"], unfollowed := true, recurses := true, apart := false }
def RangesTellSaid : Prop := rangesTellRow.holds Try.pinned (OpenSpec.ofChange rangesTellSpec)

/-- ITS FALSE NEIGHBOUR: 'it returns false'. Refute it at one input. -/
def rangesTellWrong : ChangeSpec := { name := "rangesTell", fn := fun _ => fun
  | [d1, d2, d3] => { results := [.lit (.bool false)], args := [d1, d2, d3] }
  | _ => none }
def RangesTellWrongFalsely : Prop := rangesTellRow.holds Try.pinned (OpenSpec.ofChange rangesTellWrong)

/-- 'honeycomblaw28.RangesLonger': WHATEVER THE INPUT: true; the input reads as it did. -/
def rangesLongerSpec : ChangeSpec := { name := "rangesLonger", fn := fun _ => fun
  | [d1, d2, d3] => { results := [.lit (.bool true)], args := [d1, d2, d3] }
  | _ => none }
def rangesLongerRow : OpenClaim := { program := "ythfeiiibedmkiaa", sum := "0b1162921d2324a69e1fe1cab5968fa36966a98896abe1aed6d99a96b928145c", func := "honeycomb/honeycomblaw28.RangesLonger", spec := "rangesLonger", inPlace := ["slices.overlaps[honeycomb/api.Pair]"], unfollowed := true, recurses := true, apart := false }
def RangesLongerSaid : Prop := rangesLongerRow.holds Try.pinned (OpenSpec.ofChange rangesLongerSpec)

/-- ITS FALSE NEIGHBOUR: 'it returns false'. Refute it at one input. -/
def rangesLongerWrong : ChangeSpec := { name := "rangesLonger", fn := fun _ => fun
  | [d1, d2, d3] => { results := [.lit (.bool false)], args := [d1, d2, d3] }
  | _ => none }
def RangesLongerWrongFalsely : Prop := rangesLongerRow.holds Try.pinned (OpenSpec.ofChange rangesLongerWrong)

/-- 'honeycomblaw28.RangesTimes': WHATEVER THE INPUT: true; the input reads as it did. -/
def rangesTimesSpec : ChangeSpec := { name := "rangesTimes", fn := fun _ => fun
  | [d1, d2, d3] => { results := [.lit (.bool true)], args := [d1, d2, d3] }
  | _ => none }
def rangesTimesRow : OpenClaim := { program := "ythfeiiibedmkiaa", sum := "0b1162921d2324a69e1fe1cab5968fa36966a98896abe1aed6d99a96b928145c", func := "honeycomb/honeycomblaw28.RangesTimes", spec := "rangesTimes", inPlace := ["slices.overlaps[honeycomb/api.Pair]"], unfollowed := true, recurses := true, apart := false }
def RangesTimesSaid : Prop := rangesTimesRow.holds Try.pinned (OpenSpec.ofChange rangesTimesSpec)

/-- ITS FALSE NEIGHBOUR: 'it returns false'. Refute it at one input. -/
def rangesTimesWrong : ChangeSpec := { name := "rangesTimes", fn := fun _ => fun
  | [d1, d2, d3] => { results := [.lit (.bool false)], args := [d1, d2, d3] }
  | _ => none }
def RangesTimesWrongFalsely : Prop := rangesTimesRow.holds Try.pinned (OpenSpec.ofChange rangesTimesWrong)

/-- 'honeycomblaw28.RangesHeld': WHATEVER THE INPUT: true; the input reads as it did. -/
def rangesHeldSpec : ChangeSpec := { name := "rangesHeld", fn := fun _ => fun
  | [d1, d2, d3] => { results := [.lit (.bool true)], args := [d1, d2, d3] }
  | _ => none }
def rangesHeldRow : OpenClaim := { program := "ythfeiiibedmkiaa", sum := "0b1162921d2324a69e1fe1cab5968fa36966a98896abe1aed6d99a96b928145c", func := "honeycomb/honeycomblaw28.RangesHeld", spec := "rangesHeld", inPlace := ["slices.overlaps[honeycomb/api.Pair]"], unfollowed := true, recurses := true, apart := false }
def RangesHeldSaid : Prop := rangesHeldRow.holds Try.pinned (OpenSpec.ofChange rangesHeldSpec)

/-- ITS FALSE NEIGHBOUR: 'it returns false'. Refute it at one input. -/
def rangesHeldWrong : ChangeSpec := { name := "rangesHeld", fn := fun _ => fun
  | [d1, d2, d3] => { results := [.lit (.bool false)], args := [d1, d2, d3] }
  | _ => none }
def RangesHeldWrongFalsely : Prop := rangesHeldRow.holds Try.pinned (OpenSpec.ofChange rangesHeldWrong)

/-- 'honeycomblaw28.RangesAny': WHATEVER THE INPUT: true; the input reads as it did. -/
def rangesAnySpec : ChangeSpec := { name := "rangesAny", fn := fun _ => fun
  | [d1, d2, d3] => { results := [.lit (.bool true)], args := [d1, d2, d3] }
  | _ => none }
def rangesAnyRow : OpenClaim := { program := "ythfeiiibedmkiaa", sum := "0b1162921d2324a69e1fe1cab5968fa36966a98896abe1aed6d99a96b928145c", func := "honeycomb/honeycomblaw28.RangesAny", spec := "rangesAny", inPlace := ["slices.overlaps[honeycomb/api.Pair]"], unfollowed := true, recurses := true, apart := false }
def RangesAnySaid : Prop := rangesAnyRow.holds Try.pinned (OpenSpec.ofChange rangesAnySpec)

/-- ITS FALSE NEIGHBOUR: 'it returns false'. Refute it at one input. -/
def rangesAnyWrong : ChangeSpec := { name := "rangesAny", fn := fun _ => fun
  | [d1, d2, d3] => { results := [.lit (.bool false)], args := [d1, d2, d3] }
  | _ => none }
def RangesAnyWrongFalsely : Prop := rangesAnyRow.holds Try.pinned (OpenSpec.ofChange rangesAnyWrong)

/- THE SECOND FORM. 'bulk': how many values and letters a reading holds, each counted each time it is reached (what is shared counts as often as it is met; a slice's spare places count too). A statement '..UptoSaid' is the law's where the arguments, and the package variables that the reading takes, are together of bulk at most 1048576: NARROWER than '..Said'. Prove '..Said' where nothing that the law and all that it calls make is longer than what came in: it says more and counts as full. Else prove '..UptoSaid'. A law counts once. -/
mutual
def uptoBulk {H : Type} : DataW H → Nat
  | .lit (.string bytes) => bytes.length + 1
  | .lit _ => 1
  | .nil => 1
  | .ptr d => uptoBulk d + 1
  | .slice elems spare => uptoBulkAll elems + uptoBulkAll spare + 1
  | .agg parts => uptoBulkAll parts + 1
  | .iface _ d => uptoBulk d + 1
  | .map entries => uptoBulkEntries entries + 1
  | .held _ => 1
def uptoBulkAll {H : Type} : List (DataW H) → Nat
  | [] => 0
  | d :: r => uptoBulk d + uptoBulkAll r
def uptoBulkEntries {H : Type} : List (Lit × DataW H) → Nat
  | [] => 0
  | x :: r => uptoBulkEntry x + uptoBulkEntries r
def uptoBulkEntry {H : Type} : Lit × DataW H → Nat
  | (.string bytes, d) => bytes.length + uptoBulk d + 1
  | (_, d) => uptoBulk d + 1
 end
def uptoSmall : (H : Type) → List (DataW H) → Bool := fun _ ds => decide (uptoBulkAll ds ≤ 1048576)
def OpenSpec.upto (s : _root_.Go.ChangeSpec) : _root_.Go.OpenSpec := { _root_.Go.OpenSpec.ofChange s with cond := some uptoSmall }

/-- 'honeycomblaw28.RangesMaps', WHERE WHAT IT READS IS OF BULK AT MOST 1048576: true; the input reads as it did. -/
def rangesMapsUptoRow : OpenClaim := { program := "ythfeiiibedmkiaa", sum := "0b1162921d2324a69e1fe1cab5968fa36966a98896abe1aed6d99a96b928145c", func := "honeycomb/honeycomblaw28.RangesMaps", spec := "rangesMaps", inPlace := ["slices.overlaps[honeycomb/api.Pair]"], unfollowed := true, recurses := true, apart := false, narrowed := true }
def RangesMapsUptoSaid : Prop := rangesMapsUptoRow.holds Try.pinned (OpenSpec.upto rangesMapsSpec)

/-- 'honeycomblaw28.RangesTell', WHERE WHAT IT READS IS OF BULK AT MOST 1048576: true; the input reads as it did. -/
def rangesTellUptoRow : OpenClaim := { program := "ythfeiiibedmkiaa", sum := "0b1162921d2324a69e1fe1cab5968fa36966a98896abe1aed6d99a96b928145c", func := "honeycomb/honeycomblaw28.RangesTell", spec := "rangesTell", inPlace := ["slices.overlaps[honeycomb/api.Pair]"], unfollowed := true, recurses := true, apart := false, narrowed := true }
def RangesTellUptoSaid : Prop := rangesTellUptoRow.holds Try.pinned (OpenSpec.upto rangesTellSpec)

/-- 'honeycomblaw28.RangesLonger', WHERE WHAT IT READS IS OF BULK AT MOST 1048576: true; the input reads as it did. -/
def rangesLongerUptoRow : OpenClaim := { program := "ythfeiiibedmkiaa", sum := "0b1162921d2324a69e1fe1cab5968fa36966a98896abe1aed6d99a96b928145c", func := "honeycomb/honeycomblaw28.RangesLonger", spec := "rangesLonger", inPlace := ["slices.overlaps[honeycomb/api.Pair]"], unfollowed := true, recurses := true, apart := false, narrowed := true }
def RangesLongerUptoSaid : Prop := rangesLongerUptoRow.holds Try.pinned (OpenSpec.upto rangesLongerSpec)

/-- 'honeycomblaw28.RangesTimes', WHERE WHAT IT READS IS OF BULK AT MOST 1048576: true; the input reads as it did. -/
def rangesTimesUptoRow : OpenClaim := { program := "ythfeiiibedmkiaa", sum := "0b1162921d2324a69e1fe1cab5968fa36966a98896abe1aed6d99a96b928145c", func := "honeycomb/honeycomblaw28.RangesTimes", spec := "rangesTimes", inPlace := ["slices.overlaps[honeycomb/api.Pair]"], unfollowed := true, recurses := true, apart := false, narrowed := true }
def RangesTimesUptoSaid : Prop := rangesTimesUptoRow.holds Try.pinned (OpenSpec.upto rangesTimesSpec)

/-- 'honeycomblaw28.RangesHeld', WHERE WHAT IT READS IS OF BULK AT MOST 1048576: true; the input reads as it did. -/
def rangesHeldUptoRow : OpenClaim := { program := "ythfeiiibedmkiaa", sum := "0b1162921d2324a69e1fe1cab5968fa36966a98896abe1aed6d99a96b928145c", func := "honeycomb/honeycomblaw28.RangesHeld", spec := "rangesHeld", inPlace := ["slices.overlaps[honeycomb/api.Pair]"], unfollowed := true, recurses := true, apart := false, narrowed := true }
def RangesHeldUptoSaid : Prop := rangesHeldUptoRow.holds Try.pinned (OpenSpec.upto rangesHeldSpec)

/-- 'honeycomblaw28.RangesAny', WHERE WHAT IT READS IS OF BULK AT MOST 1048576: true; the input reads as it did. -/
def rangesAnyUptoRow : OpenClaim := { program := "ythfeiiibedmkiaa", sum := "0b1162921d2324a69e1fe1cab5968fa36966a98896abe1aed6d99a96b928145c", func := "honeycomb/honeycomblaw28.RangesAny", spec := "rangesAny", inPlace := ["slices.overlaps[honeycomb/api.Pair]"], unfollowed := true, recurses := true, apart := false, narrowed := true }
def RangesAnyUptoSaid : Prop := rangesAnyUptoRow.holds Try.pinned (OpenSpec.upto rangesAnySpec)

end Rows
end Go.Proofs.Ythfeiiibedmkiaa
