/-
  No cell of these rows narrows 'for every input' (looked for: loops, veiled, ifaces, maps, wideKeys, modest, calm, conditions, laid).
  DERIVED. THE GIVEN ROWS OF THIS SEAT. 6 by the template 'for every input the law returns true; each argument reads behind the call as it read before'; 0 by the template 'total and deterministic' (their statements: YtfomcnbpkdkohaaTotals.lean).
  GIVEN WITH THE SEED: the statements are not yours to turn. If you find one false, say at which input.
  Laid BY PROGRAM, IN A SANDBOX (cutbox-rows.mjs): the forced cells as the released guide's own fill.sh prints them over the translation e9b3b80891eac840… (all of the seat's roots in one cut). By AI agents, Wed Nov 11 2026. No macro, syntax, notation, axiom, sorry.
-/
import Derived.Test.YtfomcnbpkdkohaaChecked
import GoSem.Claim
import GoSem.ClaimJoined
import GoSem.ClaimMapViews
import Derived.JoinedTies
import Derived.KernelRfl
namespace Go.Proofs.Ytfomcnbpkdkohaa
/- THE CELL 'sum', in the pinned program and in every row, IS THE sha256 OF THE DUMP (.gsa) THAT YtfomcnbpkdkohaaProg.lean LOADS. Nothing in Lean hashes anything: it is a label: what it is worth is what the hold of that sum in a sandbox is worth. -/
noncomputable def Try.pinned : Pinned := { name := "ytfomcnbpkdkohaa", sum := "e9b3b80891eac84016c2435761f896bfc194670cd1bdbac43ca70c99d3ed67a7", checked := Try.checked }
namespace Rows
def none {H : Type} : Left H := { results := [], args := [] }

/-- 'honeycomblaw01.LanesThere': WHATEVER THE INPUT: true; the input reads as it did. -/
def lanesThereSpec : ChangeSpec := { name := "lanesThere", fn := fun _ => fun
  | [d1, d2, d3] => { results := [.lit (.bool true)], args := [d1, d2, d3] }
  | _ => none }
def lanesThereRow : OpenClaim := { program := "ytfomcnbpkdkohaa", sum := "e9b3b80891eac84016c2435761f896bfc194670cd1bdbac43ca70c99d3ed67a7", func := "honeycomb/honeycomblaw01.LanesThere", spec := "lanesThere", unfollowed := true, recurses := true, apart := false }
def LanesThereSaid : Prop := lanesThereRow.holds Try.pinned (OpenSpec.ofChange lanesThereSpec)

/-- ITS FALSE NEIGHBOUR: 'it returns false'. Refute it at one input. -/
def lanesThereWrong : ChangeSpec := { name := "lanesThere", fn := fun _ => fun
  | [d1, d2, d3] => { results := [.lit (.bool false)], args := [d1, d2, d3] }
  | _ => none }
def LanesThereWrongFalsely : Prop := lanesThereRow.holds Try.pinned (OpenSpec.ofChange lanesThereWrong)

/-- 'honeycomblaw01.LanesTurns': WHATEVER THE INPUT: true; the input reads as it did. -/
def lanesTurnsSpec : ChangeSpec := { name := "lanesTurns", fn := fun _ => fun
  | [d1, d2] => { results := [.lit (.bool true)], args := [d1, d2] }
  | _ => none }
def lanesTurnsRow : OpenClaim := { program := "ytfomcnbpkdkohaa", sum := "e9b3b80891eac84016c2435761f896bfc194670cd1bdbac43ca70c99d3ed67a7", func := "honeycomb/honeycomblaw01.LanesTurns", spec := "lanesTurns", unfollowed := true, recurses := true, apart := false }
def LanesTurnsSaid : Prop := lanesTurnsRow.holds Try.pinned (OpenSpec.ofChange lanesTurnsSpec)

/-- ITS FALSE NEIGHBOUR: 'it returns false'. Refute it at one input. -/
def lanesTurnsWrong : ChangeSpec := { name := "lanesTurns", fn := fun _ => fun
  | [d1, d2] => { results := [.lit (.bool false)], args := [d1, d2] }
  | _ => none }
def LanesTurnsWrongFalsely : Prop := lanesTurnsRow.holds Try.pinned (OpenSpec.ofChange lanesTurnsWrong)

/-- 'honeycomblaw01.LanesMasks': WHATEVER THE INPUT: true; the input reads as it did. -/
def lanesMasksSpec : ChangeSpec := { name := "lanesMasks", fn := fun _ => fun
  | [d1, d2, d3] => { results := [.lit (.bool true)], args := [d1, d2, d3] }
  | _ => none }
def lanesMasksRow : OpenClaim := { program := "ytfomcnbpkdkohaa", sum := "e9b3b80891eac84016c2435761f896bfc194670cd1bdbac43ca70c99d3ed67a7", func := "honeycomb/honeycomblaw01.LanesMasks", spec := "lanesMasks", unfollowed := true, recurses := true, apart := false }
def LanesMasksSaid : Prop := lanesMasksRow.holds Try.pinned (OpenSpec.ofChange lanesMasksSpec)

/-- ITS FALSE NEIGHBOUR: 'it returns false'. Refute it at one input. -/
def lanesMasksWrong : ChangeSpec := { name := "lanesMasks", fn := fun _ => fun
  | [d1, d2, d3] => { results := [.lit (.bool false)], args := [d1, d2, d3] }
  | _ => none }
def LanesMasksWrongFalsely : Prop := lanesMasksRow.holds Try.pinned (OpenSpec.ofChange lanesMasksWrong)

/-- 'honeycomblaw01.LanesParts': WHATEVER THE INPUT: true; the input reads as it did. -/
def lanesPartsSpec : ChangeSpec := { name := "lanesParts", fn := fun _ => fun
  | [d1, d2, d3] => { results := [.lit (.bool true)], args := [d1, d2, d3] }
  | _ => none }
def lanesPartsRow : OpenClaim := { program := "ytfomcnbpkdkohaa", sum := "e9b3b80891eac84016c2435761f896bfc194670cd1bdbac43ca70c99d3ed67a7", func := "honeycomb/honeycomblaw01.LanesParts", spec := "lanesParts", unfollowed := true, recurses := true, apart := false }
def LanesPartsSaid : Prop := lanesPartsRow.holds Try.pinned (OpenSpec.ofChange lanesPartsSpec)

/-- ITS FALSE NEIGHBOUR: 'it returns false'. Refute it at one input. -/
def lanesPartsWrong : ChangeSpec := { name := "lanesParts", fn := fun _ => fun
  | [d1, d2, d3] => { results := [.lit (.bool false)], args := [d1, d2, d3] }
  | _ => none }
def LanesPartsWrongFalsely : Prop := lanesPartsRow.holds Try.pinned (OpenSpec.ofChange lanesPartsWrong)

/-- 'honeycomblaw01.LanesBytes': WHATEVER THE INPUT: true; the input reads as it did. -/
def lanesBytesSpec : ChangeSpec := { name := "lanesBytes", fn := fun _ => fun
  | [d1, d2, d3] => { results := [.lit (.bool true)], args := [d1, d2, d3] }
  | _ => none }
def lanesBytesRow : OpenClaim := { program := "ytfomcnbpkdkohaa", sum := "e9b3b80891eac84016c2435761f896bfc194670cd1bdbac43ca70c99d3ed67a7", func := "honeycomb/honeycomblaw01.LanesBytes", spec := "lanesBytes", unfollowed := true, recurses := true, apart := false }
def LanesBytesSaid : Prop := lanesBytesRow.holds Try.pinned (OpenSpec.ofChange lanesBytesSpec)

/-- ITS FALSE NEIGHBOUR: 'it returns false'. Refute it at one input. -/
def lanesBytesWrong : ChangeSpec := { name := "lanesBytes", fn := fun _ => fun
  | [d1, d2, d3] => { results := [.lit (.bool false)], args := [d1, d2, d3] }
  | _ => none }
def LanesBytesWrongFalsely : Prop := lanesBytesRow.holds Try.pinned (OpenSpec.ofChange lanesBytesWrong)

/-- 'honeycomblaw01.LanesBlends': WHATEVER THE INPUT: true; the input reads as it did. -/
def lanesBlendsSpec : ChangeSpec := { name := "lanesBlends", fn := fun _ => fun
  | [d1, d2, d3] => { results := [.lit (.bool true)], args := [d1, d2, d3] }
  | _ => none }
def lanesBlendsRow : OpenClaim := { program := "ytfomcnbpkdkohaa", sum := "e9b3b80891eac84016c2435761f896bfc194670cd1bdbac43ca70c99d3ed67a7", func := "honeycomb/honeycomblaw01.LanesBlends", spec := "lanesBlends", unfollowed := true, recurses := true, apart := false }
def LanesBlendsSaid : Prop := lanesBlendsRow.holds Try.pinned (OpenSpec.ofChange lanesBlendsSpec)

/-- ITS FALSE NEIGHBOUR: 'it returns false'. Refute it at one input. -/
def lanesBlendsWrong : ChangeSpec := { name := "lanesBlends", fn := fun _ => fun
  | [d1, d2, d3] => { results := [.lit (.bool false)], args := [d1, d2, d3] }
  | _ => none }
def LanesBlendsWrongFalsely : Prop := lanesBlendsRow.holds Try.pinned (OpenSpec.ofChange lanesBlendsWrong)

/- THE SECOND FORM. 'bulk': how many values and letters a reading holds, each counted each time it is reached (what is shared counts as often as it is met; a slice's spare places count too). A statement '..UptoSaid' is the law's where the arguments, and the package variables that the reading takes, are together of bulk at most 1048576: NARROWER than '..Said'. Prove '..Said' where nothing that the law and all that it calls make is longer than what came in: it says more and counts as full. Else prove '..UptoSaid'. A law counts once. -/
mutual
def uptoBulk {H : Type} : DataW H → Nat
  | .lit (.string bytes) => bytes.length + 1
  | .lit _ => 1
  | .nil => 1
  | .ptr d => uptoBulk d + 1
  | .slice elems spare => uptoBulkAll elems + uptoBulkAll spare + 1
  | .agg parts => uptoBulkAll parts + 1
  | .iface _ d => uptoBulk d + 1
  | .map entries => uptoBulkEntries entries + 1
  | .held _ => 1
def uptoBulkAll {H : Type} : List (DataW H) → Nat
  | [] => 0
  | d :: r => uptoBulk d + uptoBulkAll r
def uptoBulkEntries {H : Type} : List (Lit × DataW H) → Nat
  | [] => 0
  | x :: r => uptoBulkEntry x + uptoBulkEntries r
def uptoBulkEntry {H : Type} : Lit × DataW H → Nat
  | (.string bytes, d) => bytes.length + uptoBulk d + 1
  | (_, d) => uptoBulk d + 1
 end
def uptoSmall : (H : Type) → List (DataW H) → Bool := fun _ ds => decide (uptoBulkAll ds ≤ 1048576)
def OpenSpec.upto (s : _root_.Go.ChangeSpec) : _root_.Go.OpenSpec := { _root_.Go.OpenSpec.ofChange s with cond := some uptoSmall }

/-- 'honeycomblaw01.LanesThere', WHERE WHAT IT READS IS OF BULK AT MOST 1048576: true; the input reads as it did. -/
def lanesThereUptoRow : OpenClaim := { program := "ytfomcnbpkdkohaa", sum := "e9b3b80891eac84016c2435761f896bfc194670cd1bdbac43ca70c99d3ed67a7", func := "honeycomb/honeycomblaw01.LanesThere", spec := "lanesThere", unfollowed := true, recurses := true, apart := false, narrowed := true }
def LanesThereUptoSaid : Prop := lanesThereUptoRow.holds Try.pinned (OpenSpec.upto lanesThereSpec)

/-- 'honeycomblaw01.LanesTurns', WHERE WHAT IT READS IS OF BULK AT MOST 1048576: true; the input reads as it did. -/
def lanesTurnsUptoRow : OpenClaim := { program := "ytfomcnbpkdkohaa", sum := "e9b3b80891eac84016c2435761f896bfc194670cd1bdbac43ca70c99d3ed67a7", func := "honeycomb/honeycomblaw01.LanesTurns", spec := "lanesTurns", unfollowed := true, recurses := true, apart := false, narrowed := true }
def LanesTurnsUptoSaid : Prop := lanesTurnsUptoRow.holds Try.pinned (OpenSpec.upto lanesTurnsSpec)

/-- 'honeycomblaw01.LanesMasks', WHERE WHAT IT READS IS OF BULK AT MOST 1048576: true; the input reads as it did. -/
def lanesMasksUptoRow : OpenClaim := { program := "ytfomcnbpkdkohaa", sum := "e9b3b80891eac84016c2435761f896bfc194670cd1bdbac43ca70c99d3ed67a7", func := "honeycomb/honeycomblaw01.LanesMasks", spec := "lanesMasks", unfollowed := true, recurses := true, apart := false, narrowed := true }
def LanesMasksUptoSaid : Prop := lanesMasksUptoRow.holds Try.pinned (OpenSpec.upto lanesMasksSpec)

/-- 'honeycomblaw01.LanesParts', WHERE WHAT IT READS IS OF BULK AT MOST 1048576: true; the input reads as it did. -/
def lanesPartsUptoRow : OpenClaim := { program := "ytfomcnbpkdkohaa", sum := "e9b3b80891eac84016c2435761f896bfc194670cd1bdbac43ca70c99d3ed67a7", func := "honeycomb/honeycomblaw01.LanesParts", spec := "lanesParts", unfollowed := true, recurses := true, apart := false, narrowed := true }
def LanesPartsUptoSaid : Prop := lanesPartsUptoRow.holds Try.pinned (OpenSpec.upto lanesPartsSpec)

/-- 'honeycomblaw01.LanesBytes', WHERE WHAT IT READS IS OF BULK AT MOST 1048576: true; the input reads as it did. -/
def lanesBytesUptoRow : OpenClaim := { program := "ytfomcnbpkdkohaa", sum := "e9b3b80891eac84016c2435761f896bfc194670cd1bdbac43ca70c99d3ed67a7", func := "honeycomb/honeycomblaw01.LanesBytes", spec := "lanesBytes", unfollowed := true, recurses := true, apart := false, narrowed := true }
def LanesBytesUptoSaid : Prop := lanesBytesUptoRow.holds Try.pinned (OpenSpec.upto lanesBytesSpec)

/-- 'honeycomblaw01.LanesBlends', WHERE WHAT IT READS IS OF BULK AT MOST 1048576: true; the input reads as it did. -/
def lanesBlendsUptoRow : OpenClaim := { program := "ytfomcnbpkdkohaa", sum := "e9b3b80891eac84016c2435761f896bfc194670cd1bdbac43ca70c99d3ed67a7", func := "honeycomb/honeycomblaw01.LanesBlends", spec := "lanesBlends", unfollowed := true, recurses := true, apart := false, narrowed := true }
def LanesBlendsUptoSaid : Prop := lanesBlendsUptoRow.holds Try.pinned (OpenSpec.upto lanesBlendsSpec)

end Rows
end Go.Proofs.Ytfomcnbpkdkohaa
