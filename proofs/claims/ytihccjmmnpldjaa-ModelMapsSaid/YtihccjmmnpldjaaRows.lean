/-
  No cell of these rows narrows 'for every input' (looked for: loops, veiled, ifaces, maps, wideKeys, modest, calm, conditions, laid).
  DERIVED. THE GIVEN ROWS OF THIS SEAT. 4 by the template 'for every input the law returns true; each argument reads behind the call as it read before'; 0 by the template 'total and deterministic' (their statements: YtihccjmmnpldjaaTotals.lean).
  GIVEN WITH THE SEED: the statements are not yours to turn. If you find one false, say at which input.
  Laid BY PROGRAM, IN A SANDBOX (cutbox-rows.mjs): the forced cells as the released guide's own fill.sh prints them over the translation c897b70fd3958436… (all of the seat's roots in one cut). By AI agents, Wed Nov 11 2026. No macro, syntax, notation, axiom, sorry.
-/
import Derived.Test.YtihccjmmnpldjaaChecked
import GoSem.Claim
import GoSem.ClaimJoined
import GoSem.ClaimMapViews
import Derived.JoinedTies
import Derived.KernelRfl
namespace Go.Proofs.Ytihccjmmnpldjaa
/- THE CELL 'sum', in the pinned program and in every row, IS THE sha256 OF THE DUMP (.gsa) THAT YtihccjmmnpldjaaProg.lean LOADS. Nothing in Lean hashes anything: it is a label: what it is worth is what the hold of that sum in a sandbox is worth. -/
noncomputable def Try.pinned : Pinned := { name := "ytihccjmmnpldjaa", sum := "c897b70fd3958436e3d03898adbf2331f8ec3429e1900e32cc3843462b5f9f17", checked := Try.checked }
namespace Rows
def none {H : Type} : Left H := { results := [], args := [] }

/-- 'honeycomblaw24.ModelOthers': WHATEVER THE INPUT: true; the input reads as it did. -/
def modelOthersSpec : ChangeSpec := { name := "modelOthers", fn := fun _ => fun
  | [d1, d2] => { results := [.lit (.bool true)], args := [d1, d2] }
  | _ => none }
def modelOthersRow : OpenClaim := { program := "ytihccjmmnpldjaa", sum := "c897b70fd3958436e3d03898adbf2331f8ec3429e1900e32cc3843462b5f9f17", func := "honeycomb/honeycomblaw24.ModelOthers", spec := "modelOthers", inPlace := ["slices.overlaps[honeycomb/api.Pair]"], unfollowed := true, recurses := true, apart := false }
def ModelOthersSaid : Prop := modelOthersRow.holds Try.pinned (OpenSpec.ofChange modelOthersSpec)

/-- ITS FALSE NEIGHBOUR: 'it returns false'. Refute it at one input. -/
def modelOthersWrong : ChangeSpec := { name := "modelOthers", fn := fun _ => fun
  | [d1, d2] => { results := [.lit (.bool false)], args := [d1, d2] }
  | _ => none }
def ModelOthersWrongFalsely : Prop := modelOthersRow.holds Try.pinned (OpenSpec.ofChange modelOthersWrong)

/-- 'honeycomblaw24.ModelMaps': WHATEVER THE INPUT: true; the input reads as it did. -/
def modelMapsSpec : ChangeSpec := { name := "modelMaps", fn := fun _ => fun
  | [d1, d2, d3] => { results := [.lit (.bool true)], args := [d1, d2, d3] }
  | _ => none }
def modelMapsRow : OpenClaim := { program := "ytihccjmmnpldjaa", sum := "c897b70fd3958436e3d03898adbf2331f8ec3429e1900e32cc3843462b5f9f17", func := "honeycomb/honeycomblaw24.ModelMaps", spec := "modelMaps", inPlace := ["slices.overlaps[honeycomb/api.Pair]"], unfollowed := true, recurses := true, apart := false }
def ModelMapsSaid : Prop := modelMapsRow.holds Try.pinned (OpenSpec.ofChange modelMapsSpec)

/-- ITS FALSE NEIGHBOUR: 'it returns false'. Refute it at one input. -/
def modelMapsWrong : ChangeSpec := { name := "modelMaps", fn := fun _ => fun
  | [d1, d2, d3] => { results := [.lit (.bool false)], args := [d1, d2, d3] }
  | _ => none }
def ModelMapsWrongFalsely : Prop := modelMapsRow.holds Try.pinned (OpenSpec.ofChange modelMapsWrong)

/-- 'honeycomblaw24.ModelTurns': WHATEVER THE INPUT: true; the input reads as it did. -/
def modelTurnsSpec : ChangeSpec := { name := "modelTurns", fn := fun _ => fun
  | [d1, d2, d3] => { results := [.lit (.bool true)], args := [d1, d2, d3] }
  | _ => none }
def modelTurnsRow : OpenClaim := { program := "ytihccjmmnpldjaa", sum := "c897b70fd3958436e3d03898adbf2331f8ec3429e1900e32cc3843462b5f9f17", func := "honeycomb/honeycomblaw24.ModelTurns", spec := "modelTurns", inPlace := ["slices.overlaps[honeycomb/api.Pair]"], unfollowed := true, recurses := true, apart := false }
def ModelTurnsSaid : Prop := modelTurnsRow.holds Try.pinned (OpenSpec.ofChange modelTurnsSpec)

/-- ITS FALSE NEIGHBOUR: 'it returns false'. Refute it at one input. -/
def modelTurnsWrong : ChangeSpec := { name := "modelTurns", fn := fun _ => fun
  | [d1, d2, d3] => { results := [.lit (.bool false)], args := [d1, d2, d3] }
  | _ => none }
def ModelTurnsWrongFalsely : Prop := modelTurnsRow.holds Try.pinned (OpenSpec.ofChange modelTurnsWrong)

/-- 'honeycomblaw24.ModelSwaps': WHATEVER THE INPUT: true; the input reads as it did. -/
def modelSwapsSpec : ChangeSpec := { name := "modelSwaps", fn := fun _ => fun
  | [d1, d2, d3] => { results := [.lit (.bool true)], args := [d1, d2, d3] }
  | _ => none }
def modelSwapsRow : OpenClaim := { program := "ytihccjmmnpldjaa", sum := "c897b70fd3958436e3d03898adbf2331f8ec3429e1900e32cc3843462b5f9f17", func := "honeycomb/honeycomblaw24.ModelSwaps", spec := "modelSwaps", inPlace := ["slices.overlaps[honeycomb/api.Pair]"], unfollowed := true, recurses := true, apart := false }
def ModelSwapsSaid : Prop := modelSwapsRow.holds Try.pinned (OpenSpec.ofChange modelSwapsSpec)

/-- ITS FALSE NEIGHBOUR: 'it returns false'. Refute it at one input. -/
def modelSwapsWrong : ChangeSpec := { name := "modelSwaps", fn := fun _ => fun
  | [d1, d2, d3] => { results := [.lit (.bool false)], args := [d1, d2, d3] }
  | _ => none }
def ModelSwapsWrongFalsely : Prop := modelSwapsRow.holds Try.pinned (OpenSpec.ofChange modelSwapsWrong)

/- THE SECOND FORM. 'bulk': how many values and letters a reading holds, each counted each time it is reached (what is shared counts as often as it is met; a slice's spare places count too). A statement '..UptoSaid' is the law's where the arguments, and the package variables that the reading takes, are together of bulk at most 1048576: NARROWER than '..Said'. Prove '..Said' where nothing that the law and all that it calls make is longer than what came in: it says more and counts as full. Else prove '..UptoSaid'. A law counts once. -/
mutual
def uptoBulk {H : Type} : DataW H → Nat
  | .lit (.string bytes) => bytes.length + 1
  | .lit _ => 1
  | .nil => 1
  | .ptr d => uptoBulk d + 1
  | .slice elems spare => uptoBulkAll elems + uptoBulkAll spare + 1
  | .agg parts => uptoBulkAll parts + 1
  | .iface _ d => uptoBulk d + 1
  | .map entries => uptoBulkEntries entries + 1
  | .held _ => 1
def uptoBulkAll {H : Type} : List (DataW H) → Nat
  | [] => 0
  | d :: r => uptoBulk d + uptoBulkAll r
def uptoBulkEntries {H : Type} : List (Lit × DataW H) → Nat
  | [] => 0
  | x :: r => uptoBulkEntry x + uptoBulkEntries r
def uptoBulkEntry {H : Type} : Lit × DataW H → Nat
  | (.string bytes, d) => bytes.length + uptoBulk d + 1
  | (_, d) => uptoBulk d + 1
 end
def uptoSmall : (H : Type) → List (DataW H) → Bool := fun _ ds => decide (uptoBulkAll ds ≤ 1048576)
def OpenSpec.upto (s : _root_.Go.ChangeSpec) : _root_.Go.OpenSpec := { _root_.Go.OpenSpec.ofChange s with cond := some uptoSmall }

/-- 'honeycomblaw24.ModelOthers', WHERE WHAT IT READS IS OF BULK AT MOST 1048576: true; the input reads as it did. -/
def modelOthersUptoRow : OpenClaim := { program := "ytihccjmmnpldjaa", sum := "c897b70fd3958436e3d03898adbf2331f8ec3429e1900e32cc3843462b5f9f17", func := "honeycomb/honeycomblaw24.ModelOthers", spec := "modelOthers", inPlace := ["slices.overlaps[honeycomb/api.Pair]"], unfollowed := true, recurses := true, apart := false, narrowed := true }
def ModelOthersUptoSaid : Prop := modelOthersUptoRow.holds Try.pinned (OpenSpec.upto modelOthersSpec)

/-- 'honeycomblaw24.ModelMaps', WHERE WHAT IT READS IS OF BULK AT MOST 1048576: true; the input reads as it did. -/
def modelMapsUptoRow : OpenClaim := { program := "ytihccjmmnpldjaa", sum := "c897b70fd3958436e3d03898adbf2331f8ec3429e1900e32cc3843462b5f9f17", func := "honeycomb/honeycomblaw24.ModelMaps", spec := "modelMaps", inPlace := ["slices.overlaps[honeycomb/api.Pair]"], unfollowed := true, recurses := true, apart := false, narrowed := true }
def ModelMapsUptoSaid : Prop := modelMapsUptoRow.holds Try.pinned (OpenSpec.upto modelMapsSpec)

/-- 'honeycomblaw24.ModelTurns', WHERE WHAT IT READS IS OF BULK AT MOST 1048576: true; the input reads as it did. -/
def modelTurnsUptoRow : OpenClaim := { program := "ytihccjmmnpldjaa", sum := "c897b70fd3958436e3d03898adbf2331f8ec3429e1900e32cc3843462b5f9f17", func := "honeycomb/honeycomblaw24.ModelTurns", spec := "modelTurns", inPlace := ["slices.overlaps[honeycomb/api.Pair]"], unfollowed := true, recurses := true, apart := false, narrowed := true }
def ModelTurnsUptoSaid : Prop := modelTurnsUptoRow.holds Try.pinned (OpenSpec.upto modelTurnsSpec)

/-- 'honeycomblaw24.ModelSwaps', WHERE WHAT IT READS IS OF BULK AT MOST 1048576: true; the input reads as it did. -/
def modelSwapsUptoRow : OpenClaim := { program := "ytihccjmmnpldjaa", sum := "c897b70fd3958436e3d03898adbf2331f8ec3429e1900e32cc3843462b5f9f17", func := "honeycomb/honeycomblaw24.ModelSwaps", spec := "modelSwaps", inPlace := ["slices.overlaps[honeycomb/api.Pair]"], unfollowed := true, recurses := true, apart := false, narrowed := true }
def ModelSwapsUptoSaid : Prop := modelSwapsUptoRow.holds Try.pinned (OpenSpec.upto modelSwapsSpec)

end Rows
end Go.Proofs.Ytihccjmmnpldjaa
