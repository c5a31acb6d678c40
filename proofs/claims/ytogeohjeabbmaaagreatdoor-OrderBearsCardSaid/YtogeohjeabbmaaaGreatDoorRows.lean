/-
  NARROWER THAN 'FOR EVERY INPUT', by the rows' own cells (each row's printed sentence says how): OrderBears: laid · OrderSearch: laid.
  DERIVED. THE GIVEN ROWS OF THIS SEAT. 2 by the template 'for every input the law returns true; each argument reads behind the call as it read before'; 0 by the template 'total and deterministic' (their statements: YtogeohjeabbmaaaGreatDoorTotals.lean).
  GIVEN WITH THE SEED: the statements are not yours to turn. If you find one false, say at which input.
  Laid BY PROGRAM, IN A SANDBOX (cutbox-rows.mjs): the forced cells as the released guide's own fill.sh prints them over the translation 8a4b1ad4a25c6346… (all of the seat's roots in one cut). By AI agents, Wed Nov 11 2026. No macro, syntax, notation, axiom, sorry.
-/
import Derived.Test.YtogeohjeabbmaaaGreatDoorChecked
import GoSem.Claim
import GoSem.ClaimJoined
import GoSem.ClaimMapViews
import Derived.JoinedTies
import Derived.KernelRfl
namespace Go.Proofs.YtogeohjeabbmaaaGreatDoor
/- THE CELL 'sum', in the pinned program and in every row, IS THE sha256 OF THE DUMP (.gsa) THAT YtogeohjeabbmaaaGreatDoorProg.lean LOADS. Nothing in Lean hashes anything: it is a label: what it is worth is what the hold of that sum in a sandbox is worth. -/
noncomputable def Tryz.pinned : Pinned := { name := "ytogeohjeabbmaaagreatdoor", sum := "8a4b1ad4a25c6346f6cd20576a7843ff52c23742aa792a884ee9dc41028e9074", checked := Tryz.checked }
namespace Rows
def none {H : Type} : Left H := { results := [], args := [] }

/- WHAT THE LISTED PACKAGE-LEVEL VARIABLES READ AS WHEN THE CALL BEGINS. Each datum BY PROGRAM (the guide's laid-datum.mjs) off the statement by which the dump's own 'gosem.cut.vars' lays the variable. In a bare row this is a premise. The card (YtogeohjeabbmaaaGreatDoorCards.lean) ties it to the program's text. -/
def laid_honeycomb_script_takes {H : Type} : DataW H := .agg [.lit (.int .i64 (-1)), .lit (.int .i64 1), .lit (.int .i64 2), .lit (.int .i64 1), .lit (.int .i64 3), .lit (.int .i64 2), .lit (.int .i64 0), .lit (.int .i64 0)]

/-- 'honeycomblaw27.OrderBears': WHATEVER THE INPUT: true; the input reads as it did. -/
def orderBearsSpec : ChangeSpec := { name := "orderBears", fn := fun _ => fun
  | [d1, d2] => { results := [.lit (.bool true)], args := [d1, d2] }
  | _ => none }
def orderBearsRow : OpenClaim := { program := "ytogeohjeabbmaaagreatdoor", sum := "8a4b1ad4a25c6346f6cd20576a7843ff52c23742aa792a884ee9dc41028e9074", func := "honeycomb/honeycomblaw27.OrderBears", spec := "orderBears", inPlace := ["slices.overlaps[honeycomb/api.Pair]"], unfollowed := true, recurses := true, named := ["honeycomb/script.takes"], apart := false, laid := [("honeycomb/script.takes", laid_honeycomb_script_takes)] }
def OrderBearsSaid : Prop := orderBearsRow.holds Tryz.pinned (OpenSpec.ofChange orderBearsSpec)

/-- ITS FALSE NEIGHBOUR: 'it returns false'. Refute it at one input. -/
def orderBearsWrong : ChangeSpec := { name := "orderBears", fn := fun _ => fun
  | [d1, d2] => { results := [.lit (.bool false)], args := [d1, d2] }
  | _ => none }
def OrderBearsWrongFalsely : Prop := orderBearsRow.holds Tryz.pinned (OpenSpec.ofChange orderBearsWrong)

/-- 'honeycomblaw27.OrderSearch': WHATEVER THE INPUT: true; the input reads as it did. -/
def orderSearchSpec : ChangeSpec := { name := "orderSearch", fn := fun _ => fun
  | [d] => { results := [.lit (.bool true)], args := [d] }
  | _ => none }
def orderSearchRow : OpenClaim := { program := "ytogeohjeabbmaaagreatdoor", sum := "8a4b1ad4a25c6346f6cd20576a7843ff52c23742aa792a884ee9dc41028e9074", func := "honeycomb/honeycomblaw27.OrderSearch", spec := "orderSearch", inPlace := ["slices.overlaps[honeycomb/api.Pair]"], unfollowed := true, recurses := true, named := ["honeycomb/script.takes"], apart := false, laid := [("honeycomb/script.takes", laid_honeycomb_script_takes)] }
def OrderSearchSaid : Prop := orderSearchRow.holds Tryz.pinned (OpenSpec.ofChange orderSearchSpec)

/-- ITS FALSE NEIGHBOUR: 'it returns false'. Refute it at one input. -/
def orderSearchWrong : ChangeSpec := { name := "orderSearch", fn := fun _ => fun
  | [d] => { results := [.lit (.bool false)], args := [d] }
  | _ => none }
def OrderSearchWrongFalsely : Prop := orderSearchRow.holds Tryz.pinned (OpenSpec.ofChange orderSearchWrong)

/- THE SECOND FORM. 'bulk': how many values and letters a reading holds, each counted each time it is reached (what is shared counts as often as it is met; a slice's spare places count too). A statement '..UptoSaid' is the law's where the arguments, and the package variables that the reading takes, are together of bulk at most 1048576: NARROWER than '..Said'. Prove '..Said' where nothing that the law and all that it calls make is longer than what came in: it says more and counts as full. Else prove '..UptoSaid'. A law counts once. -/
mutual
def uptoBulk {H : Type} : DataW H → Nat
  | .lit (.string bytes) => bytes.length + 1
  | .lit _ => 1
  | .nil => 1
  | .ptr d => uptoBulk d + 1
  | .slice elems spare => uptoBulkAll elems + uptoBulkAll spare + 1
  | .agg parts => uptoBulkAll parts + 1
  | .iface _ d => uptoBulk d + 1
  | .map entries => uptoBulkEntries entries + 1
  | .held _ => 1
def uptoBulkAll {H : Type} : List (DataW H) → Nat
  | [] => 0
  | d :: r => uptoBulk d + uptoBulkAll r
def uptoBulkEntries {H : Type} : List (Lit × DataW H) → Nat
  | [] => 0
  | x :: r => uptoBulkEntry x + uptoBulkEntries r
def uptoBulkEntry {H : Type} : Lit × DataW H → Nat
  | (.string bytes, d) => bytes.length + uptoBulk d + 1
  | (_, d) => uptoBulk d + 1
 end
def uptoSmall : (H : Type) → List (DataW H) → Bool := fun _ ds => decide (uptoBulkAll ds ≤ 1048576)
def OpenSpec.upto (s : _root_.Go.ChangeSpec) : _root_.Go.OpenSpec := { _root_.Go.OpenSpec.ofChange s with cond := some uptoSmall }

/-- 'honeycomblaw27.OrderBears', WHERE WHAT IT READS IS OF BULK AT MOST 1048576: true; the input reads as it did. -/
def orderBearsUptoRow : OpenClaim := { program := "ytogeohjeabbmaaagreatdoor", sum := "8a4b1ad4a25c6346f6cd20576a7843ff52c23742aa792a884ee9dc41028e9074", func := "honeycomb/honeycomblaw27.OrderBears", spec := "orderBears", inPlace := ["slices.overlaps[honeycomb/api.Pair]"], unfollowed := true, recurses := true, named := ["honeycomb/script.takes"], apart := false, laid := [("honeycomb/script.takes", laid_honeycomb_script_takes)], narrowed := true }
def OrderBearsUptoSaid : Prop := orderBearsUptoRow.holds Tryz.pinned (OpenSpec.upto orderBearsSpec)

/-- 'honeycomblaw27.OrderSearch', WHERE WHAT IT READS IS OF BULK AT MOST 1048576: true; the input reads as it did. -/
def orderSearchUptoRow : OpenClaim := { program := "ytogeohjeabbmaaagreatdoor", sum := "8a4b1ad4a25c6346f6cd20576a7843ff52c23742aa792a884ee9dc41028e9074", func := "honeycomb/honeycomblaw27.OrderSearch", spec := "orderSearch", inPlace := ["slices.overlaps[honeycomb/api.Pair]"], unfollowed := true, recurses := true, named := ["honeycomb/script.takes"], apart := false, laid := [("honeycomb/script.takes", laid_honeycomb_script_takes)], narrowed := true }
def OrderSearchUptoSaid : Prop := orderSearchUptoRow.holds Tryz.pinned (OpenSpec.upto orderSearchSpec)

end Rows
end Go.Proofs.YtogeohjeabbmaaaGreatDoor
