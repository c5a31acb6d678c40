/-
  NARROWER THAN 'FOR EVERY INPUT', by the rows' own cells (each row's printed sentence says how): OrderOne: laid · OrderFinds: laid · OrderFree: laid · OrderMay: laid.
  DERIVED. THE GIVEN ROWS OF THIS SEAT. 4 by the template 'for every input the law returns true; each argument reads behind the call as it read before'; 0 by the template 'total and deterministic' (their statements: YtogeohjeabbmaaaDoorTotals.lean).
  GIVEN WITH THE SEED: the statements are not yours to turn. If you find one false, say at which input.
  Laid BY PROGRAM, IN A SANDBOX (cutbox-rows.mjs): the forced cells as the released guide's own fill.sh prints them over the translation 687e2e1576884d75… (all of the seat's roots in one cut). By AI agents, Wed Nov 11 2026. No macro, syntax, notation, axiom, sorry.
-/
import Derived.Test.YtogeohjeabbmaaaDoorChecked
import GoSem.Claim
import GoSem.ClaimJoined
import GoSem.ClaimMapViews
import Derived.JoinedTies
import Derived.KernelRfl
namespace Go.Proofs.YtogeohjeabbmaaaDoor
/- THE CELL 'sum', in the pinned program and in every row, IS THE sha256 OF THE DUMP (.gsa) THAT YtogeohjeabbmaaaDoorProg.lean LOADS. Nothing in Lean hashes anything: it is a label: what it is worth is what the hold of that sum in a sandbox is worth. -/
noncomputable def Tryd.pinned : Pinned := { name := "ytogeohjeabbmaaadoor", sum := "687e2e1576884d75aacc03940e96c8ac50f219c55825fe26b4bc350ab6bd840d", checked := Tryd.checked }
namespace Rows
def none {H : Type} : Left H := { results := [], args := [] }

/- WHAT THE LISTED PACKAGE-LEVEL VARIABLES READ AS WHEN THE CALL BEGINS. Each datum BY PROGRAM (the guide's laid-datum.mjs) off the statement by which the dump's own 'gosem.cut.vars' lays the variable. In a bare row this is a premise. The card (YtogeohjeabbmaaaDoorCards.lean) ties it to the program's text. -/
def laid_honeycomb_script_takes {H : Type} : DataW H := .agg [.lit (.int .i64 (-1)), .lit (.int .i64 1), .lit (.int .i64 2), .lit (.int .i64 1), .lit (.int .i64 3), .lit (.int .i64 2), .lit (.int .i64 0), .lit (.int .i64 0)]

/-- 'honeycomblaw27.OrderOne': WHATEVER THE INPUT: true; the input reads as it did. -/
def orderOneSpec : ChangeSpec := { name := "orderOne", fn := fun _ => fun
  | [d1, d2] => { results := [.lit (.bool true)], args := [d1, d2] }
  | _ => none }
def orderOneRow : OpenClaim := { program := "ytogeohjeabbmaaadoor", sum := "687e2e1576884d75aacc03940e96c8ac50f219c55825fe26b4bc350ab6bd840d", func := "honeycomb/honeycomblaw27.OrderOne", spec := "orderOne", inPlace := ["slices.overlaps[honeycomb/api.Pair]"], unfollowed := true, recurses := true, named := ["honeycomb/script.takes"], plainKeys := false, apart := false, laid := [("honeycomb/script.takes", laid_honeycomb_script_takes)] }
def OrderOneSaid : Prop := orderOneRow.holds Tryd.pinned (OpenSpec.ofChange orderOneSpec)

/-- ITS FALSE NEIGHBOUR: 'it returns false'. Refute it at one input. -/
def orderOneWrong : ChangeSpec := { name := "orderOne", fn := fun _ => fun
  | [d1, d2] => { results := [.lit (.bool false)], args := [d1, d2] }
  | _ => none }
def OrderOneWrongFalsely : Prop := orderOneRow.holds Tryd.pinned (OpenSpec.ofChange orderOneWrong)

/-- 'honeycomblaw27.OrderFinds': WHATEVER THE INPUT: true; the input reads as it did. -/
def orderFindsSpec : ChangeSpec := { name := "orderFinds", fn := fun _ => fun
  | [d] => { results := [.lit (.bool true)], args := [d] }
  | _ => none }
def orderFindsRow : OpenClaim := { program := "ytogeohjeabbmaaadoor", sum := "687e2e1576884d75aacc03940e96c8ac50f219c55825fe26b4bc350ab6bd840d", func := "honeycomb/honeycomblaw27.OrderFinds", spec := "orderFinds", inPlace := ["slices.overlaps[honeycomb/api.Pair]"], unfollowed := true, recurses := true, named := ["honeycomb/script.takes"], plainKeys := false, apart := false, laid := [("honeycomb/script.takes", laid_honeycomb_script_takes)] }
def OrderFindsSaid : Prop := orderFindsRow.holds Tryd.pinned (OpenSpec.ofChange orderFindsSpec)

/-- ITS FALSE NEIGHBOUR: 'it returns false'. Refute it at one input. -/
def orderFindsWrong : ChangeSpec := { name := "orderFinds", fn := fun _ => fun
  | [d] => { results := [.lit (.bool false)], args := [d] }
  | _ => none }
def OrderFindsWrongFalsely : Prop := orderFindsRow.holds Tryd.pinned (OpenSpec.ofChange orderFindsWrong)

/-- 'honeycomblaw27.OrderFree': WHATEVER THE INPUT: true; the input reads as it did. -/
def orderFreeSpec : ChangeSpec := { name := "orderFree", fn := fun _ => fun
  | [d1, d2] => { results := [.lit (.bool true)], args := [d1, d2] }
  | _ => none }
def orderFreeRow : OpenClaim := { program := "ytogeohjeabbmaaadoor", sum := "687e2e1576884d75aacc03940e96c8ac50f219c55825fe26b4bc350ab6bd840d", func := "honeycomb/honeycomblaw27.OrderFree", spec := "orderFree", inPlace := ["slices.overlaps[honeycomb/api.Pair]"], unfollowed := true, recurses := true, named := ["honeycomb/script.takes"], plainKeys := false, apart := false, laid := [("honeycomb/script.takes", laid_honeycomb_script_takes)] }
def OrderFreeSaid : Prop := orderFreeRow.holds Tryd.pinned (OpenSpec.ofChange orderFreeSpec)

/-- ITS FALSE NEIGHBOUR: 'it returns false'. Refute it at one input. -/
def orderFreeWrong : ChangeSpec := { name := "orderFree", fn := fun _ => fun
  | [d1, d2] => { results := [.lit (.bool false)], args := [d1, d2] }
  | _ => none }
def OrderFreeWrongFalsely : Prop := orderFreeRow.holds Tryd.pinned (OpenSpec.ofChange orderFreeWrong)

/-- 'honeycomblaw27.OrderMay': WHATEVER THE INPUT: true; the input reads as it did. -/
def orderMaySpec : ChangeSpec := { name := "orderMay", fn := fun _ => fun
  | [d] => { results := [.lit (.bool true)], args := [d] }
  | _ => none }
def orderMayRow : OpenClaim := { program := "ytogeohjeabbmaaadoor", sum := "687e2e1576884d75aacc03940e96c8ac50f219c55825fe26b4bc350ab6bd840d", func := "honeycomb/honeycomblaw27.OrderMay", spec := "orderMay", inPlace := ["slices.overlaps[honeycomb/api.Pair]"], unfollowed := true, recurses := true, named := ["honeycomb/script.takes"], plainKeys := false, apart := false, laid := [("honeycomb/script.takes", laid_honeycomb_script_takes)] }
def OrderMaySaid : Prop := orderMayRow.holds Tryd.pinned (OpenSpec.ofChange orderMaySpec)

/-- ITS FALSE NEIGHBOUR: 'it returns false'. Refute it at one input. -/
def orderMayWrong : ChangeSpec := { name := "orderMay", fn := fun _ => fun
  | [d] => { results := [.lit (.bool false)], args := [d] }
  | _ => none }
def OrderMayWrongFalsely : Prop := orderMayRow.holds Tryd.pinned (OpenSpec.ofChange orderMayWrong)

/- THE SECOND FORM. 'bulk': how many values and letters a reading holds, each counted each time it is reached (what is shared counts as often as it is met; a slice's spare places count too). A statement '..UptoSaid' is the law's where the arguments, and the package variables that the reading takes, are together of bulk at most 1048576: NARROWER than '..Said'. Prove '..Said' where nothing that the law and all that it calls make is longer than what came in: it says more and counts as full. Else prove '..UptoSaid'. A law counts once. -/
mutual
def uptoBulk {H : Type} : DataW H → Nat
  | .lit (.string bytes) => bytes.length + 1
  | .lit _ => 1
  | .nil => 1
  | .ptr d => uptoBulk d + 1
  | .slice elems spare => uptoBulkAll elems + uptoBulkAll spare + 1
  | .agg parts => uptoBulkAll parts + 1
  | .iface _ d => uptoBulk d + 1
  | .map entries => uptoBulkEntries entries + 1
  | .held _ => 1
def uptoBulkAll {H : Type} : List (DataW H) → Nat
  | [] => 0
  | d :: r => uptoBulk d + uptoBulkAll r
def uptoBulkEntries {H : Type} : List (Lit × DataW H) → Nat
  | [] => 0
  | x :: r => uptoBulkEntry x + uptoBulkEntries r
def uptoBulkEntry {H : Type} : Lit × DataW H → Nat
  | (.string bytes, d) => bytes.length + uptoBulk d + 1
  | (_, d) => uptoBulk d + 1
 end
def uptoSmall : (H : Type) → List (DataW H) → Bool := fun _ ds => decide (uptoBulkAll ds ≤ 1048576)
def OpenSpec.upto (s : _root_.Go.ChangeSpec) : _root_.Go.OpenSpec := { _root_.Go.OpenSpec.ofChange s with cond := some uptoSmall }

/-- 'honeycomblaw27.OrderOne', WHERE WHAT IT READS IS OF BULK AT MOST 1048576: true; the input reads as it did. -/
def orderOneUptoRow : OpenClaim := { program := "ytogeohjeabbmaaadoor", sum := "687e2e1576884d75aacc03940e96c8ac50f219c55825fe26b4bc350ab6bd840d", func := "honeycomb/honeycomblaw27.OrderOne", spec := "orderOne", inPlace := ["slices.overlaps[honeycomb/api.Pair]"], unfollowed := true, recurses := true, named := ["honeycomb/script.takes"], plainKeys := false, apart := false, laid := [("honeycomb/script.takes", laid_honeycomb_script_takes)], narrowed := true }
def OrderOneUptoSaid : Prop := orderOneUptoRow.holds Tryd.pinned (OpenSpec.upto orderOneSpec)

/-- 'honeycomblaw27.OrderFinds', WHERE WHAT IT READS IS OF BULK AT MOST 1048576: true; the input reads as it did. -/
def orderFindsUptoRow : OpenClaim := { program := "ytogeohjeabbmaaadoor", sum := "687e2e1576884d75aacc03940e96c8ac50f219c55825fe26b4bc350ab6bd840d", func := "honeycomb/honeycomblaw27.OrderFinds", spec := "orderFinds", inPlace := ["slices.overlaps[honeycomb/api.Pair]"], unfollowed := true, recurses := true, named := ["honeycomb/script.takes"], plainKeys := false, apart := false, laid := [("honeycomb/script.takes", laid_honeycomb_script_takes)], narrowed := true }
def OrderFindsUptoSaid : Prop := orderFindsUptoRow.holds Tryd.pinned (OpenSpec.upto orderFindsSpec)

/-- 'honeycomblaw27.OrderFree', WHERE WHAT IT READS IS OF BULK AT MOST 1048576: true; the input reads as it did. -/
def orderFreeUptoRow : OpenClaim := { program := "ytogeohjeabbmaaadoor", sum := "687e2e1576884d75aacc03940e96c8ac50f219c55825fe26b4bc350ab6bd840d", func := "honeycomb/honeycomblaw27.OrderFree", spec := "orderFree", inPlace := ["slices.overlaps[honeycomb/api.Pair]"], unfollowed := true, recurses := true, named := ["honeycomb/script.takes"], plainKeys := false, apart := false, laid := [("honeycomb/script.takes", laid_honeycomb_script_takes)], narrowed := true }
def OrderFreeUptoSaid : Prop := orderFreeUptoRow.holds Tryd.pinned (OpenSpec.upto orderFreeSpec)

/-- 'honeycomblaw27.OrderMay', WHERE WHAT IT READS IS OF BULK AT MOST 1048576: true; the input reads as it did. -/
def orderMayUptoRow : OpenClaim := { program := "ytogeohjeabbmaaadoor", sum := "687e2e1576884d75aacc03940e96c8ac50f219c55825fe26b4bc350ab6bd840d", func := "honeycomb/honeycomblaw27.OrderMay", spec := "orderMay", inPlace := ["slices.overlaps[honeycomb/api.Pair]"], unfollowed := true, recurses := true, named := ["honeycomb/script.takes"], plainKeys := false, apart := false, laid := [("honeycomb/script.takes", laid_honeycomb_script_takes)], narrowed := true }
def OrderMayUptoSaid : Prop := orderMayUptoRow.holds Tryd.pinned (OpenSpec.upto orderMaySpec)

end Rows
end Go.Proofs.YtogeohjeabbmaaaDoor
