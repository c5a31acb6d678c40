/-
  NARROWER THAN 'FOR EVERY INPUT', by the rows' own cells (each row's printed sentence says how): ScriptMay: laid · ScriptBytes: laid · ScriptBack: laid · ScriptNumbers: laid · ScriptCuts: laid · ScriptKeeps: laid.
  DERIVED. THE GIVEN ROWS OF THIS SEAT. 6 by the template 'for every input the law returns true; each argument reads behind the call as it read before'; 0 by the template 'total and deterministic' (their statements: YtifofdciablljaaDoorTotals.lean).
  GIVEN WITH THE SEED: the statements are not yours to turn. If you find one false, say at which input.
  Laid BY PROGRAM, IN A SANDBOX (cutbox-rows.mjs): the forced cells as the released guide's own fill.sh prints them over the translation 8cd44f76c3401fdf… (all of the seat's roots in one cut). By AI agents, Wed Nov 11 2026. No macro, syntax, notation, axiom, sorry.
-/
import Derived.Test.YtifofdciablljaaDoorChecked
import GoSem.Claim
import GoSem.ClaimJoined
import GoSem.ClaimMapViews
import Derived.JoinedTies
import Derived.KernelRfl
namespace Go.Proofs.YtifofdciablljaaDoor
/- THE CELL 'sum', in the pinned program and in every row, IS THE sha256 OF THE DUMP (.gsa) THAT YtifofdciablljaaDoorProg.lean LOADS. Nothing in Lean hashes anything: it is a label: what it is worth is what the hold of that sum in a sandbox is worth. -/
noncomputable def Tryd.pinned : Pinned := { name := "ytifofdciablljaadoor", sum := "8cd44f76c3401fdf4d236e9fe3c71978b964f66d05876a72bec268dfe136318c", checked := Tryd.checked }
namespace Rows
def none {H : Type} : Left H := { results := [], args := [] }

/- WHAT THE LISTED PACKAGE-LEVEL VARIABLES READ AS WHEN THE CALL BEGINS. Each datum BY PROGRAM (the guide's laid-datum.mjs) off the statement by which the dump's own 'gosem.cut.vars' lays the variable. In a bare row this is a premise. The card (YtifofdciablljaaDoorCards.lean) ties it to the program's text. -/
def laid_honeycomb_script_takes {H : Type} : DataW H := .agg [.lit (.int .i64 (-1)), .lit (.int .i64 1), .lit (.int .i64 2), .lit (.int .i64 1), .lit (.int .i64 3), .lit (.int .i64 2), .lit (.int .i64 0), .lit (.int .i64 0)]

/-- 'honeycomblaw03.ScriptMay': WHATEVER THE INPUT: true; the input reads as it did. -/
def scriptMaySpec : ChangeSpec := { name := "scriptMay", fn := fun _ => fun
  | [d1, d2, d3] => { results := [.lit (.bool true)], args := [d1, d2, d3] }
  | _ => none }
def scriptMayRow : OpenClaim := { program := "ytifofdciablljaadoor", sum := "8cd44f76c3401fdf4d236e9fe3c71978b964f66d05876a72bec268dfe136318c", func := "honeycomb/honeycomblaw03.ScriptMay", spec := "scriptMay", unfollowed := true, recurses := true, named := ["honeycomb/script.takes"], apart := false, laid := [("honeycomb/script.takes", laid_honeycomb_script_takes)] }
def ScriptMaySaid : Prop := scriptMayRow.holds Tryd.pinned (OpenSpec.ofChange scriptMaySpec)

/-- ITS FALSE NEIGHBOUR: 'it returns false'. Refute it at one input. -/
def scriptMayWrong : ChangeSpec := { name := "scriptMay", fn := fun _ => fun
  | [d1, d2, d3] => { results := [.lit (.bool false)], args := [d1, d2, d3] }
  | _ => none }
def ScriptMayWrongFalsely : Prop := scriptMayRow.holds Tryd.pinned (OpenSpec.ofChange scriptMayWrong)

/-- 'honeycomblaw03.ScriptBytes': WHATEVER THE INPUT: true; the input reads as it did. -/
def scriptBytesSpec : ChangeSpec := { name := "scriptBytes", fn := fun _ => fun
  | [d1, d2, d3] => { results := [.lit (.bool true)], args := [d1, d2, d3] }
  | _ => none }
def scriptBytesRow : OpenClaim := { program := "ytifofdciablljaadoor", sum := "8cd44f76c3401fdf4d236e9fe3c71978b964f66d05876a72bec268dfe136318c", func := "honeycomb/honeycomblaw03.ScriptBytes", spec := "scriptBytes", unfollowed := true, recurses := true, named := ["honeycomb/script.takes"], apart := false, laid := [("honeycomb/script.takes", laid_honeycomb_script_takes)] }
def ScriptBytesSaid : Prop := scriptBytesRow.holds Tryd.pinned (OpenSpec.ofChange scriptBytesSpec)

/-- ITS FALSE NEIGHBOUR: 'it returns false'. Refute it at one input. -/
def scriptBytesWrong : ChangeSpec := { name := "scriptBytes", fn := fun _ => fun
  | [d1, d2, d3] => { results := [.lit (.bool false)], args := [d1, d2, d3] }
  | _ => none }
def ScriptBytesWrongFalsely : Prop := scriptBytesRow.holds Tryd.pinned (OpenSpec.ofChange scriptBytesWrong)

/-- 'honeycomblaw03.ScriptBack': WHATEVER THE INPUT: true; the input reads as it did. -/
def scriptBackSpec : ChangeSpec := { name := "scriptBack", fn := fun _ => fun
  | [d1, d2] => { results := [.lit (.bool true)], args := [d1, d2] }
  | _ => none }
def scriptBackRow : OpenClaim := { program := "ytifofdciablljaadoor", sum := "8cd44f76c3401fdf4d236e9fe3c71978b964f66d05876a72bec268dfe136318c", func := "honeycomb/honeycomblaw03.ScriptBack", spec := "scriptBack", unfollowed := true, recurses := true, named := ["honeycomb/script.takes"], apart := false, laid := [("honeycomb/script.takes", laid_honeycomb_script_takes)] }
def ScriptBackSaid : Prop := scriptBackRow.holds Tryd.pinned (OpenSpec.ofChange scriptBackSpec)

/-- ITS FALSE NEIGHBOUR: 'it returns false'. Refute it at one input. -/
def scriptBackWrong : ChangeSpec := { name := "scriptBack", fn := fun _ => fun
  | [d1, d2] => { results := [.lit (.bool false)], args := [d1, d2] }
  | _ => none }
def ScriptBackWrongFalsely : Prop := scriptBackRow.holds Tryd.pinned (OpenSpec.ofChange scriptBackWrong)

/-- 'honeycomblaw03.ScriptNumbers': WHATEVER THE INPUT: true; the input reads as it did. -/
def scriptNumbersSpec : ChangeSpec := { name := "scriptNumbers", fn := fun _ => fun
  | [d1, d2] => { results := [.lit (.bool true)], args := [d1, d2] }
  | _ => none }
def scriptNumbersRow : OpenClaim := { program := "ytifofdciablljaadoor", sum := "8cd44f76c3401fdf4d236e9fe3c71978b964f66d05876a72bec268dfe136318c", func := "honeycomb/honeycomblaw03.ScriptNumbers", spec := "scriptNumbers", unfollowed := true, recurses := true, named := ["honeycomb/script.takes"], apart := false, laid := [("honeycomb/script.takes", laid_honeycomb_script_takes)] }
def ScriptNumbersSaid : Prop := scriptNumbersRow.holds Tryd.pinned (OpenSpec.ofChange scriptNumbersSpec)

/-- ITS FALSE NEIGHBOUR: 'it returns false'. Refute it at one input. -/
def scriptNumbersWrong : ChangeSpec := { name := "scriptNumbers", fn := fun _ => fun
  | [d1, d2] => { results := [.lit (.bool false)], args := [d1, d2] }
  | _ => none }
def ScriptNumbersWrongFalsely : Prop := scriptNumbersRow.holds Tryd.pinned (OpenSpec.ofChange scriptNumbersWrong)

/-- 'honeycomblaw03.ScriptCuts': WHATEVER THE INPUT: true; the input reads as it did. -/
def scriptCutsSpec : ChangeSpec := { name := "scriptCuts", fn := fun _ => fun
  | [d1, d2, d3] => { results := [.lit (.bool true)], args := [d1, d2, d3] }
  | _ => none }
def scriptCutsRow : OpenClaim := { program := "ytifofdciablljaadoor", sum := "8cd44f76c3401fdf4d236e9fe3c71978b964f66d05876a72bec268dfe136318c", func := "honeycomb/honeycomblaw03.ScriptCuts", spec := "scriptCuts", unfollowed := true, recurses := true, named := ["honeycomb/script.takes"], apart := false, laid := [("honeycomb/script.takes", laid_honeycomb_script_takes)] }
def ScriptCutsSaid : Prop := scriptCutsRow.holds Tryd.pinned (OpenSpec.ofChange scriptCutsSpec)

/-- ITS FALSE NEIGHBOUR: 'it returns false'. Refute it at one input. -/
def scriptCutsWrong : ChangeSpec := { name := "scriptCuts", fn := fun _ => fun
  | [d1, d2, d3] => { results := [.lit (.bool false)], args := [d1, d2, d3] }
  | _ => none }
def ScriptCutsWrongFalsely : Prop := scriptCutsRow.holds Tryd.pinned (OpenSpec.ofChange scriptCutsWrong)

/-- 'honeycomblaw03.ScriptKeeps': WHATEVER THE INPUT: true; the input reads as it did. -/
def scriptKeepsSpec : ChangeSpec := { name := "scriptKeeps", fn := fun _ => fun
  | [d1, d2, d3] => { results := [.lit (.bool true)], args := [d1, d2, d3] }
  | _ => none }
def scriptKeepsRow : OpenClaim := { program := "ytifofdciablljaadoor", sum := "8cd44f76c3401fdf4d236e9fe3c71978b964f66d05876a72bec268dfe136318c", func := "honeycomb/honeycomblaw03.ScriptKeeps", spec := "scriptKeeps", unfollowed := true, recurses := true, named := ["honeycomb/script.takes"], apart := false, laid := [("honeycomb/script.takes", laid_honeycomb_script_takes)] }
def ScriptKeepsSaid : Prop := scriptKeepsRow.holds Tryd.pinned (OpenSpec.ofChange scriptKeepsSpec)

/-- ITS FALSE NEIGHBOUR: 'it returns false'. Refute it at one input. -/
def scriptKeepsWrong : ChangeSpec := { name := "scriptKeeps", fn := fun _ => fun
  | [d1, d2, d3] => { results := [.lit (.bool false)], args := [d1, d2, d3] }
  | _ => none }
def ScriptKeepsWrongFalsely : Prop := scriptKeepsRow.holds Tryd.pinned (OpenSpec.ofChange scriptKeepsWrong)

/- THE SECOND FORM. 'bulk': how many values and letters a reading holds, each counted each time it is reached (what is shared counts as often as it is met; a slice's spare places count too). A statement '..UptoSaid' is the law's where the arguments, and the package variables that the reading takes, are together of bulk at most 1048576: NARROWER than '..Said'. Prove '..Said' where nothing that the law and all that it calls make is longer than what came in: it says more and counts as full. Else prove '..UptoSaid'. A law counts once. -/
mutual
def uptoBulk {H : Type} : DataW H → Nat
  | .lit (.string bytes) => bytes.length + 1
  | .lit _ => 1
  | .nil => 1
  | .ptr d => uptoBulk d + 1
  | .slice elems spare => uptoBulkAll elems + uptoBulkAll spare + 1
  | .agg parts => uptoBulkAll parts + 1
  | .iface _ d => uptoBulk d + 1
  | .map entries => uptoBulkEntries entries + 1
  | .held _ => 1
def uptoBulkAll {H : Type} : List (DataW H) → Nat
  | [] => 0
  | d :: r => uptoBulk d + uptoBulkAll r
def uptoBulkEntries {H : Type} : List (Lit × DataW H) → Nat
  | [] => 0
  | x :: r => uptoBulkEntry x + uptoBulkEntries r
def uptoBulkEntry {H : Type} : Lit × DataW H → Nat
  | (.string bytes, d) => bytes.length + uptoBulk d + 1
  | (_, d) => uptoBulk d + 1
 end
def uptoSmall : (H : Type) → List (DataW H) → Bool := fun _ ds => decide (uptoBulkAll ds ≤ 1048576)
def OpenSpec.upto (s : _root_.Go.ChangeSpec) : _root_.Go.OpenSpec := { _root_.Go.OpenSpec.ofChange s with cond := some uptoSmall }

/-- 'honeycomblaw03.ScriptMay', WHERE WHAT IT READS IS OF BULK AT MOST 1048576: true; the input reads as it did. -/
def scriptMayUptoRow : OpenClaim := { program := "ytifofdciablljaadoor", sum := "8cd44f76c3401fdf4d236e9fe3c71978b964f66d05876a72bec268dfe136318c", func := "honeycomb/honeycomblaw03.ScriptMay", spec := "scriptMay", unfollowed := true, recurses := true, named := ["honeycomb/script.takes"], apart := false, laid := [("honeycomb/script.takes", laid_honeycomb_script_takes)], narrowed := true }
def ScriptMayUptoSaid : Prop := scriptMayUptoRow.holds Tryd.pinned (OpenSpec.upto scriptMaySpec)

/-- 'honeycomblaw03.ScriptBytes', WHERE WHAT IT READS IS OF BULK AT MOST 1048576: true; the input reads as it did. -/
def scriptBytesUptoRow : OpenClaim := { program := "ytifofdciablljaadoor", sum := "8cd44f76c3401fdf4d236e9fe3c71978b964f66d05876a72bec268dfe136318c", func := "honeycomb/honeycomblaw03.ScriptBytes", spec := "scriptBytes", unfollowed := true, recurses := true, named := ["honeycomb/script.takes"], apart := false, laid := [("honeycomb/script.takes", laid_honeycomb_script_takes)], narrowed := true }
def ScriptBytesUptoSaid : Prop := scriptBytesUptoRow.holds Tryd.pinned (OpenSpec.upto scriptBytesSpec)

/-- 'honeycomblaw03.ScriptBack', WHERE WHAT IT READS IS OF BULK AT MOST 1048576: true; the input reads as it did. -/
def scriptBackUptoRow : OpenClaim := { program := "ytifofdciablljaadoor", sum := "8cd44f76c3401fdf4d236e9fe3c71978b964f66d05876a72bec268dfe136318c", func := "honeycomb/honeycomblaw03.ScriptBack", spec := "scriptBack", unfollowed := true, recurses := true, named := ["honeycomb/script.takes"], apart := false, laid := [("honeycomb/script.takes", laid_honeycomb_script_takes)], narrowed := true }
def ScriptBackUptoSaid : Prop := scriptBackUptoRow.holds Tryd.pinned (OpenSpec.upto scriptBackSpec)

/-- 'honeycomblaw03.ScriptNumbers', WHERE WHAT IT READS IS OF BULK AT MOST 1048576: true; the input reads as it did. -/
def scriptNumbersUptoRow : OpenClaim := { program := "ytifofdciablljaadoor", sum := "8cd44f76c3401fdf4d236e9fe3c71978b964f66d05876a72bec268dfe136318c", func := "honeycomb/honeycomblaw03.ScriptNumbers", spec := "scriptNumbers", unfollowed := true, recurses := true, named := ["honeycomb/script.takes"], apart := false, laid := [("honeycomb/script.takes", laid_honeycomb_script_takes)], narrowed := true }
def ScriptNumbersUptoSaid : Prop := scriptNumbersUptoRow.holds Tryd.pinned (OpenSpec.upto scriptNumbersSpec)

/-- 'honeycomblaw03.ScriptCuts', WHERE WHAT IT READS IS OF BULK AT MOST 1048576: true; the input reads as it did. -/
def scriptCutsUptoRow : OpenClaim := { program := "ytifofdciablljaadoor", sum := "8cd44f76c3401fdf4d236e9fe3c71978b964f66d05876a72bec268dfe136318c", func := "honeycomb/honeycomblaw03.ScriptCuts", spec := "scriptCuts", unfollowed := true, recurses := true, named := ["honeycomb/script.takes"], apart := false, laid := [("honeycomb/script.takes", laid_honeycomb_script_takes)], narrowed := true }
def ScriptCutsUptoSaid : Prop := scriptCutsUptoRow.holds Tryd.pinned (OpenSpec.upto scriptCutsSpec)

/-- 'honeycomblaw03.ScriptKeeps', WHERE WHAT IT READS IS OF BULK AT MOST 1048576: true; the input reads as it did. -/
def scriptKeepsUptoRow : OpenClaim := { program := "ytifofdciablljaadoor", sum := "8cd44f76c3401fdf4d236e9fe3c71978b964f66d05876a72bec268dfe136318c", func := "honeycomb/honeycomblaw03.ScriptKeeps", spec := "scriptKeeps", unfollowed := true, recurses := true, named := ["honeycomb/script.takes"], apart := false, laid := [("honeycomb/script.takes", laid_honeycomb_script_takes)], narrowed := true }
def ScriptKeepsUptoSaid : Prop := scriptKeepsUptoRow.holds Tryd.pinned (OpenSpec.upto scriptKeepsSpec)

end Rows
end Go.Proofs.YtifofdciablljaaDoor
