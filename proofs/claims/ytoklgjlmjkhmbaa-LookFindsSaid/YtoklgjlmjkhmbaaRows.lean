/-
  No cell of these rows narrows 'for every input' (looked for: loops, veiled, ifaces, maps, wideKeys, modest, calm, conditions, laid).
  DERIVED. THE GIVEN ROWS OF THIS SEAT. 4 by the template 'for every input the law returns true; each argument reads behind the call as it read before'; 0 by the template 'total and deterministic' (their statements: YtoklgjlmjkhmbaaTotals.lean).
  GIVEN WITH THE SEED: the statements are not yours to turn. If you find one false, say at which input.
  Laid BY PROGRAM, IN A SANDBOX (cutbox-rows.mjs): the forced cells as the released guide's own fill.sh prints them over the translation 8d7ccd3ac905cdc2… (all of the seat's roots in one cut). By AI agents, Wed Nov 11 2026. No macro, syntax, notation, axiom, sorry.
-/
import Derived.Test.YtoklgjlmjkhmbaaChecked
import GoSem.Claim
import GoSem.ClaimJoined
import GoSem.ClaimMapViews
import Derived.JoinedTies
import Derived.KernelRfl
namespace Go.Proofs.Ytoklgjlmjkhmbaa
/- THE CELL 'sum', in the pinned program and in every row, IS THE sha256 OF THE DUMP (.gsa) THAT YtoklgjlmjkhmbaaProg.lean LOADS. Nothing in Lean hashes anything: it is a label: what it is worth is what the hold of that sum in a sandbox is worth. -/
noncomputable def Try.pinned : Pinned := { name := "ytoklgjlmjkhmbaa", sum := "8d7ccd3ac905cdc2cfee31afaf0d1855421bc63fcacff3c5b1d061df2ffb2368", checked := Try.checked }
namespace Rows
def none {H : Type} : Left H := { results := [], args := [] }

/-- 'honeycomblaw18.LookRuns': WHATEVER THE INPUT: true; the input reads as it did. -/
def lookRunsSpec : ChangeSpec := { name := "lookRuns", fn := fun _ => fun
  | [d1, d2, d3] => { results := [.lit (.bool true)], args := [d1, d2, d3] }
  | _ => none }
def lookRunsRow : OpenClaim := { program := "ytoklgjlmjkhmbaa", sum := "8d7ccd3ac905cdc2cfee31afaf0d1855421bc63fcacff3c5b1d061df2ffb2368", func := "honeycomb/honeycomblaw18.LookRuns", spec := "lookRuns", unfollowed := true, recurses := true, apart := false }
def LookRunsSaid : Prop := lookRunsRow.holds Try.pinned (OpenSpec.ofChange lookRunsSpec)

/-- ITS FALSE NEIGHBOUR: 'it returns false'. Refute it at one input. -/
def lookRunsWrong : ChangeSpec := { name := "lookRuns", fn := fun _ => fun
  | [d1, d2, d3] => { results := [.lit (.bool false)], args := [d1, d2, d3] }
  | _ => none }
def LookRunsWrongFalsely : Prop := lookRunsRow.holds Try.pinned (OpenSpec.ofChange lookRunsWrong)

/-- 'honeycomblaw18.LookTakes': WHATEVER THE INPUT: true; the input reads as it did. -/
def lookTakesSpec : ChangeSpec := { name := "lookTakes", fn := fun _ => fun
  | [d1, d2, d3] => { results := [.lit (.bool true)], args := [d1, d2, d3] }
  | _ => none }
def lookTakesRow : OpenClaim := { program := "ytoklgjlmjkhmbaa", sum := "8d7ccd3ac905cdc2cfee31afaf0d1855421bc63fcacff3c5b1d061df2ffb2368", func := "honeycomb/honeycomblaw18.LookTakes", spec := "lookTakes", unfollowed := true, recurses := true, apart := false }
def LookTakesSaid : Prop := lookTakesRow.holds Try.pinned (OpenSpec.ofChange lookTakesSpec)

/-- ITS FALSE NEIGHBOUR: 'it returns false'. Refute it at one input. -/
def lookTakesWrong : ChangeSpec := { name := "lookTakes", fn := fun _ => fun
  | [d1, d2, d3] => { results := [.lit (.bool false)], args := [d1, d2, d3] }
  | _ => none }
def LookTakesWrongFalsely : Prop := lookTakesRow.holds Try.pinned (OpenSpec.ofChange lookTakesWrong)

/-- 'honeycomblaw18.LookBegins': WHATEVER THE INPUT: true; the input reads as it did. -/
def lookBeginsSpec : ChangeSpec := { name := "lookBegins", fn := fun _ => fun
  | [d1, d2, d3] => { results := [.lit (.bool true)], args := [d1, d2, d3] }
  | _ => none }
def lookBeginsRow : OpenClaim := { program := "ytoklgjlmjkhmbaa", sum := "8d7ccd3ac905cdc2cfee31afaf0d1855421bc63fcacff3c5b1d061df2ffb2368", func := "honeycomb/honeycomblaw18.LookBegins", spec := "lookBegins", unfollowed := true, recurses := true, apart := false }
def LookBeginsSaid : Prop := lookBeginsRow.holds Try.pinned (OpenSpec.ofChange lookBeginsSpec)

/-- ITS FALSE NEIGHBOUR: 'it returns false'. Refute it at one input. -/
def lookBeginsWrong : ChangeSpec := { name := "lookBegins", fn := fun _ => fun
  | [d1, d2, d3] => { results := [.lit (.bool false)], args := [d1, d2, d3] }
  | _ => none }
def LookBeginsWrongFalsely : Prop := lookBeginsRow.holds Try.pinned (OpenSpec.ofChange lookBeginsWrong)

/-- 'honeycomblaw18.LookFinds': WHATEVER THE INPUT: true; the input reads as it did. -/
def lookFindsSpec : ChangeSpec := { name := "lookFinds", fn := fun _ => fun
  | [d1, d2, d3] => { results := [.lit (.bool true)], args := [d1, d2, d3] }
  | _ => none }
def lookFindsRow : OpenClaim := { program := "ytoklgjlmjkhmbaa", sum := "8d7ccd3ac905cdc2cfee31afaf0d1855421bc63fcacff3c5b1d061df2ffb2368", func := "honeycomb/honeycomblaw18.LookFinds", spec := "lookFinds", unfollowed := true, recurses := true, apart := false }
def LookFindsSaid : Prop := lookFindsRow.holds Try.pinned (OpenSpec.ofChange lookFindsSpec)

/-- ITS FALSE NEIGHBOUR: 'it returns false'. Refute it at one input. -/
def lookFindsWrong : ChangeSpec := { name := "lookFinds", fn := fun _ => fun
  | [d1, d2, d3] => { results := [.lit (.bool false)], args := [d1, d2, d3] }
  | _ => none }
def LookFindsWrongFalsely : Prop := lookFindsRow.holds Try.pinned (OpenSpec.ofChange lookFindsWrong)

/- THE SECOND FORM. 'bulk': how many values and letters a reading holds, each counted each time it is reached (what is shared counts as often as it is met; a slice's spare places count too). A statement '..UptoSaid' is the law's where the arguments, and the package variables that the reading takes, are together of bulk at most 1048576: NARROWER than '..Said'. Prove '..Said' where nothing that the law and all that it calls make is longer than what came in: it says more and counts as full. Else prove '..UptoSaid'. A law counts once. -/
mutual
def uptoBulk {H : Type} : DataW H → Nat
  | .lit (.string bytes) => bytes.length + 1
  | .lit _ => 1
  | .nil => 1
  | .ptr d => uptoBulk d + 1
  | .slice elems spare => uptoBulkAll elems + uptoBulkAll spare + 1
  | .agg parts => uptoBulkAll parts + 1
  | .iface _ d => uptoBulk d + 1
  | .map entries => uptoBulkEntries entries + 1
  | .held _ => 1
def uptoBulkAll {H : Type} : List (DataW H) → Nat
  | [] => 0
  | d :: r => uptoBulk d + uptoBulkAll r
def uptoBulkEntries {H : Type} : List (Lit × DataW H) → Nat
  | [] => 0
  | x :: r => uptoBulkEntry x + uptoBulkEntries r
def uptoBulkEntry {H : Type} : Lit × DataW H → Nat
  | (.string bytes, d) => bytes.length + uptoBulk d + 1
  | (_, d) => uptoBulk d + 1
 end
def uptoSmall : (H : Type) → List (DataW H) → Bool := fun _ ds => decide (uptoBulkAll ds ≤ 1048576)
def OpenSpec.upto (s : _root_.Go.ChangeSpec) : _root_.Go.OpenSpec := { _root_.Go.OpenSpec.ofChange s with cond := some uptoSmall }

/-- 'honeycomblaw18.LookRuns', WHERE WHAT IT READS IS OF BULK AT MOST 1048576: true; the input reads as it did. -/
def lookRunsUptoRow : OpenClaim := { program := "ytoklgjlmjkhmbaa", sum := "8d7ccd3ac905cdc2cfee31afaf0d1855421bc63fcacff3c5b1d061df2ffb2368", func := "honeycomb/honeycomblaw18.LookRuns", spec := "lookRuns", unfollowed := true, recurses := true, apart := false, narrowed := true }
def LookRunsUptoSaid : Prop := lookRunsUptoRow.holds Try.pinned (OpenSpec.upto lookRunsSpec)

/-- 'honeycomblaw18.LookTakes', WHERE WHAT IT READS IS OF BULK AT MOST 1048576: true; the input reads as it did. -/
def lookTakesUptoRow : OpenClaim := { program := "ytoklgjlmjkhmbaa", sum := "8d7ccd3ac905cdc2cfee31afaf0d1855421bc63fcacff3c5b1d061df2ffb2368", func := "honeycomb/honeycomblaw18.LookTakes", spec := "lookTakes", unfollowed := true, recurses := true, apart := false, narrowed := true }
def LookTakesUptoSaid : Prop := lookTakesUptoRow.holds Try.pinned (OpenSpec.upto lookTakesSpec)

/-- 'honeycomblaw18.LookBegins', WHERE WHAT IT READS IS OF BULK AT MOST 1048576: true; the input reads as it did. -/
def lookBeginsUptoRow : OpenClaim := { program := "ytoklgjlmjkhmbaa", sum := "8d7ccd3ac905cdc2cfee31afaf0d1855421bc63fcacff3c5b1d061df2ffb2368", func := "honeycomb/honeycomblaw18.LookBegins", spec := "lookBegins", unfollowed := true, recurses := true, apart := false, narrowed := true }
def LookBeginsUptoSaid : Prop := lookBeginsUptoRow.holds Try.pinned (OpenSpec.upto lookBeginsSpec)

/-- 'honeycomblaw18.LookFinds', WHERE WHAT IT READS IS OF BULK AT MOST 1048576: true; the input reads as it did. -/
def lookFindsUptoRow : OpenClaim := { program := "ytoklgjlmjkhmbaa", sum := "8d7ccd3ac905cdc2cfee31afaf0d1855421bc63fcacff3c5b1d061df2ffb2368", func := "honeycomb/honeycomblaw18.LookFinds", spec := "lookFinds", unfollowed := true, recurses := true, apart := false, narrowed := true }
def LookFindsUptoSaid : Prop := lookFindsUptoRow.holds Try.pinned (OpenSpec.upto lookFindsSpec)

end Rows
end Go.Proofs.Ytoklgjlmjkhmbaa
