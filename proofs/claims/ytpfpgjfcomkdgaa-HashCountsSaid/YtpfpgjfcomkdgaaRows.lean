/-
  No cell of these rows narrows 'for every input' (looked for: loops, veiled, ifaces, maps, wideKeys, modest, calm, conditions, laid).
  DERIVED. THE GIVEN ROWS OF THIS SEAT. 6 by the template 'for every input the law returns true; each argument reads behind the call as it read before'; 0 by the template 'total and deterministic' (their statements: YtpfpgjfcomkdgaaTotals.lean).
  GIVEN WITH THE SEED: the statements are not yours to turn. If you find one false, say at which input.
  Laid BY PROGRAM, IN A SANDBOX (cutbox-rows.mjs): the forced cells as the released guide's own fill.sh prints them over the translation 9372f5667a338e5f… (all of the seat's roots in one cut). By AI agents, Wed Nov 11 2026. No macro, syntax, notation, axiom, sorry.
-/
import Derived.Test.YtpfpgjfcomkdgaaChecked
import GoSem.Claim
import GoSem.ClaimJoined
import GoSem.ClaimMapViews
import Derived.JoinedTies
import Derived.KernelRfl
namespace Go.Proofs.Ytpfpgjfcomkdgaa
/- THE CELL 'sum', in the pinned program and in every row, IS THE sha256 OF THE DUMP (.gsa) THAT YtpfpgjfcomkdgaaProg.lean LOADS. Nothing in Lean hashes anything: it is a label: what it is worth is what the hold of that sum in a sandbox is worth. -/
noncomputable def Try.pinned : Pinned := { name := "ytpfpgjfcomkdgaa", sum := "9372f5667a338e5f09b92c65f2c50f778c082bfa63b78a85e4b29e79f0f7027b", checked := Try.checked }
namespace Rows
def none {H : Type} : Left H := { results := [], args := [] }

/-- 'honeycomblaw07.HashOf': WHATEVER THE INPUT: true; the input reads as it did. -/
def hashOfSpec : ChangeSpec := { name := "hashOf", fn := fun _ => fun
  | [d1, d2] => { results := [.lit (.bool true)], args := [d1, d2] }
  | _ => none }
def hashOfRow : OpenClaim := { program := "ytpfpgjfcomkdgaa", sum := "9372f5667a338e5f09b92c65f2c50f778c082bfa63b78a85e4b29e79f0f7027b", func := "honeycomb/honeycomblaw07.HashOf", spec := "hashOf", unfollowed := true, recurses := true, apart := false }
def HashOfSaid : Prop := hashOfRow.holds Try.pinned (OpenSpec.ofChange hashOfSpec)

/-- ITS FALSE NEIGHBOUR: 'it returns false'. Refute it at one input. -/
def hashOfWrong : ChangeSpec := { name := "hashOf", fn := fun _ => fun
  | [d1, d2] => { results := [.lit (.bool false)], args := [d1, d2] }
  | _ => none }
def HashOfWrongFalsely : Prop := hashOfRow.holds Try.pinned (OpenSpec.ofChange hashOfWrong)

/-- 'honeycomblaw07.HashPrefix': WHATEVER THE INPUT: true; the input reads as it did. -/
def hashPrefixSpec : ChangeSpec := { name := "hashPrefix", fn := fun _ => fun
  | [d1, d2, d3] => { results := [.lit (.bool true)], args := [d1, d2, d3] }
  | _ => none }
def hashPrefixRow : OpenClaim := { program := "ytpfpgjfcomkdgaa", sum := "9372f5667a338e5f09b92c65f2c50f778c082bfa63b78a85e4b29e79f0f7027b", func := "honeycomb/honeycomblaw07.HashPrefix", spec := "hashPrefix", unfollowed := true, recurses := true, apart := false }
def HashPrefixSaid : Prop := hashPrefixRow.holds Try.pinned (OpenSpec.ofChange hashPrefixSpec)

/-- ITS FALSE NEIGHBOUR: 'it returns false'. Refute it at one input. -/
def hashPrefixWrong : ChangeSpec := { name := "hashPrefix", fn := fun _ => fun
  | [d1, d2, d3] => { results := [.lit (.bool false)], args := [d1, d2, d3] }
  | _ => none }
def HashPrefixWrongFalsely : Prop := hashPrefixRow.holds Try.pinned (OpenSpec.ofChange hashPrefixWrong)

/-- 'honeycomblaw07.HashBack': WHATEVER THE INPUT: true; the input reads as it did. -/
def hashBackSpec : ChangeSpec := { name := "hashBack", fn := fun _ => fun
  | [d1, d2, d3] => { results := [.lit (.bool true)], args := [d1, d2, d3] }
  | _ => none }
def hashBackRow : OpenClaim := { program := "ytpfpgjfcomkdgaa", sum := "9372f5667a338e5f09b92c65f2c50f778c082bfa63b78a85e4b29e79f0f7027b", func := "honeycomb/honeycomblaw07.HashBack", spec := "hashBack", unfollowed := true, recurses := true, apart := false }
def HashBackSaid : Prop := hashBackRow.holds Try.pinned (OpenSpec.ofChange hashBackSpec)

/-- ITS FALSE NEIGHBOUR: 'it returns false'. Refute it at one input. -/
def hashBackWrong : ChangeSpec := { name := "hashBack", fn := fun _ => fun
  | [d1, d2, d3] => { results := [.lit (.bool false)], args := [d1, d2, d3] }
  | _ => none }
def HashBackWrongFalsely : Prop := hashBackRow.holds Try.pinned (OpenSpec.ofChange hashBackWrong)

/-- 'honeycomblaw07.HashDeeper': WHATEVER THE INPUT: true; the input reads as it did. -/
def hashDeeperSpec : ChangeSpec := { name := "hashDeeper", fn := fun _ => fun
  | [d1, d2, d3] => { results := [.lit (.bool true)], args := [d1, d2, d3] }
  | _ => none }
def hashDeeperRow : OpenClaim := { program := "ytpfpgjfcomkdgaa", sum := "9372f5667a338e5f09b92c65f2c50f778c082bfa63b78a85e4b29e79f0f7027b", func := "honeycomb/honeycomblaw07.HashDeeper", spec := "hashDeeper", unfollowed := true, recurses := true, apart := false }
def HashDeeperSaid : Prop := hashDeeperRow.holds Try.pinned (OpenSpec.ofChange hashDeeperSpec)

/-- ITS FALSE NEIGHBOUR: 'it returns false'. Refute it at one input. -/
def hashDeeperWrong : ChangeSpec := { name := "hashDeeper", fn := fun _ => fun
  | [d1, d2, d3] => { results := [.lit (.bool false)], args := [d1, d2, d3] }
  | _ => none }
def HashDeeperWrongFalsely : Prop := hashDeeperRow.holds Try.pinned (OpenSpec.ofChange hashDeeperWrong)

/-- 'honeycomblaw07.HashCrowds': WHATEVER THE INPUT: true; the input reads as it did. -/
def hashCrowdsSpec : ChangeSpec := { name := "hashCrowds", fn := fun _ => fun
  | [d1, d2, d3] => { results := [.lit (.bool true)], args := [d1, d2, d3] }
  | _ => none }
def hashCrowdsRow : OpenClaim := { program := "ytpfpgjfcomkdgaa", sum := "9372f5667a338e5f09b92c65f2c50f778c082bfa63b78a85e4b29e79f0f7027b", func := "honeycomb/honeycomblaw07.HashCrowds", spec := "hashCrowds", unfollowed := true, recurses := true, apart := false }
def HashCrowdsSaid : Prop := hashCrowdsRow.holds Try.pinned (OpenSpec.ofChange hashCrowdsSpec)

/-- ITS FALSE NEIGHBOUR: 'it returns false'. Refute it at one input. -/
def hashCrowdsWrong : ChangeSpec := { name := "hashCrowds", fn := fun _ => fun
  | [d1, d2, d3] => { results := [.lit (.bool false)], args := [d1, d2, d3] }
  | _ => none }
def HashCrowdsWrongFalsely : Prop := hashCrowdsRow.holds Try.pinned (OpenSpec.ofChange hashCrowdsWrong)

/-- 'honeycomblaw07.HashCounts': WHATEVER THE INPUT: true; the input reads as it did. -/
def hashCountsSpec : ChangeSpec := { name := "hashCounts", fn := fun _ => fun
  | [d1, d2, d3] => { results := [.lit (.bool true)], args := [d1, d2, d3] }
  | _ => none }
def hashCountsRow : OpenClaim := { program := "ytpfpgjfcomkdgaa", sum := "9372f5667a338e5f09b92c65f2c50f778c082bfa63b78a85e4b29e79f0f7027b", func := "honeycomb/honeycomblaw07.HashCounts", spec := "hashCounts", unfollowed := true, recurses := true, apart := false }
def HashCountsSaid : Prop := hashCountsRow.holds Try.pinned (OpenSpec.ofChange hashCountsSpec)

/-- ITS FALSE NEIGHBOUR: 'it returns false'. Refute it at one input. -/
def hashCountsWrong : ChangeSpec := { name := "hashCounts", fn := fun _ => fun
  | [d1, d2, d3] => { results := [.lit (.bool false)], args := [d1, d2, d3] }
  | _ => none }
def HashCountsWrongFalsely : Prop := hashCountsRow.holds Try.pinned (OpenSpec.ofChange hashCountsWrong)

/- THE SECOND FORM. 'bulk': how many values and letters a reading holds, each counted each time it is reached (what is shared counts as often as it is met; a slice's spare places count too). A statement '..UptoSaid' is the law's where the arguments, and the package variables that the reading takes, are together of bulk at most 1048576: NARROWER than '..Said'. Prove '..Said' where nothing that the law and all that it calls make is longer than what came in: it says more and counts as full. Else prove '..UptoSaid'. A law counts once. -/
mutual
def uptoBulk {H : Type} : DataW H → Nat
  | .lit (.string bytes) => bytes.length + 1
  | .lit _ => 1
  | .nil => 1
  | .ptr d => uptoBulk d + 1
  | .slice elems spare => uptoBulkAll elems + uptoBulkAll spare + 1
  | .agg parts => uptoBulkAll parts + 1
  | .iface _ d => uptoBulk d + 1
  | .map entries => uptoBulkEntries entries + 1
  | .held _ => 1
def uptoBulkAll {H : Type} : List (DataW H) → Nat
  | [] => 0
  | d :: r => uptoBulk d + uptoBulkAll r
def uptoBulkEntries {H : Type} : List (Lit × DataW H) → Nat
  | [] => 0
  | x :: r => uptoBulkEntry x + uptoBulkEntries r
def uptoBulkEntry {H : Type} : Lit × DataW H → Nat
  | (.string bytes, d) => bytes.length + uptoBulk d + 1
  | (_, d) => uptoBulk d + 1
 end
def uptoSmall : (H : Type) → List (DataW H) → Bool := fun _ ds => decide (uptoBulkAll ds ≤ 1048576)
def OpenSpec.upto (s : _root_.Go.ChangeSpec) : _root_.Go.OpenSpec := { _root_.Go.OpenSpec.ofChange s with cond := some uptoSmall }

/-- 'honeycomblaw07.HashOf', WHERE WHAT IT READS IS OF BULK AT MOST 1048576: true; the input reads as it did. -/
def hashOfUptoRow : OpenClaim := { program := "ytpfpgjfcomkdgaa", sum := "9372f5667a338e5f09b92c65f2c50f778c082bfa63b78a85e4b29e79f0f7027b", func := "honeycomb/honeycomblaw07.HashOf", spec := "hashOf", unfollowed := true, recurses := true, apart := false, narrowed := true }
def HashOfUptoSaid : Prop := hashOfUptoRow.holds Try.pinned (OpenSpec.upto hashOfSpec)

/-- 'honeycomblaw07.HashPrefix', WHERE WHAT IT READS IS OF BULK AT MOST 1048576: true; the input reads as it did. -/
def hashPrefixUptoRow : OpenClaim := { program := "ytpfpgjfcomkdgaa", sum := "9372f5667a338e5f09b92c65f2c50f778c082bfa63b78a85e4b29e79f0f7027b", func := "honeycomb/honeycomblaw07.HashPrefix", spec := "hashPrefix", unfollowed := true, recurses := true, apart := false, narrowed := true }
def HashPrefixUptoSaid : Prop := hashPrefixUptoRow.holds Try.pinned (OpenSpec.upto hashPrefixSpec)

/-- 'honeycomblaw07.HashBack', WHERE WHAT IT READS IS OF BULK AT MOST 1048576: true; the input reads as it did. -/
def hashBackUptoRow : OpenClaim := { program := "ytpfpgjfcomkdgaa", sum := "9372f5667a338e5f09b92c65f2c50f778c082bfa63b78a85e4b29e79f0f7027b", func := "honeycomb/honeycomblaw07.HashBack", spec := "hashBack", unfollowed := true, recurses := true, apart := false, narrowed := true }
def HashBackUptoSaid : Prop := hashBackUptoRow.holds Try.pinned (OpenSpec.upto hashBackSpec)

/-- 'honeycomblaw07.HashDeeper', WHERE WHAT IT READS IS OF BULK AT MOST 1048576: true; the input reads as it did. -/
def hashDeeperUptoRow : OpenClaim := { program := "ytpfpgjfcomkdgaa", sum := "9372f5667a338e5f09b92c65f2c50f778c082bfa63b78a85e4b29e79f0f7027b", func := "honeycomb/honeycomblaw07.HashDeeper", spec := "hashDeeper", unfollowed := true, recurses := true, apart := false, narrowed := true }
def HashDeeperUptoSaid : Prop := hashDeeperUptoRow.holds Try.pinned (OpenSpec.upto hashDeeperSpec)

/-- 'honeycomblaw07.HashCrowds', WHERE WHAT IT READS IS OF BULK AT MOST 1048576: true; the input reads as it did. -/
def hashCrowdsUptoRow : OpenClaim := { program := "ytpfpgjfcomkdgaa", sum := "9372f5667a338e5f09b92c65f2c50f778c082bfa63b78a85e4b29e79f0f7027b", func := "honeycomb/honeycomblaw07.HashCrowds", spec := "hashCrowds", unfollowed := true, recurses := true, apart := false, narrowed := true }
def HashCrowdsUptoSaid : Prop := hashCrowdsUptoRow.holds Try.pinned (OpenSpec.upto hashCrowdsSpec)

/-- 'honeycomblaw07.HashCounts', WHERE WHAT IT READS IS OF BULK AT MOST 1048576: true; the input reads as it did. -/
def hashCountsUptoRow : OpenClaim := { program := "ytpfpgjfcomkdgaa", sum := "9372f5667a338e5f09b92c65f2c50f778c082bfa63b78a85e4b29e79f0f7027b", func := "honeycomb/honeycomblaw07.HashCounts", spec := "hashCounts", unfollowed := true, recurses := true, apart := false, narrowed := true }
def HashCountsUptoSaid : Prop := hashCountsUptoRow.holds Try.pinned (OpenSpec.upto hashCountsSpec)

end Rows
end Go.Proofs.Ytpfpgjfcomkdgaa
