/-
  No cell of these rows narrows 'for every input' (looked for: loops, veiled, ifaces, maps, wideKeys, modest, calm, conditions, laid).
  DERIVED. THE GIVEN ROWS OF THIS SEAT. 11 by the template 'for every input the law returns true; each argument reads behind the call as it read before'; 0 by the template 'total and deterministic' (their statements: YtfdemnefkfkghaaTotals.lean).
  GIVEN WITH THE SEED: the statements are not yours to turn. If you find one false, say at which input.
  Laid BY PROGRAM, IN A SANDBOX (cutbox-rows.mjs): the forced cells as the released guide's own fill.sh prints them over the translation fc955dd124281265… (all of the seat's roots in one cut). By AI agents, Wed Nov 11 2026. No macro, syntax, notation, axiom, sorry.
-/
import Derived.Test.YtfdemnefkfkghaaChecked
import GoSem.Claim
import GoSem.ClaimJoined
import GoSem.ClaimMapViews
import Derived.JoinedTies
import Derived.KernelRfl
namespace Go.Proofs.Ytfdemnefkfkghaa
/- THE CELL 'sum', in the pinned program and in every row, IS THE sha256 OF THE DUMP (.gsa) THAT YtfdemnefkfkghaaProg.lean LOADS. Nothing in Lean hashes anything: it is a label: what it is worth is what the hold of that sum in a sandbox is worth. -/
noncomputable def Try.pinned : Pinned := { name := "ytfdemnefkfkghaa", sum := "fc955dd1242812653391ce1f26567905399eb5d2fe2e336e061f1c8868447a73", checked := Try.checked }
namespace Rows
def none {H : Type} : Left H := { results := [], args := [] }

/-- 'marcotlaw33.HealFixes': WHATEVER THE INPUT: true; the input reads as it did. -/
def healFixesSpec : ChangeSpec := { name := "healFixes", fn := fun _ => fun
  | [d] => { results := [.lit (.bool true)], args := [d] }
  | _ => none }
def healFixesRow : OpenClaim := { program := "ytfdemnefkfkghaa", sum := "fc955dd1242812653391ce1f26567905399eb5d2fe2e336e061f1c8868447a73", func := "marcot/marcotlaw33.HealFixes", spec := "healFixes", unfollowed := true, recurses := true, apart := false }
def HealFixesSaid : Prop := healFixesRow.holds Try.pinned (OpenSpec.ofChange healFixesSpec)

/-- ITS FALSE NEIGHBOUR: 'it returns false'. Refute it at one input. -/
def healFixesWrong : ChangeSpec := { name := "healFixes", fn := fun _ => fun
  | [d] => { results := [.lit (.bool false)], args := [d] }
  | _ => none }
def HealFixesWrongFalsely : Prop := healFixesRow.holds Try.pinned (OpenSpec.ofChange healFixesWrong)

/-- 'marcotlaw33.HealRight': WHATEVER THE INPUT: true; the input reads as it did. -/
def healRightSpec : ChangeSpec := { name := "healRight", fn := fun _ => fun
  | [d] => { results := [.lit (.bool true)], args := [d] }
  | _ => none }
def healRightRow : OpenClaim := { program := "ytfdemnefkfkghaa", sum := "fc955dd1242812653391ce1f26567905399eb5d2fe2e336e061f1c8868447a73", func := "marcot/marcotlaw33.HealRight", spec := "healRight", unfollowed := true, recurses := true, apart := false }
def HealRightSaid : Prop := healRightRow.holds Try.pinned (OpenSpec.ofChange healRightSpec)

/-- ITS FALSE NEIGHBOUR: 'it returns false'. Refute it at one input. -/
def healRightWrong : ChangeSpec := { name := "healRight", fn := fun _ => fun
  | [d] => { results := [.lit (.bool false)], args := [d] }
  | _ => none }
def HealRightWrongFalsely : Prop := healRightRow.holds Try.pinned (OpenSpec.ofChange healRightWrong)

/-- 'marcotlaw32.DumpReads': WHATEVER THE INPUT: true; the input reads as it did. -/
def dumpReadsSpec : ChangeSpec := { name := "dumpReads", fn := fun _ => fun
  | [d1, d2] => { results := [.lit (.bool true)], args := [d1, d2] }
  | _ => none }
def dumpReadsRow : OpenClaim := { program := "ytfdemnefkfkghaa", sum := "fc955dd1242812653391ce1f26567905399eb5d2fe2e336e061f1c8868447a73", func := "marcot/marcotlaw32.DumpReads", spec := "dumpReads", apart := false }
def DumpReadsSaid : Prop := dumpReadsRow.holds Try.pinned (OpenSpec.ofChange dumpReadsSpec)

/-- ITS FALSE NEIGHBOUR: 'it returns false'. Refute it at one input. -/
def dumpReadsWrong : ChangeSpec := { name := "dumpReads", fn := fun _ => fun
  | [d1, d2] => { results := [.lit (.bool false)], args := [d1, d2] }
  | _ => none }
def DumpReadsWrongFalsely : Prop := dumpReadsRow.holds Try.pinned (OpenSpec.ofChange dumpReadsWrong)

/-- 'marcotlaw32.DumpSpoilt': WHATEVER THE INPUT: true; the input reads as it did. -/
def dumpSpoiltSpec : ChangeSpec := { name := "dumpSpoilt", fn := fun _ => fun
  | [d1, d2, d3] => { results := [.lit (.bool true)], args := [d1, d2, d3] }
  | _ => none }
def dumpSpoiltRow : OpenClaim := { program := "ytfdemnefkfkghaa", sum := "fc955dd1242812653391ce1f26567905399eb5d2fe2e336e061f1c8868447a73", func := "marcot/marcotlaw32.DumpSpoilt", spec := "dumpSpoilt", apart := false }
def DumpSpoiltSaid : Prop := dumpSpoiltRow.holds Try.pinned (OpenSpec.ofChange dumpSpoiltSpec)

/-- ITS FALSE NEIGHBOUR: 'it returns false'. Refute it at one input. -/
def dumpSpoiltWrong : ChangeSpec := { name := "dumpSpoilt", fn := fun _ => fun
  | [d1, d2, d3] => { results := [.lit (.bool false)], args := [d1, d2, d3] }
  | _ => none }
def DumpSpoiltWrongFalsely : Prop := dumpSpoiltRow.holds Try.pinned (OpenSpec.ofChange dumpSpoiltWrong)

/-- 'marcotlaw32.DumpWrites': WHATEVER THE INPUT: true; the input reads as it did. -/
def dumpWritesSpec : ChangeSpec := { name := "dumpWrites", fn := fun _ => fun
  | [d] => { results := [.lit (.bool true)], args := [d] }
  | _ => none }
def dumpWritesRow : OpenClaim := { program := "ytfdemnefkfkghaa", sum := "fc955dd1242812653391ce1f26567905399eb5d2fe2e336e061f1c8868447a73", func := "marcot/marcotlaw32.DumpWrites", spec := "dumpWrites", apart := false }
def DumpWritesSaid : Prop := dumpWritesRow.holds Try.pinned (OpenSpec.ofChange dumpWritesSpec)

/-- ITS FALSE NEIGHBOUR: 'it returns false'. Refute it at one input. -/
def dumpWritesWrong : ChangeSpec := { name := "dumpWrites", fn := fun _ => fun
  | [d] => { results := [.lit (.bool false)], args := [d] }
  | _ => none }
def DumpWritesWrongFalsely : Prop := dumpWritesRow.holds Try.pinned (OpenSpec.ofChange dumpWritesWrong)

/-- 'marcotlaw31.DiffJoins': WHATEVER THE INPUT: true; the input reads as it did. -/
def diffJoinsSpec : ChangeSpec := { name := "diffJoins", fn := fun _ => fun
  | [d1, d2, d3, d4, d5] => { results := [.lit (.bool true)], args := [d1, d2, d3, d4, d5] }
  | _ => none }
def diffJoinsRow : OpenClaim := { program := "ytfdemnefkfkghaa", sum := "fc955dd1242812653391ce1f26567905399eb5d2fe2e336e061f1c8868447a73", func := "marcot/marcotlaw31.DiffJoins", spec := "diffJoins", inPlace := ["slices.overlaps[string]", "slices.overlaps[marcot/api.Change]"], unfollowed := true, recurses := true, apart := false }
def DiffJoinsSaid : Prop := diffJoinsRow.holds Try.pinned (OpenSpec.ofChange diffJoinsSpec)

/-- ITS FALSE NEIGHBOUR: 'it returns false'. Refute it at one input. -/
def diffJoinsWrong : ChangeSpec := { name := "diffJoins", fn := fun _ => fun
  | [d1, d2, d3, d4, d5] => { results := [.lit (.bool false)], args := [d1, d2, d3, d4, d5] }
  | _ => none }
def DiffJoinsWrongFalsely : Prop := diffJoinsRow.holds Try.pinned (OpenSpec.ofChange diffJoinsWrong)

/-- 'marcotlaw31.DiffPairs': WHATEVER THE INPUT: true; the input reads as it did. -/
def diffPairsSpec : ChangeSpec := { name := "diffPairs", fn := fun _ => fun
  | [d1, d2] => { results := [.lit (.bool true)], args := [d1, d2] }
  | _ => none }
def diffPairsRow : OpenClaim := { program := "ytfdemnefkfkghaa", sum := "fc955dd1242812653391ce1f26567905399eb5d2fe2e336e061f1c8868447a73", func := "marcot/marcotlaw31.DiffPairs", spec := "diffPairs", inPlace := ["slices.overlaps[string]"], unfollowed := true, recurses := true, apart := false }
def DiffPairsSaid : Prop := diffPairsRow.holds Try.pinned (OpenSpec.ofChange diffPairsSpec)

/-- ITS FALSE NEIGHBOUR: 'it returns false'. Refute it at one input. -/
def diffPairsWrong : ChangeSpec := { name := "diffPairs", fn := fun _ => fun
  | [d1, d2] => { results := [.lit (.bool false)], args := [d1, d2] }
  | _ => none }
def DiffPairsWrongFalsely : Prop := diffPairsRow.holds Try.pinned (OpenSpec.ofChange diffPairsWrong)

/-- 'marcotlaw31.DiffApplies': WHATEVER THE INPUT: true; the input reads as it did. -/
def diffAppliesSpec : ChangeSpec := { name := "diffApplies", fn := fun _ => fun
  | [d1, d2] => { results := [.lit (.bool true)], args := [d1, d2] }
  | _ => none }
def diffAppliesRow : OpenClaim := { program := "ytfdemnefkfkghaa", sum := "fc955dd1242812653391ce1f26567905399eb5d2fe2e336e061f1c8868447a73", func := "marcot/marcotlaw31.DiffApplies", spec := "diffApplies", inPlace := ["slices.overlaps[string]"], unfollowed := true, recurses := true, apart := false }
def DiffAppliesSaid : Prop := diffAppliesRow.holds Try.pinned (OpenSpec.ofChange diffAppliesSpec)

/-- ITS FALSE NEIGHBOUR: 'it returns false'. Refute it at one input. -/
def diffAppliesWrong : ChangeSpec := { name := "diffApplies", fn := fun _ => fun
  | [d1, d2] => { results := [.lit (.bool false)], args := [d1, d2] }
  | _ => none }
def DiffAppliesWrongFalsely : Prop := diffAppliesRow.holds Try.pinned (OpenSpec.ofChange diffAppliesWrong)

/-- 'marcotlaw31.DiffMerges': WHATEVER THE INPUT: true; the input reads as it did. -/
def diffMergesSpec : ChangeSpec := { name := "diffMerges", fn := fun _ => fun
  | [d1, d2, d3] => { results := [.lit (.bool true)], args := [d1, d2, d3] }
  | _ => none }
def diffMergesRow : OpenClaim := { program := "ytfdemnefkfkghaa", sum := "fc955dd1242812653391ce1f26567905399eb5d2fe2e336e061f1c8868447a73", func := "marcot/marcotlaw31.DiffMerges", spec := "diffMerges", inPlace := ["slices.overlaps[string]"], unfollowed := true, recurses := true, apart := false }
def DiffMergesSaid : Prop := diffMergesRow.holds Try.pinned (OpenSpec.ofChange diffMergesSpec)

/-- ITS FALSE NEIGHBOUR: 'it returns false'. Refute it at one input. -/
def diffMergesWrong : ChangeSpec := { name := "diffMerges", fn := fun _ => fun
  | [d1, d2, d3] => { results := [.lit (.bool false)], args := [d1, d2, d3] }
  | _ => none }
def DiffMergesWrongFalsely : Prop := diffMergesRow.holds Try.pinned (OpenSpec.ofChange diffMergesWrong)

/-- 'marcotlaw27.AuditChecks': WHATEVER THE INPUT: true; the input reads as it did. -/
def auditChecksSpec : ChangeSpec := { name := "auditChecks", fn := fun _ => fun
  | [d1, d2] => { results := [.lit (.bool true)], args := [d1, d2] }
  | _ => none }
def auditChecksRow : OpenClaim := { program := "ytfdemnefkfkghaa", sum := "fc955dd1242812653391ce1f26567905399eb5d2fe2e336e061f1c8868447a73", func := "marcot/marcotlaw27.AuditChecks", spec := "auditChecks", inPlace := ["slices.overlaps[uint32]"], unfollowed := true, recurses := true, apart := false }
def AuditChecksSaid : Prop := auditChecksRow.holds Try.pinned (OpenSpec.ofChange auditChecksSpec)

/-- ITS FALSE NEIGHBOUR: 'it returns false'. Refute it at one input. -/
def auditChecksWrong : ChangeSpec := { name := "auditChecks", fn := fun _ => fun
  | [d1, d2] => { results := [.lit (.bool false)], args := [d1, d2] }
  | _ => none }
def AuditChecksWrongFalsely : Prop := auditChecksRow.holds Try.pinned (OpenSpec.ofChange auditChecksWrong)

/-- 'marcotlaw27.AuditCounts': WHATEVER THE INPUT: true; the input reads as it did. -/
def auditCountsSpec : ChangeSpec := { name := "auditCounts", fn := fun _ => fun
  | [d1, d2] => { results := [.lit (.bool true)], args := [d1, d2] }
  | _ => none }
def auditCountsRow : OpenClaim := { program := "ytfdemnefkfkghaa", sum := "fc955dd1242812653391ce1f26567905399eb5d2fe2e336e061f1c8868447a73", func := "marcot/marcotlaw27.AuditCounts", spec := "auditCounts", inPlace := ["slices.overlaps[uint32]"], unfollowed := true, recurses := true, apart := false }
def AuditCountsSaid : Prop := auditCountsRow.holds Try.pinned (OpenSpec.ofChange auditCountsSpec)

/-- ITS FALSE NEIGHBOUR: 'it returns false'. Refute it at one input. -/
def auditCountsWrong : ChangeSpec := { name := "auditCounts", fn := fun _ => fun
  | [d1, d2] => { results := [.lit (.bool false)], args := [d1, d2] }
  | _ => none }
def AuditCountsWrongFalsely : Prop := auditCountsRow.holds Try.pinned (OpenSpec.ofChange auditCountsWrong)

/- THE SECOND FORM. 'bulk': how many values and letters a reading holds, each counted each time it is reached (what is shared counts as often as it is met; a slice's spare places count too). A statement '..UptoSaid' is the law's where the arguments, and the package variables that the reading takes, are together of bulk at most 1048576: NARROWER than '..Said'. Prove '..Said' where nothing that the law and all that it calls make is longer than what came in: it says more and counts as full. Else prove '..UptoSaid'. A law counts once. -/
mutual
def uptoBulk {H : Type} : DataW H → Nat
  | .lit (.string bytes) => bytes.length + 1
  | .lit _ => 1
  | .nil => 1
  | .ptr d => uptoBulk d + 1
  | .slice elems spare => uptoBulkAll elems + uptoBulkAll spare + 1
  | .agg parts => uptoBulkAll parts + 1
  | .iface _ d => uptoBulk d + 1
  | .map entries => uptoBulkEntries entries + 1
  | .held _ => 1
def uptoBulkAll {H : Type} : List (DataW H) → Nat
  | [] => 0
  | d :: r => uptoBulk d + uptoBulkAll r
def uptoBulkEntries {H : Type} : List (Lit × DataW H) → Nat
  | [] => 0
  | x :: r => uptoBulkEntry x + uptoBulkEntries r
def uptoBulkEntry {H : Type} : Lit × DataW H → Nat
  | (.string bytes, d) => bytes.length + uptoBulk d + 1
  | (_, d) => uptoBulk d + 1
 end
def uptoSmall : (H : Type) → List (DataW H) → Bool := fun _ ds => decide (uptoBulkAll ds ≤ 1048576)
def OpenSpec.upto (s : _root_.Go.ChangeSpec) : _root_.Go.OpenSpec := { _root_.Go.OpenSpec.ofChange s with cond := some uptoSmall }

/-- 'marcotlaw33.HealFixes', WHERE WHAT IT READS IS OF BULK AT MOST 1048576: true; the input reads as it did. -/
def healFixesUptoRow : OpenClaim := { program := "ytfdemnefkfkghaa", sum := "fc955dd1242812653391ce1f26567905399eb5d2fe2e336e061f1c8868447a73", func := "marcot/marcotlaw33.HealFixes", spec := "healFixes", unfollowed := true, recurses := true, apart := false, narrowed := true }
def HealFixesUptoSaid : Prop := healFixesUptoRow.holds Try.pinned (OpenSpec.upto healFixesSpec)

/-- 'marcotlaw33.HealRight', WHERE WHAT IT READS IS OF BULK AT MOST 1048576: true; the input reads as it did. -/
def healRightUptoRow : OpenClaim := { program := "ytfdemnefkfkghaa", sum := "fc955dd1242812653391ce1f26567905399eb5d2fe2e336e061f1c8868447a73", func := "marcot/marcotlaw33.HealRight", spec := "healRight", unfollowed := true, recurses := true, apart := false, narrowed := true }
def HealRightUptoSaid : Prop := healRightUptoRow.holds Try.pinned (OpenSpec.upto healRightSpec)

/-- 'marcotlaw32.DumpReads', WHERE WHAT IT READS IS OF BULK AT MOST 1048576: true; the input reads as it did. -/
def dumpReadsUptoRow : OpenClaim := { program := "ytfdemnefkfkghaa", sum := "fc955dd1242812653391ce1f26567905399eb5d2fe2e336e061f1c8868447a73", func := "marcot/marcotlaw32.DumpReads", spec := "dumpReads", apart := false, narrowed := true }
def DumpReadsUptoSaid : Prop := dumpReadsUptoRow.holds Try.pinned (OpenSpec.upto dumpReadsSpec)

/-- 'marcotlaw32.DumpSpoilt', WHERE WHAT IT READS IS OF BULK AT MOST 1048576: true; the input reads as it did. -/
def dumpSpoiltUptoRow : OpenClaim := { program := "ytfdemnefkfkghaa", sum := "fc955dd1242812653391ce1f26567905399eb5d2fe2e336e061f1c8868447a73", func := "marcot/marcotlaw32.DumpSpoilt", spec := "dumpSpoilt", apart := false, narrowed := true }
def DumpSpoiltUptoSaid : Prop := dumpSpoiltUptoRow.holds Try.pinned (OpenSpec.upto dumpSpoiltSpec)

/-- 'marcotlaw32.DumpWrites', WHERE WHAT IT READS IS OF BULK AT MOST 1048576: true; the input reads as it did. -/
def dumpWritesUptoRow : OpenClaim := { program := "ytfdemnefkfkghaa", sum := "fc955dd1242812653391ce1f26567905399eb5d2fe2e336e061f1c8868447a73", func := "marcot/marcotlaw32.DumpWrites", spec := "dumpWrites", apart := false, narrowed := true }
def DumpWritesUptoSaid : Prop := dumpWritesUptoRow.holds Try.pinned (OpenSpec.upto dumpWritesSpec)

/-- 'marcotlaw31.DiffJoins', WHERE WHAT IT READS IS OF BULK AT MOST 1048576: true; the input reads as it did. -/
def diffJoinsUptoRow : OpenClaim := { program := "ytfdemnefkfkghaa", sum := "fc955dd1242812653391ce1f26567905399eb5d2fe2e336e061f1c8868447a73", func := "marcot/marcotlaw31.DiffJoins", spec := "diffJoins", inPlace := ["slices.overlaps[string]", "slices.overlaps[marcot/api.Change]"], unfollowed := true, recurses := true, apart := false, narrowed := true }
def DiffJoinsUptoSaid : Prop := diffJoinsUptoRow.holds Try.pinned (OpenSpec.upto diffJoinsSpec)

/-- 'marcotlaw31.DiffPairs', WHERE WHAT IT READS IS OF BULK AT MOST 1048576: true; the input reads as it did. -/
def diffPairsUptoRow : OpenClaim := { program := "ytfdemnefkfkghaa", sum := "fc955dd1242812653391ce1f26567905399eb5d2fe2e336e061f1c8868447a73", func := "marcot/marcotlaw31.DiffPairs", spec := "diffPairs", inPlace := ["slices.overlaps[string]"], unfollowed := true, recurses := true, apart := false, narrowed := true }
def DiffPairsUptoSaid : Prop := diffPairsUptoRow.holds Try.pinned (OpenSpec.upto diffPairsSpec)

/-- 'marcotlaw31.DiffApplies', WHERE WHAT IT READS IS OF BULK AT MOST 1048576: true; the input reads as it did. -/
def diffAppliesUptoRow : OpenClaim := { program := "ytfdemnefkfkghaa", sum := "fc955dd1242812653391ce1f26567905399eb5d2fe2e336e061f1c8868447a73", func := "marcot/marcotlaw31.DiffApplies", spec := "diffApplies", inPlace := ["slices.overlaps[string]"], unfollowed := true, recurses := true, apart := false, narrowed := true }
def DiffAppliesUptoSaid : Prop := diffAppliesUptoRow.holds Try.pinned (OpenSpec.upto diffAppliesSpec)

/-- 'marcotlaw31.DiffMerges', WHERE WHAT IT READS IS OF BULK AT MOST 1048576: true; the input reads as it did. -/
def diffMergesUptoRow : OpenClaim := { program := "ytfdemnefkfkghaa", sum := "fc955dd1242812653391ce1f26567905399eb5d2fe2e336e061f1c8868447a73", func := "marcot/marcotlaw31.DiffMerges", spec := "diffMerges", inPlace := ["slices.overlaps[string]"], unfollowed := true, recurses := true, apart := false, narrowed := true }
def DiffMergesUptoSaid : Prop := diffMergesUptoRow.holds Try.pinned (OpenSpec.upto diffMergesSpec)

/-- 'marcotlaw27.AuditChecks', WHERE WHAT IT READS IS OF BULK AT MOST 1048576: true; the input reads as it did. -/
def auditChecksUptoRow : OpenClaim := { program := "ytfdemnefkfkghaa", sum := "fc955dd1242812653391ce1f26567905399eb5d2fe2e336e061f1c8868447a73", func := "marcot/marcotlaw27.AuditChecks", spec := "auditChecks", inPlace := ["slices.overlaps[uint32]"], unfollowed := true, recurses := true, apart := false, narrowed := true }
def AuditChecksUptoSaid : Prop := auditChecksUptoRow.holds Try.pinned (OpenSpec.upto auditChecksSpec)

/-- 'marcotlaw27.AuditCounts', WHERE WHAT IT READS IS OF BULK AT MOST 1048576: true; the input reads as it did. -/
def auditCountsUptoRow : OpenClaim := { program := "ytfdemnefkfkghaa", sum := "fc955dd1242812653391ce1f26567905399eb5d2fe2e336e061f1c8868447a73", func := "marcot/marcotlaw27.AuditCounts", spec := "auditCounts", inPlace := ["slices.overlaps[uint32]"], unfollowed := true, recurses := true, apart := false, narrowed := true }
def AuditCountsUptoSaid : Prop := auditCountsUptoRow.holds Try.pinned (OpenSpec.upto auditCountsSpec)

end Rows
end Go.Proofs.Ytfdemnefkfkghaa
