/-
  No cell of these rows narrows 'for every input' (looked for: loops, veiled, ifaces, maps, wideKeys, modest, calm, conditions, laid).
  DERIVED. THE GIVEN ROWS OF THIS SEAT. 10 by the template 'for every input the law returns true; each argument reads behind the call as it read before'; 0 by the template 'total and deterministic' (their statements: YtedojgbjfenmaaaTotals.lean).
  GIVEN WITH THE SEED: the statements are not yours to turn. If you find one false, say at which input.
  Laid BY PROGRAM, IN A SANDBOX (cutbox-rows.mjs): the forced cells as the released guide's own fill.sh prints them over the translation 3d96c57f48ce6312… (all of the seat's roots in one cut). By AI agents, Wed Nov 11 2026. No macro, syntax, notation, axiom, sorry.
-/
import Derived.Test.YtedojgbjfenmaaaChecked
import GoSem.Claim
import GoSem.ClaimJoined
import GoSem.ClaimMapViews
import Derived.JoinedTies
import Derived.KernelRfl
namespace Go.Proofs.Ytedojgbjfenmaaa
/- THE CELL 'sum', in the pinned program and in every row, IS THE sha256 OF THE DUMP (.gsa) THAT YtedojgbjfenmaaaProg.lean LOADS. Nothing in Lean hashes anything: it is a label: what it is worth is what the hold of that sum in a sandbox is worth. -/
noncomputable def Try.pinned : Pinned := { name := "ytedojgbjfenmaaa", sum := "3d96c57f48ce6312f98f7623024f27698372eb8c8b0c527a806af8fc5b5266a0", checked := Try.checked }
namespace Rows
def none {H : Type} : Left H := { results := [], args := [] }

/-- 'portmanteaulaw05.TallyCounts': WHATEVER THE INPUT: true; the input reads as it did. -/
def tallyCountsSpec : ChangeSpec := { name := "tallyCounts", fn := fun _ => fun
  | [d1, d2] => { results := [.lit (.bool true)], args := [d1, d2] }
  | _ => none }
def tallyCountsRow : OpenClaim := { program := "ytedojgbjfenmaaa", sum := "3d96c57f48ce6312f98f7623024f27698372eb8c8b0c527a806af8fc5b5266a0", func := "portmanteau/portmanteaulaw05.TallyCounts", spec := "tallyCounts", unfollowed := true, recurses := true, apart := false }
def TallyCountsSaid : Prop := tallyCountsRow.holds Try.pinned (OpenSpec.ofChange tallyCountsSpec)

/-- ITS FALSE NEIGHBOUR: 'it returns false'. Refute it at one input. -/
def tallyCountsWrong : ChangeSpec := { name := "tallyCounts", fn := fun _ => fun
  | [d1, d2] => { results := [.lit (.bool false)], args := [d1, d2] }
  | _ => none }
def TallyCountsWrongFalsely : Prop := tallyCountsRow.holds Try.pinned (OpenSpec.ofChange tallyCountsWrong)

/-- 'portmanteaulaw05.TallyRuns': WHATEVER THE INPUT: true; the input reads as it did. -/
def tallyRunsSpec : ChangeSpec := { name := "tallyRuns", fn := fun _ => fun
  | [d] => { results := [.lit (.bool true)], args := [d] }
  | _ => none }
def tallyRunsRow : OpenClaim := { program := "ytedojgbjfenmaaa", sum := "3d96c57f48ce6312f98f7623024f27698372eb8c8b0c527a806af8fc5b5266a0", func := "portmanteau/portmanteaulaw05.TallyRuns", spec := "tallyRuns", unfollowed := true, recurses := true, apart := false }
def TallyRunsSaid : Prop := tallyRunsRow.holds Try.pinned (OpenSpec.ofChange tallyRunsSpec)

/-- ITS FALSE NEIGHBOUR: 'it returns false'. Refute it at one input. -/
def tallyRunsWrong : ChangeSpec := { name := "tallyRuns", fn := fun _ => fun
  | [d] => { results := [.lit (.bool false)], args := [d] }
  | _ => none }
def TallyRunsWrongFalsely : Prop := tallyRunsRow.holds Try.pinned (OpenSpec.ofChange tallyRunsWrong)

/-- 'portmanteaulaw05.TallyChecks': WHATEVER THE INPUT: true; the input reads as it did. -/
def tallyChecksSpec : ChangeSpec := { name := "tallyChecks", fn := fun _ => fun
  | [d] => { results := [.lit (.bool true)], args := [d] }
  | _ => none }
def tallyChecksRow : OpenClaim := { program := "ytedojgbjfenmaaa", sum := "3d96c57f48ce6312f98f7623024f27698372eb8c8b0c527a806af8fc5b5266a0", func := "portmanteau/portmanteaulaw05.TallyChecks", spec := "tallyChecks", unfollowed := true, recurses := true, apart := false }
def TallyChecksSaid : Prop := tallyChecksRow.holds Try.pinned (OpenSpec.ofChange tallyChecksSpec)

/-- ITS FALSE NEIGHBOUR: 'it returns false'. Refute it at one input. -/
def tallyChecksWrong : ChangeSpec := { name := "tallyChecks", fn := fun _ => fun
  | [d] => { results := [.lit (.bool false)], args := [d] }
  | _ => none }
def TallyChecksWrongFalsely : Prop := tallyChecksRow.holds Try.pinned (OpenSpec.ofChange tallyChecksWrong)

/-- 'portmanteaulaw05.TallyTotals': WHATEVER THE INPUT: true; the input reads as it did. -/
def tallyTotalsSpec : ChangeSpec := { name := "tallyTotals", fn := fun _ => fun
  | [d] => { results := [.lit (.bool true)], args := [d] }
  | _ => none }
def tallyTotalsRow : OpenClaim := { program := "ytedojgbjfenmaaa", sum := "3d96c57f48ce6312f98f7623024f27698372eb8c8b0c527a806af8fc5b5266a0", func := "portmanteau/portmanteaulaw05.TallyTotals", spec := "tallyTotals", unfollowed := true, recurses := true, apart := false }
def TallyTotalsSaid : Prop := tallyTotalsRow.holds Try.pinned (OpenSpec.ofChange tallyTotalsSpec)

/-- ITS FALSE NEIGHBOUR: 'it returns false'. Refute it at one input. -/
def tallyTotalsWrong : ChangeSpec := { name := "tallyTotals", fn := fun _ => fun
  | [d] => { results := [.lit (.bool false)], args := [d] }
  | _ => none }
def TallyTotalsWrongFalsely : Prop := tallyTotalsRow.holds Try.pinned (OpenSpec.ofChange tallyTotalsWrong)

/-- 'portmanteaulaw05.TallyGreatest': WHATEVER THE INPUT: true; the input reads as it did. -/
def tallyGreatestSpec : ChangeSpec := { name := "tallyGreatest", fn := fun _ => fun
  | [d] => { results := [.lit (.bool true)], args := [d] }
  | _ => none }
def tallyGreatestRow : OpenClaim := { program := "ytedojgbjfenmaaa", sum := "3d96c57f48ce6312f98f7623024f27698372eb8c8b0c527a806af8fc5b5266a0", func := "portmanteau/portmanteaulaw05.TallyGreatest", spec := "tallyGreatest", unfollowed := true, recurses := true, apart := false }
def TallyGreatestSaid : Prop := tallyGreatestRow.holds Try.pinned (OpenSpec.ofChange tallyGreatestSpec)

/-- ITS FALSE NEIGHBOUR: 'it returns false'. Refute it at one input. -/
def tallyGreatestWrong : ChangeSpec := { name := "tallyGreatest", fn := fun _ => fun
  | [d] => { results := [.lit (.bool false)], args := [d] }
  | _ => none }
def TallyGreatestWrongFalsely : Prop := tallyGreatestRow.holds Try.pinned (OpenSpec.ofChange tallyGreatestWrong)

/-- 'portmanteaulaw05.TallyAdds': WHATEVER THE INPUT: true; the input reads as it did. -/
def tallyAddsSpec : ChangeSpec := { name := "tallyAdds", fn := fun _ => fun
  | [d1, d2] => { results := [.lit (.bool true)], args := [d1, d2] }
  | _ => none }
def tallyAddsRow : OpenClaim := { program := "ytedojgbjfenmaaa", sum := "3d96c57f48ce6312f98f7623024f27698372eb8c8b0c527a806af8fc5b5266a0", func := "portmanteau/portmanteaulaw05.TallyAdds", spec := "tallyAdds", unfollowed := true, recurses := true, apart := false }
def TallyAddsSaid : Prop := tallyAddsRow.holds Try.pinned (OpenSpec.ofChange tallyAddsSpec)

/-- ITS FALSE NEIGHBOUR: 'it returns false'. Refute it at one input. -/
def tallyAddsWrong : ChangeSpec := { name := "tallyAdds", fn := fun _ => fun
  | [d1, d2] => { results := [.lit (.bool false)], args := [d1, d2] }
  | _ => none }
def TallyAddsWrongFalsely : Prop := tallyAddsRow.holds Try.pinned (OpenSpec.ofChange tallyAddsWrong)

/-- 'portmanteaulaw05.TallyLogs': WHATEVER THE INPUT: true; the input reads as it did. -/
def tallyLogsSpec : ChangeSpec := { name := "tallyLogs", fn := fun _ => fun
  | [d] => { results := [.lit (.bool true)], args := [d] }
  | _ => none }
def tallyLogsRow : OpenClaim := { program := "ytedojgbjfenmaaa", sum := "3d96c57f48ce6312f98f7623024f27698372eb8c8b0c527a806af8fc5b5266a0", func := "portmanteau/portmanteaulaw05.TallyLogs", spec := "tallyLogs", unfollowed := true, recurses := true, apart := false }
def TallyLogsSaid : Prop := tallyLogsRow.holds Try.pinned (OpenSpec.ofChange tallyLogsSpec)

/-- ITS FALSE NEIGHBOUR: 'it returns false'. Refute it at one input. -/
def tallyLogsWrong : ChangeSpec := { name := "tallyLogs", fn := fun _ => fun
  | [d] => { results := [.lit (.bool false)], args := [d] }
  | _ => none }
def TallyLogsWrongFalsely : Prop := tallyLogsRow.holds Try.pinned (OpenSpec.ofChange tallyLogsWrong)

/-- 'portmanteaulaw05.TallyCosts': WHATEVER THE INPUT: true; the input reads as it did. -/
def tallyCostsSpec : ChangeSpec := { name := "tallyCosts", fn := fun _ => fun
  | [d] => { results := [.lit (.bool true)], args := [d] }
  | _ => none }
def tallyCostsRow : OpenClaim := { program := "ytedojgbjfenmaaa", sum := "3d96c57f48ce6312f98f7623024f27698372eb8c8b0c527a806af8fc5b5266a0", func := "portmanteau/portmanteaulaw05.TallyCosts", spec := "tallyCosts", unfollowed := true, recurses := true, apart := false }
def TallyCostsSaid : Prop := tallyCostsRow.holds Try.pinned (OpenSpec.ofChange tallyCostsSpec)

/-- ITS FALSE NEIGHBOUR: 'it returns false'. Refute it at one input. -/
def tallyCostsWrong : ChangeSpec := { name := "tallyCosts", fn := fun _ => fun
  | [d] => { results := [.lit (.bool false)], args := [d] }
  | _ => none }
def TallyCostsWrongFalsely : Prop := tallyCostsRow.holds Try.pinned (OpenSpec.ofChange tallyCostsWrong)

/-- 'portmanteaulaw05.TallyHolds': WHATEVER THE INPUT: true; the input reads as it did. -/
def tallyHoldsSpec : ChangeSpec := { name := "tallyHolds", fn := fun _ => fun
  | [d1, d2, d3, d4, d5, d6] => { results := [.lit (.bool true)], args := [d1, d2, d3, d4, d5, d6] }
  | _ => none }
def tallyHoldsRow : OpenClaim := { program := "ytedojgbjfenmaaa", sum := "3d96c57f48ce6312f98f7623024f27698372eb8c8b0c527a806af8fc5b5266a0", func := "portmanteau/portmanteaulaw05.TallyHolds", spec := "tallyHolds", unfollowed := true, recurses := true, apart := false }
def TallyHoldsSaid : Prop := tallyHoldsRow.holds Try.pinned (OpenSpec.ofChange tallyHoldsSpec)

/-- ITS FALSE NEIGHBOUR: 'it returns false'. Refute it at one input. -/
def tallyHoldsWrong : ChangeSpec := { name := "tallyHolds", fn := fun _ => fun
  | [d1, d2, d3, d4, d5, d6] => { results := [.lit (.bool false)], args := [d1, d2, d3, d4, d5, d6] }
  | _ => none }
def TallyHoldsWrongFalsely : Prop := tallyHoldsRow.holds Try.pinned (OpenSpec.ofChange tallyHoldsWrong)

/-- 'portmanteaulaw05.TallyRises': WHATEVER THE INPUT: true; the input reads as it did. -/
def tallyRisesSpec : ChangeSpec := { name := "tallyRises", fn := fun _ => fun
  | [d1, d2] => { results := [.lit (.bool true)], args := [d1, d2] }
  | _ => none }
def tallyRisesRow : OpenClaim := { program := "ytedojgbjfenmaaa", sum := "3d96c57f48ce6312f98f7623024f27698372eb8c8b0c527a806af8fc5b5266a0", func := "portmanteau/portmanteaulaw05.TallyRises", spec := "tallyRises", unfollowed := true, recurses := true, apart := false }
def TallyRisesSaid : Prop := tallyRisesRow.holds Try.pinned (OpenSpec.ofChange tallyRisesSpec)

/-- ITS FALSE NEIGHBOUR: 'it returns false'. Refute it at one input. -/
def tallyRisesWrong : ChangeSpec := { name := "tallyRises", fn := fun _ => fun
  | [d1, d2] => { results := [.lit (.bool false)], args := [d1, d2] }
  | _ => none }
def TallyRisesWrongFalsely : Prop := tallyRisesRow.holds Try.pinned (OpenSpec.ofChange tallyRisesWrong)

/- THE SECOND FORM. 'bulk': how many values and letters a reading holds, each counted each time it is reached (what is shared counts as often as it is met; a slice's spare places count too). A statement '..UptoSaid' is the law's where the arguments, and the package variables that the reading takes, are together of bulk at most 1048576: NARROWER than '..Said'. Prove '..Said' where nothing that the law and all that it calls make is longer than what came in: it says more and counts as full. Else prove '..UptoSaid'. A law counts once. -/
mutual
def uptoBulk {H : Type} : DataW H → Nat
  | .lit (.string bytes) => bytes.length + 1
  | .lit _ => 1
  | .nil => 1
  | .ptr d => uptoBulk d + 1
  | .slice elems spare => uptoBulkAll elems + uptoBulkAll spare + 1
  | .agg parts => uptoBulkAll parts + 1
  | .iface _ d => uptoBulk d + 1
  | .map entries => uptoBulkEntries entries + 1
  | .held _ => 1
def uptoBulkAll {H : Type} : List (DataW H) → Nat
  | [] => 0
  | d :: r => uptoBulk d + uptoBulkAll r
def uptoBulkEntries {H : Type} : List (Lit × DataW H) → Nat
  | [] => 0
  | x :: r => uptoBulkEntry x + uptoBulkEntries r
def uptoBulkEntry {H : Type} : Lit × DataW H → Nat
  | (.string bytes, d) => bytes.length + uptoBulk d + 1
  | (_, d) => uptoBulk d + 1
 end
def uptoSmall : (H : Type) → List (DataW H) → Bool := fun _ ds => decide (uptoBulkAll ds ≤ 1048576)
def OpenSpec.upto (s : _root_.Go.ChangeSpec) : _root_.Go.OpenSpec := { _root_.Go.OpenSpec.ofChange s with cond := some uptoSmall }

/-- 'portmanteaulaw05.TallyCounts', WHERE WHAT IT READS IS OF BULK AT MOST 1048576: true; the input reads as it did. -/
def tallyCountsUptoRow : OpenClaim := { program := "ytedojgbjfenmaaa", sum := "3d96c57f48ce6312f98f7623024f27698372eb8c8b0c527a806af8fc5b5266a0", func := "portmanteau/portmanteaulaw05.TallyCounts", spec := "tallyCounts", unfollowed := true, recurses := true, apart := false, narrowed := true }
def TallyCountsUptoSaid : Prop := tallyCountsUptoRow.holds Try.pinned (OpenSpec.upto tallyCountsSpec)

/-- 'portmanteaulaw05.TallyRuns', WHERE WHAT IT READS IS OF BULK AT MOST 1048576: true; the input reads as it did. -/
def tallyRunsUptoRow : OpenClaim := { program := "ytedojgbjfenmaaa", sum := "3d96c57f48ce6312f98f7623024f27698372eb8c8b0c527a806af8fc5b5266a0", func := "portmanteau/portmanteaulaw05.TallyRuns", spec := "tallyRuns", unfollowed := true, recurses := true, apart := false, narrowed := true }
def TallyRunsUptoSaid : Prop := tallyRunsUptoRow.holds Try.pinned (OpenSpec.upto tallyRunsSpec)

/-- 'portmanteaulaw05.TallyChecks', WHERE WHAT IT READS IS OF BULK AT MOST 1048576: true; the input reads as it did. -/
def tallyChecksUptoRow : OpenClaim := { program := "ytedojgbjfenmaaa", sum := "3d96c57f48ce6312f98f7623024f27698372eb8c8b0c527a806af8fc5b5266a0", func := "portmanteau/portmanteaulaw05.TallyChecks", spec := "tallyChecks", unfollowed := true, recurses := true, apart := false, narrowed := true }
def TallyChecksUptoSaid : Prop := tallyChecksUptoRow.holds Try.pinned (OpenSpec.upto tallyChecksSpec)

/-- 'portmanteaulaw05.TallyTotals', WHERE WHAT IT READS IS OF BULK AT MOST 1048576: true; the input reads as it did. -/
def tallyTotalsUptoRow : OpenClaim := { program := "ytedojgbjfenmaaa", sum := "3d96c57f48ce6312f98f7623024f27698372eb8c8b0c527a806af8fc5b5266a0", func := "portmanteau/portmanteaulaw05.TallyTotals", spec := "tallyTotals", unfollowed := true, recurses := true, apart := false, narrowed := true }
def TallyTotalsUptoSaid : Prop := tallyTotalsUptoRow.holds Try.pinned (OpenSpec.upto tallyTotalsSpec)

/-- 'portmanteaulaw05.TallyGreatest', WHERE WHAT IT READS IS OF BULK AT MOST 1048576: true; the input reads as it did. -/
def tallyGreatestUptoRow : OpenClaim := { program := "ytedojgbjfenmaaa", sum := "3d96c57f48ce6312f98f7623024f27698372eb8c8b0c527a806af8fc5b5266a0", func := "portmanteau/portmanteaulaw05.TallyGreatest", spec := "tallyGreatest", unfollowed := true, recurses := true, apart := false, narrowed := true }
def TallyGreatestUptoSaid : Prop := tallyGreatestUptoRow.holds Try.pinned (OpenSpec.upto tallyGreatestSpec)

/-- 'portmanteaulaw05.TallyAdds', WHERE WHAT IT READS IS OF BULK AT MOST 1048576: true; the input reads as it did. -/
def tallyAddsUptoRow : OpenClaim := { program := "ytedojgbjfenmaaa", sum := "3d96c57f48ce6312f98f7623024f27698372eb8c8b0c527a806af8fc5b5266a0", func := "portmanteau/portmanteaulaw05.TallyAdds", spec := "tallyAdds", unfollowed := true, recurses := true, apart := false, narrowed := true }
def TallyAddsUptoSaid : Prop := tallyAddsUptoRow.holds Try.pinned (OpenSpec.upto tallyAddsSpec)

/-- 'portmanteaulaw05.TallyLogs', WHERE WHAT IT READS IS OF BULK AT MOST 1048576: true; the input reads as it did. -/
def tallyLogsUptoRow : OpenClaim := { program := "ytedojgbjfenmaaa", sum := "3d96c57f48ce6312f98f7623024f27698372eb8c8b0c527a806af8fc5b5266a0", func := "portmanteau/portmanteaulaw05.TallyLogs", spec := "tallyLogs", unfollowed := true, recurses := true, apart := false, narrowed := true }
def TallyLogsUptoSaid : Prop := tallyLogsUptoRow.holds Try.pinned (OpenSpec.upto tallyLogsSpec)

/-- 'portmanteaulaw05.TallyCosts', WHERE WHAT IT READS IS OF BULK AT MOST 1048576: true; the input reads as it did. -/
def tallyCostsUptoRow : OpenClaim := { program := "ytedojgbjfenmaaa", sum := "3d96c57f48ce6312f98f7623024f27698372eb8c8b0c527a806af8fc5b5266a0", func := "portmanteau/portmanteaulaw05.TallyCosts", spec := "tallyCosts", unfollowed := true, recurses := true, apart := false, narrowed := true }
def TallyCostsUptoSaid : Prop := tallyCostsUptoRow.holds Try.pinned (OpenSpec.upto tallyCostsSpec)

/-- 'portmanteaulaw05.TallyHolds', WHERE WHAT IT READS IS OF BULK AT MOST 1048576: true; the input reads as it did. -/
def tallyHoldsUptoRow : OpenClaim := { program := "ytedojgbjfenmaaa", sum := "3d96c57f48ce6312f98f7623024f27698372eb8c8b0c527a806af8fc5b5266a0", func := "portmanteau/portmanteaulaw05.TallyHolds", spec := "tallyHolds", unfollowed := true, recurses := true, apart := false, narrowed := true }
def TallyHoldsUptoSaid : Prop := tallyHoldsUptoRow.holds Try.pinned (OpenSpec.upto tallyHoldsSpec)

/-- 'portmanteaulaw05.TallyRises', WHERE WHAT IT READS IS OF BULK AT MOST 1048576: true; the input reads as it did. -/
def tallyRisesUptoRow : OpenClaim := { program := "ytedojgbjfenmaaa", sum := "3d96c57f48ce6312f98f7623024f27698372eb8c8b0c527a806af8fc5b5266a0", func := "portmanteau/portmanteaulaw05.TallyRises", spec := "tallyRises", unfollowed := true, recurses := true, apart := false, narrowed := true }
def TallyRisesUptoSaid : Prop := tallyRisesUptoRow.holds Try.pinned (OpenSpec.upto tallyRisesSpec)

end Rows
end Go.Proofs.Ytedojgbjfenmaaa
