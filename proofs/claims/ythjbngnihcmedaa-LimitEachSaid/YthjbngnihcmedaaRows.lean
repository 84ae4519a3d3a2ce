/-
  No cell of these rows narrows 'for every input' (looked for: loops, veiled, ifaces, maps, wideKeys, modest, calm, conditions, laid).
  DERIVED. THE GIVEN ROWS OF THIS SEAT. 8 by the template 'for every input the law returns true; each argument reads behind the call as it read before'; 0 by the template 'total and deterministic' (their statements: YthjbngnihcmedaaTotals.lean).
  GIVEN WITH THE SEED: the statements are not yours to turn. If you find one false, say at which input.
  Laid BY PROGRAM, IN A SANDBOX (cutbox-rows.mjs): the forced cells as the released guide's own fill.sh prints them over the translation 046378c2e353e747… (all of the seat's roots in one cut). By AI agents, Wed Nov 11 2026. No macro, syntax, notation, axiom, sorry.
-/
import Derived.Test.YthjbngnihcmedaaChecked
import GoSem.Claim
import GoSem.ClaimJoined
import GoSem.ClaimMapViews
import Derived.JoinedTies
import Derived.KernelRfl
namespace Go.Proofs.Ythjbngnihcmedaa
/- THE CELL 'sum', in the pinned program and in every row, IS THE sha256 OF THE DUMP (.gsa) THAT YthjbngnihcmedaaProg.lean LOADS. Nothing in Lean hashes anything: it is a label: what it is worth is what the hold of that sum in a sandbox is worth. -/
noncomputable def Try.pinned : Pinned := { name := "ythjbngnihcmedaa", sum := "046378c2e353e747c5dbaa51b95c3dacba0e0ed4ce79dc7da6253223c32e5593", checked := Try.checked }
namespace Rows
def none {H : Type} : Left H := { results := [], args := [] }

/-- 'portmanteaulaw13.LimitLengths': WHATEVER THE INPUT: true; the input reads as it did. -/
def limitLengthsSpec : ChangeSpec := { name := "limitLengths", fn := fun _ => fun
  | [d1, d2] => { results := [.lit (.bool true)], args := [d1, d2] }
  | _ => none }
def limitLengthsRow : OpenClaim := { program := "ythjbngnihcmedaa", sum := "046378c2e353e747c5dbaa51b95c3dacba0e0ed4ce79dc7da6253223c32e5593", func := "portmanteau/portmanteaulaw13.LimitLengths", spec := "limitLengths", unfollowed := true, recurses := true, apart := false }
def LimitLengthsSaid : Prop := limitLengthsRow.holds Try.pinned (OpenSpec.ofChange limitLengthsSpec)

/-- ITS FALSE NEIGHBOUR: 'it returns false'. Refute it at one input. -/
def limitLengthsWrong : ChangeSpec := { name := "limitLengths", fn := fun _ => fun
  | [d1, d2] => { results := [.lit (.bool false)], args := [d1, d2] }
  | _ => none }
def LimitLengthsWrongFalsely : Prop := limitLengthsRow.holds Try.pinned (OpenSpec.ofChange limitLengthsWrong)

/-- 'portmanteaulaw13.LimitMany': WHATEVER THE INPUT: true; the input reads as it did. -/
def limitManySpec : ChangeSpec := { name := "limitMany", fn := fun _ => fun
  | [d1, d2] => { results := [.lit (.bool true)], args := [d1, d2] }
  | _ => none }
def limitManyRow : OpenClaim := { program := "ythjbngnihcmedaa", sum := "046378c2e353e747c5dbaa51b95c3dacba0e0ed4ce79dc7da6253223c32e5593", func := "portmanteau/portmanteaulaw13.LimitMany", spec := "limitMany", unfollowed := true, recurses := true, apart := false }
def LimitManySaid : Prop := limitManyRow.holds Try.pinned (OpenSpec.ofChange limitManySpec)

/-- ITS FALSE NEIGHBOUR: 'it returns false'. Refute it at one input. -/
def limitManyWrong : ChangeSpec := { name := "limitMany", fn := fun _ => fun
  | [d1, d2] => { results := [.lit (.bool false)], args := [d1, d2] }
  | _ => none }
def LimitManyWrongFalsely : Prop := limitManyRow.holds Try.pinned (OpenSpec.ofChange limitManyWrong)

/-- 'portmanteaulaw13.LimitFrees': WHATEVER THE INPUT: true; the input reads as it did. -/
def limitFreesSpec : ChangeSpec := { name := "limitFrees", fn := fun _ => fun
  | [d] => { results := [.lit (.bool true)], args := [d] }
  | _ => none }
def limitFreesRow : OpenClaim := { program := "ythjbngnihcmedaa", sum := "046378c2e353e747c5dbaa51b95c3dacba0e0ed4ce79dc7da6253223c32e5593", func := "portmanteau/portmanteaulaw13.LimitFrees", spec := "limitFrees", unfollowed := true, recurses := true, apart := false }
def LimitFreesSaid : Prop := limitFreesRow.holds Try.pinned (OpenSpec.ofChange limitFreesSpec)

/-- ITS FALSE NEIGHBOUR: 'it returns false'. Refute it at one input. -/
def limitFreesWrong : ChangeSpec := { name := "limitFrees", fn := fun _ => fun
  | [d] => { results := [.lit (.bool false)], args := [d] }
  | _ => none }
def LimitFreesWrongFalsely : Prop := limitFreesRow.holds Try.pinned (OpenSpec.ofChange limitFreesWrong)

/-- 'portmanteaulaw13.LimitFlats': WHATEVER THE INPUT: true; the input reads as it did. -/
def limitFlatsSpec : ChangeSpec := { name := "limitFlats", fn := fun _ => fun
  | [d1, d2] => { results := [.lit (.bool true)], args := [d1, d2] }
  | _ => none }
def limitFlatsRow : OpenClaim := { program := "ythjbngnihcmedaa", sum := "046378c2e353e747c5dbaa51b95c3dacba0e0ed4ce79dc7da6253223c32e5593", func := "portmanteau/portmanteaulaw13.LimitFlats", spec := "limitFlats", unfollowed := true, recurses := true, apart := false }
def LimitFlatsSaid : Prop := limitFlatsRow.holds Try.pinned (OpenSpec.ofChange limitFlatsSpec)

/-- ITS FALSE NEIGHBOUR: 'it returns false'. Refute it at one input. -/
def limitFlatsWrong : ChangeSpec := { name := "limitFlats", fn := fun _ => fun
  | [d1, d2] => { results := [.lit (.bool false)], args := [d1, d2] }
  | _ => none }
def LimitFlatsWrongFalsely : Prop := limitFlatsRow.holds Try.pinned (OpenSpec.ofChange limitFlatsWrong)

/-- 'portmanteaulaw13.LimitCosts': WHATEVER THE INPUT: true; the input reads as it did. -/
def limitCostsSpec : ChangeSpec := { name := "limitCosts", fn := fun _ => fun
  | [d1, d2] => { results := [.lit (.bool true)], args := [d1, d2] }
  | _ => none }
def limitCostsRow : OpenClaim := { program := "ythjbngnihcmedaa", sum := "046378c2e353e747c5dbaa51b95c3dacba0e0ed4ce79dc7da6253223c32e5593", func := "portmanteau/portmanteaulaw13.LimitCosts", spec := "limitCosts", unfollowed := true, recurses := true, apart := false }
def LimitCostsSaid : Prop := limitCostsRow.holds Try.pinned (OpenSpec.ofChange limitCostsSpec)

/-- ITS FALSE NEIGHBOUR: 'it returns false'. Refute it at one input. -/
def limitCostsWrong : ChangeSpec := { name := "limitCosts", fn := fun _ => fun
  | [d1, d2] => { results := [.lit (.bool false)], args := [d1, d2] }
  | _ => none }
def LimitCostsWrongFalsely : Prop := limitCostsRow.holds Try.pinned (OpenSpec.ofChange limitCostsWrong)

/-- 'portmanteaulaw13.LimitFits': WHATEVER THE INPUT: true; the input reads as it did. -/
def limitFitsSpec : ChangeSpec := { name := "limitFits", fn := fun _ => fun
  | [d] => { results := [.lit (.bool true)], args := [d] }
  | _ => none }
def limitFitsRow : OpenClaim := { program := "ythjbngnihcmedaa", sum := "046378c2e353e747c5dbaa51b95c3dacba0e0ed4ce79dc7da6253223c32e5593", func := "portmanteau/portmanteaulaw13.LimitFits", spec := "limitFits", unfollowed := true, recurses := true, apart := false }
def LimitFitsSaid : Prop := limitFitsRow.holds Try.pinned (OpenSpec.ofChange limitFitsSpec)

/-- ITS FALSE NEIGHBOUR: 'it returns false'. Refute it at one input. -/
def limitFitsWrong : ChangeSpec := { name := "limitFits", fn := fun _ => fun
  | [d] => { results := [.lit (.bool false)], args := [d] }
  | _ => none }
def LimitFitsWrongFalsely : Prop := limitFitsRow.holds Try.pinned (OpenSpec.ofChange limitFitsWrong)

/-- 'portmanteaulaw13.LimitHolds': WHATEVER THE INPUT: true; the input reads as it did. -/
def limitHoldsSpec : ChangeSpec := { name := "limitHolds", fn := fun _ => fun
  | [d1, d2, d3] => { results := [.lit (.bool true)], args := [d1, d2, d3] }
  | _ => none }
def limitHoldsRow : OpenClaim := { program := "ythjbngnihcmedaa", sum := "046378c2e353e747c5dbaa51b95c3dacba0e0ed4ce79dc7da6253223c32e5593", func := "portmanteau/portmanteaulaw13.LimitHolds", spec := "limitHolds", unfollowed := true, recurses := true, apart := false }
def LimitHoldsSaid : Prop := limitHoldsRow.holds Try.pinned (OpenSpec.ofChange limitHoldsSpec)

/-- ITS FALSE NEIGHBOUR: 'it returns false'. Refute it at one input. -/
def limitHoldsWrong : ChangeSpec := { name := "limitHolds", fn := fun _ => fun
  | [d1, d2, d3] => { results := [.lit (.bool false)], args := [d1, d2, d3] }
  | _ => none }
def LimitHoldsWrongFalsely : Prop := limitHoldsRow.holds Try.pinned (OpenSpec.ofChange limitHoldsWrong)

/-- 'portmanteaulaw13.LimitEach': WHATEVER THE INPUT: true; the input reads as it did. -/
def limitEachSpec : ChangeSpec := { name := "limitEach", fn := fun _ => fun
  | [d1, d2] => { results := [.lit (.bool true)], args := [d1, d2] }
  | _ => none }
def limitEachRow : OpenClaim := { program := "ythjbngnihcmedaa", sum := "046378c2e353e747c5dbaa51b95c3dacba0e0ed4ce79dc7da6253223c32e5593", func := "portmanteau/portmanteaulaw13.LimitEach", spec := "limitEach", unfollowed := true, recurses := true, apart := false }
def LimitEachSaid : Prop := limitEachRow.holds Try.pinned (OpenSpec.ofChange limitEachSpec)

/-- ITS FALSE NEIGHBOUR: 'it returns false'. Refute it at one input. -/
def limitEachWrong : ChangeSpec := { name := "limitEach", fn := fun _ => fun
  | [d1, d2] => { results := [.lit (.bool false)], args := [d1, d2] }
  | _ => none }
def LimitEachWrongFalsely : Prop := limitEachRow.holds Try.pinned (OpenSpec.ofChange limitEachWrong)

/- THE SECOND FORM. 'bulk': how many values and letters a reading holds, each counted each time it is reached (what is shared counts as often as it is met; a slice's spare places count too). A statement '..UptoSaid' is the law's where the arguments, and the package variables that the reading takes, are together of bulk at most 1048576: NARROWER than '..Said'. Prove '..Said' where nothing that the law and all that it calls make is longer than what came in: it says more and counts as full. Else prove '..UptoSaid'. A law counts once. -/
mutual
def uptoBulk {H : Type} : DataW H → Nat
  | .lit (.string bytes) => bytes.length + 1
  | .lit _ => 1
  | .nil => 1
  | .ptr d => uptoBulk d + 1
  | .slice elems spare => uptoBulkAll elems + uptoBulkAll spare + 1
  | .agg parts => uptoBulkAll parts + 1
  | .iface _ d => uptoBulk d + 1
  | .map entries => uptoBulkEntries entries + 1
  | .held _ => 1
def uptoBulkAll {H : Type} : List (DataW H) → Nat
  | [] => 0
  | d :: r => uptoBulk d + uptoBulkAll r
def uptoBulkEntries {H : Type} : List (Lit × DataW H) → Nat
  | [] => 0
  | x :: r => uptoBulkEntry x + uptoBulkEntries r
def uptoBulkEntry {H : Type} : Lit × DataW H → Nat
  | (.string bytes, d) => bytes.length + uptoBulk d + 1
  | (_, d) => uptoBulk d + 1
 end
def uptoSmall : (H : Type) → List (DataW H) → Bool := fun _ ds => decide (uptoBulkAll ds ≤ 1048576)
def OpenSpec.upto (s : _root_.Go.ChangeSpec) : _root_.Go.OpenSpec := { _root_.Go.OpenSpec.ofChange s with cond := some uptoSmall }

/-- 'portmanteaulaw13.LimitLengths', WHERE WHAT IT READS IS OF BULK AT MOST 1048576: true; the input reads as it did. -/
def limitLengthsUptoRow : OpenClaim := { program := "ythjbngnihcmedaa", sum := "046378c2e353e747c5dbaa51b95c3dacba0e0ed4ce79dc7da6253223c32e5593", func := "portmanteau/portmanteaulaw13.LimitLengths", spec := "limitLengths", unfollowed := true, recurses := true, apart := false, narrowed := true }
def LimitLengthsUptoSaid : Prop := limitLengthsUptoRow.holds Try.pinned (OpenSpec.upto limitLengthsSpec)

/-- 'portmanteaulaw13.LimitMany', WHERE WHAT IT READS IS OF BULK AT MOST 1048576: true; the input reads as it did. -/
def limitManyUptoRow : OpenClaim := { program := "ythjbngnihcmedaa", sum := "046378c2e353e747c5dbaa51b95c3dacba0e0ed4ce79dc7da6253223c32e5593", func := "portmanteau/portmanteaulaw13.LimitMany", spec := "limitMany", unfollowed := true, recurses := true, apart := false, narrowed := true }
def LimitManyUptoSaid : Prop := limitManyUptoRow.holds Try.pinned (OpenSpec.upto limitManySpec)

/-- 'portmanteaulaw13.LimitFrees', WHERE WHAT IT READS IS OF BULK AT MOST 1048576: true; the input reads as it did. -/
def limitFreesUptoRow : OpenClaim := { program := "ythjbngnihcmedaa", sum := "046378c2e353e747c5dbaa51b95c3dacba0e0ed4ce79dc7da6253223c32e5593", func := "portmanteau/portmanteaulaw13.LimitFrees", spec := "limitFrees", unfollowed := true, recurses := true, apart := false, narrowed := true }
def LimitFreesUptoSaid : Prop := limitFreesUptoRow.holds Try.pinned (OpenSpec.upto limitFreesSpec)

/-- 'portmanteaulaw13.LimitFlats', WHERE WHAT IT READS IS OF BULK AT MOST 1048576: true; the input reads as it did. -/
def limitFlatsUptoRow : OpenClaim := { program := "ythjbngnihcmedaa", sum := "046378c2e353e747c5dbaa51b95c3dacba0e0ed4ce79dc7da6253223c32e5593", func := "portmanteau/portmanteaulaw13.LimitFlats", spec := "limitFlats", unfollowed := true, recurses := true, apart := false, narrowed := true }
def LimitFlatsUptoSaid : Prop := limitFlatsUptoRow.holds Try.pinned (OpenSpec.upto limitFlatsSpec)

/-- 'portmanteaulaw13.LimitCosts', WHERE WHAT IT READS IS OF BULK AT MOST 1048576: true; the input reads as it did. -/
def limitCostsUptoRow : OpenClaim := { program := "ythjbngnihcmedaa", sum := "046378c2e353e747c5dbaa51b95c3dacba0e0ed4ce79dc7da6253223c32e5593", func := "portmanteau/portmanteaulaw13.LimitCosts", spec := "limitCosts", unfollowed := true, recurses := true, apart := false, narrowed := true }
def LimitCostsUptoSaid : Prop := limitCostsUptoRow.holds Try.pinned (OpenSpec.upto limitCostsSpec)

/-- 'portmanteaulaw13.LimitFits', WHERE WHAT IT READS IS OF BULK AT MOST 1048576: true; the input reads as it did. -/
def limitFitsUptoRow : OpenClaim := { program := "ythjbngnihcmedaa", sum := "046378c2e353e747c5dbaa51b95c3dacba0e0ed4ce79dc7da6253223c32e5593", func := "portmanteau/portmanteaulaw13.LimitFits", spec := "limitFits", unfollowed := true, recurses := true, apart := false, narrowed := true }
def LimitFitsUptoSaid : Prop := limitFitsUptoRow.holds Try.pinned (OpenSpec.upto limitFitsSpec)

/-- 'portmanteaulaw13.LimitHolds', WHERE WHAT IT READS IS OF BULK AT MOST 1048576: true; the input reads as it did. -/
def limitHoldsUptoRow : OpenClaim := { program := "ythjbngnihcmedaa", sum := "046378c2e353e747c5dbaa51b95c3dacba0e0ed4ce79dc7da6253223c32e5593", func := "portmanteau/portmanteaulaw13.LimitHolds", spec := "limitHolds", unfollowed := true, recurses := true, apart := false, narrowed := true }
def LimitHoldsUptoSaid : Prop := limitHoldsUptoRow.holds Try.pinned (OpenSpec.upto limitHoldsSpec)

/-- 'portmanteaulaw13.LimitEach', WHERE WHAT IT READS IS OF BULK AT MOST 1048576: true; the input reads as it did. -/
def limitEachUptoRow : OpenClaim := { program := "ythjbngnihcmedaa", sum := "046378c2e353e747c5dbaa51b95c3dacba0e0ed4ce79dc7da6253223c32e5593", func := "portmanteau/portmanteaulaw13.LimitEach", spec := "limitEach", unfollowed := true, recurses := true, apart := false, narrowed := true }
def LimitEachUptoSaid : Prop := limitEachUptoRow.holds Try.pinned (OpenSpec.upto limitEachSpec)

end Rows
end Go.Proofs.Ythjbngnihcmedaa
