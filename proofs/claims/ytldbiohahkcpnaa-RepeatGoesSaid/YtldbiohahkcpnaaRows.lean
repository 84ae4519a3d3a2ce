/-
  No cell of these rows narrows 'for every input' (looked for: loops, veiled, ifaces, maps, wideKeys, modest, calm, conditions, laid).
  DERIVED. THE GIVEN ROWS OF THIS SEAT. 9 by the template 'for every input the law returns true; each argument reads behind the call as it read before'; 0 by the template 'total and deterministic' (their statements: YtldbiohahkcpnaaTotals.lean).
  GIVEN WITH THE SEED: the statements are not yours to turn. If you find one false, say at which input.
  Laid BY PROGRAM, IN A SANDBOX (cutbox-rows.mjs): the forced cells as the released guide's own fill.sh prints them over the translation d1cbb375471e7264… (all of the seat's roots in one cut). By AI agents, Wed Nov 11 2026. No macro, syntax, notation, axiom, sorry.
-/
import Derived.Test.YtldbiohahkcpnaaChecked
import GoSem.Claim
import GoSem.ClaimJoined
import GoSem.ClaimMapViews
import Derived.JoinedTies
import Derived.KernelRfl
namespace Go.Proofs.Ytldbiohahkcpnaa
/- THE CELL 'sum', in the pinned program and in every row, IS THE sha256 OF THE DUMP (.gsa) THAT YtldbiohahkcpnaaProg.lean LOADS. Nothing in Lean hashes anything: it is a label: what it is worth is what the hold of that sum in a sandbox is worth. -/
noncomputable def Try.pinned : Pinned := { name := "ytldbiohahkcpnaa", sum := "d1cbb375471e7264f3ff80d1b4d5d833ae4e0a9f0eb3488aedf3cc7793eef511", checked := Try.checked }
namespace Rows
def none {H : Type} : Left H := { results := [], args := [] }

/-- 'portmanteaulaw21.RepeatOffset': WHATEVER THE INPUT: true; the input reads as it did. -/
def repeatOffsetSpec : ChangeSpec := { name := "repeatOffset", fn := fun _ => fun
  | [d1, d2] => { results := [.lit (.bool true)], args := [d1, d2] }
  | _ => none }
def repeatOffsetRow : OpenClaim := { program := "ytldbiohahkcpnaa", sum := "d1cbb375471e7264f3ff80d1b4d5d833ae4e0a9f0eb3488aedf3cc7793eef511", func := "portmanteau/portmanteaulaw21.RepeatOffset", spec := "repeatOffset", unfollowed := true, recurses := true, apart := false }
def RepeatOffsetSaid : Prop := repeatOffsetRow.holds Try.pinned (OpenSpec.ofChange repeatOffsetSpec)

/-- ITS FALSE NEIGHBOUR: 'it returns false'. Refute it at one input. -/
def repeatOffsetWrong : ChangeSpec := { name := "repeatOffset", fn := fun _ => fun
  | [d1, d2] => { results := [.lit (.bool false)], args := [d1, d2] }
  | _ => none }
def RepeatOffsetWrongFalsely : Prop := repeatOffsetRow.holds Try.pinned (OpenSpec.ofChange repeatOffsetWrong)

/-- 'portmanteaulaw21.RepeatValue': WHATEVER THE INPUT: true; the input reads as it did. -/
def repeatValueSpec : ChangeSpec := { name := "repeatValue", fn := fun _ => fun
  | [d1, d2] => { results := [.lit (.bool true)], args := [d1, d2] }
  | _ => none }
def repeatValueRow : OpenClaim := { program := "ytldbiohahkcpnaa", sum := "d1cbb375471e7264f3ff80d1b4d5d833ae4e0a9f0eb3488aedf3cc7793eef511", func := "portmanteau/portmanteaulaw21.RepeatValue", spec := "repeatValue", unfollowed := true, recurses := true, apart := false }
def RepeatValueSaid : Prop := repeatValueRow.holds Try.pinned (OpenSpec.ofChange repeatValueSpec)

/-- ITS FALSE NEIGHBOUR: 'it returns false'. Refute it at one input. -/
def repeatValueWrong : ChangeSpec := { name := "repeatValue", fn := fun _ => fun
  | [d1, d2] => { results := [.lit (.bool false)], args := [d1, d2] }
  | _ => none }
def RepeatValueWrongFalsely : Prop := repeatValueRow.holds Try.pinned (OpenSpec.ofChange repeatValueWrong)

/-- 'portmanteaulaw21.RepeatOffsets': WHATEVER THE INPUT: true; the input reads as it did. -/
def repeatOffsetsSpec : ChangeSpec := { name := "repeatOffsets", fn := fun _ => fun
  | [d1, d2] => { results := [.lit (.bool true)], args := [d1, d2] }
  | _ => none }
def repeatOffsetsRow : OpenClaim := { program := "ytldbiohahkcpnaa", sum := "d1cbb375471e7264f3ff80d1b4d5d833ae4e0a9f0eb3488aedf3cc7793eef511", func := "portmanteau/portmanteaulaw21.RepeatOffsets", spec := "repeatOffsets", unfollowed := true, recurses := true, apart := false }
def RepeatOffsetsSaid : Prop := repeatOffsetsRow.holds Try.pinned (OpenSpec.ofChange repeatOffsetsSpec)

/-- ITS FALSE NEIGHBOUR: 'it returns false'. Refute it at one input. -/
def repeatOffsetsWrong : ChangeSpec := { name := "repeatOffsets", fn := fun _ => fun
  | [d1, d2] => { results := [.lit (.bool false)], args := [d1, d2] }
  | _ => none }
def RepeatOffsetsWrongFalsely : Prop := repeatOffsetsRow.holds Try.pinned (OpenSpec.ofChange repeatOffsetsWrong)

/-- 'portmanteaulaw21.RepeatLeast': WHATEVER THE INPUT: true; the input reads as it did. -/
def repeatLeastSpec : ChangeSpec := { name := "repeatLeast", fn := fun _ => fun
  | [d1, d2] => { results := [.lit (.bool true)], args := [d1, d2] }
  | _ => none }
def repeatLeastRow : OpenClaim := { program := "ytldbiohahkcpnaa", sum := "d1cbb375471e7264f3ff80d1b4d5d833ae4e0a9f0eb3488aedf3cc7793eef511", func := "portmanteau/portmanteaulaw21.RepeatLeast", spec := "repeatLeast", unfollowed := true, recurses := true, apart := false }
def RepeatLeastSaid : Prop := repeatLeastRow.holds Try.pinned (OpenSpec.ofChange repeatLeastSpec)

/-- ITS FALSE NEIGHBOUR: 'it returns false'. Refute it at one input. -/
def repeatLeastWrong : ChangeSpec := { name := "repeatLeast", fn := fun _ => fun
  | [d1, d2] => { results := [.lit (.bool false)], args := [d1, d2] }
  | _ => none }
def RepeatLeastWrongFalsely : Prop := repeatLeastRow.holds Try.pinned (OpenSpec.ofChange repeatLeastWrong)

/-- 'portmanteaulaw21.RepeatMay': WHATEVER THE INPUT: true; the input reads as it did. -/
def repeatMaySpec : ChangeSpec := { name := "repeatMay", fn := fun _ => fun
  | [d] => { results := [.lit (.bool true)], args := [d] }
  | _ => none }
def repeatMayRow : OpenClaim := { program := "ytldbiohahkcpnaa", sum := "d1cbb375471e7264f3ff80d1b4d5d833ae4e0a9f0eb3488aedf3cc7793eef511", func := "portmanteau/portmanteaulaw21.RepeatMay", spec := "repeatMay", unfollowed := true, recurses := true, apart := false }
def RepeatMaySaid : Prop := repeatMayRow.holds Try.pinned (OpenSpec.ofChange repeatMaySpec)

/-- ITS FALSE NEIGHBOUR: 'it returns false'. Refute it at one input. -/
def repeatMayWrong : ChangeSpec := { name := "repeatMay", fn := fun _ => fun
  | [d] => { results := [.lit (.bool false)], args := [d] }
  | _ => none }
def RepeatMayWrongFalsely : Prop := repeatMayRow.holds Try.pinned (OpenSpec.ofChange repeatMayWrong)

/-- 'portmanteaulaw21.RepeatOrder': WHATEVER THE INPUT: true; the input reads as it did. -/
def repeatOrderSpec : ChangeSpec := { name := "repeatOrder", fn := fun _ => fun
  | [d1, d2] => { results := [.lit (.bool true)], args := [d1, d2] }
  | _ => none }
def repeatOrderRow : OpenClaim := { program := "ytldbiohahkcpnaa", sum := "d1cbb375471e7264f3ff80d1b4d5d833ae4e0a9f0eb3488aedf3cc7793eef511", func := "portmanteau/portmanteaulaw21.RepeatOrder", spec := "repeatOrder", unfollowed := true, recurses := true, apart := false }
def RepeatOrderSaid : Prop := repeatOrderRow.holds Try.pinned (OpenSpec.ofChange repeatOrderSpec)

/-- ITS FALSE NEIGHBOUR: 'it returns false'. Refute it at one input. -/
def repeatOrderWrong : ChangeSpec := { name := "repeatOrder", fn := fun _ => fun
  | [d1, d2] => { results := [.lit (.bool false)], args := [d1, d2] }
  | _ => none }
def RepeatOrderWrongFalsely : Prop := repeatOrderRow.holds Try.pinned (OpenSpec.ofChange repeatOrderWrong)

/-- 'portmanteaulaw21.RepeatValues': WHATEVER THE INPUT: true; the input reads as it did. -/
def repeatValuesSpec : ChangeSpec := { name := "repeatValues", fn := fun _ => fun
  | [d1, d2] => { results := [.lit (.bool true)], args := [d1, d2] }
  | _ => none }
def repeatValuesRow : OpenClaim := { program := "ytldbiohahkcpnaa", sum := "d1cbb375471e7264f3ff80d1b4d5d833ae4e0a9f0eb3488aedf3cc7793eef511", func := "portmanteau/portmanteaulaw21.RepeatValues", spec := "repeatValues", unfollowed := true, recurses := true, apart := false }
def RepeatValuesSaid : Prop := repeatValuesRow.holds Try.pinned (OpenSpec.ofChange repeatValuesSpec)

/-- ITS FALSE NEIGHBOUR: 'it returns false'. Refute it at one input. -/
def repeatValuesWrong : ChangeSpec := { name := "repeatValues", fn := fun _ => fun
  | [d1, d2] => { results := [.lit (.bool false)], args := [d1, d2] }
  | _ => none }
def RepeatValuesWrongFalsely : Prop := repeatValuesRow.holds Try.pinned (OpenSpec.ofChange repeatValuesWrong)

/-- 'portmanteaulaw21.RepeatHolds': WHATEVER THE INPUT: true; the input reads as it did. -/
def repeatHoldsSpec : ChangeSpec := { name := "repeatHolds", fn := fun _ => fun
  | [d1, d2] => { results := [.lit (.bool true)], args := [d1, d2] }
  | _ => none }
def repeatHoldsRow : OpenClaim := { program := "ytldbiohahkcpnaa", sum := "d1cbb375471e7264f3ff80d1b4d5d833ae4e0a9f0eb3488aedf3cc7793eef511", func := "portmanteau/portmanteaulaw21.RepeatHolds", spec := "repeatHolds", unfollowed := true, recurses := true, apart := false }
def RepeatHoldsSaid : Prop := repeatHoldsRow.holds Try.pinned (OpenSpec.ofChange repeatHoldsSpec)

/-- ITS FALSE NEIGHBOUR: 'it returns false'. Refute it at one input. -/
def repeatHoldsWrong : ChangeSpec := { name := "repeatHolds", fn := fun _ => fun
  | [d1, d2] => { results := [.lit (.bool false)], args := [d1, d2] }
  | _ => none }
def RepeatHoldsWrongFalsely : Prop := repeatHoldsRow.holds Try.pinned (OpenSpec.ofChange repeatHoldsWrong)

/-- 'portmanteaulaw21.RepeatGoes': WHATEVER THE INPUT: true; the input reads as it did. -/
def repeatGoesSpec : ChangeSpec := { name := "repeatGoes", fn := fun _ => fun
  | [d1, d2, d3] => { results := [.lit (.bool true)], args := [d1, d2, d3] }
  | _ => none }
def repeatGoesRow : OpenClaim := { program := "ytldbiohahkcpnaa", sum := "d1cbb375471e7264f3ff80d1b4d5d833ae4e0a9f0eb3488aedf3cc7793eef511", func := "portmanteau/portmanteaulaw21.RepeatGoes", spec := "repeatGoes", unfollowed := true, recurses := true, apart := false }
def RepeatGoesSaid : Prop := repeatGoesRow.holds Try.pinned (OpenSpec.ofChange repeatGoesSpec)

/-- ITS FALSE NEIGHBOUR: 'it returns false'. Refute it at one input. -/
def repeatGoesWrong : ChangeSpec := { name := "repeatGoes", fn := fun _ => fun
  | [d1, d2, d3] => { results := [.lit (.bool false)], args := [d1, d2, d3] }
  | _ => none }
def RepeatGoesWrongFalsely : Prop := repeatGoesRow.holds Try.pinned (OpenSpec.ofChange repeatGoesWrong)

/- THE SECOND FORM. 'bulk': how many values and letters a reading holds, each counted each time it is reached (what is shared counts as often as it is met; a slice's spare places count too). A statement '..UptoSaid' is the law's where the arguments, and the package variables that the reading takes, are together of bulk at most 1048576: NARROWER than '..Said'. Prove '..Said' where nothing that the law and all that it calls make is longer than what came in: it says more and counts as full. Else prove '..UptoSaid'. A law counts once. -/
mutual
def uptoBulk {H : Type} : DataW H → Nat
  | .lit (.string bytes) => bytes.length + 1
  | .lit _ => 1
  | .nil => 1
  | .ptr d => uptoBulk d + 1
  | .slice elems spare => uptoBulkAll elems + uptoBulkAll spare + 1
  | .agg parts => uptoBulkAll parts + 1
  | .iface _ d => uptoBulk d + 1
  | .map entries => uptoBulkEntries entries + 1
  | .held _ => 1
def uptoBulkAll {H : Type} : List (DataW H) → Nat
  | [] => 0
  | d :: r => uptoBulk d + uptoBulkAll r
def uptoBulkEntries {H : Type} : List (Lit × DataW H) → Nat
  | [] => 0
  | x :: r => uptoBulkEntry x + uptoBulkEntries r
def uptoBulkEntry {H : Type} : Lit × DataW H → Nat
  | (.string bytes, d) => bytes.length + uptoBulk d + 1
  | (_, d) => uptoBulk d + 1
 end
def uptoSmall : (H : Type) → List (DataW H) → Bool := fun _ ds => decide (uptoBulkAll ds ≤ 1048576)
def OpenSpec.upto (s : _root_.Go.ChangeSpec) : _root_.Go.OpenSpec := { _root_.Go.OpenSpec.ofChange s with cond := some uptoSmall }

/-- 'portmanteaulaw21.RepeatOffset', WHERE WHAT IT READS IS OF BULK AT MOST 1048576: true; the input reads as it did. -/
def repeatOffsetUptoRow : OpenClaim := { program := "ytldbiohahkcpnaa", sum := "d1cbb375471e7264f3ff80d1b4d5d833ae4e0a9f0eb3488aedf3cc7793eef511", func := "portmanteau/portmanteaulaw21.RepeatOffset", spec := "repeatOffset", unfollowed := true, recurses := true, apart := false, narrowed := true }
def RepeatOffsetUptoSaid : Prop := repeatOffsetUptoRow.holds Try.pinned (OpenSpec.upto repeatOffsetSpec)

/-- 'portmanteaulaw21.RepeatValue', WHERE WHAT IT READS IS OF BULK AT MOST 1048576: true; the input reads as it did. -/
def repeatValueUptoRow : OpenClaim := { program := "ytldbiohahkcpnaa", sum := "d1cbb375471e7264f3ff80d1b4d5d833ae4e0a9f0eb3488aedf3cc7793eef511", func := "portmanteau/portmanteaulaw21.RepeatValue", spec := "repeatValue", unfollowed := true, recurses := true, apart := false, narrowed := true }
def RepeatValueUptoSaid : Prop := repeatValueUptoRow.holds Try.pinned (OpenSpec.upto repeatValueSpec)

/-- 'portmanteaulaw21.RepeatOffsets', WHERE WHAT IT READS IS OF BULK AT MOST 1048576: true; the input reads as it did. -/
def repeatOffsetsUptoRow : OpenClaim := { program := "ytldbiohahkcpnaa", sum := "d1cbb375471e7264f3ff80d1b4d5d833ae4e0a9f0eb3488aedf3cc7793eef511", func := "portmanteau/portmanteaulaw21.RepeatOffsets", spec := "repeatOffsets", unfollowed := true, recurses := true, apart := false, narrowed := true }
def RepeatOffsetsUptoSaid : Prop := repeatOffsetsUptoRow.holds Try.pinned (OpenSpec.upto repeatOffsetsSpec)

/-- 'portmanteaulaw21.RepeatLeast', WHERE WHAT IT READS IS OF BULK AT MOST 1048576: true; the input reads as it did. -/
def repeatLeastUptoRow : OpenClaim := { program := "ytldbiohahkcpnaa", sum := "d1cbb375471e7264f3ff80d1b4d5d833ae4e0a9f0eb3488aedf3cc7793eef511", func := "portmanteau/portmanteaulaw21.RepeatLeast", spec := "repeatLeast", unfollowed := true, recurses := true, apart := false, narrowed := true }
def RepeatLeastUptoSaid : Prop := repeatLeastUptoRow.holds Try.pinned (OpenSpec.upto repeatLeastSpec)

/-- 'portmanteaulaw21.RepeatMay', WHERE WHAT IT READS IS OF BULK AT MOST 1048576: true; the input reads as it did. -/
def repeatMayUptoRow : OpenClaim := { program := "ytldbiohahkcpnaa", sum := "d1cbb375471e7264f3ff80d1b4d5d833ae4e0a9f0eb3488aedf3cc7793eef511", func := "portmanteau/portmanteaulaw21.RepeatMay", spec := "repeatMay", unfollowed := true, recurses := true, apart := false, narrowed := true }
def RepeatMayUptoSaid : Prop := repeatMayUptoRow.holds Try.pinned (OpenSpec.upto repeatMaySpec)

/-- 'portmanteaulaw21.RepeatOrder', WHERE WHAT IT READS IS OF BULK AT MOST 1048576: true; the input reads as it did. -/
def repeatOrderUptoRow : OpenClaim := { program := "ytldbiohahkcpnaa", sum := "d1cbb375471e7264f3ff80d1b4d5d833ae4e0a9f0eb3488aedf3cc7793eef511", func := "portmanteau/portmanteaulaw21.RepeatOrder", spec := "repeatOrder", unfollowed := true, recurses := true, apart := false, narrowed := true }
def RepeatOrderUptoSaid : Prop := repeatOrderUptoRow.holds Try.pinned (OpenSpec.upto repeatOrderSpec)

/-- 'portmanteaulaw21.RepeatValues', WHERE WHAT IT READS IS OF BULK AT MOST 1048576: true; the input reads as it did. -/
def repeatValuesUptoRow : OpenClaim := { program := "ytldbiohahkcpnaa", sum := "d1cbb375471e7264f3ff80d1b4d5d833ae4e0a9f0eb3488aedf3cc7793eef511", func := "portmanteau/portmanteaulaw21.RepeatValues", spec := "repeatValues", unfollowed := true, recurses := true, apart := false, narrowed := true }
def RepeatValuesUptoSaid : Prop := repeatValuesUptoRow.holds Try.pinned (OpenSpec.upto repeatValuesSpec)

/-- 'portmanteaulaw21.RepeatHolds', WHERE WHAT IT READS IS OF BULK AT MOST 1048576: true; the input reads as it did. -/
def repeatHoldsUptoRow : OpenClaim := { program := "ytldbiohahkcpnaa", sum := "d1cbb375471e7264f3ff80d1b4d5d833ae4e0a9f0eb3488aedf3cc7793eef511", func := "portmanteau/portmanteaulaw21.RepeatHolds", spec := "repeatHolds", unfollowed := true, recurses := true, apart := false, narrowed := true }
def RepeatHoldsUptoSaid : Prop := repeatHoldsUptoRow.holds Try.pinned (OpenSpec.upto repeatHoldsSpec)

/-- 'portmanteaulaw21.RepeatGoes', WHERE WHAT IT READS IS OF BULK AT MOST 1048576: true; the input reads as it did. -/
def repeatGoesUptoRow : OpenClaim := { program := "ytldbiohahkcpnaa", sum := "d1cbb375471e7264f3ff80d1b4d5d833ae4e0a9f0eb3488aedf3cc7793eef511", func := "portmanteau/portmanteaulaw21.RepeatGoes", spec := "repeatGoes", unfollowed := true, recurses := true, apart := false, narrowed := true }
def RepeatGoesUptoSaid : Prop := repeatGoesUptoRow.holds Try.pinned (OpenSpec.upto repeatGoesSpec)

end Rows
end Go.Proofs.Ytldbiohahkcpnaa
