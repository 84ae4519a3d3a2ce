/-
  No cell of these rows narrows 'for every input' (looked for: loops, veiled, ifaces, maps, wideKeys, modest, calm, conditions, laid).
  DERIVED. THE GIVEN ROWS OF THIS SEAT. 7 by the template 'for every input the law returns true; each argument reads behind the call as it read before'; 0 by the template 'total and deterministic' (their statements: YtogengangfohfaaGreatTotals.lean).
  GIVEN WITH THE SEED: the statements are not yours to turn. If you find one false, say at which input.
  Laid BY PROGRAM, IN A SANDBOX (cutbox-rows.mjs): the forced cells as the released guide's own fill.sh prints them over the translation 4ab72c52282263c2… (all of the seat's roots in one cut). By AI agents, Wed Nov 11 2026. No macro, syntax, notation, axiom, sorry.
-/
import Derived.Test.YtogengangfohfaaGreatChecked
import GoSem.Claim
import GoSem.ClaimJoined
import GoSem.ClaimMapViews
import Derived.JoinedTies
import Derived.KernelRfl
namespace Go.Proofs.YtogengangfohfaaGreat
/- THE CELL 'sum', in the pinned program and in every row, IS THE sha256 OF THE DUMP (.gsa) THAT YtogengangfohfaaGreatProg.lean LOADS. Nothing in Lean hashes anything: it is a label: what it is worth is what the hold of that sum in a sandbox is worth. -/
noncomputable def Tryz.pinned : Pinned := { name := "ytogengangfohfaagreat", sum := "4ab72c52282263c2d59926fc42d22f1d5b5ab5c8fedbc98684794dd8ff872e5a", checked := Tryz.checked }
namespace Rows
def none {H : Type} : Left H := { results := [], args := [] }

/-- 'portmanteaulaw37.TrainKeys': WHATEVER THE INPUT: true; the input reads as it did. -/
def trainKeysSpec : ChangeSpec := { name := "trainKeys", fn := fun _ => fun
  | [d1, d2] => { results := [.lit (.bool true)], args := [d1, d2] }
  | _ => none }
def trainKeysRow : OpenClaim := { program := "ytogengangfohfaagreat", sum := "4ab72c52282263c2d59926fc42d22f1d5b5ab5c8fedbc98684794dd8ff872e5a", func := "portmanteau/portmanteaulaw37.TrainKeys", spec := "trainKeys", unfollowed := true, recurses := true, plainKeys := false, apart := false }
def TrainKeysSaid : Prop := trainKeysRow.holds Tryz.pinned (OpenSpec.ofChange trainKeysSpec)

/-- ITS FALSE NEIGHBOUR: 'it returns false'. Refute it at one input. -/
def trainKeysWrong : ChangeSpec := { name := "trainKeys", fn := fun _ => fun
  | [d1, d2] => { results := [.lit (.bool false)], args := [d1, d2] }
  | _ => none }
def TrainKeysWrongFalsely : Prop := trainKeysRow.holds Tryz.pinned (OpenSpec.ofChange trainKeysWrong)

/-- 'portmanteaulaw37.TrainWorth': WHATEVER THE INPUT: true; the input reads as it did. -/
def trainWorthSpec : ChangeSpec := { name := "trainWorth", fn := fun _ => fun
  | [d1, d2] => { results := [.lit (.bool true)], args := [d1, d2] }
  | _ => none }
def trainWorthRow : OpenClaim := { program := "ytogengangfohfaagreat", sum := "4ab72c52282263c2d59926fc42d22f1d5b5ab5c8fedbc98684794dd8ff872e5a", func := "portmanteau/portmanteaulaw37.TrainWorth", spec := "trainWorth", unfollowed := true, recurses := true, plainKeys := false, apart := false }
def TrainWorthSaid : Prop := trainWorthRow.holds Tryz.pinned (OpenSpec.ofChange trainWorthSpec)

/-- ITS FALSE NEIGHBOUR: 'it returns false'. Refute it at one input. -/
def trainWorthWrong : ChangeSpec := { name := "trainWorth", fn := fun _ => fun
  | [d1, d2] => { results := [.lit (.bool false)], args := [d1, d2] }
  | _ => none }
def TrainWorthWrongFalsely : Prop := trainWorthRow.holds Tryz.pinned (OpenSpec.ofChange trainWorthWrong)

/-- 'portmanteaulaw37.TrainPieces': WHATEVER THE INPUT: true; the input reads as it did. -/
def trainPiecesSpec : ChangeSpec := { name := "trainPieces", fn := fun _ => fun
  | [d] => { results := [.lit (.bool true)], args := [d] }
  | _ => none }
def trainPiecesRow : OpenClaim := { program := "ytogengangfohfaagreat", sum := "4ab72c52282263c2d59926fc42d22f1d5b5ab5c8fedbc98684794dd8ff872e5a", func := "portmanteau/portmanteaulaw37.TrainPieces", spec := "trainPieces", unfollowed := true, recurses := true, plainKeys := false, apart := false }
def TrainPiecesSaid : Prop := trainPiecesRow.holds Tryz.pinned (OpenSpec.ofChange trainPiecesSpec)

/-- ITS FALSE NEIGHBOUR: 'it returns false'. Refute it at one input. -/
def trainPiecesWrong : ChangeSpec := { name := "trainPieces", fn := fun _ => fun
  | [d] => { results := [.lit (.bool false)], args := [d] }
  | _ => none }
def TrainPiecesWrongFalsely : Prop := trainPiecesRow.holds Tryz.pinned (OpenSpec.ofChange trainPiecesWrong)

/-- 'portmanteaulaw37.TrainContents': WHATEVER THE INPUT: true; the input reads as it did. -/
def trainContentsSpec : ChangeSpec := { name := "trainContents", fn := fun _ => fun
  | [d1, d2] => { results := [.lit (.bool true)], args := [d1, d2] }
  | _ => none }
def trainContentsRow : OpenClaim := { program := "ytogengangfohfaagreat", sum := "4ab72c52282263c2d59926fc42d22f1d5b5ab5c8fedbc98684794dd8ff872e5a", func := "portmanteau/portmanteaulaw37.TrainContents", spec := "trainContents", unfollowed := true, recurses := true, plainKeys := false, apart := false }
def TrainContentsSaid : Prop := trainContentsRow.holds Tryz.pinned (OpenSpec.ofChange trainContentsSpec)

/-- ITS FALSE NEIGHBOUR: 'it returns false'. Refute it at one input. -/
def trainContentsWrong : ChangeSpec := { name := "trainContents", fn := fun _ => fun
  | [d1, d2] => { results := [.lit (.bool false)], args := [d1, d2] }
  | _ => none }
def TrainContentsWrongFalsely : Prop := trainContentsRow.holds Tryz.pinned (OpenSpec.ofChange trainContentsWrong)

/-- 'portmanteaulaw37.TrainBounds': WHATEVER THE INPUT: true; the input reads as it did. -/
def trainBoundsSpec : ChangeSpec := { name := "trainBounds", fn := fun _ => fun
  | [d1, d2, d3] => { results := [.lit (.bool true)], args := [d1, d2, d3] }
  | _ => none }
def trainBoundsRow : OpenClaim := { program := "ytogengangfohfaagreat", sum := "4ab72c52282263c2d59926fc42d22f1d5b5ab5c8fedbc98684794dd8ff872e5a", func := "portmanteau/portmanteaulaw37.TrainBounds", spec := "trainBounds", unfollowed := true, recurses := true, plainKeys := false, apart := false }
def TrainBoundsSaid : Prop := trainBoundsRow.holds Tryz.pinned (OpenSpec.ofChange trainBoundsSpec)

/-- ITS FALSE NEIGHBOUR: 'it returns false'. Refute it at one input. -/
def trainBoundsWrong : ChangeSpec := { name := "trainBounds", fn := fun _ => fun
  | [d1, d2, d3] => { results := [.lit (.bool false)], args := [d1, d2, d3] }
  | _ => none }
def TrainBoundsWrongFalsely : Prop := trainBoundsRow.holds Tryz.pinned (OpenSpec.ofChange trainBoundsWrong)

/-- 'portmanteaulaw37.TrainContexts': WHATEVER THE INPUT: true; the input reads as it did. -/
def trainContextsSpec : ChangeSpec := { name := "trainContexts", fn := fun _ => fun
  | [d1, d2] => { results := [.lit (.bool true)], args := [d1, d2] }
  | _ => none }
def trainContextsRow : OpenClaim := { program := "ytogengangfohfaagreat", sum := "4ab72c52282263c2d59926fc42d22f1d5b5ab5c8fedbc98684794dd8ff872e5a", func := "portmanteau/portmanteaulaw37.TrainContexts", spec := "trainContexts", unfollowed := true, recurses := true, plainKeys := false, apart := false }
def TrainContextsSaid : Prop := trainContextsRow.holds Tryz.pinned (OpenSpec.ofChange trainContextsSpec)

/-- ITS FALSE NEIGHBOUR: 'it returns false'. Refute it at one input. -/
def trainContextsWrong : ChangeSpec := { name := "trainContexts", fn := fun _ => fun
  | [d1, d2] => { results := [.lit (.bool false)], args := [d1, d2] }
  | _ => none }
def TrainContextsWrongFalsely : Prop := trainContextsRow.holds Tryz.pinned (OpenSpec.ofChange trainContextsWrong)

/-- 'portmanteaulaw37.TrainHolds': WHATEVER THE INPUT: true; the input reads as it did. -/
def trainHoldsSpec : ChangeSpec := { name := "trainHolds", fn := fun _ => fun
  | [d1, d2] => { results := [.lit (.bool true)], args := [d1, d2] }
  | _ => none }
def trainHoldsRow : OpenClaim := { program := "ytogengangfohfaagreat", sum := "4ab72c52282263c2d59926fc42d22f1d5b5ab5c8fedbc98684794dd8ff872e5a", func := "portmanteau/portmanteaulaw37.TrainHolds", spec := "trainHolds", unfollowed := true, recurses := true, plainKeys := false, apart := false }
def TrainHoldsSaid : Prop := trainHoldsRow.holds Tryz.pinned (OpenSpec.ofChange trainHoldsSpec)

/-- ITS FALSE NEIGHBOUR: 'it returns false'. Refute it at one input. -/
def trainHoldsWrong : ChangeSpec := { name := "trainHolds", fn := fun _ => fun
  | [d1, d2] => { results := [.lit (.bool false)], args := [d1, d2] }
  | _ => none }
def TrainHoldsWrongFalsely : Prop := trainHoldsRow.holds Tryz.pinned (OpenSpec.ofChange trainHoldsWrong)

/- THE SECOND FORM. 'bulk': how many values and letters a reading holds, each counted each time it is reached (what is shared counts as often as it is met; a slice's spare places count too). A statement '..UptoSaid' is the law's where the arguments, and the package variables that the reading takes, are together of bulk at most 1048576: NARROWER than '..Said'. Prove '..Said' where nothing that the law and all that it calls make is longer than what came in: it says more and counts as full. Else prove '..UptoSaid'. A law counts once. -/
mutual
def uptoBulk {H : Type} : DataW H → Nat
  | .lit (.string bytes) => bytes.length + 1
  | .lit _ => 1
  | .nil => 1
  | .ptr d => uptoBulk d + 1
  | .slice elems spare => uptoBulkAll elems + uptoBulkAll spare + 1
  | .agg parts => uptoBulkAll parts + 1
  | .iface _ d => uptoBulk d + 1
  | .map entries => uptoBulkEntries entries + 1
  | .held _ => 1
def uptoBulkAll {H : Type} : List (DataW H) → Nat
  | [] => 0
  | d :: r => uptoBulk d + uptoBulkAll r
def uptoBulkEntries {H : Type} : List (Lit × DataW H) → Nat
  | [] => 0
  | x :: r => uptoBulkEntry x + uptoBulkEntries r
def uptoBulkEntry {H : Type} : Lit × DataW H → Nat
  | (.string bytes, d) => bytes.length + uptoBulk d + 1
  | (_, d) => uptoBulk d + 1
 end
def uptoSmall : (H : Type) → List (DataW H) → Bool := fun _ ds => decide (uptoBulkAll ds ≤ 1048576)
def OpenSpec.upto (s : _root_.Go.ChangeSpec) : _root_.Go.OpenSpec := { _root_.Go.OpenSpec.ofChange s with cond := some uptoSmall }

/-- 'portmanteaulaw37.TrainKeys', WHERE WHAT IT READS IS OF BULK AT MOST 1048576: true; the input reads as it did. -/
def trainKeysUptoRow : OpenClaim := { program := "ytogengangfohfaagreat", sum := "4ab72c52282263c2d59926fc42d22f1d5b5ab5c8fedbc98684794dd8ff872e5a", func := "portmanteau/portmanteaulaw37.TrainKeys", spec := "trainKeys", unfollowed := true, recurses := true, plainKeys := false, apart := false, narrowed := true }
def TrainKeysUptoSaid : Prop := trainKeysUptoRow.holds Tryz.pinned (OpenSpec.upto trainKeysSpec)

/-- 'portmanteaulaw37.TrainWorth', WHERE WHAT IT READS IS OF BULK AT MOST 1048576: true; the input reads as it did. -/
def trainWorthUptoRow : OpenClaim := { program := "ytogengangfohfaagreat", sum := "4ab72c52282263c2d59926fc42d22f1d5b5ab5c8fedbc98684794dd8ff872e5a", func := "portmanteau/portmanteaulaw37.TrainWorth", spec := "trainWorth", unfollowed := true, recurses := true, plainKeys := false, apart := false, narrowed := true }
def TrainWorthUptoSaid : Prop := trainWorthUptoRow.holds Tryz.pinned (OpenSpec.upto trainWorthSpec)

/-- 'portmanteaulaw37.TrainPieces', WHERE WHAT IT READS IS OF BULK AT MOST 1048576: true; the input reads as it did. -/
def trainPiecesUptoRow : OpenClaim := { program := "ytogengangfohfaagreat", sum := "4ab72c52282263c2d59926fc42d22f1d5b5ab5c8fedbc98684794dd8ff872e5a", func := "portmanteau/portmanteaulaw37.TrainPieces", spec := "trainPieces", unfollowed := true, recurses := true, plainKeys := false, apart := false, narrowed := true }
def TrainPiecesUptoSaid : Prop := trainPiecesUptoRow.holds Tryz.pinned (OpenSpec.upto trainPiecesSpec)

/-- 'portmanteaulaw37.TrainContents', WHERE WHAT IT READS IS OF BULK AT MOST 1048576: true; the input reads as it did. -/
def trainContentsUptoRow : OpenClaim := { program := "ytogengangfohfaagreat", sum := "4ab72c52282263c2d59926fc42d22f1d5b5ab5c8fedbc98684794dd8ff872e5a", func := "portmanteau/portmanteaulaw37.TrainContents", spec := "trainContents", unfollowed := true, recurses := true, plainKeys := false, apart := false, narrowed := true }
def TrainContentsUptoSaid : Prop := trainContentsUptoRow.holds Tryz.pinned (OpenSpec.upto trainContentsSpec)

/-- 'portmanteaulaw37.TrainBounds', WHERE WHAT IT READS IS OF BULK AT MOST 1048576: true; the input reads as it did. -/
def trainBoundsUptoRow : OpenClaim := { program := "ytogengangfohfaagreat", sum := "4ab72c52282263c2d59926fc42d22f1d5b5ab5c8fedbc98684794dd8ff872e5a", func := "portmanteau/portmanteaulaw37.TrainBounds", spec := "trainBounds", unfollowed := true, recurses := true, plainKeys := false, apart := false, narrowed := true }
def TrainBoundsUptoSaid : Prop := trainBoundsUptoRow.holds Tryz.pinned (OpenSpec.upto trainBoundsSpec)

/-- 'portmanteaulaw37.TrainContexts', WHERE WHAT IT READS IS OF BULK AT MOST 1048576: true; the input reads as it did. -/
def trainContextsUptoRow : OpenClaim := { program := "ytogengangfohfaagreat", sum := "4ab72c52282263c2d59926fc42d22f1d5b5ab5c8fedbc98684794dd8ff872e5a", func := "portmanteau/portmanteaulaw37.TrainContexts", spec := "trainContexts", unfollowed := true, recurses := true, plainKeys := false, apart := false, narrowed := true }
def TrainContextsUptoSaid : Prop := trainContextsUptoRow.holds Tryz.pinned (OpenSpec.upto trainContextsSpec)

/-- 'portmanteaulaw37.TrainHolds', WHERE WHAT IT READS IS OF BULK AT MOST 1048576: true; the input reads as it did. -/
def trainHoldsUptoRow : OpenClaim := { program := "ytogengangfohfaagreat", sum := "4ab72c52282263c2d59926fc42d22f1d5b5ab5c8fedbc98684794dd8ff872e5a", func := "portmanteau/portmanteaulaw37.TrainHolds", spec := "trainHolds", unfollowed := true, recurses := true, plainKeys := false, apart := false, narrowed := true }
def TrainHoldsUptoSaid : Prop := trainHoldsUptoRow.holds Tryz.pinned (OpenSpec.upto trainHoldsSpec)

end Rows
end Go.Proofs.YtogengangfohfaaGreat
