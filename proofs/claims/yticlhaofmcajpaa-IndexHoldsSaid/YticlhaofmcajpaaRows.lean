/-
  No cell of these rows narrows 'for every input' (looked for: loops, veiled, ifaces, maps, wideKeys, modest, calm, conditions, laid).
  DERIVED. THE GIVEN ROWS OF THIS SEAT. 7 by the template 'for every input the law returns true; each argument reads behind the call as it read before'; 0 by the template 'total and deterministic' (their statements: YticlhaofmcajpaaTotals.lean).
  GIVEN WITH THE SEED: the statements are not yours to turn. If you find one false, say at which input.
  Laid BY PROGRAM, IN A SANDBOX (cutbox-rows.mjs): the forced cells as the released guide's own fill.sh prints them over the translation b1b1241121bce37f… (all of the seat's roots in one cut). By AI agents, Wed Nov 11 2026. No macro, syntax, notation, axiom, sorry.
-/
import Derived.Test.YticlhaofmcajpaaChecked
import GoSem.Claim
import GoSem.ClaimJoined
import GoSem.ClaimMapViews
import Derived.JoinedTies
import Derived.KernelRfl
namespace Go.Proofs.Yticlhaofmcajpaa
/- THE CELL 'sum', in the pinned program and in every row, IS THE sha256 OF THE DUMP (.gsa) THAT YticlhaofmcajpaaProg.lean LOADS. Nothing in Lean hashes anything: it is a label: what it is worth is what the hold of that sum in a sandbox is worth. -/
noncomputable def Try.pinned : Pinned := { name := "yticlhaofmcajpaa", sum := "b1b1241121bce37f7d5242806fe9027a2269eeaf389b195f6c02be0afb6431aa", checked := Try.checked }
namespace Rows
def none {H : Type} : Left H := { results := [], args := [] }

/-- 'portmanteaulaw27.IndexPrevs': WHATEVER THE INPUT: true; the input reads as it did. -/
def indexPrevsSpec : ChangeSpec := { name := "indexPrevs", fn := fun _ => fun
  | [d1, d2] => { results := [.lit (.bool true)], args := [d1, d2] }
  | _ => none }
def indexPrevsRow : OpenClaim := { program := "yticlhaofmcajpaa", sum := "b1b1241121bce37f7d5242806fe9027a2269eeaf389b195f6c02be0afb6431aa", func := "portmanteau/portmanteaulaw27.IndexPrevs", spec := "indexPrevs", unfollowed := true, recurses := true, plainKeys := false, apart := false }
def IndexPrevsSaid : Prop := indexPrevsRow.holds Try.pinned (OpenSpec.ofChange indexPrevsSpec)

/-- ITS FALSE NEIGHBOUR: 'it returns false'. Refute it at one input. -/
def indexPrevsWrong : ChangeSpec := { name := "indexPrevs", fn := fun _ => fun
  | [d1, d2] => { results := [.lit (.bool false)], args := [d1, d2] }
  | _ => none }
def IndexPrevsWrongFalsely : Prop := indexPrevsRow.holds Try.pinned (OpenSpec.ofChange indexPrevsWrong)

/-- 'portmanteaulaw27.IndexChains': WHATEVER THE INPUT: true; the input reads as it did. -/
def indexChainsSpec : ChangeSpec := { name := "indexChains", fn := fun _ => fun
  | [d1, d2, d3, d4, d5] => { results := [.lit (.bool true)], args := [d1, d2, d3, d4, d5] }
  | _ => none }
def indexChainsRow : OpenClaim := { program := "yticlhaofmcajpaa", sum := "b1b1241121bce37f7d5242806fe9027a2269eeaf389b195f6c02be0afb6431aa", func := "portmanteau/portmanteaulaw27.IndexChains", spec := "indexChains", unfollowed := true, recurses := true, plainKeys := false, apart := false }
def IndexChainsSaid : Prop := indexChainsRow.holds Try.pinned (OpenSpec.ofChange indexChainsSpec)

/-- ITS FALSE NEIGHBOUR: 'it returns false'. Refute it at one input. -/
def indexChainsWrong : ChangeSpec := { name := "indexChains", fn := fun _ => fun
  | [d1, d2, d3, d4, d5] => { results := [.lit (.bool false)], args := [d1, d2, d3, d4, d5] }
  | _ => none }
def IndexChainsWrongFalsely : Prop := indexChainsRow.holds Try.pinned (OpenSpec.ofChange indexChainsWrong)

/-- 'portmanteaulaw27.IndexPieces': WHATEVER THE INPUT: true; the input reads as it did. -/
def indexPiecesSpec : ChangeSpec := { name := "indexPieces", fn := fun _ => fun
  | [d1, d2] => { results := [.lit (.bool true)], args := [d1, d2] }
  | _ => none }
def indexPiecesRow : OpenClaim := { program := "yticlhaofmcajpaa", sum := "b1b1241121bce37f7d5242806fe9027a2269eeaf389b195f6c02be0afb6431aa", func := "portmanteau/portmanteaulaw27.IndexPieces", spec := "indexPieces", unfollowed := true, recurses := true, plainKeys := false, apart := false }
def IndexPiecesSaid : Prop := indexPiecesRow.holds Try.pinned (OpenSpec.ofChange indexPiecesSpec)

/-- ITS FALSE NEIGHBOUR: 'it returns false'. Refute it at one input. -/
def indexPiecesWrong : ChangeSpec := { name := "indexPieces", fn := fun _ => fun
  | [d1, d2] => { results := [.lit (.bool false)], args := [d1, d2] }
  | _ => none }
def IndexPiecesWrongFalsely : Prop := indexPiecesRow.holds Try.pinned (OpenSpec.ofChange indexPiecesWrong)

/-- 'portmanteaulaw27.IndexHolds': WHATEVER THE INPUT: true; the input reads as it did. -/
def indexHoldsSpec : ChangeSpec := { name := "indexHolds", fn := fun _ => fun
  | [d1, d2] => { results := [.lit (.bool true)], args := [d1, d2] }
  | _ => none }
def indexHoldsRow : OpenClaim := { program := "yticlhaofmcajpaa", sum := "b1b1241121bce37f7d5242806fe9027a2269eeaf389b195f6c02be0afb6431aa", func := "portmanteau/portmanteaulaw27.IndexHolds", spec := "indexHolds", unfollowed := true, recurses := true, plainKeys := false, apart := false }
def IndexHoldsSaid : Prop := indexHoldsRow.holds Try.pinned (OpenSpec.ofChange indexHoldsSpec)

/-- ITS FALSE NEIGHBOUR: 'it returns false'. Refute it at one input. -/
def indexHoldsWrong : ChangeSpec := { name := "indexHolds", fn := fun _ => fun
  | [d1, d2] => { results := [.lit (.bool false)], args := [d1, d2] }
  | _ => none }
def IndexHoldsWrongFalsely : Prop := indexHoldsRow.holds Try.pinned (OpenSpec.ofChange indexHoldsWrong)

/-- 'portmanteaulaw27.IndexPlays': WHATEVER THE INPUT: true; the input reads as it did. -/
def indexPlaysSpec : ChangeSpec := { name := "indexPlays", fn := fun _ => fun
  | [d1, d2, d3, d4, d5] => { results := [.lit (.bool true)], args := [d1, d2, d3, d4, d5] }
  | _ => none }
def indexPlaysRow : OpenClaim := { program := "yticlhaofmcajpaa", sum := "b1b1241121bce37f7d5242806fe9027a2269eeaf389b195f6c02be0afb6431aa", func := "portmanteau/portmanteaulaw27.IndexPlays", spec := "indexPlays", unfollowed := true, recurses := true, plainKeys := false, apart := false }
def IndexPlaysSaid : Prop := indexPlaysRow.holds Try.pinned (OpenSpec.ofChange indexPlaysSpec)

/-- ITS FALSE NEIGHBOUR: 'it returns false'. Refute it at one input. -/
def indexPlaysWrong : ChangeSpec := { name := "indexPlays", fn := fun _ => fun
  | [d1, d2, d3, d4, d5] => { results := [.lit (.bool false)], args := [d1, d2, d3, d4, d5] }
  | _ => none }
def IndexPlaysWrongFalsely : Prop := indexPlaysRow.holds Try.pinned (OpenSpec.ofChange indexPlaysWrong)

/-- 'portmanteaulaw27.IndexFinds': WHATEVER THE INPUT: true; the input reads as it did. -/
def indexFindsSpec : ChangeSpec := { name := "indexFinds", fn := fun _ => fun
  | [d1, d2, d3] => { results := [.lit (.bool true)], args := [d1, d2, d3] }
  | _ => none }
def indexFindsRow : OpenClaim := { program := "yticlhaofmcajpaa", sum := "b1b1241121bce37f7d5242806fe9027a2269eeaf389b195f6c02be0afb6431aa", func := "portmanteau/portmanteaulaw27.IndexFinds", spec := "indexFinds", unfollowed := true, recurses := true, plainKeys := false, apart := false }
def IndexFindsSaid : Prop := indexFindsRow.holds Try.pinned (OpenSpec.ofChange indexFindsSpec)

/-- ITS FALSE NEIGHBOUR: 'it returns false'. Refute it at one input. -/
def indexFindsWrong : ChangeSpec := { name := "indexFinds", fn := fun _ => fun
  | [d1, d2, d3] => { results := [.lit (.bool false)], args := [d1, d2, d3] }
  | _ => none }
def IndexFindsWrongFalsely : Prop := indexFindsRow.holds Try.pinned (OpenSpec.ofChange indexFindsWrong)

/-- 'portmanteaulaw27.IndexClones': WHATEVER THE INPUT: true; the input reads as it did. -/
def indexClonesSpec : ChangeSpec := { name := "indexClones", fn := fun _ => fun
  | [d1, d2, d3, d4, d5, d6] => { results := [.lit (.bool true)], args := [d1, d2, d3, d4, d5, d6] }
  | _ => none }
def indexClonesRow : OpenClaim := { program := "yticlhaofmcajpaa", sum := "b1b1241121bce37f7d5242806fe9027a2269eeaf389b195f6c02be0afb6431aa", func := "portmanteau/portmanteaulaw27.IndexClones", spec := "indexClones", unfollowed := true, recurses := true, plainKeys := false, apart := false }
def IndexClonesSaid : Prop := indexClonesRow.holds Try.pinned (OpenSpec.ofChange indexClonesSpec)

/-- ITS FALSE NEIGHBOUR: 'it returns false'. Refute it at one input. -/
def indexClonesWrong : ChangeSpec := { name := "indexClones", fn := fun _ => fun
  | [d1, d2, d3, d4, d5, d6] => { results := [.lit (.bool false)], args := [d1, d2, d3, d4, d5, d6] }
  | _ => none }
def IndexClonesWrongFalsely : Prop := indexClonesRow.holds Try.pinned (OpenSpec.ofChange indexClonesWrong)

/- THE SECOND FORM. 'bulk': how many values and letters a reading holds, each counted each time it is reached (what is shared counts as often as it is met; a slice's spare places count too). A statement '..UptoSaid' is the law's where the arguments, and the package variables that the reading takes, are together of bulk at most 1048576: NARROWER than '..Said'. Prove '..Said' where nothing that the law and all that it calls make is longer than what came in: it says more and counts as full. Else prove '..UptoSaid'. A law counts once. -/
mutual
def uptoBulk {H : Type} : DataW H → Nat
  | .lit (.string bytes) => bytes.length + 1
  | .lit _ => 1
  | .nil => 1
  | .ptr d => uptoBulk d + 1
  | .slice elems spare => uptoBulkAll elems + uptoBulkAll spare + 1
  | .agg parts => uptoBulkAll parts + 1
  | .iface _ d => uptoBulk d + 1
  | .map entries => uptoBulkEntries entries + 1
  | .held _ => 1
def uptoBulkAll {H : Type} : List (DataW H) → Nat
  | [] => 0
  | d :: r => uptoBulk d + uptoBulkAll r
def uptoBulkEntries {H : Type} : List (Lit × DataW H) → Nat
  | [] => 0
  | x :: r => uptoBulkEntry x + uptoBulkEntries r
def uptoBulkEntry {H : Type} : Lit × DataW H → Nat
  | (.string bytes, d) => bytes.length + uptoBulk d + 1
  | (_, d) => uptoBulk d + 1
 end
def uptoSmall : (H : Type) → List (DataW H) → Bool := fun _ ds => decide (uptoBulkAll ds ≤ 1048576)
def OpenSpec.upto (s : _root_.Go.ChangeSpec) : _root_.Go.OpenSpec := { _root_.Go.OpenSpec.ofChange s with cond := some uptoSmall }

/-- 'portmanteaulaw27.IndexPrevs', WHERE WHAT IT READS IS OF BULK AT MOST 1048576: true; the input reads as it did. -/
def indexPrevsUptoRow : OpenClaim := { program := "yticlhaofmcajpaa", sum := "b1b1241121bce37f7d5242806fe9027a2269eeaf389b195f6c02be0afb6431aa", func := "portmanteau/portmanteaulaw27.IndexPrevs", spec := "indexPrevs", unfollowed := true, recurses := true, plainKeys := false, apart := false, narrowed := true }
def IndexPrevsUptoSaid : Prop := indexPrevsUptoRow.holds Try.pinned (OpenSpec.upto indexPrevsSpec)

/-- 'portmanteaulaw27.IndexChains', WHERE WHAT IT READS IS OF BULK AT MOST 1048576: true; the input reads as it did. -/
def indexChainsUptoRow : OpenClaim := { program := "yticlhaofmcajpaa", sum := "b1b1241121bce37f7d5242806fe9027a2269eeaf389b195f6c02be0afb6431aa", func := "portmanteau/portmanteaulaw27.IndexChains", spec := "indexChains", unfollowed := true, recurses := true, plainKeys := false, apart := false, narrowed := true }
def IndexChainsUptoSaid : Prop := indexChainsUptoRow.holds Try.pinned (OpenSpec.upto indexChainsSpec)

/-- 'portmanteaulaw27.IndexPieces', WHERE WHAT IT READS IS OF BULK AT MOST 1048576: true; the input reads as it did. -/
def indexPiecesUptoRow : OpenClaim := { program := "yticlhaofmcajpaa", sum := "b1b1241121bce37f7d5242806fe9027a2269eeaf389b195f6c02be0afb6431aa", func := "portmanteau/portmanteaulaw27.IndexPieces", spec := "indexPieces", unfollowed := true, recurses := true, plainKeys := false, apart := false, narrowed := true }
def IndexPiecesUptoSaid : Prop := indexPiecesUptoRow.holds Try.pinned (OpenSpec.upto indexPiecesSpec)

/-- 'portmanteaulaw27.IndexHolds', WHERE WHAT IT READS IS OF BULK AT MOST 1048576: true; the input reads as it did. -/
def indexHoldsUptoRow : OpenClaim := { program := "yticlhaofmcajpaa", sum := "b1b1241121bce37f7d5242806fe9027a2269eeaf389b195f6c02be0afb6431aa", func := "portmanteau/portmanteaulaw27.IndexHolds", spec := "indexHolds", unfollowed := true, recurses := true, plainKeys := false, apart := false, narrowed := true }
def IndexHoldsUptoSaid : Prop := indexHoldsUptoRow.holds Try.pinned (OpenSpec.upto indexHoldsSpec)

/-- 'portmanteaulaw27.IndexPlays', WHERE WHAT IT READS IS OF BULK AT MOST 1048576: true; the input reads as it did. -/
def indexPlaysUptoRow : OpenClaim := { program := "yticlhaofmcajpaa", sum := "b1b1241121bce37f7d5242806fe9027a2269eeaf389b195f6c02be0afb6431aa", func := "portmanteau/portmanteaulaw27.IndexPlays", spec := "indexPlays", unfollowed := true, recurses := true, plainKeys := false, apart := false, narrowed := true }
def IndexPlaysUptoSaid : Prop := indexPlaysUptoRow.holds Try.pinned (OpenSpec.upto indexPlaysSpec)

/-- 'portmanteaulaw27.IndexFinds', WHERE WHAT IT READS IS OF BULK AT MOST 1048576: true; the input reads as it did. -/
def indexFindsUptoRow : OpenClaim := { program := "yticlhaofmcajpaa", sum := "b1b1241121bce37f7d5242806fe9027a2269eeaf389b195f6c02be0afb6431aa", func := "portmanteau/portmanteaulaw27.IndexFinds", spec := "indexFinds", unfollowed := true, recurses := true, plainKeys := false, apart := false, narrowed := true }
def IndexFindsUptoSaid : Prop := indexFindsUptoRow.holds Try.pinned (OpenSpec.upto indexFindsSpec)

/-- 'portmanteaulaw27.IndexClones', WHERE WHAT IT READS IS OF BULK AT MOST 1048576: true; the input reads as it did. -/
def indexClonesUptoRow : OpenClaim := { program := "yticlhaofmcajpaa", sum := "b1b1241121bce37f7d5242806fe9027a2269eeaf389b195f6c02be0afb6431aa", func := "portmanteau/portmanteaulaw27.IndexClones", spec := "indexClones", unfollowed := true, recurses := true, plainKeys := false, apart := false, narrowed := true }
def IndexClonesUptoSaid : Prop := indexClonesUptoRow.holds Try.pinned (OpenSpec.upto indexClonesSpec)

end Rows
end Go.Proofs.Yticlhaofmcajpaa
