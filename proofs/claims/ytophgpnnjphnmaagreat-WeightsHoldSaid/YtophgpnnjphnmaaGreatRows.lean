/-
  No cell of these rows narrows 'for every input' (looked for: loops, veiled, ifaces, maps, wideKeys, modest, calm, conditions, laid).
  DERIVED. THE GIVEN ROWS OF THIS SEAT. 9 by the template 'for every input the law returns true; each argument reads behind the call as it read before'; 0 by the template 'total and deterministic' (their statements: YtophgpnnjphnmaaGreatTotals.lean).
  GIVEN WITH THE SEED: the statements are not yours to turn. If you find one false, say at which input.
  Laid BY PROGRAM, IN A SANDBOX (cutbox-rows.mjs): the forced cells as the released guide's own fill.sh prints them over the translation 6bdb16a79195ab61… (all of the seat's roots in one cut). By AI agents, Wed Nov 11 2026. No macro, syntax, notation, axiom, sorry.
-/
import Derived.Test.YtophgpnnjphnmaaGreatChecked
import GoSem.Claim
import GoSem.ClaimJoined
import GoSem.ClaimMapViews
import Derived.JoinedTies
import Derived.KernelRfl
namespace Go.Proofs.YtophgpnnjphnmaaGreat
/- THE CELL 'sum', in the pinned program and in every row, IS THE sha256 OF THE DUMP (.gsa) THAT YtophgpnnjphnmaaGreatProg.lean LOADS. Nothing in Lean hashes anything: it is a label: what it is worth is what the hold of that sum in a sandbox is worth. -/
noncomputable def Tryz.pinned : Pinned := { name := "ytophgpnnjphnmaagreat", sum := "6bdb16a79195ab612dbf47890f4d172ba2d518af3e09a365934bd4886c04ae83", checked := Tryz.checked }
namespace Rows
def none {H : Type} : Left H := { results := [], args := [] }

/-- 'portmanteaulaw16.WeightsOf': WHATEVER THE INPUT: true; the input reads as it did. -/
def weightsOfSpec : ChangeSpec := { name := "weightsOf", fn := fun _ => fun
  | [d] => { results := [.lit (.bool true)], args := [d] }
  | _ => none }
def weightsOfRow : OpenClaim := { program := "ytophgpnnjphnmaagreat", sum := "6bdb16a79195ab612dbf47890f4d172ba2d518af3e09a365934bd4886c04ae83", func := "portmanteau/portmanteaulaw16.WeightsOf", spec := "weightsOf", unfollowed := true, recurses := true, apart := false }
def WeightsOfSaid : Prop := weightsOfRow.holds Tryz.pinned (OpenSpec.ofChange weightsOfSpec)

/-- ITS FALSE NEIGHBOUR: 'it returns false'. Refute it at one input. -/
def weightsOfWrong : ChangeSpec := { name := "weightsOf", fn := fun _ => fun
  | [d] => { results := [.lit (.bool false)], args := [d] }
  | _ => none }
def WeightsOfWrongFalsely : Prop := weightsOfRow.holds Tryz.pinned (OpenSpec.ofChange weightsOfWrong)

/-- 'portmanteaulaw16.WeightsTree': WHATEVER THE INPUT: true; the input reads as it did. -/
def weightsTreeSpec : ChangeSpec := { name := "weightsTree", fn := fun _ => fun
  | [d] => { results := [.lit (.bool true)], args := [d] }
  | _ => none }
def weightsTreeRow : OpenClaim := { program := "ytophgpnnjphnmaagreat", sum := "6bdb16a79195ab612dbf47890f4d172ba2d518af3e09a365934bd4886c04ae83", func := "portmanteau/portmanteaulaw16.WeightsTree", spec := "weightsTree", unfollowed := true, recurses := true, apart := false }
def WeightsTreeSaid : Prop := weightsTreeRow.holds Tryz.pinned (OpenSpec.ofChange weightsTreeSpec)

/-- ITS FALSE NEIGHBOUR: 'it returns false'. Refute it at one input. -/
def weightsTreeWrong : ChangeSpec := { name := "weightsTree", fn := fun _ => fun
  | [d] => { results := [.lit (.bool false)], args := [d] }
  | _ => none }
def WeightsTreeWrongFalsely : Prop := weightsTreeRow.holds Tryz.pinned (OpenSpec.ofChange weightsTreeWrong)

/-- 'portmanteaulaw16.WeightsLast': WHATEVER THE INPUT: true; the input reads as it did. -/
def weightsLastSpec : ChangeSpec := { name := "weightsLast", fn := fun _ => fun
  | [d] => { results := [.lit (.bool true)], args := [d] }
  | _ => none }
def weightsLastRow : OpenClaim := { program := "ytophgpnnjphnmaagreat", sum := "6bdb16a79195ab612dbf47890f4d172ba2d518af3e09a365934bd4886c04ae83", func := "portmanteau/portmanteaulaw16.WeightsLast", spec := "weightsLast", unfollowed := true, recurses := true, apart := false }
def WeightsLastSaid : Prop := weightsLastRow.holds Tryz.pinned (OpenSpec.ofChange weightsLastSpec)

/-- ITS FALSE NEIGHBOUR: 'it returns false'. Refute it at one input. -/
def weightsLastWrong : ChangeSpec := { name := "weightsLast", fn := fun _ => fun
  | [d] => { results := [.lit (.bool false)], args := [d] }
  | _ => none }
def WeightsLastWrongFalsely : Prop := weightsLastRow.holds Tryz.pinned (OpenSpec.ofChange weightsLastWrong)

/-- 'portmanteaulaw16.WeightsHalves': WHATEVER THE INPUT: true; the input reads as it did. -/
def weightsHalvesSpec : ChangeSpec := { name := "weightsHalves", fn := fun _ => fun
  | [d] => { results := [.lit (.bool true)], args := [d] }
  | _ => none }
def weightsHalvesRow : OpenClaim := { program := "ytophgpnnjphnmaagreat", sum := "6bdb16a79195ab612dbf47890f4d172ba2d518af3e09a365934bd4886c04ae83", func := "portmanteau/portmanteaulaw16.WeightsHalves", spec := "weightsHalves", unfollowed := true, recurses := true, apart := false }
def WeightsHalvesSaid : Prop := weightsHalvesRow.holds Tryz.pinned (OpenSpec.ofChange weightsHalvesSpec)

/-- ITS FALSE NEIGHBOUR: 'it returns false'. Refute it at one input. -/
def weightsHalvesWrong : ChangeSpec := { name := "weightsHalves", fn := fun _ => fun
  | [d] => { results := [.lit (.bool false)], args := [d] }
  | _ => none }
def WeightsHalvesWrongFalsely : Prop := weightsHalvesRow.holds Tryz.pinned (OpenSpec.ofChange weightsHalvesWrong)

/-- 'portmanteaulaw16.WeightsCoded': WHATEVER THE INPUT: true; the input reads as it did. -/
def weightsCodedSpec : ChangeSpec := { name := "weightsCoded", fn := fun _ => fun
  | [d] => { results := [.lit (.bool true)], args := [d] }
  | _ => none }
def weightsCodedRow : OpenClaim := { program := "ytophgpnnjphnmaagreat", sum := "6bdb16a79195ab612dbf47890f4d172ba2d518af3e09a365934bd4886c04ae83", func := "portmanteau/portmanteaulaw16.WeightsCoded", spec := "weightsCoded", unfollowed := true, recurses := true, apart := false }
def WeightsCodedSaid : Prop := weightsCodedRow.holds Tryz.pinned (OpenSpec.ofChange weightsCodedSpec)

/-- ITS FALSE NEIGHBOUR: 'it returns false'. Refute it at one input. -/
def weightsCodedWrong : ChangeSpec := { name := "weightsCoded", fn := fun _ => fun
  | [d] => { results := [.lit (.bool false)], args := [d] }
  | _ => none }
def WeightsCodedWrongFalsely : Prop := weightsCodedRow.holds Tryz.pinned (OpenSpec.ofChange weightsCodedWrong)

/-- 'portmanteaulaw16.WeightsGets': WHATEVER THE INPUT: true; the input reads as it did. -/
def weightsGetsSpec : ChangeSpec := { name := "weightsGets", fn := fun _ => fun
  | [d1, d2] => { results := [.lit (.bool true)], args := [d1, d2] }
  | _ => none }
def weightsGetsRow : OpenClaim := { program := "ytophgpnnjphnmaagreat", sum := "6bdb16a79195ab612dbf47890f4d172ba2d518af3e09a365934bd4886c04ae83", func := "portmanteau/portmanteaulaw16.WeightsGets", spec := "weightsGets", unfollowed := true, recurses := true, apart := false }
def WeightsGetsSaid : Prop := weightsGetsRow.holds Tryz.pinned (OpenSpec.ofChange weightsGetsSpec)

/-- ITS FALSE NEIGHBOUR: 'it returns false'. Refute it at one input. -/
def weightsGetsWrong : ChangeSpec := { name := "weightsGets", fn := fun _ => fun
  | [d1, d2] => { results := [.lit (.bool false)], args := [d1, d2] }
  | _ => none }
def WeightsGetsWrongFalsely : Prop := weightsGetsRow.holds Tryz.pinned (OpenSpec.ofChange weightsGetsWrong)

/-- 'portmanteaulaw16.WeightsPuts': WHATEVER THE INPUT: true; the input reads as it did. -/
def weightsPutsSpec : ChangeSpec := { name := "weightsPuts", fn := fun _ => fun
  | [d] => { results := [.lit (.bool true)], args := [d] }
  | _ => none }
def weightsPutsRow : OpenClaim := { program := "ytophgpnnjphnmaagreat", sum := "6bdb16a79195ab612dbf47890f4d172ba2d518af3e09a365934bd4886c04ae83", func := "portmanteau/portmanteaulaw16.WeightsPuts", spec := "weightsPuts", unfollowed := true, recurses := true, apart := false }
def WeightsPutsSaid : Prop := weightsPutsRow.holds Tryz.pinned (OpenSpec.ofChange weightsPutsSpec)

/-- ITS FALSE NEIGHBOUR: 'it returns false'. Refute it at one input. -/
def weightsPutsWrong : ChangeSpec := { name := "weightsPuts", fn := fun _ => fun
  | [d] => { results := [.lit (.bool false)], args := [d] }
  | _ => none }
def WeightsPutsWrongFalsely : Prop := weightsPutsRow.holds Tryz.pinned (OpenSpec.ofChange weightsPutsWrong)

/-- 'portmanteaulaw16.WeightsHold': WHATEVER THE INPUT: true; the input reads as it did. -/
def weightsHoldSpec : ChangeSpec := { name := "weightsHold", fn := fun _ => fun
  | [d1, d2] => { results := [.lit (.bool true)], args := [d1, d2] }
  | _ => none }
def weightsHoldRow : OpenClaim := { program := "ytophgpnnjphnmaagreat", sum := "6bdb16a79195ab612dbf47890f4d172ba2d518af3e09a365934bd4886c04ae83", func := "portmanteau/portmanteaulaw16.WeightsHold", spec := "weightsHold", unfollowed := true, recurses := true, apart := false }
def WeightsHoldSaid : Prop := weightsHoldRow.holds Tryz.pinned (OpenSpec.ofChange weightsHoldSpec)

/-- ITS FALSE NEIGHBOUR: 'it returns false'. Refute it at one input. -/
def weightsHoldWrong : ChangeSpec := { name := "weightsHold", fn := fun _ => fun
  | [d1, d2] => { results := [.lit (.bool false)], args := [d1, d2] }
  | _ => none }
def WeightsHoldWrongFalsely : Prop := weightsHoldRow.holds Tryz.pinned (OpenSpec.ofChange weightsHoldWrong)

/-- 'portmanteaulaw16.WeightsSizes': WHATEVER THE INPUT: true; the input reads as it did. -/
def weightsSizesSpec : ChangeSpec := { name := "weightsSizes", fn := fun _ => fun
  | [d1, d2] => { results := [.lit (.bool true)], args := [d1, d2] }
  | _ => none }
def weightsSizesRow : OpenClaim := { program := "ytophgpnnjphnmaagreat", sum := "6bdb16a79195ab612dbf47890f4d172ba2d518af3e09a365934bd4886c04ae83", func := "portmanteau/portmanteaulaw16.WeightsSizes", spec := "weightsSizes", unfollowed := true, recurses := true, apart := false }
def WeightsSizesSaid : Prop := weightsSizesRow.holds Tryz.pinned (OpenSpec.ofChange weightsSizesSpec)

/-- ITS FALSE NEIGHBOUR: 'it returns false'. Refute it at one input. -/
def weightsSizesWrong : ChangeSpec := { name := "weightsSizes", fn := fun _ => fun
  | [d1, d2] => { results := [.lit (.bool false)], args := [d1, d2] }
  | _ => none }
def WeightsSizesWrongFalsely : Prop := weightsSizesRow.holds Tryz.pinned (OpenSpec.ofChange weightsSizesWrong)

/- THE SECOND FORM. 'bulk': how many values and letters a reading holds, each counted each time it is reached (what is shared counts as often as it is met; a slice's spare places count too). A statement '..UptoSaid' is the law's where the arguments, and the package variables that the reading takes, are together of bulk at most 1048576: NARROWER than '..Said'. Prove '..Said' where nothing that the law and all that it calls make is longer than what came in: it says more and counts as full. Else prove '..UptoSaid'. A law counts once. -/
mutual
def uptoBulk {H : Type} : DataW H → Nat
  | .lit (.string bytes) => bytes.length + 1
  | .lit _ => 1
  | .nil => 1
  | .ptr d => uptoBulk d + 1
  | .slice elems spare => uptoBulkAll elems + uptoBulkAll spare + 1
  | .agg parts => uptoBulkAll parts + 1
  | .iface _ d => uptoBulk d + 1
  | .map entries => uptoBulkEntries entries + 1
  | .held _ => 1
def uptoBulkAll {H : Type} : List (DataW H) → Nat
  | [] => 0
  | d :: r => uptoBulk d + uptoBulkAll r
def uptoBulkEntries {H : Type} : List (Lit × DataW H) → Nat
  | [] => 0
  | x :: r => uptoBulkEntry x + uptoBulkEntries r
def uptoBulkEntry {H : Type} : Lit × DataW H → Nat
  | (.string bytes, d) => bytes.length + uptoBulk d + 1
  | (_, d) => uptoBulk d + 1
 end
def uptoSmall : (H : Type) → List (DataW H) → Bool := fun _ ds => decide (uptoBulkAll ds ≤ 1048576)
def OpenSpec.upto (s : _root_.Go.ChangeSpec) : _root_.Go.OpenSpec := { _root_.Go.OpenSpec.ofChange s with cond := some uptoSmall }

/-- 'portmanteaulaw16.WeightsOf', WHERE WHAT IT READS IS OF BULK AT MOST 1048576: true; the input reads as it did. -/
def weightsOfUptoRow : OpenClaim := { program := "ytophgpnnjphnmaagreat", sum := "6bdb16a79195ab612dbf47890f4d172ba2d518af3e09a365934bd4886c04ae83", func := "portmanteau/portmanteaulaw16.WeightsOf", spec := "weightsOf", unfollowed := true, recurses := true, apart := false, narrowed := true }
def WeightsOfUptoSaid : Prop := weightsOfUptoRow.holds Tryz.pinned (OpenSpec.upto weightsOfSpec)

/-- 'portmanteaulaw16.WeightsTree', WHERE WHAT IT READS IS OF BULK AT MOST 1048576: true; the input reads as it did. -/
def weightsTreeUptoRow : OpenClaim := { program := "ytophgpnnjphnmaagreat", sum := "6bdb16a79195ab612dbf47890f4d172ba2d518af3e09a365934bd4886c04ae83", func := "portmanteau/portmanteaulaw16.WeightsTree", spec := "weightsTree", unfollowed := true, recurses := true, apart := false, narrowed := true }
def WeightsTreeUptoSaid : Prop := weightsTreeUptoRow.holds Tryz.pinned (OpenSpec.upto weightsTreeSpec)

/-- 'portmanteaulaw16.WeightsLast', WHERE WHAT IT READS IS OF BULK AT MOST 1048576: true; the input reads as it did. -/
def weightsLastUptoRow : OpenClaim := { program := "ytophgpnnjphnmaagreat", sum := "6bdb16a79195ab612dbf47890f4d172ba2d518af3e09a365934bd4886c04ae83", func := "portmanteau/portmanteaulaw16.WeightsLast", spec := "weightsLast", unfollowed := true, recurses := true, apart := false, narrowed := true }
def WeightsLastUptoSaid : Prop := weightsLastUptoRow.holds Tryz.pinned (OpenSpec.upto weightsLastSpec)

/-- 'portmanteaulaw16.WeightsHalves', WHERE WHAT IT READS IS OF BULK AT MOST 1048576: true; the input reads as it did. -/
def weightsHalvesUptoRow : OpenClaim := { program := "ytophgpnnjphnmaagreat", sum := "6bdb16a79195ab612dbf47890f4d172ba2d518af3e09a365934bd4886c04ae83", func := "portmanteau/portmanteaulaw16.WeightsHalves", spec := "weightsHalves", unfollowed := true, recurses := true, apart := false, narrowed := true }
def WeightsHalvesUptoSaid : Prop := weightsHalvesUptoRow.holds Tryz.pinned (OpenSpec.upto weightsHalvesSpec)

/-- 'portmanteaulaw16.WeightsCoded', WHERE WHAT IT READS IS OF BULK AT MOST 1048576: true; the input reads as it did. -/
def weightsCodedUptoRow : OpenClaim := { program := "ytophgpnnjphnmaagreat", sum := "6bdb16a79195ab612dbf47890f4d172ba2d518af3e09a365934bd4886c04ae83", func := "portmanteau/portmanteaulaw16.WeightsCoded", spec := "weightsCoded", unfollowed := true, recurses := true, apart := false, narrowed := true }
def WeightsCodedUptoSaid : Prop := weightsCodedUptoRow.holds Tryz.pinned (OpenSpec.upto weightsCodedSpec)

/-- 'portmanteaulaw16.WeightsGets', WHERE WHAT IT READS IS OF BULK AT MOST 1048576: true; the input reads as it did. -/
def weightsGetsUptoRow : OpenClaim := { program := "ytophgpnnjphnmaagreat", sum := "6bdb16a79195ab612dbf47890f4d172ba2d518af3e09a365934bd4886c04ae83", func := "portmanteau/portmanteaulaw16.WeightsGets", spec := "weightsGets", unfollowed := true, recurses := true, apart := false, narrowed := true }
def WeightsGetsUptoSaid : Prop := weightsGetsUptoRow.holds Tryz.pinned (OpenSpec.upto weightsGetsSpec)

/-- 'portmanteaulaw16.WeightsPuts', WHERE WHAT IT READS IS OF BULK AT MOST 1048576: true; the input reads as it did. -/
def weightsPutsUptoRow : OpenClaim := { program := "ytophgpnnjphnmaagreat", sum := "6bdb16a79195ab612dbf47890f4d172ba2d518af3e09a365934bd4886c04ae83", func := "portmanteau/portmanteaulaw16.WeightsPuts", spec := "weightsPuts", unfollowed := true, recurses := true, apart := false, narrowed := true }
def WeightsPutsUptoSaid : Prop := weightsPutsUptoRow.holds Tryz.pinned (OpenSpec.upto weightsPutsSpec)

/-- 'portmanteaulaw16.WeightsHold', WHERE WHAT IT READS IS OF BULK AT MOST 1048576: true; the input reads as it did. -/
def weightsHoldUptoRow : OpenClaim := { program := "ytophgpnnjphnmaagreat", sum := "6bdb16a79195ab612dbf47890f4d172ba2d518af3e09a365934bd4886c04ae83", func := "portmanteau/portmanteaulaw16.WeightsHold", spec := "weightsHold", unfollowed := true, recurses := true, apart := false, narrowed := true }
def WeightsHoldUptoSaid : Prop := weightsHoldUptoRow.holds Tryz.pinned (OpenSpec.upto weightsHoldSpec)

/-- 'portmanteaulaw16.WeightsSizes', WHERE WHAT IT READS IS OF BULK AT MOST 1048576: true; the input reads as it did. -/
def weightsSizesUptoRow : OpenClaim := { program := "ytophgpnnjphnmaagreat", sum := "6bdb16a79195ab612dbf47890f4d172ba2d518af3e09a365934bd4886c04ae83", func := "portmanteau/portmanteaulaw16.WeightsSizes", spec := "weightsSizes", unfollowed := true, recurses := true, apart := false, narrowed := true }
def WeightsSizesUptoSaid : Prop := weightsSizesUptoRow.holds Tryz.pinned (OpenSpec.upto weightsSizesSpec)

end Rows
end Go.Proofs.YtophgpnnjphnmaaGreat
