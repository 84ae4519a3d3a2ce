/-
  No cell of these rows narrows 'for every input' (looked for: loops, veiled, ifaces, maps, wideKeys, modest, calm, conditions, laid).
  DERIVED. THE GIVEN ROWS OF THIS SEAT. 8 by the template 'for every input the law returns true; each argument reads behind the call as it read before'; 0 by the template 'total and deterministic' (their statements: YtcmagccfagijlaaGreatTotals.lean).
  GIVEN WITH THE SEED: the statements are not yours to turn. If you find one false, say at which input.
  Laid BY PROGRAM, IN A SANDBOX (cutbox-rows.mjs): the forced cells as the released guide's own fill.sh prints them over the translation eab06487bd90a841… (all of the seat's roots in one cut). By AI agents, Wed Nov 11 2026. No macro, syntax, notation, axiom, sorry.
-/
import Derived.Test.YtcmagccfagijlaaGreatChecked
import GoSem.Claim
import GoSem.ClaimJoined
import GoSem.ClaimMapViews
import Derived.JoinedTies
import Derived.KernelRfl
namespace Go.Proofs.YtcmagccfagijlaaGreat
/- THE CELL 'sum', in the pinned program and in every row, IS THE sha256 OF THE DUMP (.gsa) THAT YtcmagccfagijlaaGreatProg.lean LOADS. Nothing in Lean hashes anything: it is a label: what it is worth is what the hold of that sum in a sandbox is worth. -/
noncomputable def Tryz.pinned : Pinned := { name := "ytcmagccfagijlaagreat", sum := "eab06487bd90a8419ba0129c880f77489266175fd96f1dc092c05d317976bafd", checked := Tryz.checked }
namespace Rows
def none {H : Type} : Left H := { results := [], args := [] }

/-- 'portmanteaulaw36.DictPlain': WHATEVER THE INPUT: true; the input reads as it did. -/
def dictPlainSpec : ChangeSpec := { name := "dictPlain", fn := fun _ => fun
  | [d] => { results := [.lit (.bool true)], args := [d] }
  | _ => none }
def dictPlainRow : OpenClaim := { program := "ytcmagccfagijlaagreat", sum := "eab06487bd90a8419ba0129c880f77489266175fd96f1dc092c05d317976bafd", func := "portmanteau/portmanteaulaw36.DictPlain", spec := "dictPlain", unfollowed := true, recurses := true, apart := false }
def DictPlainSaid : Prop := dictPlainRow.holds Tryz.pinned (OpenSpec.ofChange dictPlainSpec)

/-- ITS FALSE NEIGHBOUR: 'it returns false'. Refute it at one input. -/
def dictPlainWrong : ChangeSpec := { name := "dictPlain", fn := fun _ => fun
  | [d] => { results := [.lit (.bool false)], args := [d] }
  | _ => none }
def DictPlainWrongFalsely : Prop := dictPlainRow.holds Tryz.pinned (OpenSpec.ofChange dictPlainWrong)

/-- 'portmanteaulaw36.DictMay': WHATEVER THE INPUT: true; the input reads as it did. -/
def dictMaySpec : ChangeSpec := { name := "dictMay", fn := fun _ => fun
  | [d] => { results := [.lit (.bool true)], args := [d] }
  | _ => none }
def dictMayRow : OpenClaim := { program := "ytcmagccfagijlaagreat", sum := "eab06487bd90a8419ba0129c880f77489266175fd96f1dc092c05d317976bafd", func := "portmanteau/portmanteaulaw36.DictMay", spec := "dictMay", unfollowed := true, recurses := true, apart := false }
def DictMaySaid : Prop := dictMayRow.holds Tryz.pinned (OpenSpec.ofChange dictMaySpec)

/-- ITS FALSE NEIGHBOUR: 'it returns false'. Refute it at one input. -/
def dictMayWrong : ChangeSpec := { name := "dictMay", fn := fun _ => fun
  | [d] => { results := [.lit (.bool false)], args := [d] }
  | _ => none }
def DictMayWrongFalsely : Prop := dictMayRow.holds Tryz.pinned (OpenSpec.ofChange dictMayWrong)

/-- 'portmanteaulaw36.DictGets': WHATEVER THE INPUT: true; the input reads as it did. -/
def dictGetsSpec : ChangeSpec := { name := "dictGets", fn := fun _ => fun
  | [d] => { results := [.lit (.bool true)], args := [d] }
  | _ => none }
def dictGetsRow : OpenClaim := { program := "ytcmagccfagijlaagreat", sum := "eab06487bd90a8419ba0129c880f77489266175fd96f1dc092c05d317976bafd", func := "portmanteau/portmanteaulaw36.DictGets", spec := "dictGets", unfollowed := true, recurses := true, apart := false }
def DictGetsSaid : Prop := dictGetsRow.holds Tryz.pinned (OpenSpec.ofChange dictGetsSpec)

/-- ITS FALSE NEIGHBOUR: 'it returns false'. Refute it at one input. -/
def dictGetsWrong : ChangeSpec := { name := "dictGets", fn := fun _ => fun
  | [d] => { results := [.lit (.bool false)], args := [d] }
  | _ => none }
def DictGetsWrongFalsely : Prop := dictGetsRow.holds Tryz.pinned (OpenSpec.ofChange dictGetsWrong)

/-- 'portmanteaulaw36.DictFinds': WHATEVER THE INPUT: true; the input reads as it did. -/
def dictFindsSpec : ChangeSpec := { name := "dictFinds", fn := fun _ => fun
  | [d1, d2, d3, d4] => { results := [.lit (.bool true)], args := [d1, d2, d3, d4] }
  | _ => none }
def dictFindsRow : OpenClaim := { program := "ytcmagccfagijlaagreat", sum := "eab06487bd90a8419ba0129c880f77489266175fd96f1dc092c05d317976bafd", func := "portmanteau/portmanteaulaw36.DictFinds", spec := "dictFinds", unfollowed := true, recurses := true, apart := false }
def DictFindsSaid : Prop := dictFindsRow.holds Tryz.pinned (OpenSpec.ofChange dictFindsSpec)

/-- ITS FALSE NEIGHBOUR: 'it returns false'. Refute it at one input. -/
def dictFindsWrong : ChangeSpec := { name := "dictFinds", fn := fun _ => fun
  | [d1, d2, d3, d4] => { results := [.lit (.bool false)], args := [d1, d2, d3, d4] }
  | _ => none }
def DictFindsWrongFalsely : Prop := dictFindsRow.holds Tryz.pinned (OpenSpec.ofChange dictFindsWrong)

/-- 'portmanteaulaw36.DictCuts': WHATEVER THE INPUT: true; the input reads as it did. -/
def dictCutsSpec : ChangeSpec := { name := "dictCuts", fn := fun _ => fun
  | [d1, d2, d3] => { results := [.lit (.bool true)], args := [d1, d2, d3] }
  | _ => none }
def dictCutsRow : OpenClaim := { program := "ytcmagccfagijlaagreat", sum := "eab06487bd90a8419ba0129c880f77489266175fd96f1dc092c05d317976bafd", func := "portmanteau/portmanteaulaw36.DictCuts", spec := "dictCuts", unfollowed := true, recurses := true, apart := false }
def DictCutsSaid : Prop := dictCutsRow.holds Tryz.pinned (OpenSpec.ofChange dictCutsSpec)

/-- ITS FALSE NEIGHBOUR: 'it returns false'. Refute it at one input. -/
def dictCutsWrong : ChangeSpec := { name := "dictCuts", fn := fun _ => fun
  | [d1, d2, d3] => { results := [.lit (.bool false)], args := [d1, d2, d3] }
  | _ => none }
def DictCutsWrongFalsely : Prop := dictCutsRow.holds Tryz.pinned (OpenSpec.ofChange dictCutsWrong)

/-- 'portmanteaulaw36.DictOwn': WHATEVER THE INPUT: true; the input reads as it did. -/
def dictOwnSpec : ChangeSpec := { name := "dictOwn", fn := fun _ => fun
  | [d] => { results := [.lit (.bool true)], args := [d] }
  | _ => none }
def dictOwnRow : OpenClaim := { program := "ytcmagccfagijlaagreat", sum := "eab06487bd90a8419ba0129c880f77489266175fd96f1dc092c05d317976bafd", func := "portmanteau/portmanteaulaw36.DictOwn", spec := "dictOwn", unfollowed := true, recurses := true, apart := false }
def DictOwnSaid : Prop := dictOwnRow.holds Tryz.pinned (OpenSpec.ofChange dictOwnSpec)

/-- ITS FALSE NEIGHBOUR: 'it returns false'. Refute it at one input. -/
def dictOwnWrong : ChangeSpec := { name := "dictOwn", fn := fun _ => fun
  | [d] => { results := [.lit (.bool false)], args := [d] }
  | _ => none }
def DictOwnWrongFalsely : Prop := dictOwnRow.holds Tryz.pinned (OpenSpec.ofChange dictOwnWrong)

/-- 'portmanteaulaw36.DictBack': WHATEVER THE INPUT: true; the input reads as it did. -/
def dictBackSpec : ChangeSpec := { name := "dictBack", fn := fun _ => fun
  | [d] => { results := [.lit (.bool true)], args := [d] }
  | _ => none }
def dictBackRow : OpenClaim := { program := "ytcmagccfagijlaagreat", sum := "eab06487bd90a8419ba0129c880f77489266175fd96f1dc092c05d317976bafd", func := "portmanteau/portmanteaulaw36.DictBack", spec := "dictBack", unfollowed := true, recurses := true, apart := false }
def DictBackSaid : Prop := dictBackRow.holds Tryz.pinned (OpenSpec.ofChange dictBackSpec)

/-- ITS FALSE NEIGHBOUR: 'it returns false'. Refute it at one input. -/
def dictBackWrong : ChangeSpec := { name := "dictBack", fn := fun _ => fun
  | [d] => { results := [.lit (.bool false)], args := [d] }
  | _ => none }
def DictBackWrongFalsely : Prop := dictBackRow.holds Tryz.pinned (OpenSpec.ofChange dictBackWrong)

/-- 'portmanteaulaw36.DictTaken': WHATEVER THE INPUT: true; the input reads as it did. -/
def dictTakenSpec : ChangeSpec := { name := "dictTaken", fn := fun _ => fun
  | [d] => { results := [.lit (.bool true)], args := [d] }
  | _ => none }
def dictTakenRow : OpenClaim := { program := "ytcmagccfagijlaagreat", sum := "eab06487bd90a8419ba0129c880f77489266175fd96f1dc092c05d317976bafd", func := "portmanteau/portmanteaulaw36.DictTaken", spec := "dictTaken", unfollowed := true, recurses := true, apart := false }
def DictTakenSaid : Prop := dictTakenRow.holds Tryz.pinned (OpenSpec.ofChange dictTakenSpec)

/-- ITS FALSE NEIGHBOUR: 'it returns false'. Refute it at one input. -/
def dictTakenWrong : ChangeSpec := { name := "dictTaken", fn := fun _ => fun
  | [d] => { results := [.lit (.bool false)], args := [d] }
  | _ => none }
def DictTakenWrongFalsely : Prop := dictTakenRow.holds Tryz.pinned (OpenSpec.ofChange dictTakenWrong)

/- THE SECOND FORM. 'bulk': how many values and letters a reading holds, each counted each time it is reached (what is shared counts as often as it is met; a slice's spare places count too). A statement '..UptoSaid' is the law's where the arguments, and the package variables that the reading takes, are together of bulk at most 1048576: NARROWER than '..Said'. Prove '..Said' where nothing that the law and all that it calls make is longer than what came in: it says more and counts as full. Else prove '..UptoSaid'. A law counts once. -/
mutual
def uptoBulk {H : Type} : DataW H → Nat
  | .lit (.string bytes) => bytes.length + 1
  | .lit _ => 1
  | .nil => 1
  | .ptr d => uptoBulk d + 1
  | .slice elems spare => uptoBulkAll elems + uptoBulkAll spare + 1
  | .agg parts => uptoBulkAll parts + 1
  | .iface _ d => uptoBulk d + 1
  | .map entries => uptoBulkEntries entries + 1
  | .held _ => 1
def uptoBulkAll {H : Type} : List (DataW H) → Nat
  | [] => 0
  | d :: r => uptoBulk d + uptoBulkAll r
def uptoBulkEntries {H : Type} : List (Lit × DataW H) → Nat
  | [] => 0
  | x :: r => uptoBulkEntry x + uptoBulkEntries r
def uptoBulkEntry {H : Type} : Lit × DataW H → Nat
  | (.string bytes, d) => bytes.length + uptoBulk d + 1
  | (_, d) => uptoBulk d + 1
 end
def uptoSmall : (H : Type) → List (DataW H) → Bool := fun _ ds => decide (uptoBulkAll ds ≤ 1048576)
def OpenSpec.upto (s : _root_.Go.ChangeSpec) : _root_.Go.OpenSpec := { _root_.Go.OpenSpec.ofChange s with cond := some uptoSmall }

/-- 'portmanteaulaw36.DictPlain', WHERE WHAT IT READS IS OF BULK AT MOST 1048576: true; the input reads as it did. -/
def dictPlainUptoRow : OpenClaim := { program := "ytcmagccfagijlaagreat", sum := "eab06487bd90a8419ba0129c880f77489266175fd96f1dc092c05d317976bafd", func := "portmanteau/portmanteaulaw36.DictPlain", spec := "dictPlain", unfollowed := true, recurses := true, apart := false, narrowed := true }
def DictPlainUptoSaid : Prop := dictPlainUptoRow.holds Tryz.pinned (OpenSpec.upto dictPlainSpec)

/-- 'portmanteaulaw36.DictMay', WHERE WHAT IT READS IS OF BULK AT MOST 1048576: true; the input reads as it did. -/
def dictMayUptoRow : OpenClaim := { program := "ytcmagccfagijlaagreat", sum := "eab06487bd90a8419ba0129c880f77489266175fd96f1dc092c05d317976bafd", func := "portmanteau/portmanteaulaw36.DictMay", spec := "dictMay", unfollowed := true, recurses := true, apart := false, narrowed := true }
def DictMayUptoSaid : Prop := dictMayUptoRow.holds Tryz.pinned (OpenSpec.upto dictMaySpec)

/-- 'portmanteaulaw36.DictGets', WHERE WHAT IT READS IS OF BULK AT MOST 1048576: true; the input reads as it did. -/
def dictGetsUptoRow : OpenClaim := { program := "ytcmagccfagijlaagreat", sum := "eab06487bd90a8419ba0129c880f77489266175fd96f1dc092c05d317976bafd", func := "portmanteau/portmanteaulaw36.DictGets", spec := "dictGets", unfollowed := true, recurses := true, apart := false, narrowed := true }
def DictGetsUptoSaid : Prop := dictGetsUptoRow.holds Tryz.pinned (OpenSpec.upto dictGetsSpec)

/-- 'portmanteaulaw36.DictFinds', WHERE WHAT IT READS IS OF BULK AT MOST 1048576: true; the input reads as it did. -/
def dictFindsUptoRow : OpenClaim := { program := "ytcmagccfagijlaagreat", sum := "eab06487bd90a8419ba0129c880f77489266175fd96f1dc092c05d317976bafd", func := "portmanteau/portmanteaulaw36.DictFinds", spec := "dictFinds", unfollowed := true, recurses := true, apart := false, narrowed := true }
def DictFindsUptoSaid : Prop := dictFindsUptoRow.holds Tryz.pinned (OpenSpec.upto dictFindsSpec)

/-- 'portmanteaulaw36.DictCuts', WHERE WHAT IT READS IS OF BULK AT MOST 1048576: true; the input reads as it did. -/
def dictCutsUptoRow : OpenClaim := { program := "ytcmagccfagijlaagreat", sum := "eab06487bd90a8419ba0129c880f77489266175fd96f1dc092c05d317976bafd", func := "portmanteau/portmanteaulaw36.DictCuts", spec := "dictCuts", unfollowed := true, recurses := true, apart := false, narrowed := true }
def DictCutsUptoSaid : Prop := dictCutsUptoRow.holds Tryz.pinned (OpenSpec.upto dictCutsSpec)

/-- 'portmanteaulaw36.DictOwn', WHERE WHAT IT READS IS OF BULK AT MOST 1048576: true; the input reads as it did. -/
def dictOwnUptoRow : OpenClaim := { program := "ytcmagccfagijlaagreat", sum := "eab06487bd90a8419ba0129c880f77489266175fd96f1dc092c05d317976bafd", func := "portmanteau/portmanteaulaw36.DictOwn", spec := "dictOwn", unfollowed := true, recurses := true, apart := false, narrowed := true }
def DictOwnUptoSaid : Prop := dictOwnUptoRow.holds Tryz.pinned (OpenSpec.upto dictOwnSpec)

/-- 'portmanteaulaw36.DictBack', WHERE WHAT IT READS IS OF BULK AT MOST 1048576: true; the input reads as it did. -/
def dictBackUptoRow : OpenClaim := { program := "ytcmagccfagijlaagreat", sum := "eab06487bd90a8419ba0129c880f77489266175fd96f1dc092c05d317976bafd", func := "portmanteau/portmanteaulaw36.DictBack", spec := "dictBack", unfollowed := true, recurses := true, apart := false, narrowed := true }
def DictBackUptoSaid : Prop := dictBackUptoRow.holds Tryz.pinned (OpenSpec.upto dictBackSpec)

/-- 'portmanteaulaw36.DictTaken', WHERE WHAT IT READS IS OF BULK AT MOST 1048576: true; the input reads as it did. -/
def dictTakenUptoRow : OpenClaim := { program := "ytcmagccfagijlaagreat", sum := "eab06487bd90a8419ba0129c880f77489266175fd96f1dc092c05d317976bafd", func := "portmanteau/portmanteaulaw36.DictTaken", spec := "dictTaken", unfollowed := true, recurses := true, apart := false, narrowed := true }
def DictTakenUptoSaid : Prop := dictTakenUptoRow.holds Tryz.pinned (OpenSpec.upto dictTakenSpec)

end Rows
end Go.Proofs.YtcmagccfagijlaaGreat
