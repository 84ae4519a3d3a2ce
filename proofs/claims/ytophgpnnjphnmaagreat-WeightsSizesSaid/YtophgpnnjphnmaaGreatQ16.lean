/-
  Walks over package cells: Next.
  Walks over package flow: Decode. (Printed by mkWd.py.)
-/
import Derived.Test.YtophgpnnjphnmaaGreatQ15
import Derived.Test.YtophgpnnjphnmaaGreatQ13
namespace Go.Proofs.YtophgpnnjphnmaaGreat
section
set_option linter.unusedVariables false
set_option linter.unusedSimpArgs false
set_option linter.unusedSectionVars false
open Go.RowKit
end

section
set_option linter.unusedVariables false
set_option linter.unusedSimpArgs false
set_option linter.unusedSectionVars false
open Go.RowKit

/-- The bits of a closed stream that are not read yet, where b are left. -/
def bwdL (B : List Int) (b : Nat) : List Bool := (rowBits B).take b
/-- How Decode ends. -/
def FlowEnd (w : World) (F : Except Int (List Int)) (e : Ending) (w' : World) : Prop :=
  Keeps w w' [] ∧ match F with
    | .ok out => ∃ r, e = .returned (.tuple #[r, .int .i64 0]) ∧ RdI .i64 w' r out ∧ Fresh w.heap.size r
    | .error n => n ≠ 0 ∧ e = .returned (.tuple #[.slice none 0 0, .int .i64 n])

/-- The symbols that the bytes say, or an error. -/
def flowD (g : Int) (norm B : List Int) (n : Nat) : Except Int (List Int) :=
  if okN g norm 256 9 = false then .error 13 else if B.getD (B.length - 1) 0 = 0 then .error 14 else flowP (celP g.toNat norm) g.toNat n (bwdL B (topB B))

section
variable {g : Int} {nv bv : Value} {norm B : List Int} {n : Nat} {w : World}

end

/-- The two states in memory, and what is known of them behind i of the first reads. -/
def Two (c : Nat → Cel) (g n : Nat) (R0 : List Bool) (B : List Int) (i b x y : Nat) : Prop :=
  (i = 0 ∧ bwdL B b = R0 ∧ x = 0 ∧ y = 0) ∨ (i = 1 ∧ 0 < n ∧ tb R0 g = .ok (x, bwdL B b) ∧ y = 0) ∨ (i = 2 ∧ 1 < n ∧ ∃ R1, tb R0 g = .ok (x, R1) ∧ tb R1 g = .ok (y, bwdL B b))
theorem cel_cells {w : World} {a : Option Addr} {n c : Nat} {L : List Cel} (h : RdW rowC 3 w (.slice a n c) L) {i : Nat} {x : Cel} (hx : L[i]? = some x) : ∃ b o, a = some ⟨b, o, none⟩ ∧ b < w.heap.size ∧ w.cell? ⟨b, o + i * 3, none⟩ = some (.int .i64 (x.1 : Int)) ∧ w.cell? ⟨b, o + i * 3 + 1, none⟩ = some (.int .i64 (x.2.1 : Int)) ∧ w.cell? ⟨b, o + i * 3 + 2, none⟩ = some (.int .i64 (x.2.2 : Int)) := by
  obtain ⟨b, o, h1, h2, h3⟩ := h.at hx
  exact ⟨b, o, h1, h2, h3 0 _ rfl, h3 1 _ rfl, h3 2 _ rfl⟩
end

end Go.Proofs.YtophgpnnjphnmaaGreat
