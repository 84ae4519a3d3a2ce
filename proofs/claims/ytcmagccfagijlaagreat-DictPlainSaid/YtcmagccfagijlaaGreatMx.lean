/-
  The greatest number of a list; whether a list holds a positive one. No program is in sight here.
-/
import Derived.Test.YtcmagccfagijlaaGreatT1
import Derived.Lib.Slices
import Derived.WalkKit
import Derived.IntWalk
namespace Go.Proofs.YtcmagccfagijlaaGreat
set_option linter.unusedVariables false
set_option linter.unusedSimpArgs false
open Go.RowKit

/-- The greatest number, 0 at least. -/
def mxL (l : List Int) : Int := l.foldl max 0
theorem mxL_snoc (l : List Int) (x : Int) : mxL (l ++ [x]) = max (mxL l) x := by simp [mxL]
theorem foldl_max_ge (l : List Int) (a : Int) : a ≤ l.foldl max a ∧ (∀ x ∈ l, x ≤ l.foldl max a) ∧ (l.foldl max a = a ∨ l.foldl max a ∈ l) := by
  induction l generalizing a with
  | nil => simp
  | cons y l ih =>
    obtain ⟨h1, h2, h3⟩ := ih (max a y)
    simp only [List.foldl_cons]
    refine ⟨by omega, fun x hx => ?_, ?_⟩
    · rcases List.mem_cons.1 hx with rfl | hx
      · omega
      · exact h2 x hx
    · rcases h3 with h3 | h3
      · rcases Int.le_total a y with h | h
        · right; rw [h3, Int.max_eq_right h]; simp
        · left; rw [h3]; exact Int.max_eq_left h
      · right; simp [h3]
theorem mxL_nonneg (l : List Int) : 0 ≤ mxL l := (foldl_max_ge l 0).1
theorem mxL_ge {l : List Int} {x : Int} (h : x ∈ l) : x ≤ mxL l := (foldl_max_ge l 0).2.1 x h
theorem mxL_le {l : List Int} {m : Int} (h0 : 0 ≤ m) (h : ∀ x ∈ l, x ≤ m) : mxL l ≤ m := by
  rcases (foldl_max_ge l 0).2.2 with h1 | h1
  · unfold mxL; omega
  · exact h _ h1
theorem maxOf_eq {l : List Int} (h : ∀ x ∈ l, 0 ≤ x) : Go.Lib.maxOf l = mxL l := by
  cases l with
  | nil => rfl
  | cons a t =>
    have ha := h a (by simp)
    simp only [Go.Lib.maxOf, mxL, List.headD_cons, List.foldl_cons]
    congr 1; omega
theorem usedF_pos {l : List Int} (i : Nat) : 0 < (usedF i l).length ↔ ∃ x ∈ l, 0 < x := by
  induction l generalizing i with
  | nil => simp [usedF]
  | cons y l ih =>
    simp only [usedF]
    by_cases h : 0 < y
    · rw [if_pos h]; simp [h]
    · rw [if_neg h, ih (i + 1)]; simp [h]
theorem usedL_pos {l : List Int} : 0 < (usedL l).length ↔ ∃ x ∈ l, 0 < x := usedF_pos 0
theorem mxL_zero {l : List Int} : mxL l = 0 ↔ ¬ 0 < (usedL l).length := by
  rw [usedL_pos]
  constructor
  · rintro h ⟨x, hx, h0⟩
    have := mxL_ge hx
    omega
  · intro h
    rcases (foldl_max_ge l 0).2.2 with h1 | h1
    · exact h1
    · have h2 := mxL_nonneg l
      rcases Int.lt_or_eq_of_le h2 with h3 | h3
      · exact absurd ⟨_, h1, h3⟩ h
      · exact h3.symm

/-- Is a number between 0 and m? -/
def finM (m n : Int) : Bool := decide (0 ≤ n) && decide (n ≤ m)
theorem finM_iff {m x : Int} : finM m x = true ↔ 0 ≤ x ∧ x ≤ m := by simp [finM]

/-! ### Trees -/
/-- The sum of Kraft in parts of 2^11. -/
def sum11 : List Int → Nat
  | [] => 0
  | x :: l => (if 0 < x then 2 ^ (11 - x.toNat) else 0) + sum11 l
theorem sum11_append (a b : List Int) : sum11 (a ++ b) = sum11 a + sum11 b := by
  induction a with
  | nil => simp [sum11]
  | cons x a ih => simp only [List.cons_append, sum11, ih]; omega
theorem sum11_snoc (l : List Int) (x : Int) : sum11 (l ++ [x]) = sum11 l + (if 0 < x then 2 ^ (11 - x.toNat) else 0) := by
  rw [sum11_append]; simp [sum11]
theorem sum11_le (l : List Int) : sum11 l ≤ 1024 * l.length := by
  induction l with
  | nil => simp [sum11]
  | cons x l ih =>
    simp only [sum11, List.length_cons]
    split
    · have : 2 ^ (11 - x.toNat) ≤ 2 ^ 10 := Nat.pow_le_pow_right (by decide) (by omega)
      omega
    · omega
def treeL (l : List Int) : Bool := (decide (l.length ≤ 256) && l.all (finM 11)) && (decide (1 < (usedL l).length) && decide (sum11 l = 2048))
theorem treeL_iff {l : List Int} : treeL l = true ↔ l.length ≤ 256 ∧ (∀ x ∈ l, 0 ≤ x ∧ x ≤ 11) ∧ 1 < (usedL l).length ∧ sum11 l = 2048 := by
  simp [treeL, finM, and_assoc]
theorem usedL_count {l : List Int} {k : Nat} {x : Int} (h : l[k]? = some x) : (usedL (l.take (k + 1))).length = (usedL (l.take k)).length + if 0 < x then 1 else 0 := by
  rw [take_next h, usedL_snoc, List.length_append]; split <;> rfl
theorem pow11 {X : Nat} (h1 : 1 ≤ X) (h2 : X ≤ 11) : wrap64 ((2 : Int) ^ (11 - X)) = ((2 ^ (11 - X) : Nat) : Int) ∧ 2 ^ (11 - X) ≤ 1024 := by
  have h : (2:Nat) ^ (11 - X) ≤ 2 ^ 10 := Nat.pow_le_pow_right (by decide) (by omega)
  have h3 : (2 : Nat) ^ 10 = 1024 := by decide
  rw [h3] at h
  have h4 : ((2 : Int) ^ (11 - X)) = ((2 ^ (11 - X) : Nat) : Int) := by simp
  refine ⟨?_, h⟩
  rw [h4]
  generalize 2 ^ (11 - X) = N at *
  exact IntWalk.wrap64_in _ ⟨by omega, by omega⟩

end Go.Proofs.YtcmagccfagijlaaGreat
