/-
  The weights of a tree; the tree of weights. No program is in sight here.
-/
import Derived.Test.YtcmagccfagijlaaGreatMx
import Derived.Test.YtcmagccfagijlaaGreatBl
import Derived.Test.YtcmagccfagijlaaGreatT10
namespace Go.Proofs.YtcmagccfagijlaaGreat
set_option linter.unusedVariables false
set_option linter.unusedSimpArgs false
open Go.RowKit

/-! ### The last positive number -/
def lastF : Nat → Nat → List Int → Nat
  | m, _, [] => m
  | m, i, x :: l => lastF (if 0 < x then i else m) (i + 1) l
def lastU (l : List Int) : Nat := lastF 0 0 l
theorem lastF_snoc (m i : Nat) (l : List Int) (x : Int) : lastF m i (l ++ [x]) = if 0 < x then i + l.length else lastF m i l := by
  induction l generalizing m i with
  | nil => simp [lastF]
  | cons y l ih =>
    simp only [List.cons_append, lastF, ih, List.length_cons]
    split <;> first | omega | rfl
theorem lastU_snoc (l : List Int) (x : Int) : lastU (l ++ [x]) = if 0 < x then l.length else lastU l := by
  rw [lastU, lastF_snoc, Nat.zero_add]; rfl
theorem lastU_take {l : List Int} {k : Nat} {x : Int} (h : l[k]? = some x) : lastU (l.take (k + 1)) = if 0 < x then k else lastU (l.take k) := by
  have hk : (l.take k).length = k := by have := (List.getElem?_eq_some_iff.1 h).1; simp; omega
  rw [take_next h, lastU_snoc, hk]
theorem lastU_le (l : List Int) : lastU l ≤ l.length - 1 := by
  suffices h : ∀ k, lastU (l.take k) ≤ (l.take k).length - 1 by
    have := h l.length
    rw [List.take_length] at this; exact this
  intro k
  induction k with
  | zero => simp [lastU, lastF]
  | succ k ih =>
    cases h : l[k]? with
    | none =>
      have hl := List.getElem?_eq_none_iff.1 h
      rw [List.take_of_length_le (show l.length ≤ k + 1 by omega)]
      rw [List.take_of_length_le hl] at ih
      exact ih
    | some x =>
      have := (List.getElem?_eq_some_iff.1 h).1
      rw [lastU_take h]
      simp only [List.length_take] at ih ⊢
      split <;> omega

/-! ### Weights of a tree -/
def wgt (k x : Int) : Int := if 0 < x then k + 1 - x else 0
def wOf (l : List Int) : List Int := (l.map (wgt (mxL l))).take (lastU l)
def fillL (f : Int → Int) (l : List Int) (k : Nat) : List Int := (l.take k).map f ++ List.replicate (l.length - k) 0
theorem fillL_zero (f : Int → Int) (l : List Int) : fillL f l 0 = List.replicate l.length 0 := by simp [fillL]
theorem fillL_all (f : Int → Int) {l : List Int} {k : Nat} (h : l.length ≤ k) : fillL f l k = l.map f := by
  simp [fillL, List.take_of_length_le h, show l.length - k = 0 by omega]
theorem fillL_len (f : Int → Int) {l : List Int} {k : Nat} (h : k ≤ l.length) : (fillL f l k).length = l.length := by simp [fillL]; omega
theorem fillL_set {f : Int → Int} {l : List Int} {k : Nat} {x : Int} (h : l[k]? = some x) : (fillL f l k).set k (f x) = fillL f l (k + 1) := by
  have hk := (List.getElem?_eq_some_iff.1 h).1
  have hl : ((l.take k).map f).length = k := by simp; omega
  unfold fillL
  rw [List.set_append_right _ _ (by omega), hl, Nat.sub_self, take_next h, show l.length - k = (l.length - (k + 1)) + 1 by omega, List.replicate_succ, List.set_cons_zero]
  simp
theorem fillL_same {f : Int → Int} {l : List Int} {k : Nat} {x : Int} (h : l[k]? = some x) (h0 : f x = 0) : fillL f l (k + 1) = fillL f l k := by
  rw [← fillL_set h, h0]
  have hk := (List.getElem?_eq_some_iff.1 h).1
  have hl : ((l.take k).map f).length = k := by simp; omega
  unfold fillL
  rw [List.set_append_right _ _ (by omega), hl, Nat.sub_self, show l.length - k = (l.length - (k + 1)) + 1 by omega, List.replicate_succ, List.set_cons_zero]

/-! ### The tree of weights -/
def sumW : List Int → Nat
  | [] => 0
  | x :: l => (if 0 < x then 2 ^ (x.toNat - 1) else 0) + sumW l
theorem sumW_append (a b : List Int) : sumW (a ++ b) = sumW a + sumW b := by
  induction a with
  | nil => simp [sumW]
  | cons x a ih => simp only [List.cons_append, sumW, ih]; omega
theorem sumW_snoc (l : List Int) (x : Int) : sumW (l ++ [x]) = sumW l + (if 0 < x then 2 ^ (x.toNat - 1) else 0) := by
  rw [sumW_append]; simp [sumW]
theorem sumW_take {l : List Int} {k : Nat} {x : Int} (h : l[k]? = some x) : sumW (l.take (k + 1)) = sumW (l.take k) + (if 0 < x then 2 ^ (x.toNat - 1) else 0) := by
  rw [take_next h, sumW_snoc]
theorem sumW_le {l : List Int} (h : l.all (finM 11) = true) : sumW l ≤ 1024 * l.length := by
  induction l with
  | nil => simp [sumW]
  | cons x l ih =>
    simp only [List.all_cons, Bool.and_eq_true] at h
    have h1 := ih h.2
    have h2 := finM_iff.1 h.1
    simp only [sumW, List.length_cons]
    split
    · have : 2 ^ (x.toNat - 1) ≤ 2 ^ 10 := Nat.pow_le_pow_right (by decide) (by omega)
      omega
    · omega
def lenW (w : List Int) : Bool := decide (0 < w.length) && decide (w.length < 256)
def kW (w : List Int) : Nat := Go.Lib.bitLen (sumW w)
def restW (w : List Int) : Nat := 2 ^ kW w - sumW w
def vW (w : List Int) : Nat := Go.Lib.bitLen (restW w)
def okW (w : List Int) : Bool := ((lenW w && w.all (finM 11)) && (decide (0 < sumW w) && (decide (kW w ≤ 11) && decide (restW w = 2 ^ (vW w - 1))))) && (w ++ [(vW w : Int)]).contains 1
def trL (k : Nat) (l : List Int) : List Int := l.map (wgt k)
def tOf (w : List Int) : List Int := trL (kW w) (w ++ [(vW w : Int)])

theorem bitLen_zero : Go.Lib.bitLen 0 = 0 := rfl
theorem bitLen_le {n k : Nat} (hn : n < 18446744073709551616) : k < Go.Lib.bitLen n ↔ 2 ^ k ≤ n := by
  rcases Nat.eq_zero_or_pos n with rfl | h0
  · rw [bitLen_zero]
    have := Nat.two_pow_pos k
    omega
  · rw [bitLen_log h0 hn, ← Nat.le_log2 (by omega)]
    omega
theorem bitLen_lt {n : Nat} (hn : n < 18446744073709551616) : n < 2 ^ Go.Lib.bitLen n := by
  have := (bitLen_le (k := Go.Lib.bitLen n) hn)
  omega
theorem bitLen_top {n k : Nat} (hn : n < 18446744073709551616) (h : n < 2 ^ k) : Go.Lib.bitLen n ≤ k := by
  have := (bitLen_le (k := k) hn)
  omega

/-- What follows from the length and the size of the numbers alone. -/
theorem sums {w : List Int} (h1 : lenW w = true) (h2 : w.all (finM 11) = true) : sumW w ≤ 262144 ∧ kW w ≤ 19 ∧ sumW w < 2 ^ kW w ∧ 2 ^ kW w ≤ 524288 ∧ 0 < restW w ∧ restW w ≤ 524288 ∧ restW w + sumW w = 2 ^ kW w ∧ 0 < vW w ∧ vW w ≤ 20 := by
  have hs := sumW_le h2
  have hl : w.length < 256 := by simp [lenW] at h1; exact h1.2
  have e1 : (2 : Nat) ^ 19 = 524288 := by decide
  have e2 : (2 : Nat) ^ 20 = 1048576 := by decide
  have a1 : sumW w ≤ 262144 := by omega
  have a2 : kW w ≤ 19 := bitLen_top (by omega) (by omega)
  have a3 : sumW w < 2 ^ kW w := bitLen_lt (by omega)
  have a4 : 2 ^ kW w ≤ 2 ^ 19 := Nat.pow_le_pow_right (by decide) a2
  have a5 : restW w + sumW w = 2 ^ kW w := by unfold restW; omega
  refine ⟨a1, a2, a3, by omega, by omega, by omega, a5, ?_, bitLen_top (by omega) (by omega)⟩
  have := (bitLen_le (n := restW w) (k := 0) (by omega)).2 (by rw [Nat.pow_zero]; omega)
  exact this

end Go.Proofs.YtcmagccfagijlaaGreat
