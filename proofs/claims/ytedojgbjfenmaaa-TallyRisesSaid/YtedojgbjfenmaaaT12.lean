/-
  Sums of histograms: the plain law. No program is in sight here.
-/
import Derived.Test.YtedojgbjfenmaaaT1
namespace Go.Proofs.Ytedojgbjfenmaaa
set_option linter.unusedVariables false
set_option linter.unusedSimpArgs false

def addL : List Int → List Int → List Int
  | [], b => b
  | x :: a, [] => x :: a
  | x :: a, y :: b => (x + y) :: addL a b
theorem addL_nil (a : List Int) : addL a [] = a := by cases a <;> rfl
theorem addL_comm : ∀ a b : List Int, addL a b = addL b a
  | [], b => by rw [addL_nil]; rfl
  | x :: a, [] => rfl
  | x :: a, y :: b => by simp only [addL]; rw [addL_comm a b, Int.add_comm]
theorem addL_len : ∀ a b : List Int, (addL a b).length = max a.length b.length
  | [], b => by simp [addL]
  | x :: a, [] => by simp [addL]
  | x :: a, y :: b => by simp only [addL, List.length_cons, addL_len a b]; omega
theorem addL_getD : ∀ (a b : List Int) (i : Nat), (addL a b).getD i 0 = a.getD i 0 + b.getD i 0
  | [], b, i => by simp [addL]
  | x :: a, [], i => by simp [addL]
  | x :: a, y :: b, 0 => by simp [addL]
  | x :: a, y :: b, i + 1 => by simpa [addL] using addL_getD a b i
/-- Adding one number more, in place. -/
theorem addL_step {a b : List Int} {k : Nat} {y z : Int} (hb : b[k]? = some y) (hz : (addL a (b.take k))[k]? = some z) (hk : k < a.length) : addL a (b.take (k + 1)) = (addL a (b.take k)).set k (z + y) := by
  apply List.ext_getElem?
  intro i
  have hl : k < b.length := (List.getElem?_eq_some_iff.1 hb).1
  have hlen1 : (addL a (b.take (k + 1))).length = a.length ∨ a.length < k + 1 := by rw [addL_len]; simp; omega
  have hlen2 : (addL a (b.take k)).length = a.length := by rw [addL_len]; simp; omega
  have hlen1' : (addL a (b.take (k + 1))).length = a.length := by rcases hlen1 with h | h <;> omega
  by_cases hi : i < a.length
  · have e1 : (addL a (b.take (k + 1)))[i]? = some ((addL a (b.take (k + 1))).getD i 0) := by
      rw [List.getElem?_eq_getElem (by omega)]; simp [List.getD, List.getElem?_eq_getElem (show i < (addL a (b.take (k + 1))).length by omega)]
    rw [e1, addL_getD]
    by_cases hik : k = i
    · subst hik
      rw [List.getElem?_set_self (by omega)]
      have hzz : (addL a (b.take k)).getD k 0 = z := by simp [List.getD, hz]
      rw [addL_getD] at hzz
      have h1 : (b.take (k + 1)).getD k 0 = y := by simp [List.getD, List.getElem?_take, hb]
      have h2 : (b.take k).getD k 0 = 0 := by simp [List.getD, List.getElem?_take]
      rw [h1]
      rw [h2] at hzz
      rw [← hzz]
      simp
    · rw [List.getElem?_set_ne hik]
      have e2 : (addL a (b.take k))[i]? = some ((addL a (b.take k)).getD i 0) := by
        rw [List.getElem?_eq_getElem (by omega)]; simp [List.getD, List.getElem?_eq_getElem (show i < (addL a (b.take k)).length by omega)]
      rw [e2, addL_getD]
      have h3 : (b.take (k + 1)).getD i 0 = (b.take k).getD i 0 := by
        simp only [List.getD, List.getElem?_take]
        by_cases h : i < k
        · rw [if_pos (by omega), if_pos h]
        · rw [if_neg (by omega), if_neg h]
      rw [h3]
  · rw [List.getElem?_eq_none (by omega), List.getElem?_eq_none (by simp; omega)]
theorem addL_bd {a b : List Int} (ha : ∀ x ∈ a, 0 ≤ x ∧ x ≤ 2147483648) (hb : ∀ x ∈ b, 0 ≤ x ∧ x ≤ 2147483648) : ∀ x ∈ addL a b, 0 ≤ x ∧ x ≤ 4294967296 := by
  induction a generalizing b with
  | nil => intro x hx; have := hb x hx; omega
  | cons y a ih =>
    cases b with
    | nil => intro x hx; have := ha x hx; omega
    | cons z b =>
      intro x hx
      simp only [addL] at hx
      rcases List.mem_cons.1 hx with rfl | hx
      · have := ha y (by simp); have := hb z (by simp); omega
      · exact ih (fun q hq => ha q (by simp [hq])) (fun q hq => hb q (by simp [hq])) x hx

def addOk (a b : List Int) : Bool := (rightL a && rightL b) && rightL (addL a b)

end Go.Proofs.Ytedojgbjfenmaaa
