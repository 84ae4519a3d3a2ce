/-
  The plain mathematics of package tally: what its functions compute of a list of numbers. No program is in sight here.
-/
import Derived.RowKit
namespace Go.Proofs.Yticlhaofmcajpaa
set_option linter.unusedVariables false
set_option linter.unusedSimpArgs false

/-! ### Validity, sums, used symbols -/
def fineC (n : Int) : Bool := decide (0 ≤ n) && decide (n ≤ 2147483648)
def rightL (l : List Int) : Bool := decide (l.length ≤ 256) && l.all fineC
def sumL : List Int → Int
  | [] => 0
  | x :: l => x + sumL l
def usedF : Nat → List Int → List Int
  | _, [] => []
  | i, x :: l => if 0 < x then (i : Int) :: usedF (i + 1) l else usedF (i + 1) l
def usedL (l : List Int) : List Int := usedF 0 l

theorem take_next {l : List Int} {k : Nat} {x : Int} (h : l[k]? = some x) : l.take (k + 1) = l.take k ++ [x] := by
  rw [List.take_add_one, h]; rfl
theorem sumL_snoc (l : List Int) (x : Int) : sumL (l ++ [x]) = sumL l + x := by
  induction l with
  | nil => simp [sumL]
  | cons y l ih => simp [sumL, ih]; omega
theorem sumL_append (l m : List Int) : sumL (l ++ m) = sumL l + sumL m := by
  induction l with
  | nil => simp [sumL]
  | cons y l ih => simp [sumL, ih]; omega
theorem usedF_snoc (i : Nat) (l : List Int) (x : Int) : usedF i (l ++ [x]) = usedF i l ++ (if 0 < x then [((i + l.length : Nat) : Int)] else []) := by
  induction l generalizing i with
  | nil => simp only [List.nil_append, usedF]; split <;> simp
  | cons y l ih =>
    simp only [List.cons_append, usedF, ih, List.length_cons]
    rw [show i + 1 + l.length = i + (l.length + 1) by omega]
    split <;> simp
theorem usedL_snoc (l : List Int) (x : Int) : usedL (l ++ [x]) = usedL l ++ (if 0 < x then [(l.length : Int)] else []) := by
  unfold usedL; rw [usedF_snoc]; simp
theorem usedF_len (i : Nat) (l : List Int) : (usedF i l).length ≤ l.length := by
  induction l generalizing i with
  | nil => simp [usedF]
  | cons y l ih =>
    simp only [usedF]
    have := ih (i + 1)
    split <;> simp <;> omega
theorem usedL_len (l : List Int) : (usedL l).length ≤ l.length := usedF_len 0 l
theorem usedF_mem {i : Nat} {l : List Int} {s : Int} (h : s ∈ usedF i l) : ∃ j : Nat, s = ((i + j : Nat) : Int) ∧ ∃ x, l[j]? = some x ∧ 0 < x := by
  induction l generalizing i with
  | nil => simp [usedF] at h
  | cons y l ih =>
    simp only [usedF] at h
    split at h
    · rcases List.mem_cons.1 h with rfl | h
      · exact ⟨0, by simp, y, by simp, by assumption⟩
      · obtain ⟨j, rfl, x, hx, h0⟩ := ih h
        exact ⟨j + 1, by congr 1; omega, x, by simpa using hx, h0⟩
    · obtain ⟨j, rfl, x, hx, h0⟩ := ih h
      exact ⟨j + 1, by congr 1; omega, x, by simpa using hx, h0⟩
theorem usedL_mem {l : List Int} {s : Int} (h : s ∈ usedL l) : ∃ j : Nat, s = (j : Int) ∧ ∃ x, l[j]? = some x ∧ 0 < x := by
  obtain ⟨j, rfl, x, hx, h0⟩ := usedF_mem h
  exact ⟨j, by simp, x, hx, h0⟩

theorem fineC_iff {n : Int} : fineC n = true ↔ 0 ≤ n ∧ n ≤ 2147483648 := by simp [fineC]
theorem rightL_iff {l : List Int} : rightL l = true ↔ l.length ≤ 256 ∧ ∀ x ∈ l, 0 ≤ x ∧ x ≤ 2147483648 := by
  simp [rightL, fineC]
theorem sumL_bd {l : List Int} (h : ∀ x ∈ l, 0 ≤ x ∧ x ≤ 2147483648) : 0 ≤ sumL l ∧ sumL l ≤ l.length * 2147483648 := by
  induction l with
  | nil => simp [sumL]
  | cons y l ih =>
    have h1 := h y (by simp)
    have h2 := ih (fun x hx => h x (by simp [hx]))
    simp only [sumL, List.length_cons]
    push_cast
    omega
theorem sumL_take_bd {l : List Int} (h : rightL l = true) (k : Nat) : 0 ≤ sumL (l.take k) ∧ sumL (l.take k) ≤ 549755813888 := by
  obtain ⟨h1, h2⟩ := rightL_iff.1 h
  have h3 := sumL_bd (l := l.take k) (fun x hx => h2 x (List.mem_of_mem_take hx))
  have h4 : (l.take k).length ≤ 256 := by simp; omega
  omega
theorem right_get {l : List Int} (h : rightL l = true) {k : Nat} {x : Int} (hx : l[k]? = some x) : 0 ≤ x ∧ x ≤ 2147483648 := (rightL_iff.1 h).2 x (List.mem_of_getElem? hx)

/-! ### The logarithm -/
/-- 256 times the logarithm, linear between powers of two, rounded down. -/
def logN (n : Nat) : Nat := 256 * n.log2 + (n - 2 ^ n.log2) * 256 / 2 ^ n.log2
def logI (n : Int) : Int := (logN n.toNat : Int)

theorem log_hi {n k : Nat} (hk : n.log2 = k) (h8 : 8 ≤ k) : logN n = 256 * k + (n - 2 ^ k) / 2 ^ (k - 8) := by
  unfold logN
  rw [hk]
  have e : 2 ^ k = 2 ^ (k - 8) * 256 := by
    rw [show (256 : Nat) = 2 ^ 8 from rfl, ← Nat.pow_add]; congr 1; omega
  generalize n - 2 ^ k = p
  rw [e, Nat.mul_div_mul_right _ _ (by omega)]
theorem log_lo {n k : Nat} (hk : n.log2 = k) (h8 : k ≤ 8) : logN n = 256 * k + (n - 2 ^ k) * 2 ^ (8 - k) := by
  unfold logN
  rw [hk]
  have e : (256 : Nat) = 2 ^ (8 - k) * 2 ^ k := by
    rw [← Nat.pow_add, show 8 - k + k = 8 by omega]
  generalize n - 2 ^ k = p
  congr 1
  conv => lhs; rw [e]
  rw [← Nat.mul_assoc, Nat.mul_div_cancel _ (Nat.two_pow_pos k)]

theorem log_le {m n : Nat} (h0 : 1 ≤ m) (h : m ≤ n) : logN m ≤ logN n := by
  have hm := Nat.log2_self_le (n := m) (by omega)
  have hn := Nat.log2_self_le (n := n) (by omega)
  have hm2 := Nat.lt_log2_self (n := m)
  have hn2 := Nat.lt_log2_self (n := n)
  unfold logN
  generalize m.log2 = a at *
  generalize n.log2 = b at *
  rcases Nat.lt_trichotomy a b with hab | rfl | hab
  · have h1 : (m - 2 ^ a) * 256 / 2 ^ a < 256 := by
      rw [Nat.div_lt_iff_lt_mul (Nat.two_pow_pos a)]
      rw [Nat.pow_succ] at hm2
      omega
    have : 256 * (a + 1) ≤ 256 * b := Nat.mul_le_mul_left _ hab
    exact Nat.le_trans (Nat.add_le_add_left (Nat.le_of_lt h1) (256 * a)) (Nat.le_trans (by omega) (Nat.le_add_right (256 * b) _))
  · have : (m - 2 ^ a) * 256 / 2 ^ a ≤ (n - 2 ^ a) * 256 / 2 ^ a := Nat.div_le_div_right (by omega)
    omega
  · exfalso
    have : 2 ^ (b + 1) ≤ 2 ^ a := Nat.pow_le_pow_right (by omega) hab
    omega
theorem log2_lt {n : Nat} (h : n ≤ 4611686018427387903) : n.log2 ≤ 61 := by
  by_cases h0 : n = 0
  · subst h0; simp
  · have := (Nat.log2_lt h0 (k := 62)).2 (by omega)
    omega
theorem logN_bd {n : Nat} (h : n ≤ 4611686018427387903) : logN n ≤ 15871 := by
  have h1 := log2_lt h
  have h2 := Nat.lt_log2_self (n := n)
  unfold logN
  generalize n.log2 = a at *
  have h3 : (n - 2 ^ a) * 256 / 2 ^ a < 256 := by
    rw [Nat.div_lt_iff_lt_mul (Nat.two_pow_pos a)]
    rw [Nat.pow_succ] at h2
    have := Nat.two_pow_pos a
    omega
  omega

/-! ### The cost -/
def costF (t : Int) : List Int → Int
  | [] => 0
  | x :: l => (if 0 < x then x * (logI t - logI x) else 0) + costF t l
def costL (l : List Int) : Int := costF (sumL l) l
theorem costF_snoc (t : Int) (l : List Int) (x : Int) : costF t (l ++ [x]) = costF t l + (if 0 < x then x * (logI t - logI x) else 0) := by
  induction l with
  | nil => simp [costF]
  | cons y l ih => simp only [List.cons_append, costF, ih]; omega

end Go.Proofs.Yticlhaofmcajpaa
