/-
  Rows of packages in plain words: bounds, sizes, what is counted. No program is in sight here.
-/
import Derived.Test.YthjbngnihcmedaaJA
namespace Go.Proofs.Ythjbngnihcmedaa
set_option linter.unusedVariables false
set_option linter.unusedSimpArgs false

/-- Bounds of a row's packages: weights, lists, symbols. -/
def RowB (l : List Int) (k : Nat) (row : PackL) : Prop := ∀ p ∈ row, 0 ≤ p.1 ∧ p.1 ≤ 2147483648 * 2 ^ k ∧ 0 < p.2.length ∧ p.2.length ≤ 2 ^ k ∧ ∀ s ∈ p.2, ∃ j : Nat, s = (j : Int) ∧ j < l.length

section
variable {l : List Int} {k : Nat} {row a b : PackL}
theorem rowB_first (h : rightL l = true) : RowB l 0 (firstP l) := by
  intro p hp
  obtain ⟨s, hs, rfl⟩ := List.mem_map.1 hp
  obtain ⟨j, rfl, x, hx, hx0⟩ := sortU_mem hs
  have := right_get h hx
  rw [keyC_at hx]
  refine ⟨by omega, by simp; omega, by simp, by simp, fun s hs => ?_⟩
  have := List.mem_singleton.1 hs
  subst this
  exact ⟨j, rfl, (List.getElem?_eq_some_iff.1 hx).1⟩
theorem RowB.mono {k' : Nat} (h : RowB l k row) (hk : k ≤ k') : RowB l k' row := fun p hp => by
  obtain ⟨h1, h2, h3, h4, h5⟩ := h p hp
  have e : 2 ^ k ≤ 2 ^ k' := Nat.pow_le_pow_right (by omega) hk
  have e2 : (2147483648 : Int) * 2 ^ k ≤ 2147483648 * 2 ^ k' := by
    have : ((2 ^ k : Nat) : Int) ≤ ((2 ^ k' : Nat) : Int) := by omega
    simp only [Int.natCast_pow] at this
    have h2 : ((2 : Nat) : Int) = 2 := rfl
    rw [h2] at this
    omega
  exact ⟨h1, by omega, h3, by omega, h5⟩
theorem rowB_paired : ∀ {row : PackL}, RowB l k row → RowB l (k + 1) (pairedP row)
  | [], _ => fun p hp => by simp [pairedP] at hp
  | [x], _ => fun p hp => by simp [pairedP] at hp
  | x :: y :: r, h => fun p hp => by
    rcases List.mem_cons.1 (by simpa [pairedP] using hp : p ∈ (x.1 + y.1, x.2 ++ y.2) :: pairedP r) with rfl | hp
    · obtain ⟨a1, a2, a3, a4, a5⟩ := h x (by simp)
      obtain ⟨b1, b2, b3, b4, b5⟩ := h y (by simp)
      have e : (2 : Int) ^ (k + 1) = 2 ^ k + 2 ^ k := by rw [Int.pow_succ]; omega
      have e' : (2 : Nat) ^ (k + 1) = 2 ^ k + 2 ^ k := by rw [Nat.pow_succ]; omega
      refine ⟨by dsimp only; omega, by dsimp only; rw [e]; omega, by simp; omega, by simp; omega, fun s hs => ?_⟩
      rcases List.mem_append.1 hs with hs | hs
      · exact a5 s hs
      · exact b5 s hs
    · exact rowB_paired (fun q hq => h q (by simp [hq])) p hp
theorem mergedP_mem : ∀ {a b : PackL} {p : Int × List Int}, p ∈ mergedP a b → p ∈ a ∨ p ∈ b
  | [], b, p, h => .inr (by simpa [mergedP] using h)
  | x :: a, [], p, h => by rw [mergedP_nil] at h; exact .inl h
  | x :: a, y :: b, p, h => by
    by_cases hle : x.1 ≤ y.1
    · rw [mergedP_left hle] at h
      rcases List.mem_cons.1 h with rfl | h
      · simp
      · rcases mergedP_mem h with h | h
        · simp [h]
        · exact .inr h
    · rw [mergedP_right hle] at h
      rcases List.mem_cons.1 h with rfl | h
      · simp
      · rcases mergedP_mem h with h | h
        · exact .inl h
        · simp [h]
theorem rowB_merged (ha : RowB l k a) (hb : RowB l k b) : RowB l k (mergedP a b) := fun p hp => by
  rcases mergedP_mem hp with h | h
  · exact ha p h
  · exact hb p h
theorem rowB_row (h : rightL l = true) : ∀ k, RowB l k (rowP (firstP l) k)
  | 0 => rowB_first h
  | k + 1 => rowB_merged ((rowB_first h).mono (Nat.zero_le _)) (rowB_paired (rowB_row h k))
theorem rowP_len (s : PackL) : ∀ k, (rowP s k).length ≤ 2 * s.length
  | 0 => by simp only [rowP]; omega
  | k + 1 => by simp only [rowP, mergedP_len, pairedP_len]; have := rowP_len s k; omega
/-- The row is long enough. -/
theorem rowP_ge (s : PackL) : ∀ k, 2 * s.length ≤ (rowP s k).length + (s.length + 2 ^ k - 1) / 2 ^ k
  | 0 => by simp only [rowP, Nat.pow_zero, Nat.div_one]; omega
  | k + 1 => by
    simp only [rowP, mergedP_len, pairedP_len]
    have ih := rowP_ge s k
    have e : (2 : Nat) ^ (k + 1) = 2 ^ k * 2 := Nat.pow_succ _ _
    have hp : 0 < 2 ^ k := Nat.pow_pos (by omega)
    have h1 : (s.length + 2 ^ (k + 1) - 1) / 2 ^ (k + 1) = ((s.length + 2 ^ k - 1) / 2 ^ k + 1) / 2 := by
      rw [e, ← Nat.div_div_eq_div_mul]
      have : s.length + 2 ^ k * 2 - 1 = (s.length + 2 ^ k - 1) + 2 ^ k := by omega
      rw [this, Nat.add_div_right _ hp]
    rw [h1]
    omega
theorem rowP_enough {s : PackL} {m : Nat} (hs : 2 ≤ s.length) (hm : 1 ≤ m) (h : s.length ≤ 2 ^ m) : 2 * s.length - 2 ≤ (rowP s (m - 1)).length := by
  have h1 := rowP_ge s (m - 1)
  have hp : 0 < 2 ^ (m - 1) := Nat.pow_pos (by omega)
  have e : 2 ^ m = 2 ^ (m - 1) * 2 := by rw [← Nat.pow_succ]; congr 1; omega
  have : (s.length + 2 ^ (m - 1) - 1) / 2 ^ (m - 1) ≤ 2 := by
    have : (s.length + 2 ^ (m - 1) - 1) / 2 ^ (m - 1) < 3 := (Nat.div_lt_iff_lt_mul hp).2 (by omega)
    omega
  omega
theorem firstP_len (l : List Int) : (firstP l).length = (usedL l).length := by simp [firstP, sortU_len]

/-- All numbers between 0 and K. -/
def BdL (K : Nat) (out : List Int) : Prop := ∀ x ∈ out, 0 ≤ x ∧ x ≤ (K : Int)
theorem bump_len (out : List Int) (s : Int) : (bump out s).length = out.length := by simp [bump]
theorem bump_bd {K : Nat} {out : List Int} (h : BdL K out) (s : Int) : BdL (K + 1) (bump out s) := fun x hx => by
  unfold bump at hx
  rcases List.mem_or_eq_of_mem_set hx with hx | rfl
  · have := h x hx; omega
  · cases he : out[s.toNat]? with
    | none => simp; omega
    | some y => have := h y (List.mem_of_getElem? he); simp; omega
theorem bumps_snoc (out : List Int) (l : List Int) (s : Int) : bumps out (l ++ [s]) = bump (bumps out l) s := by simp [bumps]
theorem bumpP_snoc (out : List Int) (l : PackL) (p : Int × List Int) : bumpP out (l ++ [p]) = bumps (bumpP out l) p.2 := by simp [bumpP]
theorem bumps_len (out : List Int) (l : List Int) : (bumps out l).length = out.length := by
  induction l generalizing out with
  | nil => rfl
  | cons s l ih => show (bumps (bump out s) l).length = _; rw [ih, bump_len]
theorem bumpP_len (out : List Int) (l : PackL) : (bumpP out l).length = out.length := by
  induction l generalizing out with
  | nil => rfl
  | cons p l ih => show (bumpP (bumps out p.2) l).length = _; rw [ih, bumps_len]
theorem bumps_bd {K : Nat} {out : List Int} (h : BdL K out) (l : List Int) : BdL (K + l.length) (bumps out l) := by
  induction l generalizing out K with
  | nil => exact h
  | cons s l ih =>
    have := ih (bump_bd h s)
    simp only [List.length_cons]
    rw [show K + (l.length + 1) = K + 1 + l.length by omega]
    exact this
theorem BdL.mono {K K' : Nat} {out : List Int} (h : BdL K out) (hk : K ≤ K') : BdL K' out := fun x hx => by have := h x hx; omega
theorem bumpP_bd {K m : Nat} {out : List Int} (h : BdL K out) (l : PackL) (hl : ∀ p ∈ l, p.2.length ≤ m) : BdL (K + l.length * m) (bumpP out l) := by
  induction l generalizing out K with
  | nil => simpa [bumpP] using h
  | cons p l ih =>
    have h1 := (bumps_bd h p.2).mono (Nat.add_le_add_left (hl p (by simp)) K)
    have := ih h1 (fun q hq => hl q (by simp [hq]))
    simp only [List.length_cons]
    rw [show K + (l.length + 1) * m = K + m + l.length * m by rw [Nat.add_mul]; omega]
    exact this
end

end Go.Proofs.Ythjbngnihcmedaa
