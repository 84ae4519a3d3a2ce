/-
  The tree of weights is a tree. No program is in sight here.
-/
import Derived.Test.YtophgpnnjphnmaaGreatMy
namespace Go.Proofs.YtophgpnnjphnmaaGreat
set_option linter.unusedVariables false
set_option linter.unusedSimpArgs false
open Go.RowKit

theorem sumW_mem {l : List Int} {x : Int} (h : x ∈ l) (h0 : 0 < x) : 2 ^ (x.toNat - 1) ≤ sumW l := by
  induction l with
  | nil => cases h
  | cons y l ih =>
    rcases List.mem_cons.1 h with rfl | h
    · simp only [sumW, if_pos h0]; omega
    · have := ih h; simp only [sumW]; omega
theorem sumW_some {l : List Int} (h : 0 < sumW l) : ∃ x ∈ l, 0 < x := by
  induction l with
  | nil => simp [sumW] at h
  | cons y l ih =>
    by_cases hy : 0 < y
    · exact ⟨y, by simp, hy⟩
    · simp only [sumW, if_neg hy, Nat.zero_add] at h
      obtain ⟨x, hx, h0⟩ := ih h
      exact ⟨x, by simp [hx], h0⟩
theorem sum11_tr {k : Nat} (hk : k ≤ 11) : ∀ (m : List Int), (∀ x ∈ m, x ≤ k) → sum11 (trL k m) = 2 ^ (11 - k) * sumW m
  | [], _ => by simp [trL, sum11, sumW]
  | x :: m, h => by
    have ih := sum11_tr hk m (fun y hy => h y (by simp [hy]))
    have hx := h x (by simp)
    simp only [trL] at ih
    simp only [trL, List.map_cons, sum11, sumW, ih, Nat.mul_add]
    congr 1
    by_cases h0 : 0 < x
    · have e1 : wgt k x = k + 1 - x := if_pos h0
      rw [e1, if_pos (by omega), if_pos h0, ← Nat.pow_add]
      congr 1
      omega
    · have e1 : wgt k x = 0 := if_neg h0
      rw [e1, if_neg (by omega), if_neg h0, Nat.mul_zero]

theorem tOf_len (l : List Int) : (tOf l).length = l.length + 1 := by simp [tOf, trL]
theorem tree_of_ok {l : List Int} (h : okW l = true) : treeL (tOf l) = true := by
  simp only [okW, Bool.and_eq_true, decide_eq_true_eq] at h
  obtain ⟨⟨⟨h1, h2⟩, h3, h4, h5⟩, -⟩ := h
  obtain ⟨s1, s2, s3, s4, s5, s6, s7, s8, s9⟩ := sums h1 h2
  have hl : l.length < 256 := by simp [lenW] at h1; exact h1.2
  have hx : ∀ x ∈ l, 0 ≤ x ∧ x ≤ kW l := fun x hx => by
    have hb := finM_iff.1 (List.all_eq_true.1 h2 x hx)
    refine ⟨hb.1, ?_⟩
    by_cases h0 : 0 < x
    · have := sumW_mem hx h0
      have h7 : 2 ^ (x.toNat - 1) < 2 ^ kW l := by omega
      have := (Nat.pow_lt_pow_iff_right (by decide : 1 < 2)).1 h7
      omega
    · omega
  have hv : vW l ≤ kW l := by
    have h7 : 2 ^ (vW l - 1) < 2 ^ kW l := by omega
    have := (Nat.pow_lt_pow_iff_right (by decide : 1 < 2)).1 h7
    omega
  have hall : ∀ x ∈ l ++ [(vW l : Int)], 0 ≤ x ∧ x ≤ kW l := fun x hm => by
    rcases List.mem_append.1 hm with hm | hm
    · exact hx x hm
    · have := List.mem_singleton.1 hm; omega
  rw [treeL_iff]
  refine ⟨by rw [tOf_len]; omega, ?_, ?_, ?_⟩
  · intro y hy
    obtain ⟨x, hm, rfl⟩ := List.mem_map.1 hy
    have := hall x hm
    unfold wgt
    split <;> omega
  · obtain ⟨x, hm, h0⟩ := sumW_some h3
    have hp : 0 < (usedL (trL (kW l) l)).length := usedL_pos.2 ⟨wgt (kW l) x, List.mem_map.2 ⟨x, hm, rfl⟩, by
      have := hx x hm
      unfold wgt
      rw [if_pos h0]; omega⟩
    have e : tOf l = trL (kW l) l ++ [wgt (kW l) (vW l)] := by simp [tOf, trL]
    rw [e, usedL_snoc, if_pos (by unfold wgt; rw [if_pos (by omega)]; omega), List.length_append]
    simp only [List.length_singleton]
    omega
  · show sum11 (trL (kW l) (l ++ [(vW l : Int)])) = 2048
    rw [sum11_tr h4 _ (fun x hm => (hall x hm).2), sumW_snoc, if_pos (by omega)]
    have e : sumW l + 2 ^ ((vW l : Int).toNat - 1) = 2 ^ kW l := by
      rw [Int.toNat_natCast, ← h5]; omega
    rw [e, ← Nat.pow_add, show 11 - kW l + kW l = 11 by omega]

end Go.Proofs.YtophgpnnjphnmaaGreat
