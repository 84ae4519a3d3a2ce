/-
  The cost of a histogram: plain laws. No program is in sight here.
-/
import Derived.Test.YtedojgbjfenmaaaT4
namespace Go.Proofs.Ytedojgbjfenmaaa
set_option linter.unusedVariables false
set_option linter.unusedSimpArgs false

theorem costF_used (t : Int) (L : List Int) : ∀ (i : Nat) (l : List Int), L.drop i = l → costF t ((usedF i l).map (getI L)) = costF t l
  | i, [], _ => by simp [usedF, costF]
  | i, x :: l, h => by
    have hx : L[i]? = some x := by
      have := congrArg (fun m => m[0]?) h
      simpa [List.getElem?_drop] using this
    have hd : L.drop (i + 1) = l := by
      have := congrArg List.tail h
      simpa [List.tail_drop] using this
    have ih := costF_used t L (i + 1) l hd
    have hg : getI L (i : Int) = x := by simp [getI, List.getD, hx]
    simp only [usedF]
    split
    · simp only [List.map_cons, costF, hg, ih]
    · simp only [costF, ih]
      split
      · contradiction
      · omega
theorem costF_usedL (t : Int) (l : List Int) : costF t ((usedL l).map (getI l)) = costF t l := costF_used t l 0 l (by simp)

theorem logI_nonneg (n : Int) : 0 ≤ logI n := Int.natCast_nonneg _
theorem logI_le {m n : Int} (h0 : 1 ≤ m) (h : m ≤ n) : logI m ≤ logI n := by
  have := log_le (m := m.toNat) (n := n.toNat) (by omega) (by omega)
  unfold logI; omega
theorem logI_bd {n : Int} (h : n ≤ 4611686018427387903) : logI n ≤ 15871 := by
  have := logN_bd (n := n.toNat) (by omega)
  unfold logI; omega

/-- One summand. -/
theorem term_bd {t x : Int} (h0 : 0 < x) (h1 : x ≤ 2147483648) (ht : x ≤ t) (ht1 : t ≤ 4611686018427387903) : 0 ≤ x * (logI t - logI x) ∧ x * (logI t - logI x) ≤ 34082759442432 := by
  have h2 := logI_le (m := x) (n := t) (by omega) ht
  have h3 := logI_bd ht1
  have h4 := logI_nonneg x
  refine ⟨Int.mul_nonneg (by omega) (by omega), ?_⟩
  have h5 : x * (logI t - logI x) ≤ 2147483648 * (logI t - logI x) := Int.mul_le_mul_of_nonneg_right h1 (by omega)
  omega
theorem costF_bd {t : Int} (ht1 : t ≤ 4611686018427387903) : ∀ (l : List Int), (∀ x ∈ l, x ≤ 2147483648 ∧ x ≤ t) → 0 ≤ costF t l ∧ costF t l ≤ l.length * 34082759442432
  | [], _ => by simp [costF]
  | x :: l, h => by
    have ih := costF_bd ht1 l (fun y hy => h y (by simp [hy]))
    have hx := h x (by simp)
    simp only [costF, List.length_cons]
    split
    · have := term_bd (t := t) (x := x) (by assumption) hx.1 hx.2 ht1
      push_cast
      omega
    · push_cast
      omega
theorem sumL_ge {l : List Int} (h : ∀ x ∈ l, 0 ≤ x) {x : Int} (hx : x ∈ l) : x ≤ sumL l := by
  induction l with
  | nil => cases hx
  | cons y l ih =>
    have hs : ∀ m : List Int, (∀ z ∈ m, 0 ≤ z) → 0 ≤ sumL m := by
      intro m
      induction m with
      | nil => intro _; simp [sumL]
      | cons z m ihm => intro hm; have := hm z (by simp); have := ihm (fun q hq => hm q (by simp [hq])); simp [sumL]; omega
    simp only [sumL]
    rcases List.mem_cons.1 hx with rfl | hx
    · have := hs l (fun z hz => h z (by simp [hz])); omega
    · have := ih (fun z hz => h z (by simp [hz])) hx; have := h y (by simp); omega
theorem sumL_tot {l : List Int} (hr : rightL l = true) : 0 ≤ sumL l ∧ sumL l ≤ 549755813888 := by
  have := sumL_take_bd hr l.length
  rwa [List.take_length] at this
/-- All partial sums stay small. -/
theorem costU_bd {l : List Int} (hr : rightL l = true) (k : Nat) : 0 ≤ costF (sumL l) (((usedL l).take k).map (getI l)) ∧ costF (sumL l) (((usedL l).take k).map (getI l)) ≤ 8725186417262592 := by
  have h1 := (sumL_tot hr).2
  have h2 := (rightL_iff.1 hr)
  have h3 := costF_bd (t := sumL l) (by omega) (((usedL l).take k).map (getI l)) (fun x hx => by
    obtain ⟨s, hs, rfl⟩ := List.mem_map.1 hx
    obtain ⟨j, rfl, y, hy, -⟩ := usedL_mem (List.mem_of_mem_take hs)
    have hg : getI l (j : Int) = y := by simp [getI, List.getD, hy]
    rw [hg]
    have hm := List.mem_of_getElem? hy
    exact ⟨(h2.2 y hm).2, sumL_ge (fun z hz => (h2.2 z hz).1) hm⟩)
  have h4 : (((usedL l).take k).map (getI l)).length ≤ 256 := by have := usedL_len l; simp; omega
  omega

end Go.Proofs.Ytedojgbjfenmaaa
