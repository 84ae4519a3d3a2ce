/-
  Optimal lengths in plain words: limits, rotations, the order of frequencies. No program is in sight here.
-/
import Derived.Test.YthjbngnihcmedaaO5
namespace Go.Proofs.Ythjbngnihcmedaa
set_option linter.unusedVariables false
set_option linter.unusedSimpArgs false

theorem keyC_left {l : List Int} {x s : Int} (h0 : 0 ≤ s) (h : s.toNat < l.length) : keyC (l ++ [x]) s = keyC l s := by
  unfold keyC; rw [List.getElem?_append_left h]
theorem snoc_ind {P : List Int → Prop} (h0 : P []) (h1 : ∀ l x, P l → P (l ++ [x])) (l : List Int) : P l := by
  have : ∀ n, n ≤ l.length → P (l.take n) := by
    intro n
    induction n with
    | zero => intro _; simpa using h0
    | succ n ih =>
      intro hn
      rw [take_next (List.getElem?_eq_getElem (show n < l.length by omega))]
      exact h1 _ _ (ih (by omega))
  have h := this l.length (Nat.le_refl _)
  rwa [List.take_length] at h
theorem wtsU_eq (l : List Int) : wtsU l = l.filter fun x => decide (0 < x) := by
  refine snoc_ind (P := fun l => wtsU l = l.filter fun x => decide (0 < x)) rfl ?_ l
  intro l x ih
  unfold wtsU at *
  rw [usedL_snoc, List.map_append, List.filter_append, ← ih]
  have e : (usedL l).map (keyC (l ++ [x])) = (usedL l).map (keyC l) := List.map_congr_left fun s hs => by
    obtain ⟨j, rfl, y, hy, h0⟩ := usedL_mem hs
    exact keyC_left (Int.natCast_nonneg _) (by have := (List.getElem?_eq_some_iff.1 hy).1; simpa using this)
  rw [e]
  congr 1
  by_cases h : 0 < x
  · simp [h, keyC]
  · simp [h]
theorem wtsU_len (l : List Int) : (wtsU l).length = (usedL l).length := by simp [wtsU]
theorem wtsU_perm {l k : List Int} (h : l.Perm k) : (wtsU l).Perm (wtsU k) := by rw [wtsU_eq, wtsU_eq]; exact h.filter _
theorem right_perm {l k : List Int} (h : l.Perm k) (hr : rightL l = true) : rightL k = true := by
  obtain ⟨h1, h2⟩ := rightL_iff.1 hr
  exact rightL_iff.2 ⟨by rw [← h.length_eq]; exact h1, fun x hx => h2 x (h.mem_iff.2 hx)⟩
theorem LensFor.shrink {l out : List Int} {L M : Nat} (h : LensFor l out L) (hM : M ≤ L) (hm : mxL out ≤ (M : Int)) : LensFor l out M := by
  have hp : ∀ p ∈ pairsU l out, p.2 ≤ M := fun p hp => by
    obtain ⟨s, hs, rfl⟩ := List.mem_map.1 hp
    obtain ⟨j, rfl, x, hx, h0⟩ := usedL_mem hs
    obtain ⟨n, h1, h2, h3⟩ := h.pos j x hx h0
    have := mxL_ge (List.mem_of_getElem? h1)
    simp only [atL, Int.toNat_natCast, h1, Option.getD_some]
    omega
  refine ⟨h.len, h.zero, fun j x hx h0 => ?_, ?_⟩
  · obtain ⟨n, h1, h2, h3⟩ := h.pos j x hx h0
    have := mxL_ge (List.mem_of_getElem? h1)
    exact ⟨n, h1, h2, by omega⟩
  · have h1 := kraftX_scale hM hp
    rw [h.full] at h1
    have e : 2 ^ L = 2 ^ (L - M) * 2 ^ M := by rw [← Nat.pow_add]; congr 1; omega
    rw [e] at h1
    exact (Nat.mul_left_cancel (Nat.two_pow_pos _) h1).symm

theorem limErr_zero {l : List Int} {m : Nat} (hr : rightL l = true) (hm1 : 1 ≤ m) (hm2 : m ≤ 11) (hu : 1 < (usedL l).length) (hle : (usedL l).length ≤ 2 ^ m) : limErr l (m : Int) = 0 := by
  have h1 : (1 : Int) ≤ (m : Int) := by omega
  have h2 : (m : Int) ≤ 11 := by omega
  simp [limErr, hr, h1, h2, hu, hle]
theorem limErr_iff {l : List Int} {m : Int} (h : limErr l m = 0) : rightL l = true ∧ 1 ≤ m ∧ m ≤ 11 ∧ 1 < (usedL l).length ∧ (usedL l).length ≤ 2 ^ m.toNat := by
  unfold limErr at h
  split at h
  · rename_i h1
    simp at h1
    split at h
    · rename_i h2
      split at h
      · rename_i h3
        exact ⟨h1.1, h1.2.1, h1.2.2, h2, h3⟩
      · simp at h
    · simp at h
  · simp at h
/-- What MinCost returns is the least cost. -/
theorem min_best {l : List Int} {m : Nat} (hr : rightL l = true) (hm1 : 1 ≤ m) (hm2 : m ≤ 11) (hu : 1 < (usedL l).length) (hle : (usedL l).length ≤ 2 ^ m) :
    minErr l (m : Int) = 0 ∧ minOut l (m : Int) = costOut l (limOut l (m : Int)) := by
  obtain ⟨hL, hO⟩ := limOut_best hr hm1 hu hle
  have hE := limErr_zero hr hm1 hm2 hu hle
  have hC := hL.costErr hr (by omega)
  exact ⟨by rw [minErr, if_pos hE, hC], by rw [minOut, if_pos hE, if_pos hC]⟩
theorem min_turn {l k : List Int} {m : Nat} (hp : l.Perm k) (hr : rightL l = true) (hm1 : 1 ≤ m) (hm2 : m ≤ 11) (hu : 1 < (usedL l).length) (hle : (usedL l).length ≤ 2 ^ m) :
    minErr k (m : Int) = 0 ∧ minOut k (m : Int) = minOut l (m : Int) := by
  have hul : (usedL k).length = (usedL l).length := by rw [← wtsU_len, ← wtsU_len]; exact (wtsU_perm hp).length_eq.symm
  have hrk := right_perm hp hr
  obtain ⟨h1, h2⟩ := min_best hr hm1 hm2 hu hle
  obtain ⟨h3, h4⟩ := min_best (l := k) (m := m) hrk hm1 hm2 (by omega) (by omega)
  obtain ⟨-, hO⟩ := limOut_best hr hm1 hu hle
  obtain ⟨-, hO2⟩ := limOut_best (l := k) (m := m) hrk hm1 (by omega) (by omega)
  exact ⟨h3, by rw [h4, h2]; exact hO2.uniq (hO.perm (wtsU_perm hp))⟩
theorem min_more {l : List Int} {m : Nat} (hr : rightL l = true) (hm1 : 1 ≤ m) (hm2 : m < 11) (hu : 1 < (usedL l).length) (hle : (usedL l).length ≤ 2 ^ m) :
    minErr l ((m + 1 : Nat) : Int) = 0 ∧ minOut l ((m + 1 : Nat) : Int) ≤ minOut l (m : Int) := by
  have hle2 : (usedL l).length ≤ 2 ^ (m + 1) := by rw [Nat.pow_succ]; omega
  obtain ⟨h1, h2⟩ := min_best hr hm1 (by omega) hu hle
  obtain ⟨h3, h4⟩ := min_best (m := m + 1) hr (by omega) (by omega) hu hle2
  obtain ⟨hL, hO⟩ := limOut_best hr hm1 hu hle
  obtain ⟨-, hO2⟩ := limOut_best (m := m + 1) hr (by omega) hu hle2
  refine ⟨h3, ?_⟩
  rw [h4, h2, hL.costOut]
  exact hO2.2 _ (by rw [pairsU_fst]) (hL.feas.mono (by omega))
theorem free_le {l : List Int} {m : Nat} (hr : rightL l = true) (hm1 : 1 ≤ m) (hm2 : m ≤ 11) (hu : 1 < (usedL l).length) (hle : (usedL l).length ≤ 2 ^ m) :
    costOut l (freeOut l) ≤ minOut l (m : Int) ∧ (mxL (freeOut l) ≤ (m : Int) → minOut l (m : Int) = costOut l (freeOut l)) := by
  obtain ⟨h1, h2⟩ := min_best hr hm1 hm2 hu hle
  obtain ⟨hL, hO⟩ := limOut_best hr hm1 hu hle
  obtain ⟨hF, -, hB⟩ := freeOut_best hr hu
  have ha : costOut l (freeOut l) ≤ minOut l (m : Int) := by
    rw [h2, hL.costOut]
    exact hB _ m (by rw [pairsU_fst]) (fun p hp => (hL.pairs_le p hp).2) hL.feas.2
  refine ⟨ha, fun hm => ?_⟩
  have hS := hF.shrink (M := m) (by omega) hm
  have := hO.2 _ (by rw [pairsU_fst]) hS.feas
  rw [← hS.costOut, ← h2] at this
  omega
theorem free_max {l : List Int} (hr : rightL l = true) (hu : 1 < (usedL l).length) : maxErr (freeOut l) = 0 ∧ maxOut (freeOut l) = mxL (freeOut l) := by
  obtain ⟨hF, -, -⟩ := freeOut_best hr hu
  have hw := hF.within (rightL_iff.1 hr).1 (Nat.le_refl _)
  have h1 : maxErr (freeOut l) = 0 := by rw [maxErr, hw, if_pos rfl, hF.used, if_pos (by omega)]
  exact ⟨h1, by rw [maxOut, h1, if_pos rfl, maxOf_eq (within_nonneg hw)]⟩
theorem lim_mono {l : List Int} {m : Nat} (hr : rightL l = true) (hm1 : 1 ≤ m) (hu : 1 < (usedL l).length) (hle : (usedL l).length ≤ 2 ^ m) {a b : Nat} {x y : Int} (ha : l[a]? = some x) (hy : l[b]? = some y) (hxy : y < x) (h0 : 0 < y) :
    atL (limOut l (m : Int)) a ≤ atL (limOut l (m : Int)) b ∧ atL (freeOut l) a ≤ atL (freeOut l) b := by
  obtain ⟨hL, hO⟩ := limOut_best hr hm1 hu hle
  obtain ⟨hF, -, hB⟩ := freeOut_best hr hu
  exact ⟨best_mono hL hO.2 ha hy hxy h0, best_mono hF (fun X h1 h2 => hB X 60 h1 (fun p hp => (h2.1 p hp).2) h2.2) ha hy hxy h0⟩

end Go.Proofs.Ythjbngnihcmedaa
