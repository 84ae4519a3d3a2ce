/-
  Flat lengths cost no less than the best, in plain words. No program is in sight here.
-/
import Derived.Test.YthjbngnihcmedaaO6
namespace Go.Proofs.Ythjbngnihcmedaa
set_option linter.unusedVariables false
set_option linter.unusedSimpArgs false

def kraftF (M : Nat) : List Nat → Nat
  | [] => 0
  | n :: r => 2 ^ (M - n) + kraftF M r
theorem kraftF_of (M : Nat) : ∀ X : PairL, kraftX M X = kraftF M (X.map Prod.snd)
  | [] => rfl
  | p :: X => by rw [kraftX, List.map_cons, kraftF, kraftF_of M X]
theorem kraftF_append (M : Nat) (a b : List Nat) : kraftF M (a ++ b) = kraftF M a + kraftF M b := by
  induction a with
  | nil => simp [kraftF]
  | cons n a ih => simp only [List.cons_append, kraftF, ih]; omega
theorem kraftF_perm {M : Nat} {a b : List Nat} (h : a.Perm b) : kraftF M a = kraftF M b := by
  induction h with
  | nil => rfl
  | cons x _ ih => simp only [kraftF, ih]
  | swap x y l => simp only [kraftF]; omega
  | trans _ _ h1 h2 => rw [h1, h2]
theorem kraftF_rep (M n : Nat) : ∀ r, kraftF M (List.replicate r n) = r * 2 ^ (M - n)
  | 0 => by simp [kraftF]
  | r + 1 => by rw [List.replicate_succ, kraftF, kraftF_rep M n r, Nat.add_mul]; omega
/-- The weights, rising, with the flat lengths, falling. -/
def flatX (l : List Int) : PairL := List.zipWith (fun z f => (keyC l z, f.toNat)) (sortU l) (flatL (usedL l).length).reverse
theorem flatX_len {l : List Int} (hu : 1 ≤ (usedL l).length) : (flatX l).length = (usedL l).length := by
  simp [flatX, sortU_len, flatL_length hu]
where
  flatL_length {n : Nat} (h : 1 ≤ n) : (flatL n).length = n := by
    unfold flatL
    have := Nat.log2_self_le (n := n) (by omega)
    have := Nat.lt_log2_self (n := n)
    rw [Nat.pow_succ] at this
    simp; omega
theorem flatL_lengthR {n : Nat} (h : 1 ≤ n) : (flatL n).length = n := by
  unfold flatL
  have := Nat.log2_self_le (n := n) (by omega)
  have := Nat.lt_log2_self (n := n)
  rw [Nat.pow_succ] at this
  simp; omega
theorem map_fst_zip {α β : Type} (f : α → β → Int × Nat) (g : α → Int) (hg : ∀ a b, (f a b).1 = g a) : ∀ (a : List α) (b : List β), a.length ≤ b.length → (List.zipWith f a b).map Prod.fst = a.map g
  | [], b, _ => by simp
  | x :: a, [], h => by simp at h
  | x :: a, y :: b, h => by simp [hg, map_fst_zip f g hg a b (by simpa using h)]
theorem map_snd_zip {α β : Type} (f : α → β → Int × Nat) (g : β → Nat) (hg : ∀ a b, (f a b).2 = g b) : ∀ (a : List α) (b : List β), b.length ≤ a.length → (List.zipWith f a b).map Prod.snd = b.map g
  | a, [], _ => by simp
  | [], y :: b, h => by simp at h
  | x :: a, y :: b, h => by simp [hg, map_snd_zip f g hg a b (by simpa using h)]
theorem flatX_fst {l : List Int} (hu : 1 ≤ (usedL l).length) : (flatX l).map Prod.fst = (sortU l).map (keyC l) := by
  unfold flatX
  exact map_fst_zip (fun (z f : Int) => (keyC l z, f.toNat)) (keyC l) (fun _ _ => rfl) _ _ (by rw [sortU_len, List.length_reverse, flatL_lengthR hu]; omega)
theorem flatX_snd {l : List Int} (hu : 1 ≤ (usedL l).length) : (flatX l).map Prod.snd = ((flatL (usedL l).length).reverse).map Int.toNat := by
  unfold flatX
  exact map_snd_zip (fun (z f : Int) => (keyC l z, f.toNat)) Int.toNat (fun _ _ => rfl) _ _ (by rw [sortU_len, List.length_reverse, flatL_lengthR hu]; omega)
theorem flatX_feas {l : List Int} {m : Nat} (hm1 : 1 ≤ m) (hu : 1 < (usedL l).length) (hle : (usedL l).length ≤ 2 ^ m) : Feas m (flatX l) := by
  obtain ⟨n, hn⟩ : ∃ n, n = (usedL l).length := ⟨_, rfl⟩
  have hsnd := flatX_snd (l := l) (by omega)
  rw [← hn] at hu hle hsnd
  have h1 := Nat.log2_self_le (n := n) (by omega)
  have h2 := Nat.lt_log2_self (n := n)
  rw [Nat.pow_succ] at h2
  have hperm : ((flatX l).map Prod.snd).Perm (List.replicate (2 * 2 ^ n.log2 - n) n.log2 ++ List.replicate (n - (2 * 2 ^ n.log2 - n)) (n.log2 + 1)) := by
    rw [hsnd]
    refine ((List.reverse_perm _).map _).trans ?_
    unfold flatL
    rw [List.map_append, List.map_replicate, List.map_replicate]
    have e : ((n.log2 : Int) + 1).toNat = n.log2 + 1 := by omega
    rw [e, Int.toNat_natCast]
  have hk1 : 1 ≤ n.log2 := by
    have := (Nat.le_log2 (by omega : n ≠ 0) (k := 1)).2 (by omega)
    exact this
  have hkm : n.log2 ≤ m := by
    by_cases h : n.log2 ≤ m
    · exact h
    · exfalso
      have : 2 ^ (m + 1) ≤ 2 ^ n.log2 := Nat.pow_le_pow_right (by decide) (by omega)
      rw [Nat.pow_succ] at this
      have := Nat.two_pow_pos m
      omega
  have hk := kraftF_perm (M := m) hperm
  rw [← kraftF_of, kraftF_append, kraftF_rep, kraftF_rep] at hk
  have hmem : ∀ p ∈ flatX l, p.2 = n.log2 ∨ (p.2 = n.log2 + 1 ∧ 0 < n - (2 * 2 ^ n.log2 - n)) := fun p hp => by
    have h3 := hperm.mem_iff.1 (List.mem_map.2 ⟨p, hp, rfl⟩)
    rcases List.mem_append.1 h3 with h3 | h3
    · exact .inl (List.mem_replicate.1 h3).2
    · obtain ⟨h4, h5⟩ := List.mem_replicate.1 h3
      exact .inr ⟨h5, by omega⟩
  rcases Nat.eq_or_lt_of_le hkm with hkm | hkm
  · rw [hkm] at hk hmem h1 h2 hk1
    have hnm : n = 2 ^ m := by omega
    refine ⟨fun p hp => ?_, ?_⟩
    · rcases hmem p hp with h | ⟨h, h0⟩
      · omega
      · omega
    · rw [hk, hnm, Nat.sub_self, show 2 * 2 ^ m - 2 ^ m = 2 ^ m by omega, Nat.sub_self]; simp
  · refine ⟨fun p hp => ?_, ?_⟩
    · rcases hmem p hp with h | ⟨h, h0⟩
      · omega
      · omega
    · rw [hk]
      obtain ⟨q, hq⟩ : ∃ q, m - n.log2 = q + 1 := ⟨m - n.log2 - 1, by omega⟩
      rw [hq, show m - (n.log2 + 1) = q by omega, Nat.pow_succ, ← Nat.mul_assoc, Nat.mul_right_comm, ← Nat.add_mul]
      have e : 2 ^ m = (2 * 2 ^ n.log2) * 2 ^ q := by
        rw [Nat.mul_comm 2, ← Nat.pow_succ, ← Nat.pow_add]; congr 1; omega
      rw [e]
      exact Nat.mul_le_mul_right _ (by omega)
theorem flat_cost {l : List Int} {m : Nat} (hr : rightL l = true) (hm1 : 1 ≤ m) (hm2 : m ≤ 11) (hu : 1 < (usedL l).length) (hle : (usedL l).length ≤ 2 ^ m) : minOut l (m : Int) ≤ costX (flatX l) := by
  obtain ⟨h1, h2⟩ := min_best hr hm1 hm2 hu hle
  obtain ⟨-, hO⟩ := limOut_best hr hm1 hu hle
  rw [h2]
  refine hO.2 _ ?_ (flatX_feas hm1 hu hle)
  rw [flatX_fst (by omega)]
  exact ((sortU_perm l).map _).symm
theorem costX_take {X : PairL} {i : Nat} {p : Int × Nat} (h : X[i]? = some p) : costX (X.take (i + 1)) = costX (X.take i) + p.1 * (p.2 : Int) := by
  rw [List.take_add_one, h, costX_append]
  simp [costX]
theorem flatX_get {l : List Int} {i : Nat} {s : Int} (hu : 1 ≤ (usedL l).length) (hs : (sortU l)[i]? = some s) :
    ∃ f : Nat, (flatL (usedL l).length)[(usedL l).length - 1 - i]? = some (f : Int) ∧ f ≤ 100 + (usedL l).length.log2 ∧ (flatX l)[i]? = some (keyC l s, f) := by
  have hi : i < (usedL l).length := by have := (List.getElem?_eq_some_iff.1 hs).1; rw [sortU_len] at this; exact this
  have hfl := flatL_lengthR hu
  obtain ⟨y, hy⟩ : ∃ y, (flatL (usedL l).length)[(usedL l).length - 1 - i]? = some y := ⟨_, List.getElem?_eq_getElem (by omega)⟩
  have hym := List.mem_of_getElem? hy
  have hyb : 0 ≤ y ∧ y ≤ (((usedL l).length.log2 : Nat) : Int) + 1 := by
    unfold flatL at hym
    rcases List.mem_append.1 hym with h | h
    · have := (List.mem_replicate.1 h).2; omega
    · have := (List.mem_replicate.1 h).2; omega
  refine ⟨y.toNat, by rw [hy]; congr 1; omega, by omega, ?_⟩
  unfold flatX
  rw [List.getElem?_zipWith, hs, List.getElem?_reverse (by omega), hfl, hy]

end Go.Proofs.Ythjbngnihcmedaa
