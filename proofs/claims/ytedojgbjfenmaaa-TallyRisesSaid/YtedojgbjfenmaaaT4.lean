/-
  The plain mathematics of the most frequent symbol. No program is in sight here.
-/
import Derived.Test.YtedojgbjfenmaaaT1
namespace Go.Proofs.Ytedojgbjfenmaaa
set_option linter.unusedVariables false
set_option linter.unusedSimpArgs false

def getI (l : List Int) (s : Int) : Int := l.getD s.toNat 0
def maxU (l : List Int) (m : Int) : List Int → Int
  | [] => m
  | s :: u => maxU l (if getI l m < getI l s then s else m) u
theorem maxU_snoc (l : List Int) (m : Int) (u : List Int) (s : Int) : maxU l m (u ++ [s]) = if getI l (maxU l m u) < getI l s then s else maxU l m u := by
  induction u generalizing m with
  | nil => rfl
  | cons x u ih => exact ih _
theorem maxU_mem (l : List Int) (m : Int) (u : List Int) : maxU l m u = m ∨ maxU l m u ∈ u := by
  induction u generalizing m with
  | nil => simp [maxU]
  | cons x u ih =>
    simp only [maxU]
    split
    · rcases ih x with h | h
      · rw [h]; simp
      · simp [h]
    · rcases ih m with h | h
      · rw [h]; simp
      · simp [h]

/-- What the reference's loop holds behind k rounds. -/
def refG (l : List Int) : Nat → Nat
  | 0 => 0
  | k + 1 => if l.getD (refG l k) 0 < l.getD k 0 then k else refG l k

theorem refG_inv (l : List Int) : ∀ k, 1 ≤ k → refG l k < k ∧ (∀ i, i < k → l.getD i 0 ≤ l.getD (refG l k) 0) ∧ (∀ i, i < refG l k → l.getD i 0 < l.getD (refG l k) 0)
  | 0, h => absurd h (by omega)
  | 1, _ => by
    have h1 : refG l 1 = 0 := by simp [refG]
    rw [h1]
    exact ⟨by omega, fun i hi => by obtain rfl : i = 0 := by omega
                                    exact Int.le_refl _, fun i hi => by omega⟩
  | k + 2, _ => by
    obtain ⟨h1, h2, h3⟩ := refG_inv l (k + 1) (by omega)
    rw [refG]
    split
    · rename_i h
      refine ⟨by omega, fun i hi => ?_, fun i hi => ?_⟩
      · by_cases e : i = k + 1
        · rw [e]; exact Int.le_refl _
        · have := h2 i (by omega); omega
      · have := h2 i hi; omega
    · rename_i h
      refine ⟨by omega, fun i hi => ?_, h3⟩
      by_cases e : i = k + 1
      · rw [e]; omega
      · exact h2 i (by omega)

theorem refG_lt (l : List Int) (k : Nat) (h : k ≤ l.length) (hl : 0 < l.length) : refG l k < l.length := by
  by_cases h0 : k = 0
  · subst h0; exact hl
  · have := (refG_inv l k (by omega)).1; omega

/-- The first of the greatest is one. -/
theorem first_unique (l : List Int) (a b n : Nat) (ha : a < n) (hb : b < n) (a1 : ∀ i, i < n → l.getD i 0 ≤ l.getD a 0) (a2 : ∀ i, i < a → l.getD i 0 < l.getD a 0) (b1 : ∀ i, i < n → l.getD i 0 ≤ l.getD b 0) (b2 : ∀ i, i < b → l.getD i 0 < l.getD b 0) : a = b := by
  rcases Nat.lt_trichotomy a b with h | h | h
  · have := b2 a h; have := a1 b hb; omega
  · exact h
  · have := a2 b h; have := b1 a ha; omega

/-- A list of numbers that grows from m on. -/
def Grows : Int → List Int → Prop
  | _, [] => True
  | m, x :: u => m < x ∧ Grows x u
theorem Grows.lt {m : Int} {u : List Int} (h : Grows m u) : ∀ x ∈ u, m < x := by
  induction u generalizing m with
  | nil => simp
  | cons y u ih =>
    intro x hx
    rcases List.mem_cons.1 hx with rfl | hx
    · exact h.1
    · have := ih h.2 x hx; have := h.1; omega
theorem Grows.mono {m m' : Int} {u : List Int} (h : Grows m u) (hm : m' ≤ m) : Grows m' u := by
  cases u with
  | nil => trivial
  | cons x u => exact ⟨by have := h.1; omega, h.2⟩
theorem maxU_max (l : List Int) (m : Int) (u : List Int) (hg : Grows m u) : getI l m ≤ getI l (maxU l m u) ∧ (∀ s ∈ u, getI l s ≤ getI l (maxU l m u)) ∧
    (m < maxU l m u → getI l m < getI l (maxU l m u)) ∧ (∀ s ∈ u, s < maxU l m u → getI l s < getI l (maxU l m u)) := by
  induction u generalizing m with
  | nil => simp [maxU]
  | cons x u ih =>
    simp only [maxU]
    have hmx := hg.1
    split
    · rename_i h
      obtain ⟨h1, h2, h3, h4⟩ := ih x hg.2
      refine ⟨by omega, ?_, fun _ => by omega, ?_⟩
      · intro s hs
        rcases List.mem_cons.1 hs with rfl | hs
        · exact h1
        · exact h2 s hs
      · intro s hs
        rcases List.mem_cons.1 hs with rfl | hs
        · exact h3
        · exact h4 s hs
    · rename_i h
      obtain ⟨h1, h2, h3, h4⟩ := ih m (hg.2.mono (by omega))
      refine ⟨h1, ?_, h3, ?_⟩
      · intro s hs
        rcases List.mem_cons.1 hs with rfl | hs
        · omega
        · exact h2 s hs
      · intro s hs hlt
        rcases List.mem_cons.1 hs with rfl | hs
        · have := h3 (by omega); omega
        · exact h4 s hs hlt

theorem usedF_grows (i : Nat) (l : List Int) : ∀ m : Int, m < i → Grows m (usedF i l) := by
  induction l generalizing i with
  | nil => intro m _; simp [usedF, Grows]
  | cons x l ih =>
    intro m hm
    simp only [usedF]
    split
    · exact ⟨hm, ih (i + 1) _ (by omega)⟩
    · exact ih (i + 1) _ (by omega)
theorem usedF_all {i : Nat} {l : List Int} {j : Nat} {x : Int} (h : l[j]? = some x) (h0 : 0 < x) : ((i + j : Nat) : Int) ∈ usedF i l := by
  induction l generalizing i j with
  | nil => simp at h
  | cons y l ih =>
    simp only [usedF]
    cases j with
    | zero => simp at h; subst h; rw [if_pos h0]; simp
    | succ j =>
      simp at h
      have := ih (i := i + 1) h
      rw [show i + 1 + j = i + (j + 1) by omega] at this
      split
      · exact List.mem_cons_of_mem _ this
      · exact this

/-- The first of the greatest used ones is the reference's. -/
theorem maxU_ref (l : List Int) (m : Int) (u : List Int) (hu : usedL l = m :: u) : maxU l m u = (refG l l.length : Int) := by
  have hg : Grows m u := by
    have := usedF_grows 0 l (-1) (by omega)
    have h2 : usedF 0 l = m :: u := hu
    rw [h2] at this
    exact this.2
  obtain ⟨h1, h2, h3, h4⟩ := maxU_max l m u hg
  have hmem : maxU l m u ∈ usedL l := by
    rw [hu]
    rcases maxU_mem l m u with h | h
    · rw [h]; simp
    · simp [h]
  obtain ⟨r, hr, x, hx, hx0⟩ := usedL_mem hmem
  rw [hr] at h1 h2 h3 h4 ⊢
  have hlt := (List.getElem?_eq_some_iff.1 hx).1
  have hgx : l.getD r 0 = x := by simp [List.getD, hx]
  have key : ∀ i, i < l.length → l.getD i 0 ≤ l.getD r 0 ∧ (i < r → l.getD i 0 < l.getD r 0) := by
    intro i hi
    obtain ⟨y, hy⟩ : ∃ y, l[i]? = some y := ⟨_, List.getElem?_eq_getElem hi⟩
    have hgy : l.getD i 0 = y := by simp [List.getD, hy]
    by_cases hy0 : 0 < y
    · have hm := usedF_all (i := 0) hy hy0
      rw [Nat.zero_add] at hm
      have hm2 : (i : Int) ∈ m :: u := by rw [← hu]; exact hm
      rcases List.mem_cons.1 hm2 with e | hm3
      · subst e
        refine ⟨by simpa [getI] using h1, fun hir => ?_⟩
        simpa [getI] using h3 (by omega)
      · refine ⟨by simpa [getI] using h2 _ hm3, fun hir => ?_⟩
        simpa [getI] using h4 _ hm3 (by omega)
    · rw [hgy, hgx]
      omega
  obtain ⟨g1, g2, g3⟩ := refG_inv l l.length (by omega)
  exact congrArg Int.ofNat (first_unique l r (refG l l.length) l.length hlt g1 (fun i hi => (key i hi).1) (fun i hi => (key i (by omega)).2 hi) g2 g3)

/-- What MostFrequent hands back: the symbol, the error. -/
def mostS (l : List Int) : Int := if rightL l then (match usedL l with | [] => 0 | m :: u => maxU l m u) else 0
def mostE (l : List Int) : Int := if rightL l then (match usedL l with | [] => 22 | _ :: _ => 0) else 2

end Go.Proofs.Ytedojgbjfenmaaa
