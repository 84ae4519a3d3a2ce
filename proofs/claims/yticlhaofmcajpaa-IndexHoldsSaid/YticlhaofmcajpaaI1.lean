/-
  The plain mathematics of an index of earlier occurrences: keys, padded keys, last positions, counts, chains. No program is in sight here.
-/
import Derived.ProofKit
namespace Go.Proofs.Yticlhaofmcajpaa
set_option linter.unusedVariables false
set_option linter.unusedSimpArgs false

/-- The key at a position, as far as there are bytes. -/
def keyAt (K : Nat) (B : List Int) (p : Nat) : List Int := (B.drop p).take K
/-- A key as it stands in the maps: padded with zeros. -/
def pad (l : List Int) : List Int := l ++ List.replicate (8 - l.length) 0
/-- How many positions have a key. -/
def nk (K : Nat) (B : List Int) : Nat := B.length + 1 - K
/-- The positions below n with a padded key, the largest first. -/
def plN (K : Nat) (B : List Int) : Nat → List Int → List Int
  | 0, _ => []
  | n + 1, q => if q = pad (keyAt K B n) then (n : Int) :: plN K B n q else plN K B n q
/-- What the map of last positions holds when n positions are entered. -/
def lastN (K : Nat) (B : List Int) : Nat → List Int → Option Int
  | 0, _ => none
  | n + 1, q => if q = pad (keyAt K B n) then some (n : Int) else lastN K B n q
/-- What the map of counts holds when n positions are entered. -/
def cntN (K : Nat) (B : List Int) : Nat → List Int → Option Int
  | 0, _ => none
  | n + 1, q => if q = pad (keyAt K B n) then some ((cntN K B n q).getD 0 + 1) else cntN K B n q
/-- The previous position with the same key, or -1. -/
def prevAt (K : Nat) (B : List Int) (p : Nat) : Int := (lastN K B p (pad (keyAt K B p))).getD (-1)
def prevL (K : Nat) (B : List Int) (n : Nat) : List Int := (List.range n).map (prevAt K B)
/-- The chain of a position. -/
def chainL (K : Nat) (B : List Int) (p : Nat) : List Int := plN K B p (pad (keyAt K B p))

theorem prevL_succ (K : Nat) (B : List Int) (n : Nat) : prevL K B (n + 1) = prevL K B n ++ [prevAt K B n] := by simp [prevL, List.range_succ]
theorem prevL_len (K : Nat) (B : List Int) (n : Nat) : (prevL K B n).length = n := by simp [prevL]
theorem prevL_get {K : Nat} {B : List Int} {n p : Nat} (h : p < n) : (prevL K B n)[p]? = some (prevAt K B p) := by simp [prevL, List.getElem?_map, List.getElem?_range h]

theorem lastN_head (K : Nat) (B : List Int) (n : Nat) (q : List Int) : lastN K B n q = (plN K B n q).head? := by
  induction n with
  | zero => rfl
  | succ n ih => simp only [lastN, plN]; split <;> simp [ih]
theorem cntN_len (K : Nat) (B : List Int) (n : Nat) (q : List Int) : (cntN K B n q).getD 0 = ((plN K B n q).length : Int) := by
  induction n with
  | zero => rfl
  | succ n ih =>
    simp only [cntN, plN]
    split
    · simp only [Option.getD_some, List.length_cons, ih]; omega
    · exact ih
theorem plN_len (K : Nat) (B : List Int) (n : Nat) (q : List Int) : (plN K B n q).length ≤ n := by
  induction n with
  | zero => exact Nat.le_refl _
  | succ n ih =>
    simp only [plN]
    split
    · simp only [List.length_cons]; omega
    · omega
theorem plN_cons {K : Nat} {B : List Int} {n : Nat} {q : List Int} {x : Int} {r : List Int} (h : plN K B n q = x :: r) : ∃ m : Nat, x = (m : Int) ∧ m < n ∧ q = pad (keyAt K B m) ∧ r = plN K B m q := by
  induction n with
  | zero => cases h
  | succ n ih =>
    simp only [plN] at h
    split at h
    · rename_i hq
      injection h with h1 h2
      exact ⟨n, h1.symm, by omega, hq, h2.symm⟩
    · obtain ⟨m, h1, h2, h3, h4⟩ := ih h
      exact ⟨m, h1, by omega, h3, h4⟩
theorem plN_mem {K : Nat} {B : List Int} {n : Nat} {q : List Int} {x : Int} : x ∈ plN K B n q ↔ ∃ m : Nat, x = (m : Int) ∧ m < n ∧ q = pad (keyAt K B m) := by
  induction n with
  | zero => simp [plN]
  | succ n ih =>
    simp only [plN]
    split
    · rename_i hq
      rw [List.mem_cons, ih]
      constructor
      · rintro (rfl | ⟨m, h1, h2, h3⟩)
        · exact ⟨n, rfl, by omega, hq⟩
        · exact ⟨m, h1, by omega, h3⟩
      · rintro ⟨m, h1, h2, h3⟩
        by_cases e : m = n
        · left; rw [h1, e]
        · right; exact ⟨m, h1, by omega, h3⟩
    · rename_i hq
      rw [ih]
      constructor
      · rintro ⟨m, h1, h2, h3⟩; exact ⟨m, h1, by omega, h3⟩
      · rintro ⟨m, h1, h2, h3⟩
        by_cases e : m = n
        · subst e; exact absurd h3 hq
        · exact ⟨m, h1, by omega, h3⟩

theorem prevAt_head (K : Nat) (B : List Int) (p : Nat) : prevAt K B p = (chainL K B p).head?.getD (-1) := by rw [prevAt, lastN_head]; rfl
theorem chainL_cons {K : Nat} {B : List Int} {p : Nat} {x : Int} {r : List Int} (h : chainL K B p = x :: r) : ∃ m : Nat, x = (m : Int) ∧ m < p ∧ prevAt K B p = (m : Int) ∧ r = chainL K B m ∧ pad (keyAt K B m) = pad (keyAt K B p) := by
  obtain ⟨m, h1, h2, h3, h4⟩ := plN_cons h
  refine ⟨m, h1, h2, ?_, ?_, h3.symm⟩
  · rw [prevAt_head, h]; exact h1
  · rw [h4, h3]; rfl
theorem chainL_nil {K : Nat} {B : List Int} {p : Nat} (h : chainL K B p = []) : prevAt K B p = -1 := by rw [prevAt_head, h]; rfl
theorem prevAt_cases (K : Nat) (B : List Int) (p : Nat) : (prevAt K B p = -1 ∧ chainL K B p = []) ∨ ∃ m : Nat, prevAt K B p = (m : Int) ∧ m < p ∧ chainL K B p = (m : Int) :: chainL K B m ∧ pad (keyAt K B m) = pad (keyAt K B p) := by
  cases h : chainL K B p with
  | nil => exact .inl ⟨chainL_nil h, rfl⟩
  | cons x r =>
    obtain ⟨m, rfl, h2, h3, rfl, h5⟩ := chainL_cons h
    exact .inr ⟨m, h3, h2, rfl, h5⟩
theorem prevAt_bd (K : Nat) (B : List Int) (p : Nat) : -1 ≤ prevAt K B p ∧ prevAt K B p < (p : Int) ∨ prevAt K B p = -1 := by
  rcases prevAt_cases K B p with ⟨h, _⟩ | ⟨m, h, h2, _⟩
  · exact .inr h
  · left; rw [h]; omega

/-! ### Padded keys -/
theorem pad_len {l : List Int} (h : l.length ≤ 8) : (pad l).length = 8 := by simp [pad]; omega
theorem pad_inj {a b : List Int} (h : a.length = b.length) (hp : pad a = pad b) : a = b := by
  unfold pad at hp
  exact List.append_inj_left hp h
theorem pad_bytes {l : List Int} (h : ∀ x ∈ l, 0 ≤ x ∧ x ≤ 255) : ∀ x ∈ pad l, 0 ≤ x ∧ x ≤ 255 := by
  intro x hx
  unfold pad at hx
  rcases List.mem_append.1 hx with hx | hx
  · exact h x hx
  · have := (List.mem_replicate.1 hx).2; omega
theorem keyAt_len {K : Nat} {B : List Int} {p : Nat} (h : p + K ≤ B.length) : (keyAt K B p).length = K := by simp [keyAt]; omega
theorem keyAt_le (K : Nat) (B : List Int) (p : Nat) : (keyAt K B p).length ≤ K := by simp [keyAt]; omega
theorem keyAt_bytes {K : Nat} {B : List Int} {p : Nat} (h : ∀ x ∈ B, 0 ≤ x ∧ x ≤ 255) : ∀ x ∈ keyAt K B p, 0 ≤ x ∧ x ≤ 255 := fun x hx => h x (List.mem_of_mem_drop (List.mem_of_mem_take hx))
theorem nk_iff {K : Nat} {B : List Int} {p : Nat} (hK : 1 ≤ K) : p < nk K B ↔ p + K ≤ B.length := by unfold nk; omega
theorem keyAt_append {K : Nat} {B b : List Int} {p : Nat} (h : p + K ≤ B.length) : keyAt K (B ++ b) p = keyAt K B p := by
  unfold keyAt
  rw [List.drop_append_of_le_length (by omega), List.take_append_of_le_length (by simp; omega)]
theorem lastN_append {K : Nat} {B b : List Int} {n : Nat} (hK : 1 ≤ K) (h : n ≤ nk K B) : lastN K (B ++ b) n = lastN K B n := by
  funext q
  induction n with
  | zero => rfl
  | succ n ih => simp only [lastN]; rw [keyAt_append ((nk_iff hK).1 (by omega)), ih (by omega)]
theorem cntN_append {K : Nat} {B b : List Int} {n : Nat} (hK : 1 ≤ K) (h : n ≤ nk K B) : cntN K (B ++ b) n = cntN K B n := by
  funext q
  induction n with
  | zero => rfl
  | succ n ih => simp only [cntN]; rw [keyAt_append ((nk_iff hK).1 (by omega)), ih (by omega)]
theorem prevAt_append {K : Nat} {B b : List Int} {p : Nat} (hK : 1 ≤ K) (h : p < nk K B) : prevAt K (B ++ b) p = prevAt K B p := by
  unfold prevAt
  rw [lastN_append hK (by omega), keyAt_append ((nk_iff hK).1 h)]
theorem prevL_append {K : Nat} {B b : List Int} {n : Nat} (hK : 1 ≤ K) (h : n ≤ nk K B) : prevL K (B ++ b) n = prevL K B n := by
  unfold prevL
  exact List.map_congr_left fun p hp => prevAt_append hK (by have := List.mem_range.1 hp; omega)
theorem chainL_append {K : Nat} {B b : List Int} {p : Nat} (hK : 1 ≤ K) (h : p < nk K B) : chainL K (B ++ b) p = chainL K B p := by
  unfold chainL
  rw [keyAt_append ((nk_iff hK).1 h)]
  have : ∀ n, n ≤ nk K B → plN K (B ++ b) n = plN K B n := by
    intro n hn
    funext q
    induction n with
    | zero => rfl
    | succ n ih => simp only [plN]; rw [keyAt_append ((nk_iff hK).1 (by omega)), ih (by omega)]
  rw [this p (by omega)]
theorem nk_append (K : Nat) (B b : List Int) : nk K B ≤ nk K (B ++ b) := by unfold nk; rw [List.length_append]; omega

/-- A function with one value changed. -/
def upd (f : List Int → Option Int) (q : List Int) (v : Int) : List Int → Option Int := fun r => if r = q then some v else f r
theorem lastN_succ (K : Nat) (B : List Int) (n : Nat) : lastN K B (n + 1) = upd (lastN K B n) (pad (keyAt K B n)) (n : Int) := rfl
theorem cntN_succ (K : Nat) (B : List Int) (n : Nat) : cntN K B (n + 1) = upd (cntN K B n) (pad (keyAt K B n)) ((cntN K B n (pad (keyAt K B n))).getD 0 + 1) := by
  funext r
  simp only [cntN, upd]
  split
  · rename_i h; rw [h]
  · rfl
theorem cntN_bd (K : Nat) (B : List Int) (n : Nat) (q : List Int) : 0 ≤ (cntN K B n q).getD 0 ∧ (cntN K B n q).getD 0 ≤ n := by
  rw [cntN_len]
  have := plN_len K B n q
  omega

end Go.Proofs.Yticlhaofmcajpaa
