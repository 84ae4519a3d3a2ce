/-
  Chains of keys in plain words: their steps, the gaps between them, what a longer key leaves of them; the last position of a key; marks. No program is in sight here.
-/
import Derived.Test.YticlhaofmcajpaaV6
import Derived.Test.YticlhaofmcajpaaI7
import Derived.Test.YticlhaofmcajpaaT1
namespace Go.Proofs.Yticlhaofmcajpaa
set_option linter.unusedVariables false
set_option linter.unusedSimpArgs false

theorem plN_gap {K : Nat} {B : List Int} {n : Nat} {q : List Int} {x : Int} {r : List Int} (h : plN K B n q = x :: r) : ∀ m : Nat, x < (m : Int) → m < n → q ≠ pad (keyAt K B m) := by
  induction n with
  | zero => cases h
  | succ n ih =>
    simp only [plN] at h
    split at h
    · injection h with h1 h2
      intro m h3 h4
      omega
    · rename_i hq
      intro m h3 h4
      by_cases e : m = n
      · subst e; exact hq
      · exact ih h m h3 (by omega)

theorem hasB_nat {n : Nat} {p : Int} (h : hasB n p = true) : 0 ≤ p ∧ p < (n : Int) := by
  unfold hasB at h
  simp only [Bool.and_eq_true, decide_eq_true_eq] at h
  exact h
theorem hasB_of {n m : Nat} (h : m < n) : hasB n (m : Int) = true := by unfold hasB; simp; omega

theorem refChain_step {K : Nat} {B : List Int} {p y : Int} {r : List Int} (h : refChain K B p = y :: r) :
    prevV K B p = some y ∧ 0 ≤ y ∧ y < p ∧ p < (nk K B : Int) ∧ r = refChain K B y ∧ pad (keyAt K B y.toNat) = pad (keyAt K B p.toNat) ∧ ∀ m : Nat, y < (m : Int) → (m : Int) < p → pad (keyAt K B p.toNat) ≠ pad (keyAt K B m) := by
  have hp : prevV K B p = some y := by rw [prevV_chain, h]; rfl
  obtain ⟨h1, h2, h3, h4⟩ := chain_some hp
  rw [h] at h1
  injection h1 with _ h1
  have hh : hasB (nk K B) p = true := by
    cases hb : hasB (nk K B) p with
    | true => rfl
    | false => rw [refChain, hb] at h; cases h
  obtain ⟨h5, h6⟩ := hasB_nat hh
  rw [refChain, hh] at h
  simp only [if_true] at h
  obtain ⟨m, e1, e2, e3, e4, e5⟩ := chainL_cons h
  subst e1
  refine ⟨hp, h2, h3, h6, h1, by simpa using e5, fun m' h7 h8 => ?_⟩
  exact plN_gap h m' h7 (by omega)

/-- Where the k-th step of a chain comes from. -/
def stepP (L : List Int) (p : Int) : Nat → Int
  | 0 => p
  | k + 1 => (L[k]?).getD 0

theorem chain_steps {K : Nat} {B : List Int} {L : List Int} : ∀ (k : Nat) (p y : Int), refChain K B p = L → L[k]? = some y →
    prevV K B (stepP L p k) = some y ∧ 0 ≤ y ∧ y < stepP L p k ∧ y < p ∧ p < (nk K B : Int) ∧ pad (keyAt K B y.toNat) = pad (keyAt K B p.toNat) ∧ (∀ m : Nat, y < (m : Int) → (m : Int) < stepP L p k → pad (keyAt K B p.toNat) ≠ pad (keyAt K B m)) ∧ L.drop (k + 1) = refChain K B y := by
  intro k
  induction k generalizing L with
  | zero =>
    intro p y h hy
    cases L with
    | nil => simp at hy
    | cons y0 r =>
      simp at hy; subst hy
      obtain ⟨a1, a2, a3, a4, a5, a6, a7⟩ := refChain_step h
      exact ⟨a1, a2, a3, a3, a4, a6, a7, by simpa using a5⟩
  | succ k ih =>
    intro p y h hy
    cases L with
    | nil => simp at hy
    | cons y0 r =>
      obtain ⟨a1, a2, a3, a4, a5, a6, a7⟩ := refChain_step h
      have hs : stepP (y0 :: r) p (k + 1) = stepP r y0 k := by
        cases k with
        | zero => simp [stepP]
        | succ k => simp [stepP]
      obtain ⟨b1, b2, b3, b4, b5, b6, b7, b8⟩ := ih y0 y a5.symm (by simpa using hy)
      rw [hs]
      exact ⟨b1, b2, b3, by omega, a4, b6.trans a6, fun m h1 h2 => by rw [← a6]; exact b7 m h1 h2, by simpa using b8⟩

theorem chain_end {K : Nat} {B : List Int} {L : List Int} {p : Int} (h : refChain K B p = L) : prevV K B (stepP L p L.length) = none := by
  cases hl : L.length with
  | zero =>
    have : L = [] := List.eq_nil_of_length_eq_zero hl
    subst this
    rw [prevV_chain]
    simp [stepP, h]
  | succ k =>
    obtain ⟨y, hy⟩ : ∃ y, L[k]? = some y := ⟨_, List.getElem?_eq_getElem (by omega)⟩
    have h8 := (chain_steps k p y h hy).2.2.2.2.2.2.2
    have hd : L.drop (k + 1) = [] := List.drop_eq_nil_of_le (by omega)
    rw [hd] at h8
    have : stepP L p (k + 1) = y := by simp [stepP, hy]
    rw [this, prevV_chain, ← h8]
    rfl

theorem chain_sub {K : Nat} {B : List Int} {p q : Int} (hK : K + 1 ≤ 8) (h : q ∈ refChain (K + 1) B p) : q ∈ refChain K B p := by
  have hh : hasB (nk (K + 1) B) p = true := by
    cases hb : hasB (nk (K + 1) B) p with
    | true => rfl
    | false => rw [refChain, hb] at h; cases h
  obtain ⟨h5, h6⟩ := hasB_nat hh
  obtain ⟨pn, rfl⟩ := Int.eq_ofNat_of_zero_le h5
  have hlt : pn < nk (K + 1) B := by omega
  have hlt2 : pn < nk K B := by unfold nk at *; omega
  rw [refChain, hh] at h
  simp only [if_true, Int.toNat_natCast] at h
  rw [refChain, hasB_of hlt2]
  simp only [if_true, Int.toNat_natCast]
  obtain ⟨m, rfl, h1, h2⟩ := plN_mem.1 h
  refine plN_mem.2 ⟨m, rfl, h1, ?_⟩
  have e1 : pn + (K + 1) ≤ B.length := by unfold nk at hlt; omega
  have e2 : m + (K + 1) ≤ B.length := by omega
  have h3 := pad_inj (by rw [keyAt_len e1, keyAt_len e2]) h2
  have e3 : ∀ z, keyAt K B z = (keyAt (K + 1) B z).take K := fun z => by
    unfold keyAt
    rw [List.take_take, Nat.min_eq_left (by omega)]
  rw [e3 pn, e3 m, h3]

theorem find_last {K : Nat} {B : List Int} {p : Nat} (hK : 1 ≤ K) (hp : p + K ≤ B.length) : ∃ m : Nat, findV K B (keyAt K B p) = some (m : Int) ∧ p ≤ m ∧ m + K ≤ B.length ∧ keyAt K B m = keyAt K B p := by
  have hlt : p < nk K B := by unfold nk; omega
  unfold findV
  rw [if_pos (keyAt_len hp), lastN_head]
  cases hc : plN K B (nk K B) (pad (keyAt K B p)) with
  | nil =>
    have : (p : Int) ∈ plN K B (nk K B) (pad (keyAt K B p)) := plN_mem.2 ⟨p, rfl, hlt, rfl⟩
    rw [hc] at this
    cases this
  | cons x r =>
    obtain ⟨m, rfl, h2, h3, -⟩ := plN_cons hc
    have hm : m + K ≤ B.length := by unfold nk at h2; omega
    refine ⟨m, rfl, ?_, hm, (pad_inj (by rw [keyAt_len hp, keyAt_len hm]) h3).symm⟩
    rcases Nat.lt_or_ge m p with h | h
    · exact absurd rfl (plN_gap hc p (by omega) hlt)
    · exact h

/-- Marks at positions. -/
def markL (n : Nat) (L : List Int) (k : Nat) : List Int := (L.take k).foldl (fun l x => l.set x.toNat 1) (List.replicate n 0)
theorem foldSet_len (L : List Int) : ∀ l : List Int, (L.foldl (fun l x => l.set x.toNat 1) l).length = l.length := by
  induction L with
  | nil => intro l; rfl
  | cons x L ih => intro l; rw [List.foldl_cons, ih]; simp
theorem foldSet_one (L : List Int) : ∀ (l : List Int) (i : Nat), i < l.length → (l[i]? = some 1 ∨ ∃ x ∈ L, x.toNat = i) → (L.foldl (fun l x => l.set x.toNat 1) l)[i]? = some 1 := by
  induction L with
  | nil =>
    intro l i hi h
    rcases h with h | ⟨x, hx, -⟩
    · exact h
    · cases hx
  | cons x L ih =>
    intro l i hi h
    rw [List.foldl_cons]
    refine ih _ i (by simpa using hi) ?_
    by_cases e : x.toNat = i
    · left; rw [← e, List.getElem?_set_self (by omega)]
    · rcases h with h | ⟨z, hz, hzi⟩
      · left; rw [List.getElem?_set_ne e]; exact h
      · rcases List.mem_cons.1 hz with rfl | hz
        · exact absurd hzi e
        · exact .inr ⟨z, hz, hzi⟩
theorem markL_len (n : Nat) (L : List Int) (k : Nat) : (markL n L k).length = n := by unfold markL; rw [foldSet_len]; simp
theorem markL_zero (n : Nat) (L : List Int) : markL n L 0 = List.replicate n 0 := by simp [markL]
theorem markL_next {n : Nat} {L : List Int} {k : Nat} {x : Int} (h : L[k]? = some x) : markL n L (k + 1) = (markL n L k).set x.toNat 1 := by
  unfold markL
  rw [take_next h, List.foldl_append]
  rfl
theorem markL_one {n : Nat} {L : List Int} {x : Int} (h : x ∈ L) (h1 : x.toNat < n) : (markL n L L.length)[x.toNat]? = some 1 := by
  unfold markL
  rw [List.take_length]
  exact foldSet_one L _ _ (by simpa using h1) (.inr ⟨x, h, rfl⟩)

end Go.Proofs.Yticlhaofmcajpaa
