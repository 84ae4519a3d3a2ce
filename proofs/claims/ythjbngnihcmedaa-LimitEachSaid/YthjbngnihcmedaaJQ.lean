/-
  Huffman's merging in plain words: bounds. No program is in sight here.
-/
import Derived.Test.YthjbngnihcmedaaJP
namespace Go.Proofs.Ythjbngnihcmedaa
set_option linter.unusedVariables false
set_option linter.unusedSimpArgs false

def sumW : PackL → Int
  | [] => 0
  | p :: r => p.1 + sumW r
def sumN : PackL → Nat
  | [] => 0
  | p :: r => p.2.length + sumN r
theorem sumW_merged : ∀ (a b : PackL), sumW (mergedP a b) = sumW a + sumW b
  | [], b => by simp [mergedP, sumW]
  | x :: a, [] => by rw [mergedP_nil]; simp [sumW]
  | x :: a, y :: b => by
    by_cases h : x.1 ≤ y.1
    · rw [mergedP_left h, sumW, sumW_merged a (y :: b)]; simp only [sumW]; omega
    · rw [mergedP_right h, sumW, sumW_merged (x :: a) b]; simp only [sumW]; omega
theorem sumN_merged : ∀ (a b : PackL), sumN (mergedP a b) = sumN a + sumN b
  | [], b => by simp [mergedP, sumN]
  | x :: a, [] => by rw [mergedP_nil]; simp [sumN]
  | x :: a, y :: b => by
    by_cases h : x.1 ≤ y.1
    · rw [mergedP_left h, sumN, sumN_merged a (y :: b)]; simp only [sumN]; omega
    · rw [mergedP_right h, sumN, sumN_merged (x :: a) b]; simp only [sumN]; omega

/-- Bounds of the packages that Huffman's merging meets. -/
structure HufB (l : List Int) (L : PackL) : Prop where
  all : ∀ p ∈ L, 0 ≤ p.1 ∧ 0 < p.2.length ∧ ∀ s ∈ p.2, ∃ j : Nat, s = (j : Int) ∧ j < l.length
  w : sumW L ≤ 549755813888
  n : sumN L ≤ 256
theorem sumW_mem {L : PackL} (h : ∀ p ∈ L, 0 ≤ p.1) : 0 ≤ sumW L ∧ ∀ p ∈ L, p.1 ≤ sumW L := by
  induction L with
  | nil => exact ⟨by simp [sumW], fun p hp => by cases hp⟩
  | cons q L ih =>
    obtain ⟨h1, h2⟩ := ih (fun p hp => h p (by simp [hp]))
    have hq := h q (by simp)
    refine ⟨by simp only [sumW]; omega, fun p hp => ?_⟩
    simp only [sumW]
    rcases List.mem_cons.1 hp with rfl | hp
    · omega
    · have := h2 p hp; omega
theorem sumN_mem {L : PackL} : ∀ p ∈ L, p.2.length ≤ sumN L := by
  induction L with
  | nil => exact fun p hp => by cases hp
  | cons q L ih =>
    intro p hp
    simp only [sumN]
    rcases List.mem_cons.1 hp with rfl | hp
    · omega
    · have := ih p hp; omega
theorem HufB.fine {l : List Int} {L : PackL} (h : HufB l L) {p : Int × List Int} (hp : p ∈ L) : 0 ≤ p.1 ∧ p.1 ≤ 549755813888 ∧ 0 < p.2.length ∧ p.2.length ≤ 256 := by
  have h1 := h.all p hp
  have h2 := (sumW_mem (fun q hq => (h.all q hq).1)).2 p hp
  have h3 := sumN_mem p hp
  have := h.w
  have := h.n
  exact ⟨h1.1, by omega, h1.2.1, by omega⟩
theorem hufB_first {l : List Int} (h : rightL l = true) : HufB l (firstP l) := by
  have hb := rowB_first h
  have hl := (rightL_iff.1 h).1
  have hu := usedL_len l
  have e1 : ∀ L : PackL, (∀ p ∈ L, p.1 ≤ 2147483648 ∧ p.2.length ≤ 1) → sumW L ≤ 2147483648 * (L.length : Int) ∧ sumN L ≤ L.length := by
    intro L
    induction L with
    | nil => intro _; simp [sumW, sumN]
    | cons q L ih =>
      intro hL
      obtain ⟨i1, i2⟩ := ih (fun p hp => hL p (by simp [hp]))
      have := hL q (by simp)
      simp only [sumW, sumN, List.length_cons]
      omega
  obtain ⟨q1, q2⟩ := e1 (firstP l) (fun p hp => by
    obtain ⟨a1, a2, a3, a4, a5⟩ := hb p hp
    simp at a2 a4
    exact ⟨a2, a4⟩)
  rw [firstP_len] at q1 q2
  exact ⟨fun p hp => ⟨(hb p hp).1, (hb p hp).2.2.1, (hb p hp).2.2.2.2⟩, by omega, by omega⟩
theorem HufB.step {l : List Int} {a b : Int × List Int} {r : PackL} (h : HufB l (a :: b :: r)) : HufB l (mergedP r [(a.1 + b.1, a.2 ++ b.2)]) := by
  refine ⟨fun p hp => ?_, ?_, ?_⟩
  · rcases mergedP_mem hp with hp | hp
    · exact h.all p (by simp [hp])
    · have := List.mem_singleton.1 hp
      subst this
      have h1 := h.all a (by simp)
      have h2 := h.all b (by simp)
      refine ⟨by dsimp only; omega, by simp; omega, fun s hs => ?_⟩
      rcases List.mem_append.1 hs with hs | hs
      · exact h1.2.2 s hs
      · exact h2.2.2 s hs
  · rw [sumW_merged]; have := h.w; simp only [sumW] at this ⊢; omega
  · rw [sumN_merged]; have := h.n; simp only [sumN, List.length_append] at this ⊢; omega
theorem hufP_step (k : Nat) (a b : Int × List Int) (r : PackL) (out : List Int) : hufP (k + 1) (a :: b :: r) out = hufP k (mergedP r [(a.1 + b.1, a.2 ++ b.2)]) (bumps out (a.2 ++ b.2)) := rfl
theorem hufP_end {k : Nat} {L : PackL} (h : L.length ≤ 1) (out : List Int) : hufP k L out = out := by
  match k, L, h with
  | 0, [], _ => rfl
  | 0, [a], _ => rfl
  | k + 1, [], _ => rfl
  | k + 1, [a], _ => rfl

end Go.Proofs.Ythjbngnihcmedaa
