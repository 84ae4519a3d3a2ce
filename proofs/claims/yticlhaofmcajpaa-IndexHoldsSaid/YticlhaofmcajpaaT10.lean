/-
  Histograms: the plain law; lists of byte slices in memory. No program is in sight here.
-/
import Derived.Test.YticlhaofmcajpaaT1
import Derived.Test.YticlhaofmcajpaaSl
namespace Go.Proofs.Yticlhaofmcajpaa
set_option linter.unusedVariables false
set_option linter.unusedSimpArgs false
open Go.RowKit

/-- One byte more. -/
def bump (h : List Int) (c : Int) : List Int := h.set c.toNat (if h.getD c.toNat 0 + 1 < 2147483648 then h.getD c.toNat 0 + 1 else 2147483648)
def histF (h : List Int) (l : List Int) : List Int := l.foldl bump h
def histL (l : List Int) : List Int := histF (List.replicate 256 0) l
def ints (h : List Int) : Array Value := (h.map (Value.int .i64)).toArray

theorem bump_len (h : List Int) (c : Int) : (bump h c).length = h.length := by simp [bump]
theorem histF_len (l : List Int) : ∀ h : List Int, (histF h l).length = h.length := by
  induction l with
  | nil => intro h; rfl
  | cons c l ih => intro h; exact (ih _).trans (bump_len h c)
theorem histF_snoc (h l : List Int) (c : Int) : histF h (l ++ [c]) = bump (histF h l) c := by simp [histF]
theorem histF_append (h l m : List Int) : histF h (l ++ m) = histF (histF h l) m := by simp [histF]
/-- All entries are counts. -/
def Counts (h : List Int) : Prop := h.length = 256 ∧ ∀ x ∈ h, 0 ≤ x ∧ x ≤ 2147483648
theorem Counts.zero : Counts (List.replicate 256 0) := ⟨List.length_replicate, fun x hx => by have := (List.mem_replicate.1 hx).2; omega⟩
theorem Counts.get {h : List Int} (hc : Counts h) {i : Nat} (hi : i < 256) : ∃ x, h[i]? = some x ∧ 0 ≤ x ∧ x ≤ 2147483648 := by
  have hlt : i < h.length := by rw [hc.1]; exact hi
  exact ⟨_, List.getElem?_eq_getElem hlt, hc.2 _ (List.getElem_mem hlt)⟩
theorem Counts.bump {h : List Int} (hc : Counts h) {c : Int} (h0 : 0 ≤ c) (h1 : c ≤ 255) : Counts (bump h c) := by
  refine ⟨by rw [bump_len]; exact hc.1, fun x hx => ?_⟩
  obtain ⟨y, hy, hy0, hy1⟩ := hc.get (i := c.toNat) (by omega)
  have hg : h.getD c.toNat 0 = y := by simp [List.getD, hy]
  unfold Go.Proofs.Yticlhaofmcajpaa.bump at hx
  rw [hg] at hx
  rcases List.mem_or_eq_of_mem_set hx with hx | rfl
  · exact hc.2 x hx
  · split <;> omega
theorem Counts.histF {l : List Int} (hl : ∀ x ∈ l, 0 ≤ x ∧ x ≤ 255) : ∀ {h : List Int}, Counts h → Counts (histF h l) := by
  induction l with
  | nil => intro h hc; exact hc
  | cons c l ih => intro h hc; exact ih (fun x hx => hl x (by simp [hx])) (hc.bump (hl c (by simp)).1 (hl c (by simp)).2)

theorem ints_get {h : List Int} {i : Nat} {x : Int} (hx : h[i]? = some x) : (ints h)[i]? = some (.int .i64 x) := by simp [ints, hx]
theorem ints_set (h : List Int) (i : Nat) (x : Int) : (ints h).setIfInBounds i (.int .i64 x) = ints (h.set i x) := by simp [ints, List.map_set]
theorem ints_size (h : List Int) : (ints h).size = h.length := by simp [ints]

/-- A slice of slices of numbers reads as a list of lists. -/
structure RdL (k : IntKind) (w : World) (v : Value) (ls : List (List Int)) : Prop where
  form : ∃ a n cp, v = .slice a n cp ∧ n = ls.length ∧ (0 < n → n ≤ cp ∧ ∃ b o, a = some ⟨b, o, none⟩ ∧ b < w.heap.size ∧ ∀ i l, ls[i]? = some l → ∃ vi, w.cell? ⟨b, o + i, none⟩ = some vi ∧ RdI k w vi l)

section
variable {k : IntKind} {w w' : World} {v : Value} {ls : List (List Int)} {a : Option Addr} {n cp : Nat}
theorem RdL.keeps (h : RdL k w v ls) (kk : Keeps w w' []) : RdL k w' v ls := by
  obtain ⟨a, n, cp, rfl, hn, hc⟩ := h.form
  refine ⟨a, n, cp, rfl, hn, fun hp => ?_⟩
  obtain ⟨h1, b, o, h2, h3, h4⟩ := hc hp
  refine ⟨h1, b, o, h2, Nat.lt_of_lt_of_le h3 kk.size, fun i l hl => ?_⟩
  obtain ⟨vi, h5, h6⟩ := h4 i l hl
  exact ⟨vi, (kk.cell (p := ⟨b, o + i, none⟩) h3 (by simp)).trans h5, h6.keeps kk⟩
theorem RdL.at (h : RdL k w (.slice a n cp) ls) {i : Nat} {l : List Int} (hx : ls[i]? = some l) : ∃ b o vi, a = some ⟨b, o, none⟩ ∧ b < w.heap.size ∧ w.cell? ⟨b, o + i, none⟩ = some vi ∧ RdI k w vi l ∧ n ≤ cp := by
  obtain ⟨a', n', cp', he, hl, hc⟩ := h.form
  obtain ⟨h1, h2, h3⟩ := Value.slice.inj he
  subst h1 h2 h3
  have hlt := (List.getElem?_eq_some_iff.1 hx).1
  obtain ⟨h0, b, o, h2, h3, h4⟩ := hc (by omega)
  obtain ⟨vi, h5, h6⟩ := h4 i l hx
  exact ⟨b, o, vi, h2, h3, h5, h6, h0⟩
theorem RdL.len (h : RdL k w (.slice a n cp) ls) : n = ls.length := by
  obtain ⟨a', n', cp', he, hl, -⟩ := h.form
  obtain ⟨h1, h2, h3⟩ := Value.slice.inj he
  rw [h2, hl]
end

end Go.Proofs.Yticlhaofmcajpaa
