/-
  Rows of numbers that are changed in place.
-/
import Derived.Test.YticlhaofmcajpaaSl
import Derived.Laws.OwnMore
import Derived.Test.YticlhaofmcajpaaRows
namespace Go.Proofs.Yticlhaofmcajpaa
set_option linter.unusedVariables false
set_option linter.unusedSimpArgs false
open Go.RowKit

/-- A row of numbers in a block of its own. -/
def RowI (w : World) (g n c : Nat) (L : List Int) : Prop := L.length = n ∧ w.ownsRow 0 3 1 (.slice (some ⟨g, 0, none⟩) n c) n (L.map (.int .i64))

section
variable {w w' : World} {g n c : Nat} {L : List Int}
theorem RowI.at (h : RowI w g n c L) {i : Nat} {x : Int} (hx : L[i]? = some x) : w.cell? ⟨g, i, none⟩ = some (.int .i64 x) := by
  have hlt := (List.getElem?_eq_some_iff.1 hx).1
  rw [h.2.cellAt i (by have := h.1; omega), List.getElem?_map, hx]; rfl
theorem RowI.frozen (h : RowI w g n c L) (i : Nat) : w.frozen? ⟨g, i, none⟩ = false := h.2.frozenAt i
theorem RowI.cap (h : RowI w g n c L) : n ≤ c := by
  rcases h.2.2 with ⟨h1, h2⟩ | ⟨g', cp, cur, h1, -, -, h4, -⟩
  · cases h1
  · cases h1; exact h4
theorem RowI.lt (h : RowI w g n c L) : g < w.heap.size := (h.2.lt g rfl).2
theorem RowI.set (h : RowI w g n c L) (i : Nat) (x : Int) : RowI (w.setCell ⟨g, i, none⟩ (.int .i64 x)) g n c (L.set i x) :=
  ⟨by rw [List.length_set]; exact h.1, by rw [List.map_set]; exact (h.2.stored i _).1⟩
theorem RowI.keeps {S : List Nat} (h : RowI w g n c L) (k : Keeps w w' S) (hn : g ∉ S) : RowI w' g n c L := by
  refine ⟨h.1, ?_⟩
  obtain ⟨h1, h2⟩ := h.2
  refine ⟨h1, ?_⟩
  rcases h2 with h2 | ⟨g', cp, cur, e, hg, hb, r⟩
  · exact .inl h2
  · cases e
    exact .inr ⟨g, c, cur, rfl, hg, (k.block g (Array.getElem?_eq_some_iff.1 hb).1 hn).trans hb, r⟩
theorem RowI.drew (h : RowI w g n c L) : RowI w.drew g n c L := h
theorem RowI.drewN (h : RowI w g n c L) (m : Nat) : RowI (w.drewN m) g n c L := h
theorem RowI.reads (h : RowI w g n c L) : RdI .i64 w (.slice (some ⟨g, 0, none⟩) n c) L := by
  have h2 := h.2
  rw [← h.1] at h2 ⊢
  exact own_reads h2
end

theorem rowI_own {w : World} {base : Nat} {g n c : Nat} {L : List Int} (hl : L.length = n) (h : w.ownsRow base 3 1 (.slice (some ⟨g, 0, none⟩) n c) n (L.map (.int .i64))) : RowI w g n c L := ⟨hl, own_base h (Nat.zero_le _)⟩

end Go.Proofs.Yticlhaofmcajpaa
