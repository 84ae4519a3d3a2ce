/-
  What an iterator has handed out after k rounds. No program is in sight here.
-/
import Derived.Test.YtcmagccfagijlaaGreatRF
import Derived.Test.YtcmagccfagijlaaGreatSl
namespace Go.Proofs.YtcmagccfagijlaaGreat
set_option linter.unusedVariables false
set_option linter.unusedSimpArgs false
open Go.RowKit

/-- What has come when k rounds are over. -/
def upto {α : Type} (f : Nat → α) (k : Nat) : List α := (List.range k).map f
theorem upto_succ {α : Type} (f : Nat → α) (k : Nat) : upto f (k + 1) = upto f k ++ [f k] := by simp [upto, List.range_succ]
theorem upto_length {α : Type} (f : Nat → α) (k : Nat) : (upto f k).length = k := by simp [upto]
theorem upto_prefix {α : Type} (f : Nat → α) {k n : Nat} (h : k ≤ n) : upto f k <+: upto f n := by
  obtain ⟨m, rfl⟩ := Nat.le.dest h
  induction m with
  | zero => exact List.prefix_refl _
  | succ m ih =>
    rw [← Nat.add_assoc, upto_succ]
    exact (ih (Nat.le_add_right _ _)).trans (List.prefix_append _ _)
theorem upto_next {α : Type} {f : Nat → α} {k n : Nat} {x : α} (h : upto f k ++ [x] <+: upto f n) : k < n ∧ x = f k := by
  have hl := h.length_le
  simp only [List.length_append, upto_length, List.length_cons, List.length_nil] at hl
  refine ⟨by omega, ?_⟩
  have h2 : upto f k ++ [f k] <+: upto f n := by rw [← upto_succ]; exact upto_prefix f (by omega)
  have h3 := (List.prefix_iff_eq_take.1 h).trans ((by simp [upto_length]) : _ = List.take (upto f k ++ [f k]).length (upto f n))
  rw [← List.prefix_iff_eq_take.1 h2] at h3
  simpa using h3

abbrev encN (x : Nat × Int) : Array Value := #[.int .i64 (x.1 : Int), .int .i64 x.2]
abbrev itemN (l : List Int) (k : Nat) : Nat × Int := (k, (l[k]?).getD 0)

theorem Keeps.cellsAt {w w' : World} {C : List Nat} {b : Nat} (h : Keeps w w' C) (hb : b < w.heap.size) (hn : b ∉ C) {o : Nat} {v : Value} (hc : w.cell? ⟨b, o, none⟩ = some v) : w'.cell? ⟨b, o, none⟩ = some v :=
  (h.cell (p := ⟨b, o, none⟩) hb hn).trans hc

abbrev encP (x : Int × Int) : Array Value := #[.int .i64 x.1, .int .i64 x.2]
theorem Turn.below {X : World} {D : Nat} {o o' : Obj} (h : X.heap[D]? = some o) {B : Nat} (hB : B ≤ D) : Below B X (X.putObj D o') :=
  ⟨rfl, rfl, rfl, by simp, fun k hk => World.putObj_heap_other (by omega)⟩

end Go.Proofs.YtcmagccfagijlaaGreat
