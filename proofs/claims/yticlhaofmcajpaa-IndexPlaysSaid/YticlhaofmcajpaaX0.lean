/-
  Pieces of a list of lists, one behind the other. No program is in sight here.
-/
import Derived.Test.YticlhaofmcajpaaT10
namespace Go.Proofs.Yticlhaofmcajpaa
set_option linter.unusedVariables false
set_option linter.unusedSimpArgs false

theorem flatten_take_succ {ls : List (List Int)} {i : Nat} {l : List Int} (h : ls[i]? = some l) : (ls.take (i + 1)).flatten = (ls.take i).flatten ++ l := by
  have hlt := (List.getElem?_eq_some_iff.1 h).1
  have he : ls[i] = l := by rw [List.getElem?_eq_getElem hlt] at h; exact Option.some.inj h
  rw [List.take_add_one, h]
  simp
theorem flatten_take_len {ls : List (List Int)} {m : Nat} (h : ∀ l ∈ ls, l.length ≤ m) (i : Nat) : (ls.take i).flatten.length ≤ m * i := by
  induction i with
  | zero => simp
  | succ i ih =>
    cases hx : ls[i]? with
    | none =>
      rw [List.take_of_length_le (by simpa using hx)] at ih
      rw [List.take_of_length_le (by have : ls.length ≤ i := by simpa using hx
                                     omega)]
      exact Nat.le_trans ih (Nat.mul_le_mul_left m (by omega))
    | some l =>
      rw [flatten_take_succ hx, List.length_append, Nat.mul_succ]
      have := h l (List.mem_of_getElem? hx)
      omega

end Go.Proofs.Yticlhaofmcajpaa
