/-
  Varints. No program is in sight here.
-/
import Derived.Test.YtcmagccfagijlaaGreatT1
namespace Go.Proofs.YtcmagccfagijlaaGreat
set_option linter.unusedVariables false
set_option linter.unusedSimpArgs false

/-- The bytes of a varint. -/
def varI (n : Nat) : List Int := if h : n < 128 then [(n : Int)] else ((n % 128 + 128 : Nat) : Int) :: varI (n / 128)
termination_by n
decreasing_by omega
theorem varI_small {n : Nat} (h : n < 128) : varI n = [(n : Int)] := by rw [varI, dif_pos h]
theorem varI_step {n : Nat} (h : 128 ≤ n) : varI n = ((n % 128 + 128 : Nat) : Int) :: varI (n / 128) := by rw [varI, dif_neg (by omega)]
theorem varI_pos (n : Nat) : 0 < (varI n).length := by
  rw [varI]; split <;> simp
theorem varI_len (d : Nat) : ∀ n : Nat, n < 128 ^ (d + 1) → (varI n).length ≤ d + 1 := by
  induction d with
  | zero => intro n h; rw [varI_small (by simpa using h)]; simp
  | succ d ih =>
    intro n h
    by_cases hn : n < 128
    · rw [varI_small hn]; simp
    · rw [varI_step (by omega), List.length_cons]
      have := ih (n / 128) (by rw [Nat.pow_succ] at h; omega)
      omega
theorem varI_byte {n : Nat} {x : Int} (h : x ∈ varI n) : 0 ≤ x ∧ x ≤ 255 := by
  induction n using Nat.strongRecOn with
  | _ n ih =>
    by_cases hn : n < 128
    · rw [varI_small hn] at h
      rw [List.mem_singleton.1 h]; omega
    · rw [varI_step (by omega)] at h
      rcases List.mem_cons.1 h with h | h
      · rw [h]; omega
      · exact ih _ (by omega) h

end Go.Proofs.YtcmagccfagijlaaGreat
