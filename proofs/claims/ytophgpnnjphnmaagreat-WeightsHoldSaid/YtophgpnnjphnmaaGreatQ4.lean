/-
  The length of a number in bits is its logarithm and one more. No program is in sight here.
-/
import Derived.WalkKit
import Derived.Shelf.Small.Bits
namespace Go.Proofs.YtophgpnnjphnmaaGreat
set_option linter.unusedVariables false
set_option linter.unusedSimpArgs false

theorem bitLenAux_log (f n : Nat) (h : n < 2 ^ f) (h0 : 0 < n) : Go.Lib.bitLenAux f n = n.log2 + 1 := by
  induction f generalizing n with
  | zero => omega
  | succ f ih =>
    rw [Go.Lib.bitLenAux, if_neg (by omega)]
    by_cases h2 : n / 2 = 0
    · have : n = 1 := by omega
      subst this
      cases f <;> simp [Go.Lib.bitLenAux, Nat.log2_def]
    · rw [ih (n / 2) (by rw [Nat.pow_succ] at h; omega) (by omega)]
      rw [Nat.log2_def n, if_pos (by omega)]
      omega
theorem bitLen_log {n : Nat} (h0 : 0 < n) (h : n < 18446744073709551616) : Go.Lib.bitLen n = n.log2 + 1 := bitLenAux_log 64 n h h0


end Go.Proofs.YtophgpnnjphnmaaGreat
