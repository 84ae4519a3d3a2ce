/-
  Arrays of three numbers are compared.
-/
import Derived.Test.YtcmagccfagijlaaGreatCC0
import Derived.Test.YtcmagccfagijlaaGreatRows
import Derived.ChangeKeysEq
namespace Go.Proofs.YtcmagccfagijlaaGreat
set_option linter.unusedVariables false
set_option linter.unusedSimpArgs false
open Go.RowKit

theorem eq_three (a b c a' b' c' : Int) (w : World) : (Op.equalIn 10000 28 (.agg #[.int .i64 a, .int .i64 b, .int .i64 c]) (.agg #[.int .i64 a', .int .i64 b', .int .i64 c'])).run Tryz.prog w = .ok (a == a' && (b == b' && c == c')) w := by
  obtain ⟨i, hi, -⟩ := info_parts Tryz.infoInt
  rw [show (10000 : Nat) = 9999 + 1 from rfl, run_equalIn_array w 9999 _ _ Tryz.underlying28 hi]
  have hc : Tryz.prog.cellsOf 3 = 1 := by kernel_rfl
  have hp : ∀ (xs : Array Value) (j : Nat) (v : Value), xs[j]? = some v → (part 3 xs j).run Tryz.prog w = .ok v w := fun xs j v h => by
    have ha : (isAgg 3).run Tryz.prog w = .ok false w := by kernel_rfl
    simp [part, Sem.run_bind, ha, h]
  have he : ∀ x y : Int, (Op.equalIn 9999 3 (.int .i64 x) (.int .i64 y)).run Tryz.prog w = .ok (x == y) w := fun x y => by
    rw [show (9999 : Nat) = 9998 + 1 from rfl, Op.equalIn]
    simp [go_sem]
  rw [show List.range 3 = [0, 1, 2] from rfl, hc]
  have h0 := hp #[Value.int .i64 a, .int .i64 b, .int .i64 c] (0 * 1) (.int .i64 a) rfl
  have h1 := hp #[Value.int .i64 a, .int .i64 b, .int .i64 c] (1 * 1) (.int .i64 b) rfl
  have h2 := hp #[Value.int .i64 a, .int .i64 b, .int .i64 c] (2 * 1) (.int .i64 c) rfl
  have h0' := hp #[Value.int .i64 a', .int .i64 b', .int .i64 c'] (0 * 1) (.int .i64 a') rfl
  have h1' := hp #[Value.int .i64 a', .int .i64 b', .int .i64 c'] (1 * 1) (.int .i64 b') rfl
  have h2' := hp #[Value.int .i64 a', .int .i64 b', .int .i64 c'] (2 * 1) (.int .i64 c') rfl
  have heA := he a a'
  have heB := he b b'
  have heC := he c c'
  clear he hp
  generalize (a == a') = A at *
  generalize (b == b') = B at *
  generalize (c == c') = C at *
  simp only [Nat.zero_mul, Nat.mul_one] at h0 h1 h2 h0' h1' h2'
  cases A <;> cases B <;> cases C <;> simp [Op.eqItems, Sem.run_bind, h0, h1, h2, h0', h1', h2', heA, heB, heC]

end Go.Proofs.YtcmagccfagijlaaGreat
