/-
  The comparison of a pair with itself.
-/
import Derived.Test.YtedojgbjfenmaaaBase
import Derived.Test.YtedojgbjfenmaaaRows
import Derived.ChangeKeysEq
namespace Go.Proofs.Ytedojgbjfenmaaa
set_option linter.unusedVariables false
set_option linter.unusedSimpArgs false
open Go.RowKit

theorem Try.infoIntN : ∃ i, Try.prog.info? 3 = some i := ⟨_, rfl⟩
/-- A pair is itself. -/
theorem neq_pair (a b : Int) (w : World) : (Go.binOp .neq 56 (.agg #[.int .i64 a, .int .i64 b]) (.agg #[.int .i64 a, .int .i64 b])).run Try.prog w = .ok (.bool false) w := by
  obtain ⟨i, hi⟩ := Try.infoIntN
  have e : (Op.equalIn 10000 56 (.agg #[.int .i64 a, .int .i64 b]) (.agg #[.int .i64 a, .int .i64 b])).run Try.prog w = .ok true w := by
    rw [show (10000 : Nat) = 9999 + 1 from rfl, run_equalIn_array w 9999 _ _ Try.underlying56 hi]
    have hc : Try.prog.cellsOf 3 = 1 := by kernel_rfl
    have hp : ∀ (xs : Array Value) (j : Nat) (v : Value), xs[j]? = some v → (part 3 xs j).run Try.prog w = .ok v w := fun xs j v h => by
      have ha : (isAgg 3).run Try.prog w = .ok false w := by kernel_rfl
      simp [part, Sem.run_bind, ha, h]
    have he : ∀ x : Int, (Op.equalIn 9999 3 (.int .i64 x) (.int .i64 x)).run Try.prog w = .ok true w := fun x => by
      rw [show (9999 : Nat) = 9998 + 1 from rfl, Op.equalIn]
      simp [go_sem]
    rw [show List.range 2 = [0, 1] from rfl, hc]
    have h0 := hp #[Value.int .i64 a, .int .i64 b] (0 * 1) (.int .i64 a) rfl
    have h1 := hp #[Value.int .i64 a, .int .i64 b] (1 * 1) (.int .i64 b) rfl
    simp only [Op.eqItems, Sem.run_bind, h0, h1, he, Result.andThen_ok, Bool.not_true, Bool.false_eq_true, if_false, Sem.run_pure]
  simp only [Go.binOp, Op.equal, Op.maxDepth, Sem.run_bind, e, Result.andThen_ok]
  simp

end Go.Proofs.Ytedojgbjfenmaaa
