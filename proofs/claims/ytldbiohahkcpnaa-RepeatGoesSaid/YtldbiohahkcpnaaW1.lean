/-
  Walks over package repeat: the small functions.
-/
import Derived.Test.YtldbiohahkcpnaaRows
import Derived.Test.YtldbiohahkcpnaaBase
namespace Go.Proofs.Ytldbiohahkcpnaa
set_option linter.unusedVariables false
set_option linter.unusedSimpArgs false
set_option linter.unusedSectionVars false
open Go.RowKit

/-- Two arrays of three numbers are equal where their numbers are. -/
@[go_sem] theorem eq_arr3 (a b c x y z : Int) (w : World) : (Op.equalIn 10000 22 (.agg #[.int .i64 a, .int .i64 b, .int .i64 c]) (.agg #[.int .i64 x, .int .i64 y, .int .i64 z])).run Try.prog w = .ok (a == x && (b == y && c == z)) w := by
  rw [show (10000 : Nat) = 9998 + 1 + 1 from rfl, Op.equalIn]
  simp only [Sem.run_bind, Try.runUnderlying22, Result.andThen_ok, Try.sizeOf3]
  cases h1 : (a == x) <;> cases h2 : (b == y) <;> cases h3 : (c == z) <;> simp [Std.Legacy.Range.forIn_eq_forIn_range', Std.Legacy.Range.size, List.range', go_sem, part, h1, h2, h3]

/-- must: the condition holds. -/
theorem must_yes (n : Int) (w : World) : Calls Try.prog 36 #[.bool true, .int .i64 n] w fun e w' => e = .returned (.tuple #[]) ∧ w' = w := by
  go_enter Try.func36, Try.ntmps36
  go_wp2
  go_end0
  exact ⟨rfl, rfl⟩

/-- must: the condition does not hold: it panics with the error. -/
theorem must_no (n : Int) (w : World) : Calls Try.prog 36 #[.bool false, .int .i64 n] w fun e w' => e = .panicked [{ v := .iface 25 (.int .i64 n), recovered := false }] ∧ w' = w := by
  go_enter Try.func36, Try.ntmps36
  go_wp2
  exact ⟨rfl, rfl, rfl⟩

def inW (o : Int) : Bool := decide (1 ≤ o) && decide (o ≤ 134217728)
def rightB (a b c : Int) : Bool := inW a && (inW b && inW c)

theorem inW_true {o : Int} (h1 : 1 ≤ o) (h2 : o ≤ 134217728) : inW o = true := by simp [inW, h1, h2]
theorem inW_lo {o : Int} (h1 : o < 1) : inW o = false := by simp [inW]; omega
theorem inW_hi {o : Int} (h1 : 134217728 < o) : inW o = false := by simp [inW]; omega

set_option maxHeartbeats 1000000 in
/-- right: three numbers. -/
theorem right_any (a b c : Int) (w : World) : Calls Try.prog 37 #[.agg #[.int .i64 a, .int .i64 b, .int .i64 c]] w fun e w' => e = .returned (.bool (rightB a b c)) ∧
    w' = w.alloc (.cells #[.int .i64 a, .int .i64 b, .int .i64 c] 60) := by
  have i0 : ∀ w : World, (Instr.index 60 (.agg #[.int .i64 a, .int .i64 b, .int .i64 c]) (.int .i64 0)).run Try.prog w = .ok (.int .i64 a) w := fun _ => by kernel_rfl
  have i1 : ∀ w : World, (Instr.index 60 (.agg #[.int .i64 a, .int .i64 b, .int .i64 c]) (.int .i64 1)).run Try.prog w = .ok (.int .i64 b) w := fun _ => by kernel_rfl
  have i2 : ∀ w : World, (Instr.index 60 (.agg #[.int .i64 a, .int .i64 b, .int .i64 c]) (.int .i64 2)).run Try.prog w = .ok (.int .i64 c) w := fun _ => by kernel_rfl
  go_enter Try.func37, Try.ntmps37
  go_wp2
  refine wp_loop_rounds 4 ?_
  iterate 4 (all_goals try (rw [rounds_succ]; go_wp2))
  all_goals go_ret
  all_goals refine ⟨?_, rfl⟩
  all_goals simp [rightB, inW]
  all_goals omega

/-- The offset that a code value names, and its place. -/
def toldO (a b c lit v : Int) : Int :=
  if 3 < v then v - 3 else if lit = 0 then (if v = 1 then b else if v = 2 then c else a - 1) else (if v = 1 then a else if v = 2 then b else c)
def toldK (lit v : Int) : Int := if 3 < v then 3 else if lit = 0 then v else v - 1

theorem which_any (w : World) : Calls Try.prog 45 #[] w fun e w' => e = .returned (.agg #[.int .i64 0, .int .i64 1, .int .i64 2, .int .i64 1, .int .i64 2, .int .i64 3]) ∧
    w' = w.alloc (.cells #[.int .i64 0, .int .i64 1, .int .i64 2, .int .i64 1, .int .i64 2, .int .i64 3] 80) := by
  go_enter Try.func45, Try.ntmps45
  go_wp2
  exact bodyPost_ret (v := .agg #[.int .i64 0, .int .i64 1, .int .i64 2, .int .i64 1, .int .i64 2, .int .i64 3]) (by simp [results, Try.results45, go_sem]) rfl ⟨rfl, rfl⟩

end Go.Proofs.Ytldbiohahkcpnaa
