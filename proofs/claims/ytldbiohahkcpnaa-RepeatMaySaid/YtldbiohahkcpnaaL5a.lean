/-
  Check: for every input the law returns true and each argument reads as it read before.
-/
import Derived.Test.YtldbiohahkcpnaaR3
import Derived.Test.YtldbiohahkcpnaaOpen
namespace Go.Proofs.Ytldbiohahkcpnaa
set_option linter.unusedVariables false
set_option linter.unusedSimpArgs false
open Go.ChangeShapes Go.WideShapes Go.ChangeAt Go.RowKit Go.Joins

theorem check_any (a b c : Int) (w : World) : Calls Try.prog 20 #[.agg #[.int .i64 a, .int .i64 b, .int .i64 c]] w fun e w' => e = .returned (.int .i64 (if rightB a b c then 0 else 2)) ∧
    w' = (w.alloc (.cells #[.int .i64 a, .int .i64 b, .int .i64 c] 22)).alloc (.cells #[.int .i64 a, .int .i64 b, .int .i64 c] 60) := by
  have G := fun w => right_any a b c w
  generalize rightB a b c = R at *
  have HG := Lib.hid G
  clear G
  cases R
  all_goals
    go_enter Try.func20, Try.ntmps20
    go_wp2_with (go_at_call 37; refine (HG.out _).mono ?_; rintro e w' ⟨rfl, rfl⟩)
    go_ret
    exact ⟨rfl, rfl⟩

end Go.Proofs.Ytldbiohahkcpnaa
