/-
  Walks over package repeat: told and what lies above it.
-/
import Derived.Test.YtldbiohahkcpnaaW1
namespace Go.Proofs.Ytldbiohahkcpnaa
set_option linter.unusedVariables false
set_option linter.unusedSimpArgs false
set_option linter.unusedSectionVars false
open Go.RowKit

set_option maxHeartbeats 2000000 in
theorem told_any (s : Nat) (a b c lit v : Int) (w : World) (hs : Blk w s #[.int .i64 a, .int .i64 b, .int .i64 c] 62) (ha : 1 ≤ a) (ha' : a ≤ 134217728) (hv : 1 ≤ v) (hv' : v ≤ 9223372036854775807) :
    Calls Try.prog 43 #[.pointer (some ⟨s, 0, none⟩), .int .i64 lit, .int .i64 v] w fun e w' => e = .returned (.tuple #[.int .i64 (toldO a b c lit v), .int .i64 (toldK lit v)]) ∧ Keeps w w' [] := by
  have g0 : ∀ w : World, (Instr.index 80 (.agg #[.int .i64 0, .int .i64 1, .int .i64 2, .int .i64 1, .int .i64 2, .int .i64 3]) (.int .i64 0)).run Try.prog w = .ok (.agg #[.int .i64 0, .int .i64 1, .int .i64 2]) w := fun _ => by kernel_rfl
  have g1 : ∀ w : World, (Instr.index 80 (.agg #[.int .i64 0, .int .i64 1, .int .i64 2, .int .i64 1, .int .i64 2, .int .i64 3]) (.int .i64 1)).run Try.prog w = .ok (.agg #[.int .i64 1, .int .i64 2, .int .i64 3]) w := fun _ => by kernel_rfl
  obtain ⟨c0, c1, c2, -⟩ := hs.three
  have hlt := hs.lt
  by_cases hb : 3 < v
  · go_enter Try.func43, Try.ntmps43
    go_wp2
    go_ret2
    exact ⟨by simp [toldO, toldK, hb], Keeps.refl _ _⟩
  · have hv3 : v = 1 ∨ v = 2 ∨ v = 3 := by omega
    rcases hv3 with rfl | rfl | rfl <;> by_cases hl : lit = 0
    all_goals
      try subst hl
      go_enter Try.func43, Try.ntmps43
      go_wp2_with (go_at_call 45; refine (which_any _).mono ?_; rintro e w' ⟨rfl, rfl⟩)
      go_ret2
      refine ⟨by simp [toldO, toldK, *], ?_⟩
      repeat' first | with_reducible exact Keeps.refl _ _ | with_reducible refine Keeps.alloc ?_ _ | with_reducible refine Keeps.setCell ?_ (Or.inl (by simp)) _

end Go.Proofs.Ytldbiohahkcpnaa
