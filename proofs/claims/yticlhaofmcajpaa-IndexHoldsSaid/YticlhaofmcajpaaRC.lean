/-
  A result of type bool that lies in a cell; a function value is not nil.
-/
import Derived.Test.YticlhaofmcajpaaRF
import Derived.Test.YticlhaofmcajpaaRows
namespace Go.Proofs.Yticlhaofmcajpaa
set_option linter.unusedVariables false
set_option linter.unusedSimpArgs false
open Go.RowKit

theorem Try.loadBool (w : World) (a : Addr) (b : Bool) (h : w.cell? a = some (.bool b)) : (loadVar 4 a).run Try.prog w = .ok (.bool b) w := by
  go_simp

/-- A contract from a body that holds ranges over functions, the plain walk. -/
theorem calls_of_marks {P : Program} {f : FuncId} {fn : Func} {c : Code} {args : Array Value} {w : World} {R : Ending → World → Prop} (hf : P.funcs[f]? = some fn) (hb : fn.body = some c)
    (h : c.wp P (bodyPostM Fence.wide 9 P fn R) { tmps := args ++ Array.replicate (fn.ntmps - args.size) undef, defers := [] } w) : Calls P f args w R :=
  callsIn_wide.1 (callsIn_of_wp_marks hf hb trivial (wpIn_wide.2 h) rfl)

theorem res_cell {fn : Func} {p : Tmp} {T : TypeId} (h : fn.results = #[.cell p T]) {tmps : Array Value} {P : Program} {w : World} {a : Addr} {v : Value} (ht : tmps.getD p undef = .pointer (some a)) (hl : (loadVar T a).run P w = .ok v w) :
    (results fn tmps).run P w = .ok v w := by
  simp only [results, h]
  have ht' : tmps[p]?.getD undef = .pointer (some a) := by simpa using ht
  simp [Sem.run_bind, Result.andThen, ht', asAddr, hl]

end Go.Proofs.Yticlhaofmcajpaa
