/-
  A scope in which the run jumps forward to one label: at the jump the code behind the label goes on. No program is in sight here.
-/
import Derived.Test.YticlhaofmcajpaaBase
import Derived.ScopeJumps
import Derived.WalkMore
namespace Go.Proofs.Yticlhaofmcajpaa
set_option linter.unusedVariables false

theorem wp_scope_fwd {P : Program} {a : Act} {w : World} {Q : Exit → Act → World → Prop} {c rest : Code} (l : Nat) (hf : findLabel c l = some rest)
    (h : c.wp P (Exit.jump l (fun a' w' => rest.wp P (Exit.noGoto Q) a' w') Q) a w) : (Code.scope c).wp P Q a w :=
  wp_scope_jumps l (fun a' w' => rest.wp P (Exit.noGoto Q) a' w') (fun _ _ => 0) hf h (fun a' w' hj => wp_mono hj (fun e a2 w2 hq => by
    cases e <;> first | exact hq | exact hq.elim))

end Go.Proofs.Yticlhaofmcajpaa
