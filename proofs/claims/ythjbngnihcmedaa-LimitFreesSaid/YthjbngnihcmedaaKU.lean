/-
  The law on Unlimited: for every input it returns true and its argument reads as it read before.
-/
import Derived.Test.YthjbngnihcmedaaKT
import Derived.Test.YthjbngnihcmedaaOpen
namespace Go.Proofs.Ythjbngnihcmedaa
set_option linter.unusedVariables false
set_option linter.unusedSimpArgs false
open Go.ChangeShapes Go.WideShapes Go.ChangeAt Go.RowKit Go.Joins

set_option maxRecDepth 100000 in
theorem limitFrees_lifted (os : Os) (started : os.Started) (H : Type) (enc : TypeId × Value → H) :
    ReturnsInHanded {} Try.checked os 5 .any (Rows.limitFreesSpec.pre6 enc Try.prog Try.f5 Rows.limitFreesRow.domain false) (Rows.limitFreesSpec.post enc Try.prog Try.f5 false true false false) :=
  returnsInHanded_of_change (C := Try.checked) Try.own started (by kernel_rfl) Try.func5
    (ChangeSpec.witness6 (enc := enc) (C := Try.checked) false ⟨#[], #[.slice none 0 0], []⟩ 8 (by kernel_rfl) (by kernel_rfl) (by kernel_rfl) (by kernel_rfl))
    (law_contract (C := Try.checked) Try.laidOut rfl
      (fun ds hd => by
        match ds, hd with
        | [d1], _ => rfl)
      (fun t ht => by
        have : t = 22 := by first | (simpa [Try.params5] using ht) | (have h9 := ht; simp [Try.params5] at h9; (repeat' (rcases h9 with h9 | h9)) <;> simp)
        rcases this with rfl <;> exact ⟨by kernel_rfl, of_decide_eq_true (by kernel_rfl)⟩)
      (tb := 4) rfl Try.underlying4
      (fun W base args ds ps hval0 hA0 hlt hnf => by
        have hval : ∀ (j : Nat) t v, Try.f5.params[j]? = some t → args[j]? = some v → Value.okWide Try.prog W .any base t v := hval0
        have hA : DataW.TrodAll enc Try.prog W 0 (fun _ => true) true Try.f5.params.toList args.toList ds ps := hA0
        rw [Try.params5] at hA hval
        obtain ⟨v0, d0, rfl, rfl, h0⟩ := trodAll_one hA
        obtain ⟨l, hl, hl'⟩ := open_nums Try.underlying22 Try.underlying3 (by kernel_rfl) (slice_cells Try.underlying22 (hval 0 22 v0 rfl rfl)) h0
        exact law_frees v0 l W hl))

theorem limitFrees_holds : Rows.LimitFreesSaid :=
  OpenClaim.holds_of_wide 5 Try.f5 rfl rfl rfl rfl rfl rfl rfl ⟨rfl, rfl, rfl, rfl, rfl⟩ rfl rfl rfl rfl rfl (by kernel_rfl) Try.func5 (by kernel_rfl)
    (of_decide_eq_true (by kernel_rfl)) (by unfold Func.isWrapper; first | (rw [if_pos (by decide +kernel)]; kernel_rfl) | (rw [if_neg (by decide +kernel)]; exact ⟨rfl, rfl⟩))
    (fun os started H enc _ => limitFrees_lifted os started H enc)

#print axioms limitFrees_holds

end Go.Proofs.Ythjbngnihcmedaa
