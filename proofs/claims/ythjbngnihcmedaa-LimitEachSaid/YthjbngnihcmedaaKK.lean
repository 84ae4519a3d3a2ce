/-
  The law on LengthCounts: for every input it returns true and its arguments read as they read before.
-/
import Derived.Test.YthjbngnihcmedaaKJ
import Derived.Test.YthjbngnihcmedaaOpen
namespace Go.Proofs.Ythjbngnihcmedaa
set_option linter.unusedVariables false
set_option linter.unusedSimpArgs false
open Go.ChangeShapes Go.WideShapes Go.ChangeAt Go.RowKit Go.Joins

set_option maxRecDepth 100000 in
theorem limitEach_lifted (os : Os) (started : os.Started) (H : Type) (enc : TypeId × Value → H) :
    ReturnsInHanded {} Try.checked os 10 .any (Rows.limitEachSpec.pre6 enc Try.prog Try.f10 Rows.limitEachRow.domain false) (Rows.limitEachSpec.post enc Try.prog Try.f10 false true false false) :=
  returnsInHanded_of_change (C := Try.checked) Try.own started (by kernel_rfl) Try.func10
    (ChangeSpec.witness6 (enc := enc) (C := Try.checked) false ⟨#[], #[.slice none 0 0, .int .i64 0], []⟩ 8 (by kernel_rfl) (by kernel_rfl) (by kernel_rfl) (by kernel_rfl))
    (law_contract (C := Try.checked) Try.laidOut rfl
      (fun ds hd => by
        match ds, hd with
        | [d1, d2], _ => rfl)
      (fun t ht => by
        have : t = 22 ∨ t = 3 := by first | (simpa [Try.params10] using ht) | (have h9 := ht; simp [Try.params10] at h9; (repeat' (rcases h9 with h9 | h9)) <;> simp)
        rcases this with rfl | rfl <;> exact ⟨by kernel_rfl, of_decide_eq_true (by kernel_rfl)⟩)
      (tb := 4) rfl Try.underlying4
      (fun W base args ds ps hval0 hA0 hlt hnf => by
        have hval : ∀ (j : Nat) t v, Try.f10.params[j]? = some t → args[j]? = some v → Value.okWide Try.prog W .any base t v := hval0
        have hA : DataW.TrodAll enc Try.prog W 0 (fun _ => true) true Try.f10.params.toList args.toList ds ps := hA0
        rw [Try.params10] at hA hval
        obtain ⟨v0, v1, d0, d1, p0, p1, rfl, rfl, rfl, h0, h1⟩ := trodAll_two hA
        obtain ⟨l, hl, hl'⟩ := open_nums Try.underlying22 Try.underlying3 (by kernel_rfl) (slice_cells Try.underlying22 (hval 0 22 v0 rfl rfl)) h0
        obtain ⟨m, rfl, -, -, mw⟩ := open_int Try.underlying3 (hval 1 3 v1 rfl rfl) h1
        exact law_each l m v0 W hl (int_bounds mw).1 (int_bounds mw).2))

theorem limitEach_holds : Rows.LimitEachSaid :=
  OpenClaim.holds_of_wide 10 Try.f10 rfl rfl rfl rfl rfl rfl rfl ⟨rfl, rfl, rfl, rfl, rfl⟩ rfl rfl rfl rfl rfl (by kernel_rfl) Try.func10 (by kernel_rfl)
    (of_decide_eq_true (by kernel_rfl)) (by unfold Func.isWrapper; first | (rw [if_pos (by decide +kernel)]; kernel_rfl) | (rw [if_neg (by decide +kernel)]; exact ⟨rfl, rfl⟩))
    (fun os started H enc _ => limitEach_lifted os started H enc)

#print axioms limitEach_holds

end Go.Proofs.Ythjbngnihcmedaa
