/-
  The stage's theorem on limited code lengths: for every input it returns true and its arguments read as they read before.
-/
import Derived.Test.YthjbngnihcmedaaKV
import Derived.Test.YthjbngnihcmedaaOpen
namespace Go.Proofs.Ythjbngnihcmedaa
set_option linter.unusedVariables false
set_option linter.unusedSimpArgs false
open Go.ChangeShapes Go.WideShapes Go.ChangeAt Go.RowKit Go.Joins

theorem u8_bounds {x : Int} (h : (Lit.int .u8 x).wf = true) : 0 ≤ x ∧ x ≤ 255 := by
  simp [Lit.wf, IntKind.min, IntKind.max, IntKind.signed, IntKind.bits] at h
  omega

set_option maxRecDepth 100000 in
theorem limitHolds_lifted (os : Os) (started : os.Started) (H : Type) (enc : TypeId × Value → H) :
    ReturnsInHanded {} Try.checked os 9 .any (Rows.limitHoldsSpec.pre6 enc Try.prog Try.f9 Rows.limitHoldsRow.domain false) (Rows.limitHoldsSpec.post enc Try.prog Try.f9 false true false false) :=
  returnsInHanded_of_change (C := Try.checked) Try.own started (by kernel_rfl) Try.func9
    (ChangeSpec.witness6 (enc := enc) (C := Try.checked) false ⟨#[], #[.slice none 0 0, .int .i64 0, .int .u8 0], []⟩ 8 (by kernel_rfl) (by kernel_rfl) (by kernel_rfl) (by kernel_rfl))
    (law_contract (C := Try.checked) Try.laidOut rfl
      (fun ds hd => by
        match ds, hd with
        | [d1, d2, d3], _ => rfl)
      (fun t ht => by
        have : t = 22 ∨ t = 3 ∨ t = 5 := by first | (simpa [Try.params9] using ht) | (have h9 := ht; simp [Try.params9] at h9; (repeat' (rcases h9 with h9 | h9)) <;> simp)
        rcases this with rfl | rfl | rfl <;> exact ⟨by kernel_rfl, of_decide_eq_true (by kernel_rfl)⟩)
      (tb := 4) rfl Try.underlying4
      (fun W base args ds ps hval0 hA0 hlt hnf => by
        have hval : ∀ (j : Nat) t v, Try.f9.params[j]? = some t → args[j]? = some v → Value.okWide Try.prog W .any base t v := hval0
        have hA : DataW.TrodAll enc Try.prog W 0 (fun _ => true) true Try.f9.params.toList args.toList ds ps := hA0
        rw [Try.params9] at hA hval
        obtain ⟨v0, v1, v2, d0, d1, d2, p0, p1, p2, rfl, rfl, rfl, h0, h1, h2⟩ := trodAll_three hA
        obtain ⟨l, hl, hl'⟩ := open_nums Try.underlying22 Try.underlying3 (by kernel_rfl) (slice_cells Try.underlying22 (hval 0 22 v0 rfl rfl)) h0
        obtain ⟨m, rfl, -, -, mw⟩ := open_int Try.underlying3 (hval 1 3 v1 rfl rfl) h1
        obtain ⟨t, rfl, -, -, tw⟩ := open_int Try.underlying5 (hval 2 5 v2 rfl rfl) h2
        exact law_holds v0 l m t W hl (u8_bounds tw).1 (u8_bounds tw).2))

theorem limitHolds_holds : Rows.LimitHoldsSaid :=
  OpenClaim.holds_of_wide 9 Try.f9 rfl rfl rfl rfl rfl rfl rfl ⟨rfl, rfl, rfl, rfl, rfl⟩ rfl rfl rfl rfl rfl (by kernel_rfl) Try.func9 (by kernel_rfl)
    (of_decide_eq_true (by kernel_rfl)) (by unfold Func.isWrapper; first | (rw [if_pos (by decide +kernel)]; kernel_rfl) | (rw [if_neg (by decide +kernel)]; exact ⟨rfl, rfl⟩))
    (fun os started H enc _ => limitHolds_lifted os started H enc)

#print axioms limitHolds_holds

end Go.Proofs.Ythjbngnihcmedaa
