/-
  The laws on flat lengths, costs, Kraft's inequality: for every input each law returns true and each argument reads as it read before.
-/
import Derived.Test.YthjbngnihcmedaaKF
import Derived.Test.YthjbngnihcmedaaOpen
namespace Go.Proofs.Ythjbngnihcmedaa
set_option linter.unusedVariables false
set_option linter.unusedSimpArgs false
open Go.ChangeShapes Go.WideShapes Go.ChangeAt Go.RowKit Go.Joins

set_option maxRecDepth 100000 in
theorem limitFlats_lifted (os : Os) (started : os.Started) (H : Type) (enc : TypeId × Value → H) :
    ReturnsInHanded {} Try.checked os 6 .any (Rows.limitFlatsSpec.pre6 enc Try.prog Try.f6 Rows.limitFlatsRow.domain false) (Rows.limitFlatsSpec.post enc Try.prog Try.f6 false true false false) :=
  returnsInHanded_of_change (C := Try.checked) Try.own started (by kernel_rfl) Try.func6
    (ChangeSpec.witness6 (enc := enc) (C := Try.checked) false ⟨#[], #[.int .i64 0, .int .i64 0], []⟩ 8 (by kernel_rfl) (by kernel_rfl) (by kernel_rfl) (by kernel_rfl))
    (law_contract (C := Try.checked) Try.laidOut rfl
      (fun ds hd => by
        match ds, hd with
        | [d1, d2], _ => rfl)
      (fun t ht => by
        have : t = 3 := by first | (simpa [Try.params6] using ht) | (have h9 := ht; simp [Try.params6] at h9; (repeat' (rcases h9 with h9 | h9)) <;> simp)
        rcases this with rfl <;> exact ⟨by kernel_rfl, of_decide_eq_true (by kernel_rfl)⟩)
      (tb := 4) rfl Try.underlying4
      (fun W base args ds ps hval0 hA0 hlt hnf => by
        have hval : ∀ (j : Nat) t v, Try.f6.params[j]? = some t → args[j]? = some v → Value.okWide Try.prog W .any base t v := hval0
        have hA : DataW.TrodAll enc Try.prog W 0 (fun _ => true) true Try.f6.params.toList args.toList ds ps := hA0
        rw [Try.params6] at hA hval
        obtain ⟨v0, v1, d0, d1, p0, p1, rfl, rfl, rfl, h0, h1⟩ := trodAll_two hA
        obtain ⟨n, rfl, -, -, nw⟩ := open_int Try.underlying3 (hval 0 3 v0 rfl rfl) h0
        obtain ⟨m, rfl, -, -, mw⟩ := open_int Try.underlying3 (hval 1 3 v1 rfl rfl) h1
        exact law_flats n m W))

theorem limitFlats_holds : Rows.LimitFlatsSaid :=
  OpenClaim.holds_of_wide 6 Try.f6 rfl rfl rfl rfl rfl rfl rfl ⟨rfl, rfl, rfl, rfl, rfl⟩ rfl rfl rfl rfl rfl (by kernel_rfl) Try.func6 (by kernel_rfl)
    (of_decide_eq_true (by kernel_rfl)) (by unfold Func.isWrapper; first | (rw [if_pos (by decide +kernel)]; kernel_rfl) | (rw [if_neg (by decide +kernel)]; exact ⟨rfl, rfl⟩))
    (fun os started H enc _ => limitFlats_lifted os started H enc)

#print axioms limitFlats_holds

set_option maxRecDepth 100000 in
theorem limitCosts_lifted (os : Os) (started : os.Started) (H : Type) (enc : TypeId × Value → H) :
    ReturnsInHanded {} Try.checked os 7 .any (Rows.limitCostsSpec.pre6 enc Try.prog Try.f7 Rows.limitCostsRow.domain false) (Rows.limitCostsSpec.post enc Try.prog Try.f7 false true false false) :=
  returnsInHanded_of_change (C := Try.checked) Try.own started (by kernel_rfl) Try.func7
    (ChangeSpec.witness6 (enc := enc) (C := Try.checked) false ⟨#[], #[.slice none 0 0, .slice none 0 0], []⟩ 8 (by kernel_rfl) (by kernel_rfl) (by kernel_rfl) (by kernel_rfl))
    (law_contract (C := Try.checked) Try.laidOut rfl
      (fun ds hd => by
        match ds, hd with
        | [d1, d2], _ => rfl)
      (fun t ht => by
        have : t = 22 := by first | (simpa [Try.params7] using ht) | (have h9 := ht; simp [Try.params7] at h9; (repeat' (rcases h9 with h9 | h9)) <;> simp)
        rcases this with rfl <;> exact ⟨by kernel_rfl, of_decide_eq_true (by kernel_rfl)⟩)
      (tb := 4) rfl Try.underlying4
      (fun W base args ds ps hval0 hA0 hlt hnf => by
        have hval : ∀ (j : Nat) t v, Try.f7.params[j]? = some t → args[j]? = some v → Value.okWide Try.prog W .any base t v := hval0
        have hA : DataW.TrodAll enc Try.prog W 0 (fun _ => true) true Try.f7.params.toList args.toList ds ps := hA0
        rw [Try.params7] at hA hval
        obtain ⟨v0, v1, d0, d1, p0, p1, rfl, rfl, rfl, h0, h1⟩ := trodAll_two hA
        obtain ⟨a, ha, ha'⟩ := open_nums Try.underlying22 Try.underlying3 (by kernel_rfl) (slice_cells Try.underlying22 (hval 0 22 v0 rfl rfl)) h0
        obtain ⟨b, hb, hb'⟩ := open_nums Try.underlying22 Try.underlying3 (by kernel_rfl) (slice_cells Try.underlying22 (hval 1 22 v1 rfl rfl)) h1
        exact law_costs v0 v1 a b W ha hb))

theorem limitCosts_holds : Rows.LimitCostsSaid :=
  OpenClaim.holds_of_wide 7 Try.f7 rfl rfl rfl rfl rfl rfl rfl ⟨rfl, rfl, rfl, rfl, rfl⟩ rfl rfl rfl rfl rfl (by kernel_rfl) Try.func7 (by kernel_rfl)
    (of_decide_eq_true (by kernel_rfl)) (by unfold Func.isWrapper; first | (rw [if_pos (by decide +kernel)]; kernel_rfl) | (rw [if_neg (by decide +kernel)]; exact ⟨rfl, rfl⟩))
    (fun os started H enc _ => limitCosts_lifted os started H enc)

#print axioms limitCosts_holds

set_option maxRecDepth 100000 in
theorem limitFits_lifted (os : Os) (started : os.Started) (H : Type) (enc : TypeId × Value → H) :
    ReturnsInHanded {} Try.checked os 8 .any (Rows.limitFitsSpec.pre6 enc Try.prog Try.f8 Rows.limitFitsRow.domain false) (Rows.limitFitsSpec.post enc Try.prog Try.f8 false true false false) :=
  returnsInHanded_of_change (C := Try.checked) Try.own started (by kernel_rfl) Try.func8
    (ChangeSpec.witness6 (enc := enc) (C := Try.checked) false ⟨#[], #[.slice none 0 0], []⟩ 8 (by kernel_rfl) (by kernel_rfl) (by kernel_rfl) (by kernel_rfl))
    (law_contract (C := Try.checked) Try.laidOut rfl
      (fun ds hd => by
        match ds, hd with
        | [d1], _ => rfl)
      (fun t ht => by
        have : t = 22 := by first | (simpa [Try.params8] using ht) | (have h9 := ht; simp [Try.params8] at h9; (repeat' (rcases h9 with h9 | h9)) <;> simp)
        rcases this with rfl <;> exact ⟨by kernel_rfl, of_decide_eq_true (by kernel_rfl)⟩)
      (tb := 4) rfl Try.underlying4
      (fun W base args ds ps hval0 hA0 hlt hnf => by
        have hval : ∀ (j : Nat) t v, Try.f8.params[j]? = some t → args[j]? = some v → Value.okWide Try.prog W .any base t v := hval0
        have hA : DataW.TrodAll enc Try.prog W 0 (fun _ => true) true Try.f8.params.toList args.toList ds ps := hA0
        rw [Try.params8] at hA hval
        obtain ⟨v0, d0, rfl, rfl, h0⟩ := trodAll_one hA
        obtain ⟨l, hl, hl'⟩ := open_nums Try.underlying22 Try.underlying3 (by kernel_rfl) (slice_cells Try.underlying22 (hval 0 22 v0 rfl rfl)) h0
        exact law_fits v0 l W hl))

theorem limitFits_holds : Rows.LimitFitsSaid :=
  OpenClaim.holds_of_wide 8 Try.f8 rfl rfl rfl rfl rfl rfl rfl ⟨rfl, rfl, rfl, rfl, rfl⟩ rfl rfl rfl rfl rfl (by kernel_rfl) Try.func8 (by kernel_rfl)
    (of_decide_eq_true (by kernel_rfl)) (by unfold Func.isWrapper; first | (rw [if_pos (by decide +kernel)]; kernel_rfl) | (rw [if_neg (by decide +kernel)]; exact ⟨rfl, rfl⟩))
    (fun os started H enc _ => limitFits_lifted os started H enc)

#print axioms limitFits_holds

end Go.Proofs.Ythjbngnihcmedaa
