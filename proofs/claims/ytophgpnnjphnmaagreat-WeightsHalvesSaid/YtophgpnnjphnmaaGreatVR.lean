/-
  The laws on the weights of a tree, the tree of weights, the implied weight, descriptions in format 0: for every input each law returns true and its argument reads as it read before.
-/
import Derived.Test.YtophgpnnjphnmaaGreatVQ
import Derived.Test.YtophgpnnjphnmaaGreatOpen
namespace Go.Proofs.YtophgpnnjphnmaaGreat
set_option linter.unusedVariables false
set_option linter.unusedSimpArgs false
open Go.ChangeShapes Go.WideShapes Go.ChangeAt Go.RowKit Go.Joins

set_option maxRecDepth 100000 in
theorem weightsOf_lifted (os : Os) (started : os.Started) (H : Type) (enc : TypeId × Value → H) :
    ReturnsInHanded {} Tryz.checked os 3 .any (Rows.weightsOfSpec.pre6 enc Tryz.prog Tryz.f3 Rows.weightsOfRow.domain false) (Rows.weightsOfSpec.post enc Tryz.prog Tryz.f3 false true false false) :=
  returnsInHanded_of_change (C := Tryz.checked) Tryz.own started (by kernel_rfl) Tryz.func3
    (ChangeSpec.witness6 (enc := enc) (C := Tryz.checked) false ⟨#[], #[.slice none 0 0], []⟩ 8 (by kernel_rfl) (by kernel_rfl) (by kernel_rfl) (by kernel_rfl))
    (law_contract (C := Tryz.checked) Tryz.laidOut rfl
      (fun ds hd => by
        match ds, hd with
        | [d1], _ => rfl)
      (fun t ht => by
        have : t = 22 := by first | (simpa [Tryz.params3] using ht) | (have h9 := ht; simp [Tryz.params3] at h9; (repeat' (rcases h9 with h9 | h9)) <;> simp)
        rcases this with rfl <;> exact ⟨by kernel_rfl, of_decide_eq_true (by kernel_rfl)⟩)
      (tb := 4) rfl Tryz.underlying4
      (fun W base args ds ps hval0 hA0 hlt hnf => by
        have hval : ∀ (j : Nat) t v, Tryz.f3.params[j]? = some t → args[j]? = some v → Value.okWide Tryz.prog W .any base t v := hval0
        have hA : DataW.TrodAll enc Tryz.prog W 0 (fun _ => true) true Tryz.f3.params.toList args.toList ds ps := hA0
        rw [Tryz.params3] at hA hval
        obtain ⟨v0, d0, rfl, rfl, h0⟩ := trodAll_one hA
        obtain ⟨l, hl, hl'⟩ := open_nums Tryz.underlying22 Tryz.underlying3 (by kernel_rfl) (slice_cells Tryz.underlying22 (hval 0 22 v0 rfl rfl)) h0
        exact law_of v0 l W hl))

theorem weightsOf_holds : Rows.WeightsOfSaid :=
  OpenClaim.holds_of_wide 3 Tryz.f3 rfl rfl rfl rfl rfl rfl rfl ⟨rfl, rfl, rfl, rfl, rfl⟩ rfl rfl rfl rfl rfl (by kernel_rfl) Tryz.func3 (by kernel_rfl)
    (of_decide_eq_true (by kernel_rfl)) (by unfold Func.isWrapper; first | (rw [if_pos (by decide +kernel)]; kernel_rfl) | (rw [if_neg (by decide +kernel)]; exact ⟨rfl, rfl⟩))
    (fun os started H enc _ => weightsOf_lifted os started H enc)

#print axioms weightsOf_holds

set_option maxRecDepth 100000 in
theorem weightsTree_lifted (os : Os) (started : os.Started) (H : Type) (enc : TypeId × Value → H) :
    ReturnsInHanded {} Tryz.checked os 4 .any (Rows.weightsTreeSpec.pre6 enc Tryz.prog Tryz.f4 Rows.weightsTreeRow.domain false) (Rows.weightsTreeSpec.post enc Tryz.prog Tryz.f4 false true false false) :=
  returnsInHanded_of_change (C := Tryz.checked) Tryz.own started (by kernel_rfl) Tryz.func4
    (ChangeSpec.witness6 (enc := enc) (C := Tryz.checked) false ⟨#[], #[.slice none 0 0], []⟩ 8 (by kernel_rfl) (by kernel_rfl) (by kernel_rfl) (by kernel_rfl))
    (law_contract (C := Tryz.checked) Tryz.laidOut rfl
      (fun ds hd => by
        match ds, hd with
        | [d1], _ => rfl)
      (fun t ht => by
        have : t = 22 := by first | (simpa [Tryz.params4] using ht) | (have h9 := ht; simp [Tryz.params4] at h9; (repeat' (rcases h9 with h9 | h9)) <;> simp)
        rcases this with rfl <;> exact ⟨by kernel_rfl, of_decide_eq_true (by kernel_rfl)⟩)
      (tb := 4) rfl Tryz.underlying4
      (fun W base args ds ps hval0 hA0 hlt hnf => by
        have hval : ∀ (j : Nat) t v, Tryz.f4.params[j]? = some t → args[j]? = some v → Value.okWide Tryz.prog W .any base t v := hval0
        have hA : DataW.TrodAll enc Tryz.prog W 0 (fun _ => true) true Tryz.f4.params.toList args.toList ds ps := hA0
        rw [Tryz.params4] at hA hval
        obtain ⟨v0, d0, rfl, rfl, h0⟩ := trodAll_one hA
        obtain ⟨l, hl, hl'⟩ := open_nums Tryz.underlying22 Tryz.underlying3 (by kernel_rfl) (slice_cells Tryz.underlying22 (hval 0 22 v0 rfl rfl)) h0
        exact law_tree v0 l W hl))

theorem weightsTree_holds : Rows.WeightsTreeSaid :=
  OpenClaim.holds_of_wide 4 Tryz.f4 rfl rfl rfl rfl rfl rfl rfl ⟨rfl, rfl, rfl, rfl, rfl⟩ rfl rfl rfl rfl rfl (by kernel_rfl) Tryz.func4 (by kernel_rfl)
    (of_decide_eq_true (by kernel_rfl)) (by unfold Func.isWrapper; first | (rw [if_pos (by decide +kernel)]; kernel_rfl) | (rw [if_neg (by decide +kernel)]; exact ⟨rfl, rfl⟩))
    (fun os started H enc _ => weightsTree_lifted os started H enc)

#print axioms weightsTree_holds

set_option maxRecDepth 100000 in
theorem weightsLast_lifted (os : Os) (started : os.Started) (H : Type) (enc : TypeId × Value → H) :
    ReturnsInHanded {} Tryz.checked os 5 .any (Rows.weightsLastSpec.pre6 enc Tryz.prog Tryz.f5 Rows.weightsLastRow.domain false) (Rows.weightsLastSpec.post enc Tryz.prog Tryz.f5 false true false false) :=
  returnsInHanded_of_change (C := Tryz.checked) Tryz.own started (by kernel_rfl) Tryz.func5
    (ChangeSpec.witness6 (enc := enc) (C := Tryz.checked) false ⟨#[], #[.slice none 0 0], []⟩ 8 (by kernel_rfl) (by kernel_rfl) (by kernel_rfl) (by kernel_rfl))
    (law_contract (C := Tryz.checked) Tryz.laidOut rfl
      (fun ds hd => by
        match ds, hd with
        | [d1], _ => rfl)
      (fun t ht => by
        have : t = 22 := by first | (simpa [Tryz.params5] using ht) | (have h9 := ht; simp [Tryz.params5] at h9; (repeat' (rcases h9 with h9 | h9)) <;> simp)
        rcases this with rfl <;> exact ⟨by kernel_rfl, of_decide_eq_true (by kernel_rfl)⟩)
      (tb := 4) rfl Tryz.underlying4
      (fun W base args ds ps hval0 hA0 hlt hnf => by
        have hval : ∀ (j : Nat) t v, Tryz.f5.params[j]? = some t → args[j]? = some v → Value.okWide Tryz.prog W .any base t v := hval0
        have hA : DataW.TrodAll enc Tryz.prog W 0 (fun _ => true) true Tryz.f5.params.toList args.toList ds ps := hA0
        rw [Tryz.params5] at hA hval
        obtain ⟨v0, d0, rfl, rfl, h0⟩ := trodAll_one hA
        obtain ⟨l, hl, hl'⟩ := open_nums Tryz.underlying22 Tryz.underlying3 (by kernel_rfl) (slice_cells Tryz.underlying22 (hval 0 22 v0 rfl rfl)) h0
        exact law_last v0 l W hl))

theorem weightsLast_holds : Rows.WeightsLastSaid :=
  OpenClaim.holds_of_wide 5 Tryz.f5 rfl rfl rfl rfl rfl rfl rfl ⟨rfl, rfl, rfl, rfl, rfl⟩ rfl rfl rfl rfl rfl (by kernel_rfl) Tryz.func5 (by kernel_rfl)
    (of_decide_eq_true (by kernel_rfl)) (by unfold Func.isWrapper; first | (rw [if_pos (by decide +kernel)]; kernel_rfl) | (rw [if_neg (by decide +kernel)]; exact ⟨rfl, rfl⟩))
    (fun os started H enc _ => weightsLast_lifted os started H enc)

#print axioms weightsLast_holds

set_option maxRecDepth 100000 in
theorem weightsHalves_lifted (os : Os) (started : os.Started) (H : Type) (enc : TypeId × Value → H) :
    ReturnsInHanded {} Tryz.checked os 6 .any (Rows.weightsHalvesSpec.pre6 enc Tryz.prog Tryz.f6 Rows.weightsHalvesRow.domain false) (Rows.weightsHalvesSpec.post enc Tryz.prog Tryz.f6 false true false false) :=
  returnsInHanded_of_change (C := Tryz.checked) Tryz.own started (by kernel_rfl) Tryz.func6
    (ChangeSpec.witness6 (enc := enc) (C := Tryz.checked) false ⟨#[], #[.slice none 0 0], []⟩ 8 (by kernel_rfl) (by kernel_rfl) (by kernel_rfl) (by kernel_rfl))
    (law_contract (C := Tryz.checked) Tryz.laidOut rfl
      (fun ds hd => by
        match ds, hd with
        | [d1], _ => rfl)
      (fun t ht => by
        have : t = 22 := by first | (simpa [Tryz.params6] using ht) | (have h9 := ht; simp [Tryz.params6] at h9; (repeat' (rcases h9 with h9 | h9)) <;> simp)
        rcases this with rfl <;> exact ⟨by kernel_rfl, of_decide_eq_true (by kernel_rfl)⟩)
      (tb := 4) rfl Tryz.underlying4
      (fun W base args ds ps hval0 hA0 hlt hnf => by
        have hval : ∀ (j : Nat) t v, Tryz.f6.params[j]? = some t → args[j]? = some v → Value.okWide Tryz.prog W .any base t v := hval0
        have hA : DataW.TrodAll enc Tryz.prog W 0 (fun _ => true) true Tryz.f6.params.toList args.toList ds ps := hA0
        rw [Tryz.params6] at hA hval
        obtain ⟨v0, d0, rfl, rfl, h0⟩ := trodAll_one hA
        obtain ⟨l, hl, hl'⟩ := open_nums Tryz.underlying22 Tryz.underlying3 (by kernel_rfl) (slice_cells Tryz.underlying22 (hval 0 22 v0 rfl rfl)) h0
        exact law_halves v0 l W hl))

theorem weightsHalves_holds : Rows.WeightsHalvesSaid :=
  OpenClaim.holds_of_wide 6 Tryz.f6 rfl rfl rfl rfl rfl rfl rfl ⟨rfl, rfl, rfl, rfl, rfl⟩ rfl rfl rfl rfl rfl (by kernel_rfl) Tryz.func6 (by kernel_rfl)
    (of_decide_eq_true (by kernel_rfl)) (by unfold Func.isWrapper; first | (rw [if_pos (by decide +kernel)]; kernel_rfl) | (rw [if_neg (by decide +kernel)]; exact ⟨rfl, rfl⟩))
    (fun os started H enc _ => weightsHalves_lifted os started H enc)

#print axioms weightsHalves_holds

end Go.Proofs.YtophgpnnjphnmaaGreat
