/-
  The law on raw dictionaries: for every input it returns true and its argument reads as it read before.
-/
import Derived.Test.YtcmagccfagijlaaGreatDP
import Derived.Test.YtcmagccfagijlaaGreatOpen
namespace Go.Proofs.YtcmagccfagijlaaGreat
set_option linter.unusedVariables false
set_option linter.unusedSimpArgs false
open Go.ChangeShapes Go.WideShapes Go.ChangeAt Go.RowKit Go.Joins

set_option maxRecDepth 100000 in
theorem dictPlain_lifted (os : Os) (started : os.Started) (H : Type) (enc : TypeId × Value → H) :
    ReturnsInHanded {} Tryz.checked os 3 .any (Rows.dictPlainSpec.pre6 enc Tryz.prog Tryz.f3 Rows.dictPlainRow.domain false) (Rows.dictPlainSpec.post enc Tryz.prog Tryz.f3 false true false false) :=
  returnsInHanded_of_change (C := Tryz.checked) Tryz.own started (by kernel_rfl) Tryz.func3
    (ChangeSpec.witness6 (enc := enc) (C := Tryz.checked) false ⟨#[], #[.slice none 0 0], []⟩ 8 (by kernel_rfl) (by kernel_rfl) (by kernel_rfl) (by kernel_rfl))
    (law_contract (C := Tryz.checked) Tryz.laidOut rfl
      (fun ds hd => by
        match ds, hd with
        | [d1], _ => rfl)
      (fun t ht => by
        have : t = 22 := by first | (simpa [Tryz.params3] using ht) | (have h9 := ht; simp [Tryz.params3] at h9; (repeat' (rcases h9 with h9 | h9)) <;> simp)
        rcases this with rfl <;> exact ⟨by kernel_rfl, of_decide_eq_true (by kernel_rfl)⟩)
      (tb := 4) rfl Tryz.underlying4
      (fun W base args ds ps hval0 hA0 hlt hnf => by
        have hval : ∀ (j : Nat) t v, Tryz.f3.params[j]? = some t → args[j]? = some v → Value.okWide Tryz.prog W .any base t v := hval0
        have hA : DataW.TrodAll enc Tryz.prog W 0 (fun _ => true) true Tryz.f3.params.toList args.toList ds ps := hA0
        rw [Tryz.params3] at hA hval
        obtain ⟨v0, d0, rfl, rfl, h0⟩ := trodAll_one hA
        obtain ⟨l, hl, hl'⟩ := open_nums Tryz.underlying22 Tryz.underlying5 (by kernel_rfl) (slice_cells Tryz.underlying22 (hval 0 22 v0 rfl rfl)) h0
        exact law_plain v0 l W hl (fun x hx => u8_bounds (hl' x hx))))

theorem dictPlain_holds : Rows.DictPlainSaid :=
  OpenClaim.holds_of_wide 3 Tryz.f3 rfl rfl rfl rfl rfl rfl rfl ⟨rfl, rfl, rfl, rfl, rfl⟩ rfl rfl rfl rfl rfl (by kernel_rfl) Tryz.func3 (by kernel_rfl)
    (of_decide_eq_true (by kernel_rfl)) (by unfold Func.isWrapper; first | (rw [if_pos (by decide +kernel)]; kernel_rfl) | (rw [if_neg (by decide +kernel)]; exact ⟨rfl, rfl⟩))
    (fun os started H enc _ => dictPlain_lifted os started H enc)

#print axioms dictPlain_holds

end Go.Proofs.YtcmagccfagijlaaGreat
