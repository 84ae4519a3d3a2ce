/-
  The law on Find and Count: for every input it returns true and each argument reads as it read before.
-/
import Derived.Test.YticlhaofmcajpaaX4
import Derived.Test.YticlhaofmcajpaaOpen
namespace Go.Proofs.Yticlhaofmcajpaa
set_option linter.unusedVariables false
set_option linter.unusedSimpArgs false
open Go.ChangeShapes Go.WideShapes Go.ChangeAt Go.RowKit Go.Joins

set_option maxRecDepth 100000 in
theorem indexFinds_lifted (os : Os) (started : os.Started) (H : Type) (enc : TypeId × Value → H) :
    ReturnsInHanded {} Try.checked os 8 .any (Rows.indexFindsSpec.pre6 enc Try.prog Try.f8 Rows.indexFindsRow.domain false) (Rows.indexFindsSpec.post enc Try.prog Try.f8 false true false false) :=
  returnsInHanded_of_change (C := Try.checked) Try.own started (by kernel_rfl) Try.func8
    (ChangeSpec.witness6 (enc := enc) (C := Try.checked) false ⟨#[], #[.int .i64 0, .slice none 0 0, .slice none 0 0], []⟩ 8 (by kernel_rfl) (by kernel_rfl) (by kernel_rfl) (by kernel_rfl))
    (law_contract (C := Try.checked) Try.laidOut rfl
      (fun ds hd => by
        match ds, hd with
        | [d1, d2, d3], _ => rfl)
      (fun t ht => by
        have : t = 3 ∨ t = 22 := by first | (simpa [Try.params8] using ht) | (have h9 := ht; simp [Try.params8] at h9; (repeat' (rcases h9 with h9 | h9)) <;> simp)
        rcases this with rfl | rfl <;> exact ⟨by kernel_rfl, of_decide_eq_true (by kernel_rfl)⟩)
      (tb := 4) rfl Try.underlying4
      (fun W base args ds ps hval0 hA0 hlt hnf => by
        have hval : ∀ (j : Nat) t v, Try.f8.params[j]? = some t → args[j]? = some v → Value.okWide Try.prog W .any base t v := hval0
        have hA : DataW.TrodAll enc Try.prog W 0 (fun _ => true) true Try.f8.params.toList args.toList ds ps := hA0
        rw [Try.params8] at hA hval
        obtain ⟨v0, v1, v2, d0, d1, d2, p0, p1, p2, rfl, rfl, rfl, h0, h1, h2⟩ := trodAll_three hA
        obtain ⟨k, rfl, -, -, kw⟩ := open_int Try.underlying3 (hval 0 3 v0 rfl rfl) h0
        obtain ⟨b, hb, hb'⟩ := open_nums Try.underlying22 Try.underlying5 (by kernel_rfl) (slice_cells Try.underlying22 (hval 1 22 v1 rfl rfl)) h1
        obtain ⟨m, hm, hm'⟩ := open_nums Try.underlying22 Try.underlying5 (by kernel_rfl) (slice_cells Try.underlying22 (hval 2 22 v2 rfl rfl)) h2
        exact law_finds k b m v1 v2 W hb (fun x hx => u8_bounds (hb' x hx)) hm (fun x hx => u8_bounds (hm' x hx))))

theorem indexFinds_holds : Rows.IndexFindsSaid :=
  OpenClaim.holds_of_wide 8 Try.f8 rfl rfl rfl rfl rfl rfl rfl ⟨rfl, rfl, rfl, rfl, rfl⟩ rfl rfl rfl rfl rfl (by kernel_rfl) Try.func8 (by kernel_rfl)
    (of_decide_eq_true (by kernel_rfl)) (by unfold Func.isWrapper; first | (rw [if_pos (by decide +kernel)]; kernel_rfl) | (rw [if_neg (by decide +kernel)]; exact ⟨rfl, rfl⟩))
    (fun os started H enc _ => indexFinds_lifted os started H enc)

#print axioms indexFinds_holds

end Go.Proofs.Yticlhaofmcajpaa
