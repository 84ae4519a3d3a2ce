/-
  The law on every index operation: for every input it returns true and each argument reads as it read before.
-/
import Derived.Test.YticlhaofmcajpaaX6
import Derived.Test.YticlhaofmcajpaaOpen
import Derived.Test.YticlhaofmcajpaaSix
import Derived.Test.YticlhaofmcajpaaOl
namespace Go.Proofs.Yticlhaofmcajpaa
set_option linter.unusedVariables false
set_option linter.unusedSimpArgs false
open Go.ChangeShapes Go.WideShapes Go.ChangeAt Go.RowKit Go.Joins

set_option maxRecDepth 100000 in
theorem indexPlays_lifted (os : Os) (started : os.Started) (H : Type) (enc : TypeId × Value → H) :
    ReturnsInHanded {} Try.checked os 7 .any (Rows.indexPlaysSpec.pre6 enc Try.prog Try.f7 Rows.indexPlaysRow.domain false) (Rows.indexPlaysSpec.post enc Try.prog Try.f7 false true false false) :=
  returnsInHanded_of_change (C := Try.checked) Try.own started (by kernel_rfl) Try.func7
    (ChangeSpec.witness6 (enc := enc) (C := Try.checked) false ⟨#[], #[.int .i64 0, .slice none 0 0, .int .i64 0, .int .i64 0, .slice none 0 0], []⟩ 8 (by kernel_rfl) (by kernel_rfl) (by kernel_rfl) (by kernel_rfl))
    (law_contract (C := Try.checked) Try.laidOut rfl
      (fun ds hd => by
        match ds, hd with
        | [d1, d2, d3, d4, d5], _ => rfl)
      (fun t ht => by
        have : t = 3 ∨ t = 46 ∨ t = 22 := by first | (simpa [Try.params7] using ht) | (have h9 := ht; simp [Try.params7] at h9; (repeat' (rcases h9 with h9 | h9)) <;> simp)
        rcases this with rfl | rfl | rfl <;> exact ⟨by kernel_rfl, of_decide_eq_true (by kernel_rfl)⟩)
      (tb := 4) rfl Try.underlying4
      (fun W base args ds ps hval0 hA0 hlt hnf => by
        have hval : ∀ (j : Nat) t v, Try.f7.params[j]? = some t → args[j]? = some v → Value.okWide Try.prog W .any base t v := hval0
        have hA : DataW.TrodAll enc Try.prog W 0 (fun _ => true) true Try.f7.params.toList args.toList ds ps := hA0
        rw [Try.params7] at hA hval
        obtain ⟨v0, v1, v2, v3, v4, d0, d1, d2, d3, d4, p0, p1, p2, p3, p4, rfl, rfl, rfl, h0, h1, h2, h3, h4⟩ := trodAll_five hA
        obtain ⟨k, rfl, -, -, kw⟩ := open_int Try.underlying3 (hval 0 3 v0 rfl rfl) h0
        obtain ⟨ls, hls, hls'⟩ := open_numsL Try.underlying46 (by kernel_rfl) Try.underlying22 Try.underlying5 (by kernel_rfl) (slice_cells Try.underlying46 (hval 1 46 v1 rfl rfl)) h1
        obtain ⟨a, rfl, -, -, aw⟩ := open_int Try.underlying3 (hval 2 3 v2 rfl rfl) h2
        obtain ⟨t, rfl, -, -, tw⟩ := open_int Try.underlying3 (hval 3 3 v3 rfl rfl) h3
        obtain ⟨kl, hkl, hkl'⟩ := open_nums Try.underlying22 Try.underlying5 (by kernel_rfl) (slice_cells Try.underlying22 (hval 4 22 v4 rfl rfl)) h4
        exact law_plays k ls a t kl v1 v4 W hls (fun l hl x hx => u8_bounds (hls' l hl x hx)) hkl (fun x hx => u8_bounds (hkl' x hx)) (int_bounds kw).1 (int_bounds kw).2))

theorem indexPlays_holds : Rows.IndexPlaysSaid :=
  OpenClaim.holds_of_wide 7 Try.f7 rfl rfl rfl rfl rfl rfl rfl ⟨rfl, rfl, rfl, rfl, rfl⟩ rfl rfl rfl rfl rfl (by kernel_rfl) Try.func7 (by kernel_rfl)
    (of_decide_eq_true (by kernel_rfl)) (by unfold Func.isWrapper; first | (rw [if_pos (by decide +kernel)]; kernel_rfl) | (rw [if_neg (by decide +kernel)]; exact ⟨rfl, rfl⟩))
    (fun os started H enc _ => indexPlays_lifted os started H enc)

#print axioms indexPlays_holds

end Go.Proofs.Yticlhaofmcajpaa
