/-
  The law on clones: for every input it returns true and each argument reads as it read before.
-/
import Derived.Test.YticlhaofmcajpaaX5
import Derived.Test.YticlhaofmcajpaaOpen
import Derived.Test.YticlhaofmcajpaaSix
namespace Go.Proofs.Yticlhaofmcajpaa
set_option linter.unusedVariables false
set_option linter.unusedSimpArgs false
open Go.ChangeShapes Go.WideShapes Go.ChangeAt Go.RowKit Go.Joins

set_option maxRecDepth 100000 in
theorem indexClones_lifted (os : Os) (started : os.Started) (H : Type) (enc : TypeId × Value → H) :
    ReturnsInHanded {} Try.checked os 9 .any (Rows.indexClonesSpec.pre6 enc Try.prog Try.f9 Rows.indexClonesRow.domain false) (Rows.indexClonesSpec.post enc Try.prog Try.f9 false true false false) :=
  returnsInHanded_of_change (C := Try.checked) Try.own started (by kernel_rfl) Try.func9
    (ChangeSpec.witness6 (enc := enc) (C := Try.checked) false ⟨#[], #[.int .i64 0, .slice none 0 0, .slice none 0 0, .slice none 0 0, .int .i64 0, .slice none 0 0], []⟩ 8 (by kernel_rfl) (by kernel_rfl) (by kernel_rfl) (by kernel_rfl))
    (law_contract (C := Try.checked) Try.laidOut rfl
      (fun ds hd => by
        match ds, hd with
        | [d1, d2, d3, d4, d5, d6], _ => rfl)
      (fun t ht => by
        have : t = 3 ∨ t = 22 := by first | (simpa [Try.params9] using ht) | (have h9 := ht; simp [Try.params9] at h9; (repeat' (rcases h9 with h9 | h9)) <;> simp)
        rcases this with rfl | rfl <;> exact ⟨by kernel_rfl, of_decide_eq_true (by kernel_rfl)⟩)
      (tb := 4) rfl Try.underlying4
      (fun W base args ds ps hval0 hA0 hlt hnf => by
        have hval : ∀ (j : Nat) t v, Try.f9.params[j]? = some t → args[j]? = some v → Value.okWide Try.prog W .any base t v := hval0
        have hA : DataW.TrodAll enc Try.prog W 0 (fun _ => true) true Try.f9.params.toList args.toList ds ps := hA0
        rw [Try.params9] at hA hval
        obtain ⟨v0, v1, v2, v3, v4, v5, d0, d1, d2, d3, d4, d5, p0, p1, p2, p3, p4, p5, rfl, rfl, rfl, h0, h1, h2, h3, h4, h5⟩ := trodAll_six hA
        obtain ⟨k, rfl, -, -, kw⟩ := open_int Try.underlying3 (hval 0 3 v0 rfl rfl) h0
        obtain ⟨b, hb, hb'⟩ := open_nums Try.underlying22 Try.underlying5 (by kernel_rfl) (slice_cells Try.underlying22 (hval 1 22 v1 rfl rfl)) h1
        obtain ⟨m, hm, hm'⟩ := open_nums Try.underlying22 Try.underlying5 (by kernel_rfl) (slice_cells Try.underlying22 (hval 2 22 v2 rfl rfl)) h2
        obtain ⟨n, hn, hn'⟩ := open_nums Try.underlying22 Try.underlying5 (by kernel_rfl) (slice_cells Try.underlying22 (hval 3 22 v3 rfl rfl)) h3
        obtain ⟨a, rfl, -, -, aw⟩ := open_int Try.underlying3 (hval 4 3 v4 rfl rfl) h4
        obtain ⟨c, hc, hc'⟩ := open_nums Try.underlying22 Try.underlying5 (by kernel_rfl) (slice_cells Try.underlying22 (hval 5 22 v5 rfl rfl)) h5
        exact law_clones k b m n c a v1 v2 v3 v5 W hb (fun x hx => u8_bounds (hb' x hx)) hm (fun x hx => u8_bounds (hm' x hx)) hn (fun x hx => u8_bounds (hn' x hx)) hc (fun x hx => u8_bounds (hc' x hx))))

theorem indexClones_holds : Rows.IndexClonesSaid :=
  OpenClaim.holds_of_wide 9 Try.f9 rfl rfl rfl rfl rfl rfl rfl ⟨rfl, rfl, rfl, rfl, rfl⟩ rfl rfl rfl rfl rfl (by kernel_rfl) Try.func9 (by kernel_rfl)
    (of_decide_eq_true (by kernel_rfl)) (by unfold Func.isWrapper; first | (rw [if_pos (by decide +kernel)]; kernel_rfl) | (rw [if_neg (by decide +kernel)]; exact ⟨rfl, rfl⟩))
    (fun os started H enc _ => indexClones_lifted os started H enc)

#print axioms indexClones_holds

end Go.Proofs.Yticlhaofmcajpaa
