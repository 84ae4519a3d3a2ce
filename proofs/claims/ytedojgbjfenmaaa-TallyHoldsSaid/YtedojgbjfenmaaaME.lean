/-
  The stage's theorem on histograms and costs: for every input it returns true and each argument reads as it read before.
-/
import Derived.Test.YtedojgbjfenmaaaM5
import Derived.Test.YtedojgbjfenmaaaOpen
import Derived.Test.YtedojgbjfenmaaaSix
namespace Go.Proofs.Ytedojgbjfenmaaa
set_option linter.unusedVariables false
set_option linter.unusedSimpArgs false
open Go.ChangeShapes Go.WideShapes Go.ChangeAt Go.RowKit Go.Joins

set_option maxRecDepth 100000 in
theorem tallyHolds_lifted (os : Os) (started : os.Started) (H : Type) (enc : TypeId × Value → H) :
    ReturnsInHanded {} Try.checked os 11 .any (Rows.tallyHoldsSpec.pre6 enc Try.prog Try.f11 Rows.tallyHoldsRow.domain false) (Rows.tallyHoldsSpec.post enc Try.prog Try.f11 false true false false) :=
  returnsInHanded_of_change (C := Try.checked) Try.own started (by kernel_rfl) Try.func11
    (ChangeSpec.witness6 (enc := enc) (C := Try.checked) false ⟨#[], #[.slice none 0 0, .int .u8 0, .slice none 0 0, .int .u8 0, .int .u8 0, .int .u8 0], []⟩ 8 (by kernel_rfl) (by kernel_rfl) (by kernel_rfl) (by kernel_rfl))
    (law_contract (C := Try.checked) Try.laidOut rfl
      (fun ds hd => by
        match ds, hd with
        | [d1, d2, d3, d4, d5, d6], _ => rfl)
      (fun t ht => by
        have : t = 26 ∨ t = 5 ∨ t = 22 := by first | (simpa [Try.params11] using ht) | (have h9 := ht; simp [Try.params11] at h9; (repeat' (rcases h9 with h9 | h9)) <;> simp)
        rcases this with rfl | rfl | rfl <;> exact ⟨by kernel_rfl, of_decide_eq_true (by kernel_rfl)⟩)
      (tb := 4) rfl Try.underlying4
      (fun W base args ds ps hval0 hA0 hlt hnf => by
        have hval : ∀ (j : Nat) t v, Try.f11.params[j]? = some t → args[j]? = some v → Value.okWide Try.prog W .any base t v := hval0
        have hA : DataW.TrodAll enc Try.prog W 0 (fun _ => true) true Try.f11.params.toList args.toList ds ps := hA0
        rw [Try.params11] at hA hval
        obtain ⟨v0, v1, v2, v3, v4, v5, d0, d1, d2, d3, d4, d5, p0, p1, p2, p3, p4, p5, rfl, rfl, rfl, h0, h1, h2, h3, h4, h5⟩ := trodAll_six hA
        obtain ⟨l, hl, hl'⟩ := open_nums Try.underlying26 Try.underlying3 (by kernel_rfl) (slice_cells Try.underlying26 (hval 0 26 v0 rfl rfl)) h0
        obtain ⟨turn, rfl, -, -, turnw⟩ := open_int Try.underlying5 (hval 1 5 v1 rfl rfl) h1
        obtain ⟨b, hb, hb'⟩ := open_nums Try.underlying22 Try.underlying5 (by kernel_rfl) (slice_cells Try.underlying22 (hval 2 22 v2 rfl rfl)) h2
        obtain ⟨cut, rfl, -, -, cutw⟩ := open_int Try.underlying5 (hval 3 5 v3 rfl rfl) h3
        obtain ⟨x, rfl, -, -, xw⟩ := open_int Try.underlying5 (hval 4 5 v4 rfl rfl) h4
        obtain ⟨y, rfl, -, -, yw⟩ := open_int Try.underlying5 (hval 5 5 v5 rfl rfl) h5
        obtain ⟨a1, b1⟩ := u8_bounds turnw
        obtain ⟨a2, b2⟩ := u8_bounds cutw
        obtain ⟨a3, b3⟩ := u8_bounds xw
        obtain ⟨a4, b4⟩ := u8_bounds yw
        obtain ⟨turn, rfl⟩ := Int.eq_ofNat_of_zero_le a1
        obtain ⟨cut, rfl⟩ := Int.eq_ofNat_of_zero_le a2
        obtain ⟨x, rfl⟩ := Int.eq_ofNat_of_zero_le a3
        obtain ⟨y, rfl⟩ := Int.eq_ofNat_of_zero_le a4
        exact law_holds v0 v2 l b turn cut x y W hl hb (fun x hx => u8_bounds (hb' x hx)) (by omega) (by omega) (by omega) (by omega)))

theorem tallyHolds_holds : Rows.TallyHoldsSaid :=
  OpenClaim.holds_of_wide 11 Try.f11 rfl rfl rfl rfl rfl rfl rfl ⟨rfl, rfl, rfl, rfl, rfl⟩ rfl rfl rfl rfl rfl (by kernel_rfl) Try.func11 (by kernel_rfl)
    (of_decide_eq_true (by kernel_rfl)) (by unfold Func.isWrapper; first | (rw [if_pos (by decide +kernel)]; kernel_rfl) | (rw [if_neg (by decide +kernel)]; exact ⟨rfl, rfl⟩))
    (fun os started H enc _ => tallyHolds_lifted os started H enc)

#print axioms tallyHolds_holds

end Go.Proofs.Ytedojgbjfenmaaa
