/-
  Offset equals the reference's: for every input the law returns true and each argument reads as it read before.
-/
import Derived.Test.YtldbiohahkcpnaaR4
import Derived.Test.YtldbiohahkcpnaaOpen
namespace Go.Proofs.Ytldbiohahkcpnaa
set_option linter.unusedVariables false
set_option linter.unusedSimpArgs false
set_option linter.unusedSectionVars false
open Go.ChangeShapes Go.WideShapes Go.ChangeAt Go.RowKit Go.Joins

set_option maxHeartbeats 1000000 in
theorem law_offset (a b c lit len v : Int) (w : World) (hv : v ≤ 9223372036854775807) :
    Calls Try.prog 3 #[.agg #[.int .i64 a, .int .i64 b, .int .i64 c], .agg #[.int .i64 lit, .int .i64 len, .int .i64 v]] w (LawEnd w) := by
  have G1 := Lib.hid fun w => offset_any a b c lit len v w hv
  have G2 := Lib.hid fun w => r_offset_any a b c lit v w hv
  generalize ofO a b c lit v = O at *
  generalize ofB a b c lit v = B' at *
  generalize ofC a b c lit v = C' at *
  generalize ofErr a b c lit v = E at *
  clear hv
  go_enter Try.func3, Try.ntmps3
  go_wp2_with fail
  refine (G1.out _).mono ?_
  rintro e w1 ⟨rfl, kk⟩
  have b1 := ((Blk.new w #[.int .i64 a, .int .i64 b, .int .i64 c] 22).alloc (.cells #[.int .i64 lit, .int .i64 len, .int .i64 v] 24)).keeps kk (by simp)
  have x1 := (Blk.new (w.alloc (.cells #[.int .i64 a, .int .i64 b, .int .i64 c] 22)) #[.int .i64 lit, .int .i64 len, .int .i64 v] 24).keeps kk (by simp)
  have k1 := (((Keeps.refl w []).alloc (.cells #[.int .i64 a, .int .i64 b, .int .i64 c] 22)).alloc (.cells #[.int .i64 lit, .int .i64 len, .int .i64 v] 24)).then kk
  simp only [World.size_alloc] at x1
  clear kk
  obtain ⟨c0, c1, c2, -⟩ := b1.three
  obtain ⟨d0, d1, d2, -⟩ := x1.three
  have hl0 := b1.lt
  have hl1 := x1.lt
  go_wp2_with fail
  refine (G2.out _).mono ?_
  rintro e w2 ⟨rfl, kk⟩
  have t2 := (Blk.new w1 #[.int .i64 O, .int .i64 B', .int .i64 C'] 22).keeps kk (by simp)
  have k2 := (k1.alloc (.cells #[.int .i64 O, .int .i64 B', .int .i64 C'] 22)).then kk
  clear kk b1 x1 k1 c0 c1 c2 d0 d1 d2 hl0 hl1
  obtain ⟨c0, c1, c2, -⟩ := t2.three
  have hl2 := t2.lt
  go_wp2_with (first | (go_at_call 14; go_in) | (go_at_call 15; refine (works_true _).mono ?_; rintro e w3 ⟨rfl, kk⟩))
  go_ret
  exact ⟨rfl, ((k2.alloc _).then kk).below⟩

set_option maxRecDepth 100000 in
theorem repeatOffset_lifted (os : Os) (started : os.Started) (H : Type) (enc : TypeId × Value → H) :
    ReturnsInHanded {} Try.checked os 3 .any (Rows.repeatOffsetSpec.pre6 enc Try.prog Try.f3 Rows.repeatOffsetRow.domain false) (Rows.repeatOffsetSpec.post enc Try.prog Try.f3 false true false false) :=
  returnsInHanded_of_change (C := Try.checked) Try.own started (by kernel_rfl) Try.func3
    (ChangeSpec.witness6 (enc := enc) (C := Try.checked) false ⟨#[], #[.agg #[.int .i64 0, .int .i64 0, .int .i64 0], .agg #[.int .i64 0, .int .i64 0, .int .i64 0]], []⟩ 8 (by kernel_rfl) (by kernel_rfl) (by kernel_rfl) (by kernel_rfl))
    (law_contract (C := Try.checked) Try.laidOut rfl
      (fun ds hd => by
        match ds, hd with
        | [d1, d2], _ => rfl)
      (fun t ht => by
        have : t = 22 ∨ t = 24 := by simpa [Try.params3] using ht
        rcases this with rfl | rfl <;> exact ⟨by kernel_rfl, of_decide_eq_true (by kernel_rfl)⟩)
      (tb := 4) rfl Try.underlying4
      (fun W base args ds ps hval0 hA0 hlt hnf => by
        have hval : ∀ (j : Nat) t v, Try.f3.params[j]? = some t → args[j]? = some v → Value.okWide Try.prog W .any base t v := hval0
        have hA : DataW.TrodAll enc Try.prog W 0 (fun _ => true) true Try.f3.params.toList args.toList ds ps := hA0
        rw [Try.params3] at hA hval
        obtain ⟨v0, v1, d0, d1, p0, p1, rfl, rfl, rfl, h0, h1⟩ := trodAll_two hA
        obtain ⟨a, b, c, rfl, -⟩ := open_arr3 Try.underlying22 Try.underlying3 (by kernel_rfl) (by kernel_rfl) (hval 0 22 v0 rfl rfl) h0
        obtain ⟨lit, len, v, rfl, -, -, hv⟩ := open_str3 Try.underlying24 Try.underlying3 (by kernel_rfl) (by kernel_rfl) rfl rfl rfl rfl rfl rfl (hval 1 24 v1 rfl rfl) h1
        exact law_offset a b c lit len v W (int_bounds hv).2))

theorem repeatOffset_holds : Rows.RepeatOffsetSaid :=
  OpenClaim.holds_of_wide 3 Try.f3 rfl rfl rfl rfl rfl rfl rfl ⟨rfl, rfl, rfl, rfl, rfl⟩ rfl rfl rfl rfl rfl (by kernel_rfl) Try.func3 (by kernel_rfl)
    (of_decide_eq_true (by kernel_rfl)) (by unfold Func.isWrapper; first | (rw [if_pos (by decide +kernel)]; kernel_rfl) | (rw [if_neg (by decide +kernel)]; exact ⟨rfl, rfl⟩))
    (fun os started H enc _ => repeatOffset_lifted os started H enc)

#print axioms repeatOffset_holds

end Go.Proofs.Ytldbiohahkcpnaa
