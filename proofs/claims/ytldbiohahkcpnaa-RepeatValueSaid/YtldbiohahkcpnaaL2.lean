/-
  Value equals the reference's: for every input the law returns true and each argument reads as it read before.
-/
import Derived.Test.YtldbiohahkcpnaaR4
import Derived.Test.YtldbiohahkcpnaaOpen
namespace Go.Proofs.Ytldbiohahkcpnaa
set_option linter.unusedVariables false
set_option linter.unusedSimpArgs false
open Go.ChangeShapes Go.WideShapes Go.ChangeAt Go.RowKit Go.Joins

set_option maxHeartbeats 1000000 in
theorem law_value (a b c lit len v : Int) (w : World) :
    Calls Try.prog 4 #[.agg #[.int .i64 a, .int .i64 b, .int .i64 c], .agg #[.int .i64 lit, .int .i64 len, .int .i64 v]] w (LawEnd w) := by
  have G1 := Lib.hid fun w => value_any a b c lit len v w
  have G2 := Lib.hid fun w => r_value_any a b c lit v w
  generalize vfV a b c lit v = V at *
  generalize vfA a b c lit v = O at *
  generalize vfB a b c lit v = B' at *
  generalize vfC a b c lit v = C' at *
  generalize vfE a b c lit v = E at *
  go_enter Try.func4, Try.ntmps4
  go_wp2_with fail
  refine (G1.out _).mono ?_
  rintro e w1 ⟨rfl, kk⟩
  have b1 := ((Blk.new w #[.int .i64 a, .int .i64 b, .int .i64 c] 22).alloc (.cells #[.int .i64 lit, .int .i64 len, .int .i64 v] 34)).keeps kk (by simp)
  have x1 := (Blk.new (w.alloc (.cells #[.int .i64 a, .int .i64 b, .int .i64 c] 22)) #[.int .i64 lit, .int .i64 len, .int .i64 v] 34).keeps kk (by simp)
  have k1 := (((Keeps.refl w []).alloc (.cells #[.int .i64 a, .int .i64 b, .int .i64 c] 22)).alloc (.cells #[.int .i64 lit, .int .i64 len, .int .i64 v] 34)).then kk
  simp only [World.size_alloc] at x1
  clear kk
  obtain ⟨c0, c1, c2, -⟩ := b1.three
  obtain ⟨d0, d1, d2, -⟩ := x1.three
  have hl0 := b1.lt
  have hl1 := x1.lt
  go_wp2_with fail
  refine (G2.out _).mono ?_
  rintro e w2 ⟨rfl, kk⟩
  have t2 := (Blk.new w1 #[.int .i64 O, .int .i64 B', .int .i64 C'] 22).keeps kk (by simp)
  have k2 := (k1.alloc (.cells #[.int .i64 O, .int .i64 B', .int .i64 C'] 22)).then kk
  clear kk b1 x1 k1 c0 c1 c2 d0 d1 d2 hl0 hl1
  obtain ⟨c0, c1, c2, -⟩ := t2.three
  have hl2 := t2.lt
  go_wp2_with (first | (go_at_call 14; go_in) | (go_at_call 15; refine (works_true _).mono ?_; rintro e w3 ⟨rfl, kk⟩))
  go_ret
  exact ⟨rfl, ((k2.alloc _).then kk).below⟩

set_option maxRecDepth 100000 in
theorem repeatValue_lifted (os : Os) (started : os.Started) (H : Type) (enc : TypeId × Value → H) :
    ReturnsInHanded {} Try.checked os 4 .any (Rows.repeatValueSpec.pre6 enc Try.prog Try.f4 Rows.repeatValueRow.domain false) (Rows.repeatValueSpec.post enc Try.prog Try.f4 false true false false) :=
  returnsInHanded_of_change (C := Try.checked) Try.own started (by kernel_rfl) Try.func4
    (ChangeSpec.witness6 (enc := enc) (C := Try.checked) false ⟨#[], #[.agg #[.int .i64 0, .int .i64 0, .int .i64 0], .agg #[.int .i64 0, .int .i64 0, .int .i64 0]], []⟩ 8 (by kernel_rfl) (by kernel_rfl) (by kernel_rfl) (by kernel_rfl))
    (law_contract (C := Try.checked) Try.laidOut rfl
      (fun ds hd => by
        match ds, hd with
        | [d1, d2], _ => rfl)
      (fun t ht => by
        have : t = 22 ∨ t = 34 := by simpa [Try.params4] using ht
        rcases this with rfl | rfl <;> exact ⟨by kernel_rfl, of_decide_eq_true (by kernel_rfl)⟩)
      (tb := 4) rfl Try.underlying4
      (fun W base args ds ps hval0 hA0 hlt hnf => by
        have hval : ∀ (j : Nat) t v, Try.f4.params[j]? = some t → args[j]? = some v → Value.okWide Try.prog W .any base t v := hval0
        have hA : DataW.TrodAll enc Try.prog W 0 (fun _ => true) true Try.f4.params.toList args.toList ds ps := hA0
        rw [Try.params4] at hA hval
        obtain ⟨v0, v1, d0, d1, p0, p1, rfl, rfl, rfl, h0, h1⟩ := trodAll_two hA
        obtain ⟨a, b, c, rfl, -⟩ := open_arr3 Try.underlying22 Try.underlying3 (by kernel_rfl) (by kernel_rfl) (hval 0 22 v0 rfl rfl) h0
        obtain ⟨lit, len, v, rfl, -, -, -⟩ := open_str3 Try.underlying34 Try.underlying3 (by kernel_rfl) (by kernel_rfl) rfl rfl rfl rfl rfl rfl (hval 1 34 v1 rfl rfl) h1
        exact law_value a b c lit len v W))

theorem repeatValue_holds : Rows.RepeatValueSaid :=
  OpenClaim.holds_of_wide 4 Try.f4 rfl rfl rfl rfl rfl rfl rfl ⟨rfl, rfl, rfl, rfl, rfl⟩ rfl rfl rfl rfl rfl (by kernel_rfl) Try.func4 (by kernel_rfl)
    (of_decide_eq_true (by kernel_rfl)) (by unfold Func.isWrapper; first | (rw [if_pos (by decide +kernel)]; kernel_rfl) | (rw [if_neg (by decide +kernel)]; exact ⟨rfl, rfl⟩))
    (fun os started H enc _ => repeatValue_lifted os started H enc)

#print axioms repeatValue_holds

end Go.Proofs.Ytldbiohahkcpnaa
