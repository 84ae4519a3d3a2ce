/-
  An update puts the used offset first and keeps the order of the others: for every input the law returns true and each argument reads as it read before.
-/
import Derived.Test.YtldbiohahkcpnaaR4
import Derived.Test.YtldbiohahkcpnaaOpen
import Derived.Test.YtldbiohahkcpnaaL5a
namespace Go.Proofs.Ytldbiohahkcpnaa
set_option linter.unusedVariables false
set_option linter.unusedSimpArgs false
open Go.ChangeShapes Go.WideShapes Go.ChangeAt Go.RowKit Go.Joins

set_option maxHeartbeats 4000000 in
theorem law_order (a b c lit len v : Int) (w : World) (hv : v ≤ 9223372036854775807) :
    Calls Try.prog 8 #[.agg #[.int .i64 a, .int .i64 b, .int .i64 c], .agg #[.int .i64 lit, .int .i64 len, .int .i64 v]] w (LawEnd w) := by
  cases hf : ofFine a b c lit v with
  | false =>
    have G1 := fun w => offset_not a b c lit len v w hv hf
    have hne : (ofErr a b c lit v == 0) = false := by
      simp only [ofErr]
      split
      · rename_i h1
        simp only [Bool.and_eq_true, decide_eq_true_eq] at h1
        have : (decide (1 ≤ v) && inW (toldO a b c lit v)) = false := by simpa [ofFine, h1.1, h1.2] using hf
        simp [this]
      · simp
    have hne' : (ofErr a b c lit v != 0) = true := by simpa using hne
    generalize ofErr a b c lit v = E at *
    replace G1 := Lib.hid G1
    clear hf hv
    go_enter Try.func8, Try.ntmps8
    go_wp2_with fail
    refine (G1.out _).mono ?_
    rintro e w1 ⟨rfl, kk⟩
    have k1 := (((Keeps.refl w []).alloc (.cells #[.int .i64 a, .int .i64 b, .int .i64 c] 22)).alloc (.cells #[.int .i64 lit, .int .i64 len, .int .i64 v] 24)).then kk
    clear kk
    go_wp2_with (first | (go_at_call 14; go_in) | (go_at_call 15; refine (works_true _).mono ?_; rintro e w3 ⟨rfl, kk⟩))
    go_ret
    exact ⟨rfl, ((k1.alloc _).then kk).below⟩
  | true =>
    have G1 := fun w => offset_fine a b c lit len v w hv hf
    simp only [ofFine, Bool.and_eq_true, decide_eq_true_eq] at hf
    obtain ⟨hr, hl, hv1, ho⟩ := hf
    have G2 := fun w => check_any (toldO a b c lit v) (updB a b (toldK lit v)) (updC b c (toldK lit v)) w
    rw [upd_right hr ho] at G2
    simp only [if_true] at G2
    have hkr := toldK_range lit v hv1
    generalize toldO a b c lit v = O at *
    generalize toldK lit v = K at *
    have hxy : (updB a b K = b ∧ updC b c K = c) ∨ (updB a b K = a ∧ updC b c K = c) ∨ (updB a b K = a ∧ updC b c K = b) := by
      rcases hkr with rfl | rfl | rfl | rfl <;> simp [updB, updC]
    generalize updB a b K = X at *
    generalize updC b c K = Y at *
    replace G1 := Lib.hid G1
    replace G2 := Lib.hid G2
    clear hr ho hkr hv
    rcases hxy with ⟨rfl, rfl⟩ | ⟨rfl, rfl⟩ | ⟨rfl, rfl⟩
    all_goals
      go_enter Try.func8, Try.ntmps8
      go_wp2_with fail
      refine (G1.out _).mono ?_
      rintro e w1 ⟨rfl, kk⟩
      have hb := Blk.keeps (Blk.alloc (Blk.new w _ 22) _) kk (by simp)
      have k1 : Keeps w w1 [] := Keeps.then (((Keeps.refl w []).alloc _).alloc _) kk
      clear kk
      obtain ⟨c0, c1, c2, -⟩ := hb.three
      have hlt := hb.lt
      go_wp2_with (go_at_call 14; go_in)
      refine wp_loop_rounds 3 ?_
      iterate 12 (all_goals try (first
        | (refine wp_loop_rounds 4 ?_; rw [rounds_succ]; go_wp2_with (first | (go_at_call 14; go_in) | (go_at_call 20; refine (G2.out _).mono ?_; rintro e w' ⟨rfl, rfl⟩) | (go_at_call 15; refine (works_true _).mono ?_; rintro e w5 ⟨rfl, kk⟩)))
        | (rw [rounds_succ]; go_wp2_with (first | (go_at_call 14; go_in) | (go_at_call 20; refine (G2.out _).mono ?_; rintro e w' ⟨rfl, rfl⟩) | (go_at_call 15; refine (works_true _).mono ?_; rintro e w5 ⟨rfl, kk⟩)))
        | (go_quiet (fail); go_wp2_with (first | (go_at_call 14; go_in) | (go_at_call 20; refine (G2.out _).mono ?_; rintro e w' ⟨rfl, rfl⟩) | (go_at_call 15; refine (works_true _).mono ?_; rintro e w5 ⟨rfl, kk⟩)))))
      all_goals
        go_ret
        refine ⟨rfl, Keeps.below (Keeps.then ?_ kk)⟩
        repeat' first | with_reducible exact k1 | with_reducible refine Keeps.drewN ?_ _ | with_reducible refine Keeps.drew ?_ | with_reducible refine Keeps.alloc ?_ _

set_option maxRecDepth 100000 in
theorem repeatOrder_lifted (os : Os) (started : os.Started) (H : Type) (enc : TypeId × Value → H) :
    ReturnsInHanded {} Try.checked os 8 .any (Rows.repeatOrderSpec.pre6 enc Try.prog Try.f8 Rows.repeatOrderRow.domain false) (Rows.repeatOrderSpec.post enc Try.prog Try.f8 false true false false) :=
  returnsInHanded_of_change (C := Try.checked) Try.own started (by kernel_rfl) Try.func8
    (ChangeSpec.witness6 (enc := enc) (C := Try.checked) false ⟨#[], #[.agg #[.int .i64 0, .int .i64 0, .int .i64 0], .agg #[.int .i64 0, .int .i64 0, .int .i64 0]], []⟩ 8 (by kernel_rfl) (by kernel_rfl) (by kernel_rfl) (by kernel_rfl))
    (law_contract (C := Try.checked) Try.laidOut rfl
      (fun ds hd => by
        match ds, hd with
        | [d1, d2], _ => rfl)
      (fun t ht => by
        have : t = 22 ∨ t = 24 := by simpa [Try.params8] using ht
        rcases this with rfl | rfl <;> exact ⟨by kernel_rfl, of_decide_eq_true (by kernel_rfl)⟩)
      (tb := 4) rfl Try.underlying4
      (fun W base args ds ps hval0 hA0 hlt hnf => by
        have hval : ∀ (j : Nat) t v, Try.f8.params[j]? = some t → args[j]? = some v → Value.okWide Try.prog W .any base t v := hval0
        have hA : DataW.TrodAll enc Try.prog W 0 (fun _ => true) true Try.f8.params.toList args.toList ds ps := hA0
        rw [Try.params8] at hA hval
        obtain ⟨v0, v1, d0, d1, p0, p1, rfl, rfl, rfl, h0, h1⟩ := trodAll_two hA
        obtain ⟨a, b, c, rfl, -⟩ := open_arr3 Try.underlying22 Try.underlying3 (by kernel_rfl) (by kernel_rfl) (hval 0 22 v0 rfl rfl) h0
        obtain ⟨lit, len, v, rfl, -, -, hv⟩ := open_str3 Try.underlying24 Try.underlying3 (by kernel_rfl) (by kernel_rfl) rfl rfl rfl rfl rfl rfl (hval 1 24 v1 rfl rfl) h1
        exact law_order a b c lit len v W (int_bounds hv).2))

theorem repeatOrder_holds : Rows.RepeatOrderSaid :=
  OpenClaim.holds_of_wide 8 Try.f8 rfl rfl rfl rfl rfl rfl rfl ⟨rfl, rfl, rfl, rfl, rfl⟩ rfl rfl rfl rfl rfl (by kernel_rfl) Try.func8 (by kernel_rfl)
    (of_decide_eq_true (by kernel_rfl)) (by unfold Func.isWrapper; first | (rw [if_pos (by decide +kernel)]; kernel_rfl) | (rw [if_neg (by decide +kernel)]; exact ⟨rfl, rfl⟩))
    (fun os started H enc _ => repeatOrder_lifted os started H enc)

#print axioms repeatOrder_holds

end Go.Proofs.Ytldbiohahkcpnaa
