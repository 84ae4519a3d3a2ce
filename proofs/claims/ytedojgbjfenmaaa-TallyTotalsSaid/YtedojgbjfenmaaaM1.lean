/-
  The laws on validity, totals, the greatest, logarithms, costs, runs: their walks.
-/
import Derived.Test.YtedojgbjfenmaaaU1
import Derived.Test.YtedojgbjfenmaaaU2
import Derived.Test.YtedojgbjfenmaaaU5
namespace Go.Proofs.Ytedojgbjfenmaaa
set_option linter.unusedVariables false
set_option linter.unusedSimpArgs false
set_option linter.unusedSectionVars false
open Go.RowKit

set_option maxHeartbeats 1000000 in
theorem law_checks (v : Value) (l : List Int) (w : World) (hv : RdI .i64 w v l) :
    Calls Try.prog 5 #[v] w (LawEnd w) := by
  obtain ⟨A0, n, cp0, rfl, hnl, -⟩ := hv.form
  by_cases hbig : 400 < n
  · clear hv hnl
    have h1 : (400 : Int) < (n : Int) := by omega
    go_enter Try.func5, Try.ntmps5
    go_wp2_with (go_at_call 13; refine (works_true _).mono ?_; rintro e w5 ⟨rfl, kk⟩)
    go_ret
    exact ⟨rfl, kk.below⟩
  · have hd : decide ((400 : Int) < (n : Int)) = false := by simp; omega
    have HR := Lib.hid (r_right _ l w hv (by omega))
    have HC := Lib.hid (check_any _ l w hv (by omega))
    clear hv hnl
    cases hr : rightL l
    all_goals
      rw [hr] at HR HC
      simp only [if_true, Bool.false_eq_true, if_false] at HC
      clear hr
      go_enter Try.func5, Try.ntmps5
      go_wp2_with fail
      refine HR.out.mono ?_
      rintro e w1 ⟨rfl, rfl⟩
      go_wp2_with fail
      refine HC.out.mono ?_
      rintro e w2 ⟨rfl, rfl⟩
      go_wp2_with (first | (go_at_call 19; refine (num_any _ _).mono ?_; rintro e w' ⟨rfl, rfl⟩) | (go_at_call 13; refine (works_true _).mono ?_; rintro e w5 ⟨rfl, kk⟩))
      go_ret
      exact ⟨rfl, kk.below⟩

set_option maxHeartbeats 1000000 in
theorem law_totals (v : Value) (l : List Int) (w : World) (hv : RdI .i64 w v l) :
    Calls Try.prog 6 #[v] w (LawEnd w) := by
  obtain ⟨A0, n, cp0, rfl, hnl, -⟩ := hv.form
  by_cases hbig : 400 < n
  · clear hv hnl
    have h1 : (400 : Int) < (n : Int) := by omega
    go_enter Try.func6, Try.ntmps6
    go_wp2_with (go_at_call 13; refine (works_true _).mono ?_; rintro e w5 ⟨rfl, kk⟩)
    go_ret
    exact ⟨rfl, kk.below⟩
  · have hd : decide ((400 : Int) < (n : Int)) = false := by simp; omega
    have HT := Lib.hid (total_call _ l w hv (by omega))
    have HD : Hid (∀ w', Keeps w w' [] → Calls Try.prog 22 #[.slice A0 n cp0] w' fun e w'' => e = .returned (.tuple #[.int .i64 (if rightL l then (usedL l).length else 0), .int .i64 (if rightL l then 0 else 2)]) ∧ Keeps w' w'' []) := fun w' k => distinct_call _ l w' (hv.keeps k) (by omega)
    have HR : Hid (∀ w', Keeps w w' [] → Calls Try.prog 18 #[.slice A0 n cp0] w' fun e w'' => e = .returned (.bool (rightL l)) ∧ w'' = w') := fun w' k => r_right _ l w' (hv.keeps k) (by omega)
    have HU : Hid (∀ w', Keeps w w' [] → Calls Try.prog 25 #[.slice A0 n cp0] w' fun e w'' => e = .returned (.int .i64 (usedL l).length) ∧ w'' = w') := fun w' k => r_used _ l w' (hv.keeps k) (by omega)
    cases hr : rightL l with
    | true =>
      have HRT : Hid (∀ w', Keeps w w' [] → Calls Try.prog 24 #[.slice A0 n cp0] w' fun e w'' => e = .returned (.int .i64 (sumL l)) ∧ w'' = w') := fun w' k => r_total _ l w' (hv.keeps k) hr
      rw [hr] at HT HD HR
      simp only [if_true] at HT HD
      clear hr hv hnl
      generalize sumL l = s at *
      generalize (usedL l).length = u at *
      go_enter Try.func6, Try.ntmps6
      go_wp2_with fail
      refine HT.out.mono ?_
      rintro e w1 ⟨rfl, k1⟩
      go_wp2_with fail
      refine (HD.out _ k1).mono ?_
      rintro e w2 ⟨rfl, k2⟩
      replace k2 := k1.then k2
      clear k1
      go_wp2_with fail
      refine (HR.out _ k2).mono ?_
      rintro e w3 ⟨rfl, rfl⟩
      go_wp2_with fail
      refine (HRT.out _ k2).mono ?_
      rintro e w4 ⟨rfl, rfl⟩
      go_wp2_with fail
      refine (is_yes _ _).mono ?_
      rintro e w5 ⟨rfl, rfl⟩
      go_wp2_with fail
      refine (HU.out _ k2).mono ?_
      rintro e w6 ⟨rfl, rfl⟩
      go_wp2_with (first | (go_at_call 23; refine (is_yes _ _).mono ?_; rintro e w' ⟨rfl, rfl⟩) | (go_at_call 13; refine (works_true _).mono ?_; rintro e w5 ⟨rfl, kk⟩))
      go_ret
      exact ⟨rfl, (k2.then kk).below⟩
    | false =>
      rw [hr] at HT HD HR
      simp only [Bool.false_eq_true, if_false] at HT HD
      clear hr hv hnl HU
      go_enter Try.func6, Try.ntmps6
      go_wp2_with fail
      refine HT.out.mono ?_
      rintro e w1 ⟨rfl, k1⟩
      go_wp2_with fail
      refine (HD.out _ k1).mono ?_
      rintro e w2 ⟨rfl, k2⟩
      replace k2 := k1.then k2
      clear k1
      go_wp2_with fail
      refine (HR.out _ k2).mono ?_
      rintro e w3 ⟨rfl, rfl⟩
      go_wp2_with (first | (go_at_call 19; refine (num_any _ _).mono ?_; rintro e w' ⟨rfl, rfl⟩) | (go_at_call 13; refine (works_true _).mono ?_; rintro e w5 ⟨rfl, kk⟩))
      go_ret
      exact ⟨rfl, (k2.then kk).below⟩

set_option maxHeartbeats 1000000 in
theorem law_greatest (v : Value) (l : List Int) (w : World) (hv : RdI .i64 w v l) :
    Calls Try.prog 7 #[v] w (LawEnd w) := by
  obtain ⟨A0, n, cp0, rfl, hnl, -⟩ := hv.form
  by_cases hbig : 400 < n
  · clear hv hnl
    have h1 : (400 : Int) < (n : Int) := by omega
    go_enter Try.func7, Try.ntmps7
    go_wp2_with (go_at_call 13; refine (works_true _).mono ?_; rintro e w5 ⟨rfl, kk⟩)
    go_ret
    exact ⟨rfl, kk.below⟩
  · have hd : decide ((400 : Int) < (n : Int)) = false := by simp; omega
    have H1 := Lib.hid (most_call _ l w hv (by omega))
    have H2 : Hid (∀ w', Keeps w w' [] → Calls Try.prog 27 #[.slice A0 n cp0] w' (GEnd w' l)) := fun w' k => r_greatest _ l w' (hv.keeps k) (by omega)
    clear hv hnl
    go_enter Try.func7, Try.ntmps7
    go_wp2_with fail
    refine H1.out.mono ?_
    rintro e w1 ⟨rfl, k1⟩
    go_wp2_with fail
    refine (H2.out _ k1).mono ?_
    rintro e w2 ⟨rfl, k2⟩
    replace k2 := k1.then k2
    go_wp2_with (first | (go_at_call 19; refine (num_any _ _).mono ?_; rintro e w' ⟨rfl, rfl⟩) | (go_at_call 13; refine (works_true _).mono ?_; rintro e w5 ⟨rfl, kk⟩))
    go_ret
    exact ⟨rfl, (k2.then kk).below⟩

set_option maxHeartbeats 1000000 in
theorem law_logs (n : Int) (w : World) :
    Calls Try.prog 9 #[.int .i64 n] w (LawEnd w) := by
  by_cases h1 : n < 1
  · have H := Lib.hid (log2_no n w (.inl h1))
    go_enter Try.func9, Try.ntmps9
    go_wp2_with fail
    refine H.out.mono ?_
    rintro e w1 ⟨rfl, rfl⟩
    go_wp2_with (first | (go_at_call 19; refine (num_any _ _).mono ?_; rintro e w' ⟨rfl, rfl⟩) | (go_at_call 13; refine (works_true _).mono ?_; rintro e w5 ⟨rfl, kk⟩))
    go_ret
    exact ⟨rfl, kk.below⟩
  · have hd1 : decide (n < 1) = false := by simpa using h1
    by_cases h2 : 4611686018427387903 < n
    · have H := Lib.hid (log2_no n w (.inr h2))
      go_enter Try.func9, Try.ntmps9
      go_wp2_with fail
      refine H.out.mono ?_
      rintro e w1 ⟨rfl, rfl⟩
      go_wp2_with (first | (go_at_call 19; refine (num_any _ _).mono ?_; rintro e w' ⟨rfl, rfl⟩) | (go_at_call 13; refine (works_true _).mono ?_; rintro e w5 ⟨rfl, kk⟩))
      go_ret
      exact ⟨rfl, kk.below⟩
    · have hd2 : decide (4611686018427387903 < n) = false := by simpa using h2
      have H := Lib.hid (log2_yes n w (by omega) (by omega))
      have H2 : Hid (∀ w', Calls Try.prog 31 #[.int .i64 n] w' fun e w'' => e = .returned (.int .i64 (logI n)) ∧ w'' = w') := fun w' => r_log2 n w' (by omega) (by omega)
      generalize logI n = L at *
      go_enter Try.func9, Try.ntmps9
      go_wp2_with fail
      refine H.out.mono ?_
      rintro e w1 ⟨rfl, rfl⟩
      go_wp2_with fail
      refine (H2.out _).mono ?_
      rintro e w2 ⟨rfl, rfl⟩
      go_wp2_with (first | (go_at_call 23; refine (is_yes _ _).mono ?_; rintro e w' ⟨rfl, rfl⟩) | (go_at_call 13; refine (works_true _).mono ?_; rintro e w5 ⟨rfl, kk⟩))
      go_ret
      exact ⟨rfl, kk.below⟩

set_option maxHeartbeats 1000000 in
theorem law_costs (v : Value) (l : List Int) (w : World) (hv : RdI .i64 w v l) :
    Calls Try.prog 10 #[v] w (LawEnd w) := by
  obtain ⟨A0, n, cp0, rfl, hnl, -⟩ := hv.form
  by_cases hbig : 400 < n
  · clear hv hnl
    have h1 : (400 : Int) < (n : Int) := by omega
    go_enter Try.func10, Try.ntmps10
    go_wp2_with (go_at_call 13; refine (works_true _).mono ?_; rintro e w5 ⟨rfl, kk⟩)
    go_ret
    exact ⟨rfl, kk.below⟩
  · have hd : decide ((400 : Int) < (n : Int)) = false := by simp; omega
    have HT := Lib.hid (cost_call _ l w hv (by omega))
    have HR : Hid (∀ w', Keeps w w' [] → Calls Try.prog 18 #[.slice A0 n cp0] w' fun e w'' => e = .returned (.bool (rightL l)) ∧ w'' = w') := fun w' k => r_right _ l w' (hv.keeps k) (by omega)
    cases hr : rightL l with
    | true =>
      have HRT : Hid (∀ w', Keeps w w' [] → Calls Try.prog 33 #[.slice A0 n cp0] w' fun e w'' => e = .returned (.int .i64 (costL l)) ∧ Keeps w' w'' []) := fun w' k => r_cost _ l w' (hv.keeps k) hr
      rw [hr] at HT HR
      simp only [if_true] at HT
      clear hr hv hnl
      generalize costL l = s at *
      go_enter Try.func10, Try.ntmps10
      go_wp2_with fail
      refine HT.out.mono ?_
      rintro e w1 ⟨rfl, k1⟩
      go_wp2_with fail
      refine (HR.out _ k1).mono ?_
      rintro e w3 ⟨rfl, rfl⟩
      go_wp2_with fail
      refine (HRT.out _ k1).mono ?_
      rintro e w4 ⟨rfl, k2⟩
      replace k2 := k1.then k2
      go_wp2_with (first | (go_at_call 23; refine (is_yes _ _).mono ?_; rintro e w' ⟨rfl, rfl⟩) | (go_at_call 13; refine (works_true _).mono ?_; rintro e w5 ⟨rfl, kk⟩))
      go_ret
      exact ⟨rfl, (k2.then kk).below⟩
    | false =>
      rw [hr] at HT HR
      simp only [Bool.false_eq_true, if_false] at HT
      clear hr hv hnl
      go_enter Try.func10, Try.ntmps10
      go_wp2_with fail
      refine HT.out.mono ?_
      rintro e w1 ⟨rfl, k1⟩
      go_wp2_with fail
      refine (HR.out _ k1).mono ?_
      rintro e w3 ⟨rfl, rfl⟩
      go_wp2_with (first | (go_at_call 19; refine (num_any _ _).mono ?_; rintro e w' ⟨rfl, rfl⟩) | (go_at_call 13; refine (works_true _).mono ?_; rintro e w5 ⟨rfl, kk⟩))
      go_ret
      exact ⟨rfl, (k1.then kk).below⟩

end Go.Proofs.Ytedojgbjfenmaaa
