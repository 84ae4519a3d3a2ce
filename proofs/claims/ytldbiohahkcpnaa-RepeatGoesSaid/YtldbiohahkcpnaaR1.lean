/-
  Walks over the reference of package repeat: Right, told, Offset, Value.
-/
import Derived.Test.YtldbiohahkcpnaaW8
namespace Go.Proofs.Ytldbiohahkcpnaa
set_option linter.unusedVariables false
set_option linter.unusedSimpArgs false
set_option linter.unusedSectionVars false
open Go.RowKit

theorem r_within (o : Int) (w : World) : Calls Try.prog 30 #[.int .i64 o] w fun e w' => e = .returned (.bool (inW o)) ∧ w' = w := by
  by_cases h1 : 1 ≤ o
  · by_cases h2 : o ≤ 134217728
    · go_enter Try.func30, Try.ntmps30
      go_wp2
      go_ret
      exact ⟨by simp [inW, h1, h2], rfl⟩
    · have hd : decide (o ≤ 134217728) = false := by simpa using h2
      go_enter Try.func30, Try.ntmps30
      go_wp2
      go_ret
      exact ⟨by simp [inW]; omega, rfl⟩
  · have hd : decide (1 ≤ o) = false := by simpa using h1
    go_enter Try.func30, Try.ntmps30
    go_wp2
    go_ret
    exact ⟨by simp [inW]; omega, rfl⟩

theorem r_right (a b c : Int) (w : World) : Calls Try.prog 21 #[.agg #[.int .i64 a, .int .i64 b, .int .i64 c]] w fun e w' => e = .returned (.bool (rightB a b c)) ∧
    w' = w.alloc (.cells #[.int .i64 a, .int .i64 b, .int .i64 c] 22) := by
  have HA := r_within a
  have HB := r_within b
  have HC := r_within c
  cases h1 : inW a <;> cases h2 : inW b <;> cases h3 : inW c
  all_goals
    rw [h1] at HA
    rw [h2] at HB
    rw [h3] at HC
    have HA' := Lib.hid HA
    have HB' := Lib.hid HB
    have HC' := Lib.hid HC
    have h1' := Lib.hid h1
    have h2' := Lib.hid h2
    have h3' := Lib.hid h3
    clear h1 h2 h3 HA HB HC
    go_enter Try.func21, Try.ntmps21
    go_wp2_with fail
    refine (HA'.out _).mono ?_
    rintro e w' ⟨rfl, rfl⟩
    go_wp2_with fail
    try
      refine (HB'.out _).mono ?_
      rintro e w' ⟨rfl, rfl⟩
      go_wp2_with fail
    try
      refine (HC'.out _).mono ?_
      rintro e w' ⟨rfl, rfl⟩
      go_wp2_with fail
    go_ret
    exact ⟨by simp [rightB, h1'.out, h2'.out, h3'.out], rfl⟩

theorem r_told (a b c lit v : Int) (w : World) (ha : 1 ≤ a) (ha' : a ≤ 134217728) (hv : 1 ≤ v) (hv' : v ≤ 9223372036854775807) :
    Calls Try.prog 29 #[.agg #[.int .i64 a, .int .i64 b, .int .i64 c], .int .i64 lit, .int .i64 v] w fun e w' => e = .returned (.tuple #[.int .i64 (toldO a b c lit v), .int .i64 (toldK lit v)]) ∧
    w' = w.alloc (.cells #[.int .i64 a, .int .i64 b, .int .i64 c] 22) := by
  by_cases hb : 3 < v
  · go_enter Try.func29, Try.ntmps29
    go_wp2
    go_ret2
    exact ⟨by simp [toldO, toldK, hb], rfl⟩
  · have hv3 : v = 1 ∨ v = 2 ∨ v = 3 := by omega
    rcases hv3 with rfl | rfl | rfl <;> by_cases hl : lit = 0
    all_goals
      try subst hl
      go_enter Try.func29, Try.ntmps29
      go_wp2
      go_ret2
      exact ⟨by simp [toldO, toldK, *], rfl⟩

set_option maxHeartbeats 1000000 in
theorem r_offset_fine (a b c lit v : Int) (w : World) (hv' : v ≤ 9223372036854775807) (h : ofFine a b c lit v = true) :
    Calls Try.prog 13 #[.agg #[.int .i64 a, .int .i64 b, .int .i64 c], .int .i64 lit, .int .i64 v] w fun e w' =>
      e = .returned (.tuple #[.int .i64 (toldO a b c lit v), .agg #[.int .i64 (toldO a b c lit v), .int .i64 (updB a b (toldK lit v)), .int .i64 (updC b c (toldK lit v))], .int .i64 0]) ∧ Keeps w w' [] := by
  simp only [ofFine, Bool.and_eq_true, decide_eq_true_eq] at h
  obtain ⟨hr, hl, hv, ho⟩ := h
  obtain ⟨ha, ha'⟩ := rightB_lo hr
  have HR := Lib.hid hr
  have HO := Lib.hid ho
  have hkr := toldK_range lit v hv
  have h0 : toldK lit v = 0 → toldO a b c lit v = a := by
    unfold toldK toldO
    intro hk
    by_cases h3 : 3 < v
    · simp [h3] at hk
    · simp only [h3, if_false] at hk ⊢
      by_cases hl0 : lit = 0
      · simp [hl0] at hk; omega
      · simp only [hl0, if_false] at hk ⊢
        rw [if_pos (by omega)]
  have h1 : toldK lit v = 1 → toldO a b c lit v = b := by
    unfold toldK toldO
    intro hk
    by_cases h3 : 3 < v
    · simp [h3] at hk
    · simp only [h3, if_false] at hk ⊢
      by_cases hl0 : lit = 0
      · simp [hl0] at hk; simp [hl0, hk]
      · simp only [hl0, if_false] at hk ⊢
        rw [if_neg (by omega), if_pos (by omega)]
  have HT : Hid (∀ w : World, _) := fun w => r_told a b c lit v w ha ha' hv hv'
  have H0 := Lib.hid h0
  have H1 := Lib.hid h1
  clear hr ho h0 h1
  generalize toldO a b c lit v = O at *
  generalize toldK lit v = K at *
  have kk : ∀ w : World, Keeps w w [] := fun w => Keeps.refl w _
  rcases hkr with rfl | rfl | rfl | rfl
  all_goals
    go_enter Try.func13, Try.ntmps13
    go_wp2_with fail
    refine (r_right a b c _).mono ?_
    rw [HR.out]
    rintro e w' ⟨rfl, rfl⟩
    go_wp2_with fail
    refine (HT.out _).mono ?_
    rintro e w' ⟨rfl, rfl⟩
    go_wp2_with fail
    refine (r_within O _).mono ?_
    rw [HO.out]
    rintro e w' ⟨rfl, rfl⟩
    go_wp2_with fail
    go_region
    go_wp2_with fail
  · have e0 := H0.out
    have e1 := H1.out
    simp at e0 e1
    refine bodyPost_ret (v := .tuple #[.int .i64 O, .agg #[.int .i64 O, .int .i64 (updB a b 0), .int .i64 (updC b c 0)], .int .i64 0]) (by simp only [results, Try.results13]; go_simp; simp [updB, updC]) rfl ⟨rfl, ?_⟩
    repeat' first | with_reducible exact Keeps.refl _ _ | with_reducible refine Keeps.drew ?_ | with_reducible refine Keeps.alloc ?_ _ | with_reducible refine Keeps.setCell' (.inl (by simp)) ?_
  · have e0 := H0.out
    have e1 := H1.out
    simp at e0 e1
    refine bodyPost_ret (v := .tuple #[.int .i64 O, .agg #[.int .i64 O, .int .i64 (updB a b 1), .int .i64 (updC b c 1)], .int .i64 0]) (by simp only [results, Try.results13]; go_simp; simp [updB, updC]) rfl ⟨rfl, ?_⟩
    repeat' first | with_reducible exact Keeps.refl _ _ | with_reducible refine Keeps.drew ?_ | with_reducible refine Keeps.alloc ?_ _ | with_reducible refine Keeps.setCell' (.inl (by simp)) ?_
  · have e0 := H0.out
    have e1 := H1.out
    simp at e0 e1
    refine bodyPost_ret (v := .tuple #[.int .i64 O, .agg #[.int .i64 O, .int .i64 (updB a b 2), .int .i64 (updC b c 2)], .int .i64 0]) (by simp only [results, Try.results13]; go_simp; simp [updB, updC]) rfl ⟨rfl, ?_⟩
    repeat' first | with_reducible exact Keeps.refl _ _ | with_reducible refine Keeps.drew ?_ | with_reducible refine Keeps.alloc ?_ _ | with_reducible refine Keeps.setCell' (.inl (by simp)) ?_
  · have e0 := H0.out
    have e1 := H1.out
    simp at e0 e1
    refine bodyPost_ret (v := .tuple #[.int .i64 O, .agg #[.int .i64 O, .int .i64 (updB a b 3), .int .i64 (updC b c 3)], .int .i64 0]) (by simp only [results, Try.results13]; go_simp; simp [updB, updC]) rfl ⟨rfl, ?_⟩
    repeat' first | with_reducible exact Keeps.refl _ _ | with_reducible refine Keeps.drew ?_ | with_reducible refine Keeps.alloc ?_ _ | with_reducible refine Keeps.setCell' (.inl (by simp)) ?_

set_option maxHeartbeats 1000000 in
theorem r_offset_not (a b c lit v : Int) (w : World) (hv' : v ≤ 9223372036854775807) (h : ofFine a b c lit v = false) :
    Calls Try.prog 13 #[.agg #[.int .i64 a, .int .i64 b, .int .i64 c], .int .i64 lit, .int .i64 v] w fun e w' =>
      e = .returned (.tuple #[.int .i64 0, .agg #[.int .i64 0, .int .i64 0, .int .i64 0], .int .i64 (ofErr a b c lit v)]) ∧ Keeps w w' [] := by
  cases hr : rightB a b c with
  | false =>
    have HR := Lib.hid hr
    have he : ofErr a b c lit v = 2 := by simp [ofErr, hr]
    rw [he]
    clear hr h he
    go_enter Try.func13, Try.ntmps13
    go_wp2_with fail
    refine (r_right a b c _).mono ?_
    rw [HR.out]
    rintro e w' ⟨rfl, rfl⟩
    go_wp2_with fail
    refine bodyPost_ret (v := .tuple #[.int .i64 0, .agg #[.int .i64 0, .int .i64 0, .int .i64 0], .int .i64 2]) (by simp only [results, Try.results13]; go_simp) rfl ⟨rfl, ?_⟩
    repeat' first | with_reducible exact Keeps.refl _ _ | with_reducible refine Keeps.drew ?_ | with_reducible refine Keeps.alloc ?_ _ | with_reducible refine Keeps.setCell' (.inl (by simp)) ?_
  | true =>
    obtain ⟨ha, ha'⟩ := rightB_lo hr
    have HR := Lib.hid hr
    by_cases hl : 0 ≤ lit
    · have he : ofErr a b c lit v = 15 := by
        simp only [ofFine, hr, hl, decide_true, Bool.true_and] at h
        simp [ofErr, hr, hl]
        simpa [decide_eq_true_eq] using h
      rw [he]
      by_cases hv : 1 ≤ v
      · have ho : inW (toldO a b c lit v) = false := by simpa [ofFine, hr, hl, hv] using h
        have HO := Lib.hid ho
        have HT : Hid (∀ w : World, _) := fun w => r_told a b c lit v w ha ha' hv hv'
        clear hr h he ho
        generalize toldO a b c lit v = O at *
        go_enter Try.func13, Try.ntmps13
        go_wp2_with fail
        refine (r_right a b c _).mono ?_
        rw [HR.out]
        rintro e w' ⟨rfl, rfl⟩
        go_wp2_with fail
        refine (HT.out _).mono ?_
        rintro e w' ⟨rfl, rfl⟩
        go_wp2_with fail
        refine (r_within O _).mono ?_
        rw [HO.out]
        rintro e w' ⟨rfl, rfl⟩
        go_wp2_with fail
        refine bodyPost_ret (v := .tuple #[.int .i64 0, .agg #[.int .i64 0, .int .i64 0, .int .i64 0], .int .i64 15]) (by simp only [results, Try.results13]; go_simp) rfl ⟨rfl, ?_⟩
        repeat' first | with_reducible exact Keeps.refl _ _ | with_reducible refine Keeps.drew ?_ | with_reducible refine Keeps.alloc ?_ _ | with_reducible refine Keeps.setCell' (.inl (by simp)) ?_
      · have hd : v < 1 := by omega
        clear hr h he hv
        go_enter Try.func13, Try.ntmps13
        go_wp2_with fail
        refine (r_right a b c _).mono ?_
        rw [HR.out]
        rintro e w' ⟨rfl, rfl⟩
        go_wp2_with fail
        refine bodyPost_ret (v := .tuple #[.int .i64 0, .agg #[.int .i64 0, .int .i64 0, .int .i64 0], .int .i64 15]) (by simp only [results, Try.results13]; go_simp) rfl ⟨rfl, ?_⟩
        repeat' first | with_reducible exact Keeps.refl _ _ | with_reducible refine Keeps.drew ?_ | with_reducible refine Keeps.alloc ?_ _ | with_reducible refine Keeps.setCell' (.inl (by simp)) ?_
    · have he : ofErr a b c lit v = 2 := by simp [ofErr, hl]
      rw [he]
      have hd : lit < 0 := by omega
      clear hr h he hl
      go_enter Try.func13, Try.ntmps13
      go_wp2_with fail
      refine (r_right a b c _).mono ?_
      rw [HR.out]
      rintro e w' ⟨rfl, rfl⟩
      go_wp2_with fail
      refine bodyPost_ret (v := .tuple #[.int .i64 0, .agg #[.int .i64 0, .int .i64 0, .int .i64 0], .int .i64 2]) (by simp only [results, Try.results13]; go_simp) rfl ⟨rfl, ?_⟩
      repeat' first | with_reducible exact Keeps.refl _ _ | with_reducible refine Keeps.drew ?_ | with_reducible refine Keeps.alloc ?_ _ | with_reducible refine Keeps.setCell' (.inl (by simp)) ?_

end Go.Proofs.Ytldbiohahkcpnaa
