/-
  The law on Unlimited: its walk; the reference's For.
-/
import Derived.Test.YthjbngnihcmedaaKS
import Derived.Test.YthjbngnihcmedaaAp
import Derived.Test.YthjbngnihcmedaaLift
namespace Go.Proofs.Ythjbngnihcmedaa
set_option linter.unusedVariables false
set_option linter.unusedSimpArgs false
set_option linter.unusedSectionVars false
open Go.RowKit

set_option maxHeartbeats 1000000 in
theorem r_for_yes (v1 v2 : Value) (a b : List Int) (w : World) (h1 : RdI .i64 w v1 a) (h2 : RdI .i64 w v2 b) (hl : b.length = a.length) (hn : a.length ≤ 1000000)
    (hs : ∀ (j : Nat) (x y : Int), a[j]? = some x → b[j]? = some y → (0 < y ↔ 0 < x)) :
    Calls Try.prog 21 #[v1, v2] w fun e w' => e = .returned (.bool true) ∧ w = w' := by
  have RA := Lib.hid (fun k => r_at13 v1 a k w h1 hn)
  have RB := Lib.hid (fun k => r_at13 v2 b k w h2 (by omega))
  obtain ⟨A1, n, c1, rfl, hn1, -⟩ := h1.form
  obtain ⟨A2, n2, c2, rfl, hn2, -⟩ := h2.form
  obtain rfl : n2 = n := by omega
  have HN := Lib.hid hn1
  have HN2 := Lib.hid hn2
  have HS := Lib.hid hs
  have hn' : n2 ≤ 1000000 := by omega
  clear h1 h2 hn1 hn2 hl hn hs
  go_enter Try.func21, Try.ntmps21
  go_wp2_with fail
  go_loop [5] (fun i => ∃ k : Nat, k ≤ n2 ∧ i = .int .i64 k) (fun i => n2 - (intOf i).toNat)
  case atStart => exact ⟨0, Nat.zero_le _, rfl⟩
  case round =>
    obtain ⟨k, hk, rfl⟩ := hrel
    by_cases hlt : k < n2
    · obtain ⟨x, hx⟩ : ∃ x, a[k]? = some x := ⟨_, List.getElem?_eq_getElem (by have := HN.out; omega)⟩
      obtain ⟨y, hy⟩ : ∃ y, b[k]? = some y := ⟨_, List.getElem?_eq_getElem (by have := HN2.out; omega)⟩
      have ea : atL a k = x := by simp [atL, hx]
      have eb : atL b k = y := by simp [atL, hy]
      have hsg := HS.out k x y hx hy
      have GA := RA.out k
      have GB := RB.out k
      rw [ea] at GA
      rw [eb] at GB
      have HGA := Lib.hid GA
      have HGB := Lib.hid GB
      have hkn : (k : Int) < (n2 : Int) := by omega
      clear hx hy ea eb GA GB
      by_cases h0 : 0 < x
      · have h1 := hsg.2 h0
        clear hsg
        go_wp2_with fail
        refine HGA.out.mono ?_
        rintro e w' ⟨rfl, hw⟩
        subst w'
        go_wp2_with fail
        refine HGB.out.mono ?_
        rintro e w' ⟨rfl, hw⟩
        subst w'
        go_wp2_with fail
        go_round
        case rel => exact ⟨k + 1, by omega, by go_num⟩
        case measure => simp [intOf]; omega
      · have h1 : ¬ 0 < y := fun h => h0 (hsg.1 h)
        have d1 : decide (0 < x) = false := decide_eq_false h0
        have d2 : decide (0 < y) = false := decide_eq_false h1
        clear hsg
        go_wp2_with fail
        refine HGA.out.mono ?_
        rintro e w' ⟨rfl, hw⟩
        subst w'
        go_wp2_with fail
        refine HGB.out.mono ?_
        rintro e w' ⟨rfl, hw⟩
        subst w'
        go_wp2_with fail
        go_round
        case rel => exact ⟨k + 1, by omega, by go_num⟩
        case measure => simp [intOf]; omega
    · obtain rfl : k = n2 := by omega
      go_wp2_with fail
      go_ret
      exact ⟨rfl, rfl⟩

set_option maxHeartbeats 2000000 in
theorem law_frees (v : Value) (l : List Int) (w : World) (hv : RdI .i64 w v l) : Calls Try.prog 5 #[v] w (LawEnd w) := by
  obtain ⟨A0, n, cp0, rfl, hnl, -⟩ := hv.form
  by_cases hbig : 300 < n
  · clear hv hnl
    have h1 : (300 : Int) < (n : Int) := by omega
    go_enter Try.func5, Try.ntmps5
    go_wp2_with (go_at_call 13; refine (works_true _).mono ?_; rintro e w5 ⟨rfl, kk⟩)
    go_ret
    exact ⟨rfl, kk.below⟩
  have hd : decide ((300 : Int) < (n : Int)) = false := by simp; omega
  have HUN := Lib.hid (unlimited_any _ l w hv (by omega))
  have HFR := Lib.hid (fun w' (k : Keeps w w' []) => r_free _ l w' (hv.keeps k) (by omega))
  have HV := Lib.hid hv
  have HN := Lib.hid hnl
  have hn3 : n ≤ 300 := by omega
  clear hv hnl hbig
  by_cases hE : freeErr l = 0
  · have hr : rightL l = true ∧ 1 < (usedL l).length := by
      unfold freeErr at hE
      split at hE
      · rename_i h
        split at hE
        · rename_i h2
          exact ⟨h, h2⟩
        · simp at hE
      · simp at hE
    obtain ⟨hL, hC, -⟩ := freeOut_best hr.1 hr.2
    rw [hE, if_pos rfl] at HUN HFR
    obtain ⟨O, hO⟩ : ∃ O, O = freeOut l := ⟨_, rfl⟩
    rw [← hO] at HUN hL hC
    have hfit := hL.fits (rightL_iff.1 hr.1).1 (Nat.le_refl _)
    have hce := hL.costErr hr.1 (Nat.le_refl _)
    have hol := hL.len
    have HCO : Hid (∀ vo w', RdI .i64 w' vo O → Keeps w w' [] → Calls Try.prog 18 #[.slice A0 n cp0, vo] w' (RefCost w' (freeCost l) 0)) := fun vo w' h k => by
      have h1 := r_cost _ _ l O w' (HV.out.keeps k) h (by have := HN.out; omega) (by rw [hol]; have := HN.out; omega)
      rw [hce, if_pos rfl, hC] at h1
      exact h1
    have HFI : Hid (∀ vo w', RdI .i64 w' vo O → Calls Try.prog 19 #[vo] w' fun e w'' => e = .returned (.tuple #[.bool true, .bool true]) ∧ w'' = w') := fun vo w' h => by
      have h1 := r_fits vo O w' h (by rw [hol]; have := HN.out; omega)
      rw [hfit.1, hfit.2] at h1
      exact h1
    have HFO : Hid (∀ vo w', RdI .i64 w' vo O → Keeps w w' [] → Calls Try.prog 21 #[.slice A0 n cp0, vo] w' fun e w'' => e = .returned (.bool true) ∧ w' = w'') := fun vo w' h k => r_for_yes _ vo l O w' (HV.out.keeps k) h hol (by have := HN.out; omega) hL.sign
    have HOL := Lib.hid hol
    generalize freeCost l = C at *
    have hcc : (C == C) = true := by simp
    clear hr hL hC hfit hce hol hO hE
    go_enter Try.func5, Try.ntmps5
    go_wp2_with fail
    refine HUN.out.mono ?_
    rintro e w1 ⟨v1, rfl, r1, -, k1⟩
    obtain ⟨a1, n1, c1, rfl, hn1, -⟩ := r1.form
    obtain rfl : n1 = n := by rw [hn1, HOL.out, ← HN.out]
    have R1 := Lib.hid r1
    clear r1 hn1 HUN
    go_wp2_with fail
    refine (HFR.out w1 k1).mono ?_
    rintro e w2 ⟨rfl, k2⟩
    replace k1 := k1.then k2
    replace R1 := Lib.hid (R1.out.keeps k2)
    clear k2 HFR
    go_wp2_with (first | (go_at_call 16; refine (num_any _ _).mono ?_; rintro e w' ⟨rfl, rfl⟩))
    refine (HCO.out _ _ R1.out k1).mono ?_
    rintro e w3 ⟨rfl, m3, rfl⟩
    replace k1 := k1.drewN m3
    replace R1 := Lib.hid (R1.out.drewN m3)
    clear HCO
    generalize World.drewN _ m3 = w3 at *
    go_wp2_with fail
    refine (HFI.out _ _ R1.out).mono ?_
    rintro e w4 ⟨rfl, hw⟩
    subst w4
    go_wp2_with fail
    refine (HFO.out _ _ R1.out k1).mono ?_
    rintro e w4 ⟨rfl, hw⟩
    subst w4
    go_wp2_with (go_at_call 13; refine (works_true _).mono ?_; rintro e w5 ⟨rfl, kk⟩)
    go_ret
    exact ⟨rfl, (k1.then kk).below⟩
  · rw [if_neg hE] at HUN HFR
    generalize freeErr l = E at *
    have hne : (E == 0) = false := by simpa using hE
    have hEE : (E == E) = true := by simp
    go_enter Try.func5, Try.ntmps5
    go_wp2_with fail
    refine HUN.out.mono ?_
    rintro e w1 ⟨v1, rfl, r1, -, k1⟩
    obtain ⟨a1, n1, c1, rfl, hn1, -⟩ := r1.form
    obtain rfl : n1 = 0 := hn1
    clear r1
    go_wp2_with fail
    refine (HFR.out w1 k1).mono ?_
    rintro e w2 ⟨rfl, k2⟩
    go_wp2_with (first | (go_at_call 16; refine (num_any _ _).mono ?_; rintro e w' ⟨rfl, rfl⟩) | (go_at_call 13; refine (works_true _).mono ?_; rintro e w5 ⟨rfl, kk⟩))
    go_ret
    exact ⟨rfl, ((k1.then k2).then kk).below⟩

end Go.Proofs.Ythjbngnihcmedaa
