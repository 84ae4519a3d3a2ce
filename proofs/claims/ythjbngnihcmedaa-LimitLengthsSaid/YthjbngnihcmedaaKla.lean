/-
  The law on Lengths: its walk.
-/
import Derived.Test.YthjbngnihcmedaaKZ
import Derived.Deep.DeepCutAuto
import Derived.Deep.CutRange
namespace Go.Proofs.Ythjbngnihcmedaa
set_option linter.unusedVariables false
set_option linter.unusedSimpArgs false
set_option linter.unusedSectionVars false
open Go.RowKit

theorem r_least (v : Value) (l : List Int) (m : Int) (w : World) (hv : RdI .i64 w v l) (hn : l.length ≤ 1000000) :
    Calls Try.prog 15 #[v, .int .i64 m] w (LeastEnd w (if limErr l m = 0 then costOut l (limOut l m) else 0) (limErr l m)) := by
  by_cases hE : limErr l m = 0
  · rw [if_pos hE, hE]
    obtain ⟨hr, hm1, hm2, hu, hle⟩ := limErr_iff hE
    obtain ⟨M, rfl⟩ := Int.eq_ofNat_of_zero_le (show 0 ≤ m by omega)
    exact r_least_fine v l M w hv hE
  · rw [if_neg hE]
    by_cases h : rightL l = false ∨ m < 1 ∨ 11 < m
    · have e : limErr l m = 2 := by
        unfold limErr
        rw [if_neg]
        rcases h with h | h | h
        · simp [h]
        · simp; omega
        · simp; omega
      rw [e]
      exact r_least_arg v l m w hv hn h
    · have hr : rightL l = true := by
        cases hr : rightL l with
        | true => rfl
        | false => exact absurd (.inl hr) h
      obtain ⟨M, rfl⟩ := Int.eq_ofNat_of_zero_le (show 0 ≤ m by omega)
      have h1 : (1 : Int) ≤ (M : Int) := by omega
      have h2 : (M : Int) ≤ 11 := by omega
      by_cases hu : (usedL l).length < 2
      · have e : limErr l (M : Int) = 22 := by simp [limErr, hr, h1, h2]; omega
        rw [e]
        have h := r_least_none v l M w hv hr (by omega) (by omega) (.inl hu)
        rw [if_pos hu] at h
        exact h
      · have hle : ¬ (usedL l).length ≤ 2 ^ M := fun hle => hE (limErr_zero hr (by omega) (by omega) (by omega) hle)
        have hu2 : 1 < (usedL l).length := by omega
        have e : limErr l (M : Int) = 18 := by simp [limErr, hr, h1, h2, hu2, hle]
        rw [e]
        have h := r_least_none v l M w hv hr (by omega) (by omega) (.inr ⟨by omega, by omega⟩)
        rw [if_neg hu] at h
        exact h

set_option maxRecDepth 100000 in
set_option maxHeartbeats 8000000 in
theorem law_lengths (v : Value) (l : List Int) (m : Int) (w : World) (hv : RdI .i64 w v l) (hmb : m ≤ 9223372036854775807) : Calls Try.prog 3 #[v, .int .i64 m] w (LawEnd w) := by
  have HV := Lib.hid hv
  obtain ⟨A0, n, cp0, rfl, hnl, -⟩ := hv.form
  have HN := Lib.hid hnl
  obtain ⟨i0, hi, hz0, hz1, hz2⟩ := info_parts Try.infoInt
  have R1 : Hid (n ≤ 300 → ∀ nd, Calls Try.prog 11 #[.slice A0 n cp0] (w.drewN nd) fun e w' => e = .returned (.bool (rightL l)) ∧ w' = w.drewN nd) := fun h nd => r_right _ l _ (hv.drewN nd) (by omega)
  have R2 : Hid (n ≤ 300 → ∀ nd, Calls Try.prog 12 #[.slice A0 n cp0] (w.drewN nd) fun e w' => e = .returned (.int .i64 (usedL l).length) ∧ w' = w.drewN nd) := fun h nd => r_used _ l _ (hv.drewN nd) (by omega)
  clear hv hnl
  go_enter Try.func3, Try.ntmps3
  go_upto_region 1 with fail
  go_cut [39] from 16 to 39 (fun s39 wx => ∃ b : Bool, s39 = .bool b ∧ Hid (b = false → n ≤ 300) ∧ Hid (∃ q, wx = w.drewN q))
  case first =>
    by_cases h1 : 300 < n
    · have d1 : decide ((300 : Int) < (n : Int)) = true := decide_eq_true (by omega)
      clear R1 R2
      go_wp2_with fail
      go_quiet (fail)
      go_wp2_with fail
      all_goals
        go_meet
        exact ⟨true, rfl, (fun h => by cases h), ⟨_, rfl⟩⟩
    · have d1 : decide ((300 : Int) < (n : Int)) = false := decide_eq_false (by omega)
      have hn300 : n ≤ 300 := by omega
      have H1 := Lib.hid (R1.out hn300)
      have H2 := Lib.hid (R2.out hn300)
      clear R1 R2
      cases hr : rightL l with
      | false =>
        rw [hr] at H1
        clear hr H2
        go_wp2_with fail
        go_quiet ((go_at_call 11; exact Calls.quiet_of_same (H1.out _)))
        go_wp2_with fail
        all_goals
          go_meet
          exact ⟨_, rfl, (fun h => hn300), ⟨_, rfl⟩⟩
      | true =>
        rw [hr] at H1
        clear hr
        generalize (usedL l).length = U at *
        by_cases hU : 24 < U
        · have dU : decide ((24 : Int) < (U : Int)) = true := decide_eq_true (by omega)
          by_cases hm : 0 < m
          · have dm : decide (0 < m) = true := decide_eq_true hm
            by_cases hm11 : 11 < m
            · have emin : min (11 : Int) m = 11 := by omega
              go_wp2_with fail
              go_quiet ((first | (go_at_call 11; exact Calls.quiet_of_same (H1.out _)) | (go_at_call 12; exact Calls.quiet_of_same (H2.out _))))
              go_wp2_with fail
              all_goals
                go_meet
                exact ⟨_, rfl, (fun h => hn300), ⟨_, rfl⟩⟩
            · have emin : min (11 : Int) m = m := by omega
              have hm0 : 0 ≤ m := by omega
              have hm12 : m ≤ 11 := by omega
              go_wp2_with fail
              go_quiet ((first | (go_at_call 11; exact Calls.quiet_of_same (H1.out _)) | (go_at_call 12; exact Calls.quiet_of_same (H2.out _))))
              go_wp2_with fail
              all_goals
                go_meet
                exact ⟨_, rfl, (fun h => hn300), ⟨_, rfl⟩⟩
          · have dm : decide (0 < m) = false := decide_eq_false hm
            go_wp2_with fail
            go_quiet ((first | (go_at_call 11; exact Calls.quiet_of_same (H1.out _)) | (go_at_call 12; exact Calls.quiet_of_same (H2.out _))))
            go_wp2_with fail
            all_goals
              go_meet
              exact ⟨_, rfl, (fun h => hn300), ⟨_, rfl⟩⟩
        · have dU : decide ((24 : Int) < (U : Int)) = false := decide_eq_false (by omega)
          go_wp2_with fail
          go_quiet ((first | (go_at_call 11; exact Calls.quiet_of_same (H1.out _)) | (go_at_call 12; exact Calls.quiet_of_same (H2.out _))))
          go_wp2_with fail
          all_goals
            go_meet
            exact ⟨_, rfl, (fun h => hn300), ⟨_, rfl⟩⟩
  obtain ⟨b, rfl, hb3, hwq⟩ := hcut
  have k0 : Keeps w wc [] := by obtain ⟨q, rfl⟩ := hwq.out; exact (Keeps.refl w []).drewN q
  clear R1 R2 hwq
  cases b with
  | true =>
    go_wp2_with (go_at_call 13; refine (works_true _).mono ?_; rintro e w5 ⟨rfl, kk⟩)
    go_ret
    exact ⟨rfl, (k0.then kk).below⟩
  | false =>
    have hn300 : n ≤ 300 := hb3.out rfl
    have hl300 : l.length ≤ 300 := by have := HN.out; omega
    have HVc := Lib.hid (HV.out.keeps k0)
    clear hb3
    go_wp2_with (refine wpList_copyI rfl rfl rfl 22 3 _ _ _ rfl rfl rfl i0 (.int .i64 0) 8 Try.underlying22 hi hz0 hz1 hz2 rfl (.slice A0 n cp0) (fun _ => rfl) (fun _ => rfl) (fun _ => rfl) .i64 l HVc.out (by unfold maxLen; omega) (by omega) ?_; intro v0 vx wa owna ka nea; obtain ⟨ac, cc, rfl⟩ := own_form owna)
    have k1 := k0.then ka
    have RC := Lib.hid (own_reads owna)
    clear owna ka nea k0 HVc
    have HLE := Lib.hid (lengths_any _ l m wa RC.out (by omega))
    have HLA : Hid (∀ w', Keeps w w' [] → Calls Try.prog 15 #[.slice A0 n cp0, .int .i64 m] w' (LeastEnd w' (if limErr l m = 0 then costOut l (limOut l m) else 0) (limErr l m))) := fun w' k => r_least _ l m w' (HV.out.keeps k) (by omega)
    by_cases hE : limErr l m = 0
    · obtain ⟨hr, hm1, hm2, hu, hle⟩ := limErr_iff hE
      obtain ⟨M, rfl⟩ := Int.eq_ofNat_of_zero_le (show 0 ≤ m by omega)
      rw [Int.toNat_natCast] at hle
      obtain ⟨hL, -⟩ := limOut_best hr (by omega) hu hle
      have hl256 := (rightL_iff.1 hr).1
      have hfit := hL.fits hl256 (by omega)
      have hmx := hL.mx
      rw [hE, if_pos rfl] at HLE HLA
      obtain ⟨O, hO⟩ : ∃ O, O = limOut l (M : Int) := ⟨_, rfl⟩
      obtain ⟨c, hc⟩ : ∃ c, c = costOut l (limOut l (M : Int)) := ⟨_, rfl⟩
      rw [← hc] at HLA
      rw [← hO] at HLE
      have HCO : Hid (∀ vo w', RdI .i64 w' vo O → Keeps w w' [] → Calls Try.prog 18 #[.slice A0 n cp0, vo] w' (RefCost w' c 0)) := fun vo w' h k => by
        have h := r_cost _ vo l O w' (HV.out.keeps k) h (by omega) (by rw [hO, hL.len]; omega)
        rw [hO, hL.costErr hr (by omega), if_pos rfl, ← hc] at h; exact h
      have HFI : Hid (∀ vo w', RdI .i64 w' vo O → Calls Try.prog 19 #[vo] w' fun e w'' => e = .returned (.tuple #[.bool true, .bool true]) ∧ w'' = w') := fun vo w' h => by
        have h1 := r_fits vo O w' h (by rw [hO, hL.len]; omega)
        rw [hO, hfit.1, hfit.2] at h1
        exact h1
      have HGR : Hid (∀ vo w', RdI .i64 w' vo O → Calls Try.prog 20 #[vo] w' fun e w'' => ∃ G E : Int, e = .returned (.tuple #[.int .i64 G, .int .i64 E]) ∧ w' = w'' ∧ G ≤ (M : Int)) := fun vo w' h => by
        refine (r_greatest vo O w' h (by rw [hO, hL.len]; omega)).mono fun e w'' h => ⟨_, _, h.1, h.2, ?_⟩
        unfold maxOut
        split
        · rw [hO, maxOf_eq (within_nonneg (hL.within hl256 (by omega)))]; exact hmx
        · omega
      have HFO : Hid (∀ vo w', RdI .i64 w' vo O → Keeps w w' [] → Calls Try.prog 21 #[.slice A0 n cp0, vo] w' fun e w'' => e = .returned (.bool true) ∧ w' = w'') := fun vo w' h k => by
        subst hO
        exact r_for_yes _ vo l _ w' (HV.out.keeps k) h hL.len (by omega) hL.sign
      have hol := hL.len
      rw [← hO] at hol
      have HOL := Lib.hid hol
      have hcc : (c == c) = true := by simp
      clear hr hm1 hm2 hu hle hL hl256 hfit hmx hO hc hol hE hmb
      go_wp2_with fail
      refine HLE.out.mono ?_
      rintro e w1 ⟨v1, rfl, r1, -, k2⟩
      obtain ⟨a1, n1, c1, rfl, hn1, -⟩ := r1.form
      obtain rfl : n1 = n := by rw [hn1, HOL.out, ← HN.out]
      have RO := Lib.hid r1
      replace k1 := k1.then k2
      replace RC := Lib.hid (RC.out.keeps k2)
      clear r1 hn1 HLE k2
      go_wp2_with fail
      refine (HLA.out _ k1).mono ?_
      rintro e w2 ⟨rfl, k2⟩
      replace k1 := k1.then k2
      replace RC := Lib.hid (RC.out.keeps k2)
      replace RO := Lib.hid (RO.out.keeps k2)
      clear HLA k2
      go_wp2_with (first | (go_at_call 16; refine (num_any _ _).mono ?_; rintro e w' ⟨rfl, hw⟩; subst w'))
      refine (same_yes _ _ l _ RC.out (HV.out.keeps k1) (by omega)).mono ?_
      rintro e w3 ⟨rfl, m3, rfl⟩
      replace k1 := k1.drewN m3
      replace RO := Lib.hid (RO.out.drewN m3)
      clear RC
      generalize World.drewN _ m3 = w3 at *
      go_wp2_with fail
      refine (HCO.out _ _ RO.out k1).mono ?_
      rintro e w4 ⟨rfl, m4, rfl⟩
      replace k1 := k1.drewN m4
      replace RO := Lib.hid (RO.out.drewN m4)
      clear HCO
      generalize World.drewN _ m4 = w4 at *
      go_wp2_with fail
      refine (HFI.out _ _ RO.out).mono ?_
      rintro e w' ⟨rfl, hw⟩
      subst w'
      go_wp2_with fail
      refine (HGR.out _ _ RO.out).mono ?_
      rintro e w' ⟨G, E, rfl, hw, hGM⟩
      subst w'
      go_wp2_with (first | (go_at_call 21; refine (HFO.out _ _ RO.out k1).mono ?_; rintro e w' ⟨rfl, hw⟩; subst w') | (go_at_call 13; refine (works_true _).mono ?_; rintro e w8 ⟨rfl, kk⟩))
      go_ret
      exact ⟨rfl, (k1.then kk).below⟩
    · rw [if_neg hE] at HLE HLA
      generalize limErr l m = E at *
      have hEE : (E == E) = true := by simp
      have hE0 : (E == 0) = false := by simpa using hE
      go_wp2_with fail
      refine HLE.out.mono ?_
      rintro e w1 ⟨v1, rfl, r1, -, k2⟩
      obtain ⟨a1, n1, c1, rfl, hn1, -⟩ := r1.form
      obtain rfl : n1 = 0 := hn1
      replace k1 := k1.then k2
      replace RC := Lib.hid (RC.out.keeps k2)
      clear r1 HLE k2
      go_wp2_with fail
      refine (HLA.out _ k1).mono ?_
      rintro e w2 ⟨rfl, k2⟩
      replace k1 := k1.then k2
      replace RC := Lib.hid (RC.out.keeps k2)
      clear HLA k2
      go_wp2_with (first | (go_at_call 16; refine (num_any _ _).mono ?_; rintro e w' ⟨rfl, hw⟩; subst w'))
      refine (same_yes _ _ l _ RC.out (HV.out.keeps k1) (by omega)).mono ?_
      rintro e w3 ⟨rfl, m3, rfl⟩
      replace k1 := k1.drewN m3
      clear RC
      generalize World.drewN _ m3 = w3 at *
      go_wp2_with (first | (go_at_call 13; refine (works_true _).mono ?_; rintro e w8 ⟨rfl, kk⟩))
      go_ret
      exact ⟨rfl, (k1.then kk).below⟩

end Go.Proofs.Ythjbngnihcmedaa
