/-
  Walks over the reference of package weights: last, Last.
-/
import Derived.Test.YtcmagccfagijlaaGreatQ35
import Derived.Deep.QuietTactic
import Derived.BigQuiet
namespace Go.Proofs.YtcmagccfagijlaaGreat
set_option linter.unusedVariables false
set_option linter.unusedSimpArgs false
set_option linter.unusedSectionVars false
open Go.RowKit

theorem bitLen_pow {u : Nat} (hu : u ≤ 20) : Go.Lib.bitLen (2 ^ u) = u + 1 := by
  have h1 := (pow_k hu).2
  rw [bitLen_log (Nat.two_pow_pos u) (by omega), Nat.log2_two_pow]

theorem last_ok {l : List Int} (h1 : lenW l = true) (h2 : l.all (finM 11) = true) (hs : 0 < sumW l) {V : Nat} (hV : V ≤ 11) (hlow : ∀ u, u < V → 2 ^ u < restW l) (hex : V = 11 ∨ restW l ≤ 2 ^ V) :
    (okW l = true ↔ kW l ≤ 11 ∧ 2 ^ V = restW l ∧ ((1 : Int) ∈ l ∨ V = 0)) ∧ (okW l = true → V + 1 = vW l) := by
  obtain ⟨s1, s2, s3, s4, s5, s6, s7, s8, s9⟩ := sums h1 h2
  have key : kW l ≤ 11 → 2 ^ V = restW l ∨ restW l = 2 ^ (vW l - 1) → V + 1 = vW l := by
    intro hk h
    rcases h with h | h
    · have := bitLen_pow (show V ≤ 20 by omega)
      rw [vW, ← h, this]
    · have hr : restW l ≤ 2 ^ 10 := by
        have h5 := (bitLen_le (n := sumW l) (k := kW l - 1) (by omega)).1 (by unfold kW at *; have := (bitLen_le (n := sumW l) (k := 0) (by omega)).2 (by rw [Nat.pow_zero]; omega); omega)
        have h6 : 2 ^ kW l = 2 ^ (kW l - 1) * 2 := by
          have : 0 < kW l := (bitLen_le (n := sumW l) (k := 0) (by omega)).2 (by rw [Nat.pow_zero]; omega)
          rw [← Nat.pow_succ]; congr 1; omega
        have h7 : 2 ^ (kW l - 1) ≤ 2 ^ 10 := Nat.pow_le_pow_right (by decide) (by omega)
        omega
      have hex' : restW l ≤ 2 ^ V := by
        rcases hex with rfl | hex
        · exact Nat.le_trans hr (Nat.pow_le_pow_right (by decide) (by omega))
        · exact hex
      have a1 : vW l - 1 ≤ V := by
        rw [h] at hex'
        exact (Nat.pow_le_pow_iff_right (by decide)).1 hex'
      have a2 : ¬ vW l - 1 < V := fun hc => by have := hlow _ hc; omega
      omega
  have mem : (l ++ [(vW l : Int)]).contains 1 = true ↔ (1 : Int) ∈ l ∨ vW l = 1 := by
    rw [List.contains_iff_mem, List.mem_append, List.mem_singleton]
    constructor
    · rintro (h | h)
      · exact .inl h
      · exact .inr (by omega)
    · rintro (h | h)
      · exact .inl h
      · exact .inr (by omega)
  have hok : okW l = true ↔ kW l ≤ 11 ∧ restW l = 2 ^ (vW l - 1) ∧ ((1 : Int) ∈ l ∨ vW l = 1) := by
    rw [okW, h1, h2, Bool.and_eq_true, mem]
    simp [hs, and_assoc]
  constructor
  · rw [hok]
    constructor
    · rintro ⟨a, b, c⟩
      have := key a (.inr b)
      refine ⟨a, ?_, ?_⟩
      · rw [b]; congr 1; omega
      · rcases c with c | c
        · exact .inl c
        · exact .inr (by omega)
    · rintro ⟨a, b, c⟩
      have := key a (.inl b)
      refine ⟨a, ?_, ?_⟩
      · rw [← b]; congr 1; omega
      · rcases c with c | c
        · exact .inl c
        · exact .inr (by omega)
  · intro h
    have := hok.1 h
    exact key this.1 (.inr this.2.1)

/-- What last returns. -/
def LastEnd (w : World) (l : List Int) (e : Ending) (w' : World) : Prop := (okW l = true → e = .returned (.tuple #[.int .i64 (kW l), .int .i64 (vW l), .int .i64 0])) ∧ (okW l = false → e = .returned (.tuple #[.int .i64 0, .int .i64 0, .int .i64 12])) ∧ ∃ m, w' = w.drewN m
theorem LastEnd.no {w : World} {l : List Int} (h : okW l = false) (m : Nat) : LastEnd w l (.returned (.tuple #[.int .i64 0, .int .i64 0, .int .i64 12])) (w.drewN m) := ⟨(fun h' => by rw [h] at h'; cases h'), fun _ => rfl, m, rfl⟩

theorem r_last_len (v : Value) (l : List Int) (w : World) (hv : RdI .i64 w v l) (hn : l.length ≤ 1000000) (h : lenW l = false) : Calls Tryz.prog 138 #[v] w (LastEnd w l) := by
  have HK : Hid (okW l = false) := by show _ = _; simp [okW, h]
  obtain ⟨A0, n, cp0, rfl, hnl, -⟩ := hv.form
  have hc : n = 0 ∨ 255 < n := by simp [lenW] at h; omega
  have HC := Lib.hid hc
  have hn' : n ≤ 1000000 := by omega
  clear hv hnl hn h hc
  rcases HC.out with rfl | hc
  · go_enter Tryz.func138, Tryz.ntmps138
    go_wp2_with fail
    refine bodyPost_ret (v := .tuple #[.int .i64 0, .int .i64 0, .int .i64 12]) (by simp only [results, Tryz.results138]; go_simp) rfl ?_
    exact LastEnd.no HK.out 0
  · have d1 : decide ((n : Int) < 1) = false := decide_eq_false (by omega)
    have d2 : (255 : Int) < n := by omega
    go_enter Tryz.func138, Tryz.ntmps138
    go_wp2_with fail
    refine bodyPost_ret (v := .tuple #[.int .i64 0, .int .i64 0, .int .i64 12]) (by simp only [results, Tryz.results138]; go_simp) rfl ?_
    exact LastEnd.no HK.out 0

set_option maxRecDepth 100000 in
set_option maxHeartbeats 4000000 in
theorem r_last (v : Value) (l : List Int) (w : World) (hv : RdI .i64 w v l) (hn : l.length ≤ 1000000) : Calls Tryz.prog 138 #[v] w (LastEnd w l) := by
  cases hlen : lenW l with
  | false => exact r_last_len v l w hv hn hlen
  | true =>
  have HLEN := Lib.hid hlen
  obtain ⟨A0, n, cp0, rfl, hnl, -⟩ := hv.form
  have hc : 0 < n ∧ n < 256 := by simp [lenW] at hlen; omega
  obtain ⟨b, o, rfl, hb, hcell⟩ := hv.addr hc.1
  have hcap := hv.cap
  have HN := Lib.hid hnl
  have HCELL := Lib.hid hcell
  have hn0 : 0 < n := hc.1
  have hn1 : n < 256 := hc.2
  have d1 : decide ((n : Int) < 1) = false := decide_eq_false (by omega)
  have d2 : decide ((255 : Int) < n) = false := decide_eq_false (by omega)
  clear hv hnl hn hlen hc hcell
  go_enter Tryz.func138, Tryz.ntmps138
  go_wp2_with fail
  clear d1 d2
  go_loop [5, 6, 7] (fun s c i => ∃ k : Nat, k ≤ n ∧ i = .int .i64 k ∧ s = .int .i64 (sumW (l.take k) : Nat) ∧ c = .int .i64 ((l.take k).count 1 : Nat) ∧ Hid ((l.take k).all (finM 11) = true)) (fun _ _ i => n - (intOf i).toNat)
  case atStart => exact ⟨0, Nat.zero_le _, rfl, rfl, rfl, by simp [Hid]⟩
  case round =>
    obtain ⟨k, hk, rfl, rfl, rfl, hall⟩ := hrel
    by_cases hlt : k < n
    · obtain ⟨x, hx⟩ : ∃ x, l[k]? = some x := ⟨_, List.getElem?_eq_getElem (by have := HN.out; omega)⟩
      have hc := HCELL.out k x hx
      have hkn : (k : Int) < (n : Int) := by omega
      have HST := Lib.hid (sumW_take hx)
      have HCT : Hid ((l.take (k + 1)).count 1 = (l.take k).count 1 + if x = 1 then 1 else 0) := by show _ = _; rw [take_next hx, List.count_append, List.count_singleton]; simp
      have HAL : Hid (finM 11 x = true → (l.take (k + 1)).all (finM 11) = true) := fun h => by rw [take_next hx, List.all_append, hall.out]; simp [h]
      have hs1 := sumW_le hall.out
      have hs2 : (l.take k).length ≤ k := List.length_take_le _ _
      have hc1 : (l.take k).count 1 ≤ (l.take k).length := List.count_le_length
      have HBAD : Hid (finM 11 x = false → okW l = false) := fun h => by
        rw [Bool.eq_false_iff]
        intro ht
        simp only [okW, Bool.and_eq_true] at ht
        have := List.all_eq_true.1 ht.1.1.2 x (List.mem_of_getElem? hx)
        rw [h] at this; cases this
      obtain ⟨S, hS⟩ : ∃ S, S = sumW (l.take k) := ⟨_, rfl⟩
      obtain ⟨C, hC⟩ : ∃ C, C = (l.take k).count 1 := ⟨_, rfl⟩
      rw [← hS] at hs1 HST ⊢
      rw [← hC] at hc1 HCT ⊢
      have hS9 : S ≤ 1000000 := by omega
      have hC9 : C ≤ 1000 := by omega
      clear hx hS hC hs1 hs2 hc1
      by_cases hx0 : x < 0
      · have NO := Lib.hid (HBAD.out (by simp [finM]; omega))
        clear HBAD HAL HST HCT
        go_wp2_with fail
        refine bodyPost_ret (v := .tuple #[.int .i64 0, .int .i64 0, .int .i64 12]) (by simp only [results, Tryz.results138]; go_simp) rfl ?_
        exact LastEnd.no NO.out 0
      · have d0 : decide (x < 0) = false := decide_eq_false hx0
        by_cases hx11 : 11 < x
        · have NO := Lib.hid (HBAD.out (by simp [finM]; omega))
          clear HBAD HAL HST HCT
          go_wp2_with fail
          refine bodyPost_ret (v := .tuple #[.int .i64 0, .int .i64 0, .int .i64 12]) (by simp only [results, Tryz.results138]; go_simp) rfl ?_
          exact LastEnd.no NO.out 0
        · have d3 : decide (11 < x) = false := decide_eq_false hx11
          have NAL := Lib.hid (HAL.out (finM_iff.2 ⟨by omega, by omega⟩))
          by_cases hz : x = 0
          · subst hz
            have NS : Hid (sumW (l.take (k + 1)) = S) := by show _ = _; rw [HST.out]; rfl
            have NC : Hid ((l.take (k + 1)).count 1 = C) := by show _ = _; rw [HCT.out]; rfl
            clear HBAD HAL HST HCT
            go_wp2_with fail
            go_round
            case rel => exact ⟨k + 1, by omega, by go_num, by rw [NS.out], by rw [NC.out], NAL⟩
            case measure => simp [intOf]; omega
          · by_cases hone : x = 1
            · subst hone
              have NS : Hid (sumW (l.take (k + 1)) = S + 1) := by show _ = _; rw [HST.out]; rfl
              have NC : Hid ((l.take (k + 1)).count 1 = C + 1) := by show _ = _; rw [HCT.out]; rfl
              clear HBAD HAL HST HCT
              go_wp2_with fail
              go_round
              case rel => exact ⟨k + 1, by omega, by go_num, by rw [NS.out]; go_num, by rw [NC.out]; go_num, NAL⟩
              case measure => simp [intOf]; omega
            · obtain ⟨Y, rfl⟩ : ∃ Y : Nat, x = (Y : Int) + 1 := ⟨(x - 1).toNat, by omega⟩
              have hY : Y ≤ 10 := by omega
              have wsub : IntKind.i64.wrap (((Y : Int) + 1) - 1) = (Y : Int) := by rw [IntWalk.i64_in _ (by omega)]; omega
              have dn : (((Y : Int) + 1) == (1 : Int)) = false := by simpa using hone
              have NS : Hid (wrap64 ((S : Int) + wrap64 ((2 : Int) ^ Y)) = ((sumW (l.take (k + 1)) : Nat) : Int)) := by
                show _ = _
                have e : ((Y : Int) + 1).toNat - 1 = Y := by omega
                rw [HST.out, if_pos (by omega), e, (pow_k (show Y ≤ 20 by omega)).1]
                have := (pow_k (show Y ≤ 20 by omega)).2
                generalize 2 ^ Y = P at *
                rw [IntWalk.wrap64_in _ ⟨by omega, by omega⟩]
                omega
              have NC : Hid ((l.take (k + 1)).count 1 = C) := by show _ = _; rw [HCT.out, if_neg hone]; rfl
              have hpos : (0 : Int) < (Y : Int) + 1 := by omega
              clear HBAD HAL HST HCT
              go_wp2_with fail
              go_round
              case rel => exact ⟨k + 1, by omega, by go_num, by rw [NS.out], by rw [NC.out], NAL⟩
              case measure => simp [intOf]; omega
    · obtain rfl : k = n := by omega
      have hel : l.take k = l := List.take_of_length_le (by have := HN.out; omega)
      have hall' := hall.out
      rw [hel] at hall' ⊢
      clear hall hel
      have HALL := Lib.hid hall'
      obtain ⟨s1, s2, s3, s4, s5, s6, s7, s8, s9⟩ := sums HLEN.out hall'
      have HLO := Lib.hid (fun (hs : 0 < sumW l) (V : Nat) hV hlow hex => last_ok HLEN.out hall' hs (V := V) hV hlow hex)
      have HC0 : Hid (l.count 1 = 0 ↔ ¬ (1 : Int) ∈ l) := List.count_eq_zero
      have hcl : l.count 1 ≤ l.length := List.count_le_length
      obtain ⟨C, hC⟩ : ∃ C, C = l.count 1 := ⟨_, rfl⟩
      rw [← hC] at HC0 hcl ⊢
      have hC9 : C ≤ 1000 := by have := HN.out; omega
      have HKB : Hid (∀ q, q < kW l ↔ 2 ^ q ≤ sumW l) := fun q => bitLen_le (by omega)
      have HZ : Hid (sumW l = 0 → okW l = false) := fun h => by simp [okW, h]
      obtain ⟨S, hS⟩ : ∃ S, S = sumW l := ⟨_, rfl⟩
      obtain ⟨K, hK⟩ : ∃ K, K = kW l := ⟨_, rfl⟩
      obtain ⟨R, hR⟩ : ∃ R, R = restW l := ⟨_, rfl⟩
      have HKK := Lib.hid hK
      rw [← hS] at s1 s3 s7 HLO HKB HZ ⊢
      rw [← hK] at s2 s3 s4 s7 HLO HKB
      rw [← hR] at s5 s6 s7 HLO
      have HSR := Lib.hid s7
      have HS3 := Lib.hid s3
      have HS4 := Lib.hid s4
      clear hcl hC hS hK hR hall' s3 s4 s7 s8 s9 HCELL hb hcap
      by_cases hS0 : S = 0
      · subst hS0
        have NO := Lib.hid (HZ.out rfl)
        clear HLO HC0 HKB HZ
        go_wp2_with fail
        refine bodyPost_ret (v := .tuple #[.int .i64 0, .int .i64 0, .int .i64 12]) (by simp only [results, Tryz.results138]; go_simp) rfl ?_
        exact LastEnd.no NO.out 0
      · have dS : ((S : Int) == 0) = false := by simpa using hS0
        go_wp2_with fail
        go_loop [8] (fun q8 => ∃ q : Nat, q ≤ K ∧ q8 = .int .i64 q) (fun q8 => K - (intOf q8).toNat)
        case atStart => exact ⟨0, Nat.zero_le _, rfl⟩
        case round =>
          obtain ⟨q, hq, rfl⟩ := hrel
          obtain ⟨P, hP⟩ : ∃ P, P = 2 ^ q := ⟨_, rfl⟩
          have hq2 := HKB.out q
          have hpk := pow_k (show q ≤ 20 by omega)
          rw [← hP] at hq2 hpk
          by_cases hqk : q < K
          · have hle : decide (wrap64 ((2 : Int) ^ q) ≤ (S : Int)) = true := decide_eq_true (by rw [hpk.1]; omega)
            clear hpk hP hq2
            go_wp2_with fail
            go_round
            case rel => exact ⟨q + 1, by omega, by go_num⟩
            case measure => simp [intOf]; omega
          · obtain rfl : q = K := by omega
            have hle : decide (wrap64 ((2 : Int) ^ q) ≤ (S : Int)) = false := decide_eq_false (by rw [hpk.1]; omega)
            clear hpk hP hq2
            go_wp2_with fail
            clear hle
            have HREST : Hid (wrap64 (wrap64 ((2 : Int) ^ q) - (S : Int)) = (R : Int)) := by
              show _ = _
              rw [(pow_k (show q ≤ 20 by omega)).1]
              have h1 := HSR.out
              have h2 := HS4.out
              generalize 2 ^ q = P at *
              rw [IntWalk.wrap64_in _ ⟨by omega, by omega⟩]
              omega
            clear HSR HS3 HS4 HKB HZ
            have HLO2 := Lib.hid (HLO.out (by omega))
            clear HLO
            go_loopw [9] (fun v9 wr => ∃ (V m : Nat), V ≤ 11 ∧ v9 = .int .i64 ((V : Int) + 1) ∧ Hid (∀ u, u < V → 2 ^ u < R) ∧ wr = w.drewN m) (fun v9 _ => 12 - (intOf v9).toNat)
            case atStart => exact ⟨0, 0, by omega, rfl, (fun u hu => absurd hu (by omega)), rfl⟩
            case round =>
              obtain ⟨V, m, hV, rfl, hlow, rfl⟩ := hrel
              have HEX := Lib.hid (pow_k (show V ≤ 20 by omega)).1
              have wsub : IntKind.i64.wrap (((V : Int) + 1) - 1) = (V : Int) := by rw [IntWalk.i64_in _ (by omega)]; omega
              by_cases hV10 : V ≤ 10
              · have gle : decide ((V : Int) + 1 ≤ 11) = true := decide_eq_true (by omega)
                by_cases hcmp : 2 ^ V < R
                · have glt : decide (wrap64 ((2 : Int) ^ V) < wrap64 (wrap64 ((2 : Int) ^ q) - (S : Int))) = true := decide_eq_true (by rw [HEX.out, HREST.out]; exact_mod_cast hcmp)
                  have NL : Hid (∀ u, u < V + 1 → 2 ^ u < R) := fun u hu => by
                    rcases Nat.lt_or_eq_of_le (Nat.le_of_lt_succ hu) with h | h
                    · exact hlow.out u h
                    · rw [h]; exact hcmp
                  clear hcmp hlow
                  go_wp2_with fail
                  go_quiet (fail)
                  go_wp2_with fail
                  go_roundw
                  case rel => exact ⟨V + 1, m + nq, by omega, by go_num, NL, by first | rfl | (rw [World.drewN_drewN])⟩
                  case measure => simp [intOf]; omega
                · have glt : decide (wrap64 ((2 : Int) ^ V) < wrap64 (wrap64 ((2 : Int) ^ q) - (S : Int))) = false := decide_eq_false (by rw [HEX.out, HREST.out]; intro h; exact hcmp (by exact_mod_cast h))
                  have Fin := Lib.hid (HLO2.out V hV hlow.out (.inr (Nat.le_of_not_lt hcmp)))
                  clear hcmp hlow HLO2
                  go_wp2_with fail
                  go_quiet (fail)
                  clear glt
                  go_wp2_with fail
                  by_cases h11 : q ≤ 11
                  · have g11 : decide ((11 : Int) < (q : Int)) = false := decide_eq_false (by omega)
                    by_cases hpr : 2 ^ V = R
                    · have geq : (wrap64 ((2 : Int) ^ V) != wrap64 (wrap64 ((2 : Int) ^ q) - (S : Int))) = false := by rw [HEX.out, HREST.out, hpr]; simp
                      by_cases hC0 : C = 0
                      · subst hC0
                        by_cases hV0 : V = 0
                        · have YES : Hid (okW l = true) := Fin.out.1.2 ⟨h11, hpr, .inr hV0⟩
                          have YV := Lib.hid (Fin.out.2 YES.out)
                          have gv : (((V : Int) + 1) != (1 : Int)) = false := by rw [hV0]; rfl
                          clear hpr HC0 Fin hV0
                          go_quiet (fail)
                          go_wp2_with fail
                          refine bodyPost_ret (v := .tuple #[.int .i64 q, .int .i64 ((V : Int) + 1), .int .i64 0]) (by simp only [results, Tryz.results138]; go_simp) rfl ?_
                          exact ⟨fun _ => by rw [← HKK.out, ← YV.out]; push_cast; rfl, (fun h => by rw [YES.out] at h; cases h), _, by simp only [World.drewN_drewN]; rfl⟩
                        · have NO : Hid (okW l = false) := by
                            show _ = _
                            rw [Bool.eq_false_iff]
                            intro h
                            rcases (Fin.out.1.1 h).2.2 with h | h
                            · exact (HC0.out.1 rfl) h
                            · exact hV0 h
                          have gv : (((V : Int) + 1) != (1 : Int)) = true := by simp; omega
                          clear hpr HC0 Fin hV0
                          go_quiet (fail)
                          go_wp2_with fail
                          refine bodyPost_ret (v := .tuple #[.int .i64 0, .int .i64 0, .int .i64 12]) (by simp only [results, Tryz.results138]; go_simp) rfl ?_
                          simp only [World.drewN_drewN]
                          exact LastEnd.no NO.out _
                      · have YES : Hid (okW l = true) := Fin.out.1.2 ⟨h11, hpr, .inl (Classical.not_not.1 (fun h => hC0 (HC0.out.2 h)))⟩
                        have YV := Lib.hid (Fin.out.2 YES.out)
                        have gc : ((C : Int) == 0) = false := by simp; omega
                        clear hpr HC0 Fin
                        go_quiet (fail)
                        go_wp2_with fail
                        refine bodyPost_ret (v := .tuple #[.int .i64 q, .int .i64 ((V : Int) + 1), .int .i64 0]) (by simp only [results, Tryz.results138]; go_simp) rfl ?_
                        exact ⟨fun _ => by rw [← HKK.out, ← YV.out]; push_cast; rfl, (fun h => by rw [YES.out] at h; cases h), _, by simp only [World.drewN_drewN]; rfl⟩
                    · have NO : Hid (okW l = false) := by
                        show _ = _
                        rw [Bool.eq_false_iff]
                        intro h
                        exact hpr (Fin.out.1.1 h).2.1
                      have geq : (wrap64 ((2 : Int) ^ V) != wrap64 (wrap64 ((2 : Int) ^ q) - (S : Int))) = true := by rw [HEX.out, HREST.out, bne_iff_ne]; intro h; exact hpr (by exact_mod_cast h)
                      clear hpr HC0 Fin
                      go_quiet (fail)
                      go_wp2_with fail
                      refine bodyPost_ret (v := .tuple #[.int .i64 0, .int .i64 0, .int .i64 12]) (by simp only [results, Tryz.results138]; go_simp) rfl ?_
                      simp only [World.drewN_drewN]
                      exact LastEnd.no NO.out _
                  · have NO : Hid (okW l = false) := by
                      show _ = _
                      rw [Bool.eq_false_iff]
                      intro h
                      exact h11 (Fin.out.1.1 h).1
                    have g11 : (11 : Int) < (q : Int) := by omega
                    clear HC0 Fin
                    go_quiet (fail)
                    go_wp2_with fail
                    refine bodyPost_ret (v := .tuple #[.int .i64 0, .int .i64 0, .int .i64 12]) (by simp only [results, Tryz.results138]; go_simp) rfl ?_
                    simp only [World.drewN_drewN]
                    exact LastEnd.no NO.out _
              · have gle : decide ((V : Int) + 1 ≤ 11) = false := decide_eq_false (by omega)
                have Fin := Lib.hid (HLO2.out V hV hlow.out (.inl (by omega)))
                clear hlow HLO2
                go_wp2_with fail
                go_quiet (fail)
                go_wp2_with fail
                by_cases h11 : q ≤ 11
                · have g11 : decide ((11 : Int) < (q : Int)) = false := decide_eq_false (by omega)
                  by_cases hpr : 2 ^ V = R
                  · have geq : (wrap64 ((2 : Int) ^ V) != wrap64 (wrap64 ((2 : Int) ^ q) - (S : Int))) = false := by rw [HEX.out, HREST.out, hpr]; simp
                    by_cases hC0 : C = 0
                    · subst hC0
                      by_cases hV0 : V = 0
                      · have YES : Hid (okW l = true) := Fin.out.1.2 ⟨h11, hpr, .inr hV0⟩
                        have YV := Lib.hid (Fin.out.2 YES.out)
                        have gv : (((V : Int) + 1) != (1 : Int)) = false := by rw [hV0]; rfl
                        clear hpr HC0 Fin hV0
                        go_quiet (fail)
                        go_wp2_with fail
                        refine bodyPost_ret (v := .tuple #[.int .i64 q, .int .i64 ((V : Int) + 1), .int .i64 0]) (by simp only [results, Tryz.results138]; go_simp) rfl ?_
                        exact ⟨fun _ => by rw [← HKK.out, ← YV.out]; push_cast; rfl, (fun h => by rw [YES.out] at h; cases h), _, by simp only [World.drewN_drewN]; rfl⟩
                      · have NO : Hid (okW l = false) := by
                          show _ = _
                          rw [Bool.eq_false_iff]
                          intro h
                          rcases (Fin.out.1.1 h).2.2 with h | h
                          · exact (HC0.out.1 rfl) h
                          · exact hV0 h
                        have gv : (((V : Int) + 1) != (1 : Int)) = true := by simp; omega
                        clear hpr HC0 Fin hV0
                        go_quiet (fail)
                        go_wp2_with fail
                        refine bodyPost_ret (v := .tuple #[.int .i64 0, .int .i64 0, .int .i64 12]) (by simp only [results, Tryz.results138]; go_simp) rfl ?_
                        simp only [World.drewN_drewN]
                        exact LastEnd.no NO.out _
                    · have YES : Hid (okW l = true) := Fin.out.1.2 ⟨h11, hpr, .inl (Classical.not_not.1 (fun h => hC0 (HC0.out.2 h)))⟩
                      have YV := Lib.hid (Fin.out.2 YES.out)
                      have gc : ((C : Int) == 0) = false := by simp; omega
                      clear hpr HC0 Fin
                      go_quiet (fail)
                      go_wp2_with fail
                      refine bodyPost_ret (v := .tuple #[.int .i64 q, .int .i64 ((V : Int) + 1), .int .i64 0]) (by simp only [results, Tryz.results138]; go_simp) rfl ?_
                      exact ⟨fun _ => by rw [← HKK.out, ← YV.out]; push_cast; rfl, (fun h => by rw [YES.out] at h; cases h), _, by simp only [World.drewN_drewN]; rfl⟩
                  · have NO : Hid (okW l = false) := by
                      show _ = _
                      rw [Bool.eq_false_iff]
                      intro h
                      exact hpr (Fin.out.1.1 h).2.1
                    have geq : (wrap64 ((2 : Int) ^ V) != wrap64 (wrap64 ((2 : Int) ^ q) - (S : Int))) = true := by rw [HEX.out, HREST.out, bne_iff_ne]; intro h; exact hpr (by exact_mod_cast h)
                    clear hpr HC0 Fin
                    go_quiet (fail)
                    go_wp2_with fail
                    refine bodyPost_ret (v := .tuple #[.int .i64 0, .int .i64 0, .int .i64 12]) (by simp only [results, Tryz.results138]; go_simp) rfl ?_
                    simp only [World.drewN_drewN]
                    exact LastEnd.no NO.out _
                · have NO : Hid (okW l = false) := by
                    show _ = _
                    rw [Bool.eq_false_iff]
                    intro h
                    exact h11 (Fin.out.1.1 h).1
                  have g11 : (11 : Int) < (q : Int) := by omega
                  clear HC0 Fin
                  go_quiet (fail)
                  go_wp2_with fail
                  refine bodyPost_ret (v := .tuple #[.int .i64 0, .int .i64 0, .int .i64 12]) (by simp only [results, Tryz.results138]; go_simp) rfl ?_
                  simp only [World.drewN_drewN]
                  exact LastEnd.no NO.out _

def treeErr (l : List Int) : Int := if okW l then 0 else 12

end Go.Proofs.YtcmagccfagijlaaGreat
