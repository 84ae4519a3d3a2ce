/-
  The law on large alphabets: its walk.
-/
import Derived.Test.YthjbngnihcmedaaKT
import Derived.Test.YthjbngnihcmedaaO7
import Derived.Deep.DeepCutAuto
import Derived.Deep.CutRange
namespace Go.Proofs.Ythjbngnihcmedaa
set_option linter.unusedVariables false
set_option linter.unusedSimpArgs false
set_option linter.unusedSectionVars false
open Go.RowKit

theorem minErr_ne {l : List Int} {m : Int} (h : limErr l m ≠ 0) : minErr l m = limErr l m ∧ minOut l m = 0 := ⟨by rw [minErr, if_neg h], by rw [minOut, if_neg h]⟩

set_option maxRecDepth 100000 in
set_option maxHeartbeats 2000000 in
theorem law_many_arg (v : Value) (l : List Int) (m : Int) (w : World) (hv : RdI .i64 w v l) (hl : l.length ≤ 256) (hm : m < 1 ∨ 11 < m) : Calls Try.prog 4 #[v, .int .i64 m] w (LawEnd w) := by
  have hE : limErr l m = 2 := by
    unfold limErr
    rw [if_neg]
    simp; omega
  have HLE := Lib.hid (lengths_any v l m w hv (by omega))
  have HMI := Lib.hid (fun w' (k : Keeps w w' []) => minCost_any v l m w' (hv.keeps k) (by omega))
  have HFR := Lib.hid (fun w' (k : Keeps w w' []) => r_free v l w' (hv.keeps k) (by omega))
  rw [(minErr_ne (l := l) (m := m) (by omega)).1, hE] at HMI
  rw [hE, if_neg (by decide)] at HLE
  generalize minOut l m = C at *
  generalize (if freeErr l = 0 then freeCost l else 0) = FC at *
  generalize freeErr l = FE at *
  obtain ⟨A0, n, cp0, rfl, hnl, -⟩ := hv.form
  have d1 : decide ((256 : Int) < (n : Int)) = false := decide_eq_false (by omega)
  clear hv hnl hE
  by_cases h1 : m < 1
  · clear hm
    go_enter Try.func4, Try.ntmps4
    go_wp2_with fail
    refine HLE.out.mono ?_
    rintro e w1 ⟨v1, rfl, -, -, k1⟩
    go_wp2_with fail
    refine (HMI.out _ k1).mono ?_
    rintro e w2 ⟨rfl, k2⟩
    replace k1 := k1.then k2
    go_wp2_with fail
    refine (HFR.out _ k1).mono ?_
    rintro e w3 ⟨rfl, k3⟩
    go_wp2_with (first | (go_at_call 16; refine (num_any _ _).mono ?_; rintro e w' ⟨rfl, hw⟩; subst w') | (go_at_call 13; refine (works_true _).mono ?_; rintro e w5 ⟨rfl, kk⟩))
    go_ret
    exact ⟨rfl, ((k1.then k3).then kk).below⟩
  · have d2 : decide (m < 1) = false := decide_eq_false h1
    have h3 : 11 < m := by omega
    clear hm
    go_enter Try.func4, Try.ntmps4
    go_wp2_with fail
    refine HLE.out.mono ?_
    rintro e w1 ⟨v1, rfl, -, -, k1⟩
    go_wp2_with fail
    refine (HMI.out _ k1).mono ?_
    rintro e w2 ⟨rfl, k2⟩
    replace k1 := k1.then k2
    go_wp2_with fail
    refine (HFR.out _ k1).mono ?_
    rintro e w3 ⟨rfl, k3⟩
    go_wp2_with (first | (go_at_call 16; refine (num_any _ _).mono ?_; rintro e w' ⟨rfl, hw⟩; subst w') | (go_at_call 13; refine (works_true _).mono ?_; rintro e w5 ⟨rfl, kk⟩))
    go_ret
    exact ⟨rfl, ((k1.then k3).then kk).below⟩

theorem limErr_ways {l : List Int} {m : Nat} (hm1 : 1 ≤ m) (hm2 : m ≤ 11) (hE : limErr l (m : Int) ≠ 0) :
    (freeErr l ≠ 0 ∧ limErr l (m : Int) = freeErr l) ∨ (freeErr l = 0 ∧ limErr l (m : Int) = 18 ∧ 2 ^ m < (usedL l).length) := by
  have h1 : (1 : Int) ≤ (m : Int) := by omega
  have h2 : (m : Int) ≤ 11 := by omega
  unfold limErr freeErr at *
  cases hr : rightL l with
  | false => left; simp
  | true =>
    by_cases hu : 1 < (usedL l).length
    · right
      by_cases hle : (usedL l).length ≤ 2 ^ m
      · exfalso; apply hE; simp [hr, h1, h2, hu, hle]
      · exact ⟨by simp [hu], by simp [h1, h2, hu, hle], by omega⟩
    · left; simp [h1, h2, hu]

set_option maxRecDepth 100000 in
set_option maxHeartbeats 2000000 in
theorem law_many_err (v : Value) (l : List Int) (m : Nat) (w : World) (hv : RdI .i64 w v l) (hl : l.length ≤ 256) (hm1 : 1 ≤ m) (hm2 : m ≤ 11) (hE : limErr l (m : Int) ≠ 0) : Calls Try.prog 4 #[v, .int .i64 (m : Int)] w (LawEnd w) := by
  have HLE := Lib.hid (lengths_any v l (m : Int) w hv (by omega))
  have HMI := Lib.hid (fun w' (k : Keeps w w' []) => minCost_any v l (m : Int) w' (hv.keeps k) (by omega))
  have HFR := Lib.hid (fun w' (k : Keeps w w' []) => r_free v l w' (hv.keeps k) (by omega))
  have HUS := Lib.hid (fun w' (k : Keeps w w' []) => r_used v l w' (hv.keeps k) (by omega))
  rw [(minErr_ne hE).1, (minErr_ne hE).2] at HMI
  rw [if_neg hE] at HLE
  have hW := limErr_ways hm1 hm2 hE
  have HPW : Hid (wrap64 ((2 : Int) ^ m) = ((2 ^ m : Nat) : Int)) := (wrap_powK m (by omega)).1
  generalize (if freeErr l = 0 then freeCost l else 0) = FC at *
  generalize freeErr l = FE at *
  generalize limErr l (m : Int) = E at *
  generalize (usedL l).length = U at *
  obtain ⟨A0, n, cp0, rfl, hnl, -⟩ := hv.form
  have d1 : decide ((256 : Int) < (n : Int)) = false := decide_eq_false (by omega)
  have d2 : decide ((m : Int) < 1) = false := decide_eq_false (by omega)
  have d3 : decide (11 < (m : Int)) = false := decide_eq_false (by omega)
  have hm00 : (0 : Int) ≤ (m : Int) := Int.natCast_nonneg _
  have hm11 : (m : Int) ≤ 11 := by omega
  have hEE : (E == E) = true := by simp
  have hE0 : (E == 0) = false := by simpa using hE
  clear hv hnl
  rcases hW with ⟨hf, rfl⟩ | ⟨rfl, rfl, hU⟩
  · clear hf HPW
    go_enter Try.func4, Try.ntmps4
    go_wp2_with fail
    refine HLE.out.mono ?_
    rintro e w1 ⟨v1, rfl, r1, -, k1⟩
    obtain ⟨a1, n1, c1, rfl, hn1, -⟩ := r1.form
    obtain rfl : n1 = 0 := hn1
    clear r1
    go_wp2_with fail
    refine (HMI.out _ k1).mono ?_
    rintro e w2 ⟨rfl, k2⟩
    replace k1 := k1.then k2
    go_wp2_with fail
    refine (HFR.out _ k1).mono ?_
    rintro e w3 ⟨rfl, k3⟩
    replace k1 := k1.then k3
    clear k2 k3
    go_wp2_with fail
    go_quiet (fail)
    go_wp2_with (first | (go_at_call 16; refine (num_any _ _).mono ?_; rintro e w' ⟨rfl, hw⟩; subst w') | (go_at_call 13; refine (works_true _).mono ?_; rintro e w5 ⟨rfl, kk⟩))
    go_ret
    exact ⟨rfl, ((k1.drewN nq).then kk).below⟩
  · have hd : decide (wrap64 ((2 : Int) ^ m) < (U : Int)) = true := by rw [HPW.out]; exact decide_eq_true (by omega)
    have HD := Lib.hid hd
    clear hd hU HPW
    go_enter Try.func4, Try.ntmps4
    go_wp2_with fail
    refine HLE.out.mono ?_
    rintro e w1 ⟨v1, rfl, r1, -, k1⟩
    obtain ⟨a1, n1, c1, rfl, hn1, -⟩ := r1.form
    obtain rfl : n1 = 0 := hn1
    clear r1
    go_wp2_with fail
    refine (HMI.out _ k1).mono ?_
    rintro e w2 ⟨rfl, k2⟩
    replace k1 := k1.then k2
    go_wp2_with fail
    refine (HFR.out _ k1).mono ?_
    rintro e w3 ⟨rfl, k3⟩
    replace k1 := k1.then k3
    clear k2 k3
    have US := Lib.hid (fun nd => HUS.out (w3.drewN nd) (k1.drewN nd))
    have hd := HD.out
    go_wp2_with fail
    go_quiet ((go_at_call 12; exact Calls.quiet_of_same (US.out _)))
    go_wp2_with (first | (go_at_call 16; refine (num_any _ _).mono ?_; rintro e w' ⟨rfl, hw⟩; subst w') | (go_at_call 13; refine (works_true _).mono ?_; rintro e w5 ⟨rfl, kk⟩))
    go_ret
    exact ⟨rfl, ((k1.drewN nq).then kk).below⟩

set_option maxRecDepth 100000 in
set_option maxHeartbeats 8000000 in
theorem law_many_fine (v : Value) (l : List Int) (m : Nat) (w : World) (hv : RdI .i64 w v l) (hl : l.length ≤ 256) (hE : limErr l (m : Int) = 0) : Calls Try.prog 4 #[v, .int .i64 (m : Int)] w (LawEnd w) := by
  obtain ⟨hr, hm1, hm2, hu, hle⟩ := limErr_iff hE
  rw [Int.toNat_natCast] at hle
  have hm1' : 1 ≤ m := by omega
  have hm2' : m ≤ 11 := by omega
  obtain ⟨b1, b2⟩ := min_best hr hm1' hm2' hu hle
  obtain ⟨hL, hO⟩ := limOut_best hr hm1' hu hle
  obtain ⟨hF, hFC, -⟩ := freeOut_best hr hu
  obtain ⟨f1, f2⟩ := free_le hr hm1' hm2' hu hle
  have hfc := flat_cost hr hm1' hm2' hu hle
  have hul := usedL_len l
  have hfit := hL.fits hl (by omega)
  have hFE : freeErr l = 0 := by rw [freeErr, hr, if_pos rfl, if_pos hu]
  have hfe : flatErr ((usedL l).length : Int) (m : Int) = 0 := by
    have h4 : ((usedL l).length : Int) ≤ 256 := by omega
    have h5 : (1 : Int) < ((usedL l).length : Int) := by omega
    simp [flatErr, h4, h5, hm1, hm2, hu, hle]
  obtain ⟨OUT, hOUT⟩ : ∃ O, O = limOut l (m : Int) := ⟨_, rfl⟩
  obtain ⟨c, hc⟩ : ∃ c, c = minOut l (m : Int) := ⟨_, rfl⟩
  obtain ⟨f, hf⟩ : ∃ f, f = freeCost l := ⟨_, rfl⟩
  have hfcost : costOut l (freeOut l) = f := by rw [hFC, hf]; rfl
  have HLE := Lib.hid (lengths_any v l (m : Int) w hv (by omega))
  rw [hE, if_pos rfl, ← hOUT] at HLE
  have HMI : Hid (∀ w', Keeps w w' [] → Calls Try.prog 22 #[v, .int .i64 (m : Int)] w' (CostEnd w' c 0)) := fun w' k => by
    have h := minCost_any v l (m : Int) w' (hv.keeps k) (by omega)
    rw [b1, ← hc] at h; exact h
  have HFR : Hid (∀ w', Keeps w w' [] → Calls Try.prog 23 #[v] w' (RefFree w' f 0)) := fun w' k => by
    have h := r_free v l w' (hv.keeps k) (by omega)
    rw [hFE, if_pos rfl, ← hf] at h; exact h
  have HUS := Lib.hid (fun w' (k : Keeps w w' []) => r_used v l w' (hv.keeps k) (by omega))
  have HCO : Hid (∀ vo w', RdI .i64 w' vo OUT → Keeps w w' [] → Calls Try.prog 18 #[v, vo] w' (RefCost w' c 0)) := fun vo w' h k => by
    have h := r_cost v vo l OUT w' (hv.keeps k) h (by omega) (by rw [hOUT, hL.len]; omega)
    rw [hOUT, hL.costErr hr (by omega), if_pos rfl, ← b2, ← hc] at h; exact h
  have HFI : Hid (∀ vo w', RdI .i64 w' vo OUT → Calls Try.prog 19 #[vo] w' fun e w'' => e = .returned (.tuple #[.bool true, .bool true]) ∧ w'' = w') := fun vo w' h => by
    have h1 := r_fits vo OUT w' h (by rw [hOUT, hL.len]; omega)
    rw [hOUT, hfit.1, hfit.2] at h1
    exact h1
  have HGR : Hid (∀ vo w', RdI .i64 w' vo OUT → Calls Try.prog 20 #[vo] w' fun e w'' => ∃ M E : Int, e = .returned (.tuple #[.int .i64 M, .int .i64 E]) ∧ w' = w'' ∧ M ≤ (m : Int)) := fun vo w' h => by
    refine (r_greatest vo OUT w' h (by rw [hOUT, hL.len]; omega)).mono fun e w'' h => ⟨_, _, h.1, h.2, ?_⟩
    unfold maxOut
    split
    · rw [hOUT, maxOf_eq (within_nonneg (hL.within hl (by omega)))]; exact hL.mx
    · omega
  have HFL : Hid (∀ w', Calls Try.prog 24 #[.int .i64 ((usedL l).length : Int), .int .i64 (m : Int)] w' (RefList w' (flatL (usedL l).length) 0)) := fun w' => by
    have h := r_flat ((usedL l).length : Int) (m : Int) w'
    rw [flatOut, hfe, if_pos rfl, Int.toNat_natCast] at h
    exact h
  have HRI := Lib.hid (fun w' (k : Keeps w w' []) => rising_any v l w' (hv.keeps k) (by omega))
  have HFO : Hid (∀ vo w', RdI .i64 w' vo OUT → Keeps w w' [] → Calls Try.prog 21 #[v, vo] w' fun e w'' => e = .returned (.bool true) ∧ w' = w'') := fun vo w' h k => by
    subst hOUT
    exact r_for_yes v vo l _ w' (hv.keeps k) h hL.len (by omega) hL.sign
  have hlo := hL.len
  rw [← hOUT] at hlo
  have HLO := Lib.hid hlo
  rw [hfcost, ← hc] at f1
  rw [← hc] at hfc
  have HR := Lib.hid hr
  obtain ⟨U, hU⟩ : ∃ U, U = (usedL l).length := ⟨_, rfl⟩
  have HXG : Hid (∀ i s, (sortU l)[i]? = some s → ∃ f : Nat, (flatL U)[U - 1 - i]? = some (f : Int) ∧ f ≤ 108 ∧ (flatX l)[i]? = some (keyC l s, f)) := fun i s hs => by
    obtain ⟨f, g1, g2, g3⟩ := flatX_get (l := l) (by omega) hs
    rw [← hU] at g1 g2
    have hk8 : U.log2 ≤ 8 := by have := (Nat.log2_lt (by omega : U ≠ 0) (k := 9)).2 (by omega); omega
    exact ⟨f, g1, by omega, g3⟩
  have hXL := flatX_len (l := l) (by omega)
  rw [← hU] at hXL
  have HXL := Lib.hid hXL
  have HKB : Hid (∀ s ∈ sortU l, 0 ≤ keyC l s ∧ keyC l s ≤ 2147483648) := fun s hs => by
    obtain ⟨j, rfl, x, hx, h0⟩ := sortU_mem hs
    rw [keyC_at hx]
    exact right_get hr hx
  have HSL : Hid ((sortU l).length = U) := by show _ = _; rw [sortU_len, hU]
  have HFLL : Hid ((flatL U).length = U) := flatL_lengthR (by omega)
  rw [← hU] at HFL HUS hu hle hul
  obtain ⟨A0, n, cp0, rfl, hnl, -⟩ := hv.form
  have HN := Lib.hid hnl
  have d1 : decide ((256 : Int) < (n : Int)) = false := decide_eq_false (by omega)
  have d2 : decide ((m : Int) < 1) = false := decide_eq_false (by omega)
  have d3 : decide (11 < (m : Int)) = false := decide_eq_false (by omega)
  have hm00 : (0 : Int) ≤ (m : Int) := Int.natCast_nonneg _
  have hU256 : U ≤ 256 := by omega
  have HD : Hid (decide (wrap64 ((2 : Int) ^ m) < (U : Int)) = false) := by
    show _ = _
    rw [(wrap_powK m (by omega)).1]
    exact decide_eq_false (by omega)
  have hcc : (c == c) = true := by simp
  have hcf : f ≤ c := f1
  have HFC := Lib.hid hfc
  clear hv hnl hr hu hle b1 b2 hL hO hF hFC f1 f2 hfc hul hfit hFE hfe hOUT hc hf hfcost hlo hU hXL hE
  go_enter Try.func4, Try.ntmps4
  go_wp2_with fail
  refine HLE.out.mono ?_
  rintro e w1 ⟨v1, rfl, r1, -, k1⟩
  obtain ⟨a1, n1, c1, rfl, hn1, -⟩ := r1.form
  obtain rfl : n1 = n := by rw [hn1, HLO.out, ← HN.out]
  have R1 := Lib.hid r1
  clear r1 hn1 HLE
  go_wp2_with fail
  refine (HMI.out _ k1).mono ?_
  rintro e w2 ⟨rfl, k2⟩
  replace k1 := k1.then k2
  replace R1 := Lib.hid (R1.out.keeps k2)
  clear k2 HMI
  go_wp2_with fail
  refine (HFR.out _ k1).mono ?_
  rintro e w3 ⟨rfl, k2⟩
  replace k1 := k1.then k2
  replace R1 := Lib.hid (R1.out.keeps k2)
  clear k2 HFR
  have US := Lib.hid (fun nd => HUS.out (w3.drewN nd) (k1.drewN nd))
  have hd := HD.out
  go_wp2_with fail
  go_quiet ((go_at_call 12; exact Calls.quiet_of_same (US.out _)))
  replace k1 := k1.drewN nq
  replace R1 := Lib.hid (R1.out.drewN nq)
  clear hd US HD
  generalize w3.drewN nq = w4 at *
  go_wp2_with (first | (go_at_call 16; refine (num_any _ _).mono ?_; rintro e w' ⟨rfl, hw⟩; subst w'))
  refine (HCO.out _ _ R1.out k1).mono ?_
  rintro e w5 ⟨rfl, m3, rfl⟩
  replace k1 := k1.drewN m3
  replace R1 := Lib.hid (R1.out.drewN m3)
  clear HCO
  generalize World.drewN _ m3 = w5 at *
  go_wp2_with fail
  refine (HFI.out _ _ R1.out).mono ?_
  rintro e w' ⟨rfl, hw⟩
  subst w'
  go_wp2_with fail
  refine (HGR.out _ _ R1.out).mono ?_
  rintro e w' ⟨M, E, rfl, hw, hMm⟩
  subst w'
  go_wp2_with fail
  refine (HUS.out _ k1).mono ?_
  rintro e w' ⟨rfl, hw⟩
  subst w'
  go_wp2_with fail
  refine (HFL.out _).mono ?_
  rintro e w6 ⟨v6, rfl, r6, -, k2⟩
  replace k1 := k1.then k2
  replace R1 := Lib.hid (R1.out.keeps k2)
  obtain ⟨a6, n6, c6, rfl, hn6, -⟩ := r6.form
  obtain rfl : n6 = U := by rw [hn6, HFLL.out]
  have R6 := Lib.hid r6
  clear k2 r6 hn6 HFL HUS HGR HFI
  go_wp2_with fail
  refine (HRI.out _ k1).mono ?_
  rintro e w7 ⟨v7, Z, rfl, rp, hZ, -, k2⟩
  have hZs : Z = sortU l := by
    unfold Rising at hZ
    rw [HR.out, if_pos rfl] at hZ
    exact sortU_uniq hZ.1 hZ.2
  subst hZs
  obtain ⟨a7, n7, c7, rfl, hn7, -⟩ := rp.form
  obtain rfl : n7 = n6 := by rw [hn7]; simp [pairsC]; exact HSL.out
  replace k1 := k1.then k2
  replace R1 := Lib.hid (R1.out.keeps k2)
  replace R6 := Lib.hid (R6.out.keeps k2)
  have RP := Lib.hid rp
  clear k2 rp hn7 hZ HRI HR
  go_wp2_with fail
  go_loopw [20, 21] (fun s20 s21 wr => ∃ i : Nat, i ≤ n7 ∧ s21 = .int .i64 i ∧ s20 = .int .i64 (costX ((flatX l).take i)) ∧ Hid (0 ≤ costX ((flatX l).take i) ∧ costX ((flatX l).take i) ≤ 231928233984 * (i : Int)) ∧ Hid (∃ q, wr = w7.drewN q)) (fun _ s21 _ => n7 - (intOf s21).toNat)
  case atStart => exact ⟨0, Nat.zero_le _, rfl, rfl, ⟨by simp [costX], by simp [costX]⟩, ⟨0, rfl⟩⟩
  case round =>
    obtain ⟨i, hin, rfl, rfl, hB, hwq⟩ := hrel
    have kq : Keeps w7 wr [] := by obtain ⟨q, rfl⟩ := hwq.out; exact (Keeps.refl w7 []).drewN q
    by_cases hlt : i < n7
    · obtain ⟨s, hs⟩ : ∃ s, (sortU l)[i]? = some s := ⟨_, List.getElem?_eq_getElem (by have := HSL.out; omega)⟩
      obtain ⟨fl, g1, g2, g3⟩ := HXG.out i s hs
      have hkb := HKB.out s (List.mem_of_getElem? hs)
      obtain ⟨b, o, rfl, hb, p1, p2⟩ := (RP.out.keep kq).at (pairsC_get (l := l) hs)
      have hcap := RP.out.cap
      obtain ⟨b6, o6, rfl, hb6, p6⟩ := (R6.out.keeps kq).at g1
      have hcap6 := R6.out.cap
      have hst := Lib.hid (costX_take g3)
      have HNX : Hid (∀ z, ∃ q, wr.drewN z = w7.drewN q) := by obtain ⟨q, rfl⟩ := hwq.out; exact fun z => ⟨q + z, by simp⟩
      have hB1 := hB.out
      dsimp only at p1 p2
      generalize keyC l s = x at *
      obtain ⟨S, hS⟩ : ∃ S, S = costX ((flatX l).take i) := ⟨_, rfl⟩
      rw [← hS] at hB1 hst ⊢
      have hx1 : 0 ≤ x * (fl : Int) := Int.mul_nonneg hkb.1 (by omega)
      have hx2 : x * (fl : Int) ≤ 2147483648 * 108 := Int.mul_le_mul hkb.2 (by omega) (by omega) (by decide)
      have wm : IntKind.i64.wrap (x * (fl : Int)) = x * (fl : Int) := IntWalk.i64_in _ (by omega)
      have wa : IntKind.i64.wrap (S + x * (fl : Int)) = S + x * (fl : Int) := IntWalk.i64_in _ (by omega)
      have e1 : IntKind.i64.wrap ((n7 : Int) - 1) = ((n7 - 1 : Nat) : Int) := by rw [IntWalk.i64_in _ (by omega)]; omega
      have e2 : IntKind.i64.wrap (((n7 - 1 : Nat) : Int) - (i : Int)) = ((n7 - 1 - i : Nat) : Int) := by rw [IntWalk.i64_in _ (by omega)]; omega
      have hNB : Hid (0 ≤ S + x * (fl : Int) ∧ S + x * (fl : Int) ≤ 231928233984 * ((i + 1 : Nat) : Int)) := by
        show _ ∧ _
        obtain ⟨q1, q2⟩ := hB1
        push_cast
        omega
      have hi7 : (i : Int) < (n7 : Int) := by omega
      have hi0 : (0 : Int) ≤ (i : Int) := Int.natCast_nonneg _
      have hj1 : (n7 - 1 - i) < n7 := by omega
      have hj2 : ((n7 - 1 - i : Nat) : Int) < (n7 : Int) := by omega
      have hj0 : (0 : Int) ≤ ((n7 - 1 - i : Nat) : Int) := Int.natCast_nonneg _
      clear hs g1 g3 hS hB hB1 kq hx1 hx2 hkb
      go_wp2_with fail
      go_quiet (fail)
      go_wp2_with fail
      go_roundw
      case rel => exact ⟨i + 1, by omega, by go_num, by rw [hst.out], by rw [hst.out]; exact hNB, HNX.out _⟩
      case measure => simp [intOf]; omega
    · obtain rfl : i = n7 := by omega
      have hEQ : costX ((flatX l).take i) = costX (flatX l) := by rw [List.take_of_length_le (by have := HXL.out; omega)]
      have hce : c ≤ costX ((flatX l).take i) := by rw [hEQ]; exact HFC.out
      replace k1 := k1.then kq
      replace R1 := Lib.hid (R1.out.keeps kq)
      clear hEQ hB hwq kq
      generalize costX ((flatX l).take i) = EV at *
      go_wp2_with (first | (go_at_call 21; refine (HFO.out _ _ R1.out k1).mono ?_; rintro e w' ⟨rfl, hw⟩; subst w') | (go_at_call 13; refine (works_true _).mono ?_; rintro e w8 ⟨rfl, kk⟩))
      go_ret
      exact ⟨rfl, (k1.then kk).below⟩

set_option maxRecDepth 100000 in
theorem law_many (v : Value) (l : List Int) (m : Int) (w : World) (hv : RdI .i64 w v l) : Calls Try.prog 4 #[v, .int .i64 m] w (LawEnd w) := by
  by_cases hl : l.length ≤ 256
  · by_cases hm : m < 1 ∨ 11 < m
    · exact law_many_arg v l m w hv hl hm
    · obtain ⟨M, rfl⟩ := Int.eq_ofNat_of_zero_le (show 0 ≤ m by omega)
      by_cases hE : limErr l (M : Int) = 0
      · exact law_many_fine v l M w hv hl hE
      · exact law_many_err v l M w hv hl (by omega) (by omega) hE
  · obtain ⟨A0, n, cp0, rfl, hnl, -⟩ := hv.form
    have h1 : (256 : Int) < (n : Int) := by omega
    clear hv hnl hl
    go_enter Try.func4, Try.ntmps4
    go_wp2_with (go_at_call 13; refine (works_true _).mono ?_; rintro e w5 ⟨rfl, kk⟩)
    go_ret
    exact ⟨rfl, kk.below⟩

end Go.Proofs.Ythjbngnihcmedaa
