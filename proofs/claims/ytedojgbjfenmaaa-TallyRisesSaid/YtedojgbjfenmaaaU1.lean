/-
  Walks over the reference of package tally: validity, totals, the greatest.
-/
import Derived.Test.YtedojgbjfenmaaaT2
import Derived.Test.YtedojgbjfenmaaaT4
namespace Go.Proofs.Ytedojgbjfenmaaa
set_option linter.unusedVariables false
set_option linter.unusedSimpArgs false
set_option linter.unusedSectionVars false
open Go.RowKit

set_option maxHeartbeats 1000000 in
theorem r_right (v : Value) (l : List Int) (w : World) (hv : RdI .i64 w v l) (hn : l.length ≤ 1000000) :
    Calls Try.prog 18 #[v] w fun e w' => e = .returned (.bool (rightL l)) ∧ w' = w := by
  obtain ⟨A0, n, cp0, rfl, hnl, -⟩ := hv.form
  have HV := Lib.hid hv
  have HN := Lib.hid hnl
  have hn' : n ≤ 1000000 := by omega
  clear hv hnl hn
  by_cases h256 : 256 < n
  · have hfin : Hid (rightL l = false) := by
      show _ = _
      unfold rightL; rw [← HN.out]; simp; omega
    have h1 : (256 : Int) < (n : Int) := by omega
    go_enter Try.func18, Try.ntmps18
    go_wp2_with fail
    go_ret
    exact ⟨ret_bool hfin.out.symm, rfl⟩
  · have h1 : decide ((256 : Int) < (n : Int)) = false := by simp; omega
    go_enter Try.func18, Try.ntmps18
    go_wp2_with fail
    go_loop [3] (fun i => ∃ k : Nat, k ≤ n ∧ i = .int .i64 k ∧ Hid ((l.take k).all fineC = true)) (fun i => n - (intOf i).toNat)
    case atStart => exact ⟨0, Nat.zero_le _, rfl, by simp [Hid]⟩
    case round =>
      obtain ⟨k, hk, rfl, hall⟩ := hrel
      by_cases hlt : k < n
      · obtain ⟨x, hx⟩ : ∃ x, l[k]? = some x := ⟨_, List.getElem?_eq_getElem (by have := HN.out; omega)⟩
        obtain ⟨b, o, rfl, hb, hc⟩ := HV.out.at hx
        have hcap := HV.out.cap
        have HX := Lib.hid hx
        clear hx
        have hkn : (k : Int) < (n : Int) := by omega
        have bad : fineC x = false → rightL l = false := fun h => by
          unfold rightL
          have : l.all fineC = false := by
            rw [List.all_eq_false]
            exact ⟨x, List.mem_of_getElem? HX.out, by rw [h]; simp⟩
          rw [this, Bool.and_false]
        have HBAD := Lib.hid bad
        clear bad
        by_cases hx0 : x < 0
        · have hfin := Lib.hid (HBAD.out (by simp [fineC]; omega))
          go_wp2_with fail
          go_ret
          exact ⟨ret_bool hfin.out.symm, rfl⟩
        · have hx0' : decide (x < 0) = false := by simpa using hx0
          by_cases hx1 : 2147483648 < x
          · have hfin := Lib.hid (HBAD.out (by simp [fineC]; omega))
            go_wp2_with fail
            go_ret
            exact ⟨ret_bool hfin.out.symm, rfl⟩
          · have hx1' : decide (2147483648 < x) = false := by simpa using hx1
            have hf : Hid (fineC x = true) := by show _ = _; rw [fineC_iff]; omega
            go_wp2_with fail
            go_round
            case rel => exact ⟨k + 1, by omega, by go_num, by show _ = _; rw [take_next HX.out, List.all_append, hall.out]; simp [hf.out]⟩
            case measure => simp [intOf]; omega
      · have : k = n := by omega
        subst this
        go_wp2_with fail
        go_ret
        have h2 := hall.out
        rw [HN.out, List.take_length] at h2
        have h3 : l.length ≤ 256 := by have := HN.out; omega
        exact ⟨ret_bool (by simp [rightL, h2, h3]), rfl⟩

set_option maxHeartbeats 1000000 in
theorem r_total (v : Value) (l : List Int) (w : World) (hv : RdI .i64 w v l) (hr : rightL l = true) :
    Calls Try.prog 24 #[v] w fun e w' => e = .returned (.int .i64 (sumL l)) ∧ w' = w := by
  have hle := (rightL_iff.1 hr).1
  obtain ⟨A0, n, cp0, rfl, hnl, -⟩ := hv.form
  have HV := Lib.hid hv
  have HN := Lib.hid hnl
  have HR := Lib.hid hr
  have hn' : n ≤ 256 := by omega
  clear hv hnl hr hle
  go_enter Try.func24, Try.ntmps24
  go_wp2_with fail
  go_loop [3, 4] (fun s i => ∃ k : Nat, k ≤ n ∧ i = .int .i64 k ∧ s = .int .i64 (sumL (l.take k))) (fun _ i => n - (intOf i).toNat)
  case atStart => exact ⟨0, Nat.zero_le _, rfl, by simp [sumL]⟩
  case round =>
    obtain ⟨k, hk, rfl, rfl⟩ := hrel
    by_cases hlt : k < n
    · obtain ⟨x, hx⟩ : ∃ x, l[k]? = some x := ⟨_, List.getElem?_eq_getElem (by have := HN.out; omega)⟩
      obtain ⟨b, o, rfl, hb, hc⟩ := HV.out.at hx
      have hcap := HV.out.cap
      obtain ⟨hx0, hx1⟩ := right_get HR.out hx
      obtain ⟨hs0, hs1⟩ := sumL_take_bd HR.out k
      have hst : Hid (sumL (l.take (k + 1)) = sumL (l.take k) + x) := by show _ = _; rw [take_next hx, sumL_snoc]
      have hkn : (k : Int) < (n : Int) := by omega
      clear hx
      generalize hs : sumL (l.take k) = s at *
      have HS := Lib.hid hs
      clear hs
      go_wp2_with fail
      go_round
      case rel => exact ⟨k + 1, by omega, by go_num, by rw [hst.out]⟩
      case measure => simp [intOf]; omega
    · have : k = n := by omega
      subst this
      go_wp2_with fail
      go_ret
      exact ⟨ret_int (by rw [HN.out, List.take_length]), rfl⟩

set_option maxHeartbeats 1000000 in
theorem r_used (v : Value) (l : List Int) (w : World) (hv : RdI .i64 w v l) (hn : l.length ≤ 1000000) :
    Calls Try.prog 25 #[v] w fun e w' => e = .returned (.int .i64 (usedL l).length) ∧ w' = w := by
  obtain ⟨A0, n, cp0, rfl, hnl, -⟩ := hv.form
  have HV := Lib.hid hv
  have HN := Lib.hid hnl
  have hn' : n ≤ 1000000 := by omega
  clear hv hnl hn
  go_enter Try.func25, Try.ntmps25
  go_wp2_with fail
  go_loop [3, 4] (fun s i => ∃ k : Nat, k ≤ n ∧ i = .int .i64 k ∧ s = .int .i64 (usedL (l.take k)).length) (fun _ i => n - (intOf i).toNat)
  case atStart => exact ⟨0, Nat.zero_le _, rfl, by simp [usedL, usedF]⟩
  case round =>
    obtain ⟨k, hk, rfl, rfl⟩ := hrel
    by_cases hlt : k < n
    · obtain ⟨x, hx⟩ : ∃ x, l[k]? = some x := ⟨_, List.getElem?_eq_getElem (by have := HN.out; omega)⟩
      obtain ⟨b, o, rfl, hb, hc⟩ := HV.out.at hx
      have hcap := HV.out.cap
      have hl1 := usedL_take_len l k
      have hst : Hid ((usedL (l.take (k + 1))).length = (usedL (l.take k)).length + if 0 < x then 1 else 0) := by
        show _ = _; rw [take_next hx, usedL_snoc, List.length_append]; split <;> rfl
      have hkn : (k : Int) < (n : Int) := by omega
      clear hx
      generalize (usedL (l.take k)).length = s at *
      by_cases h0 : 0 < x
      · go_wp2_with fail
        go_round
        case rel => exact ⟨k + 1, by omega, by go_num, by rw [hst.out, if_pos h0]; go_num⟩
        case measure => simp [intOf]; omega
      · have hd : decide (0 < x) = false := by simpa using h0
        go_wp2_with fail
        go_round
        case rel => exact ⟨k + 1, by omega, by go_num, by rw [hst.out, if_neg h0]; rfl⟩
        case measure => simp [intOf]; omega
    · have : k = n := by omega
      subst this
      go_wp2_with fail
      go_ret
      exact ⟨ret_int (by rw [HN.out, List.take_length]), rfl⟩

def mostRef (l : List Int) : Prop := mostE l = 0 → mostS l = (refG l l.length : Int)
theorem mostRef_all (l : List Int) : mostRef l := by
  intro h
  unfold mostE at h
  unfold mostS
  cases hr : rightL l with
  | false => rw [hr] at h; simp at h
  | true =>
    rw [hr] at h
    cases hu : usedL l with
    | nil => rw [hu] at h; simp at h
    | cons m u => simpa using maxU_ref l m u hu

theorem refG_le (l : List Int) : ∀ k, refG l k ≤ k
  | 0 => Nat.le_refl _
  | k + 1 => by
    have := refG_le l k
    rw [refG]
    split <;> omega

def GEnd (w : World) (l : List Int) (e : Ending) (w' : World) : Prop := e = .returned (.tuple #[.int .i64 (mostS l), .int .i64 (mostE l)]) ∧ Keeps w w' []
set_option maxHeartbeats 2000000 in
theorem r_greatest (v : Value) (l : List Int) (w : World) (hv : RdI .i64 w v l) (hn : l.length ≤ 1000000) :
    Calls Try.prog 27 #[v] w (GEnd w l) := by
  have HC := Lib.hid (r_right v l w hv hn)
  have HU := Lib.hid (r_used v l w hv hn)
  obtain ⟨A0, n, cp0, rfl, hnl, -⟩ := hv.form
  have hn' : n ≤ 1000000 := by omega
  cases hr : rightL l with
  | false =>
    have hfin : Hid (mostS l = 0 ∧ mostE l = 2) := ⟨by simp [mostS, hr], by simp [mostE, hr]⟩
    rw [hr] at HC
    clear hv hr hnl hn HU
    go_enter Try.func27, Try.ntmps27
    go_wp2_with fail
    refine HC.out.mono ?_
    rintro e w' ⟨rfl, rfl⟩
    go_wp2_with fail
    go_ret2
    obtain ⟨h1, h2⟩ := hfin.out
    unfold GEnd
    rw [h1, h2]
    exact ⟨rfl, Keeps.refl _ _⟩
  | true =>
    rw [hr] at HC
    cases hu : usedL l with
    | nil =>
      have hfin : Hid (mostS l = 0 ∧ mostE l = 22) := ⟨by simp [mostS, hr, hu], by simp [mostE, hr, hu]⟩
      rw [hu] at HU
      clear hv hr hnl hn hu
      go_enter Try.func27, Try.ntmps27
      go_wp2_with fail
      refine HC.out.mono ?_
      rintro e w' ⟨rfl, rfl⟩
      go_wp2_with fail
      refine HU.out.mono ?_
      rintro e w' ⟨rfl, rfl⟩
      simp only [List.length_nil, Int.natCast_zero]
      go_wp2_with fail
      go_ret2
      obtain ⟨h1, h2⟩ := hfin.out
      unfold GEnd
      rw [h1, h2]
      exact ⟨rfl, Keeps.refl _ _⟩
    | cons m u =>
      have hE : mostE l = 0 := by simp [mostE, hr, hu]
      have hfin : Hid (mostS l = (refG l l.length : Int) ∧ mostE l = 0) := ⟨mostRef_all l hE, hE⟩
      have hU1 : 1 ≤ (usedL l).length := by rw [hu]; simp
      have hnpos : 0 < l.length := by have := usedL_len l; omega
      have HP := Lib.hid hnpos
      have hU2 : (((usedL l).length : Int) == 0) = false := beq_eq_false_iff_ne.2 (by omega)
      have hU3 : ((usedL l).length == 0) = false := beq_eq_false_iff_ne.2 (by omega)
      generalize (usedL l).length = U at *
      have HV := Lib.hid hv
      have HN := Lib.hid hnl
      have HR := Lib.hid hr
      clear hv hr hnl hn hu hE hnpos
      go_enter Try.func27, Try.ntmps27
      go_wp2_with fail
      refine HC.out.mono ?_
      rintro e w' ⟨rfl, rfl⟩
      go_wp2_with fail
      refine HU.out.mono ?_
      rintro e w' ⟨rfl, rfl⟩
      go_wp2_with fail
      obtain ⟨w, rfl⟩ : ∃ w, w = w' := ⟨_, rfl⟩
      go_loopw [4, 5] (fun s i wr => ∃ k nd : Nat, k ≤ n ∧ i = .int .i64 k ∧ s = .int .i64 (refG l k : Nat) ∧ wr = w.drewN nd) (fun _ i _ => n - (intOf i).toNat)
      case atStart => exact ⟨0, 0, Nat.zero_le _, rfl, rfl, rfl⟩
      case round =>
        obtain ⟨k, nd, hk, rfl, rfl, rfl⟩ := hrel
        by_cases hlt : k < n
        · obtain ⟨x, hx⟩ : ∃ x, l[k]? = some x := ⟨_, List.getElem?_eq_getElem (by have := HN.out; omega)⟩
          have hgl := refG_lt l k (by have := HN.out; omega) HP.out
          obtain ⟨y, hy⟩ : ∃ y, l[refG l k]? = some y := ⟨_, List.getElem?_eq_getElem hgl⟩
          obtain ⟨b, o, rfl, hb, hc⟩ := HV.out.at hx
          obtain ⟨b2, o2, he, hb2, hc2⟩ := HV.out.at hy
          cases he
          have hcap := HV.out.cap
          have hst : Hid (refG l (k + 1) = if y < x then k else refG l k) := by
            show _ = _
            rw [refG]
            have e1 : l.getD (refG l k) 0 = y := by simp [List.getD, hy]
            have e2 : l.getD k 0 = x := by simp [List.getD, hx]
            rw [e1, e2]
          have hgn : refG l k < n := by have := HN.out; omega
          have hkn : (k : Int) < (n : Int) := by omega
          have hk0 : (0 : Int) ≤ (k : Int) := Int.natCast_nonneg _
          clear hx hy hgl
          generalize refG l k = G at *
          have hGn : (G : Int) < (n : Int) := by omega
          have hG0 : (0 : Int) ≤ (G : Int) := Int.natCast_nonneg _
          by_cases hxy : y < x
          · go_wp2_with fail
            go_quiet (fail)
            go_wp2_with fail
            go_roundw
            case rel => exact ⟨k + 1, nd + nq, by omega, by go_num, by rw [hst.out, if_pos hxy], rfl⟩
            case measure => simp [intOf]; omega
          · have hd : decide (y < x) = false := by simpa using hxy
            go_wp2_with fail
            go_quiet (fail)
            go_wp2_with fail
            go_roundw
            case rel => exact ⟨k + 1, nd + nq, by omega, by go_num, by rw [hst.out, if_neg (by omega)], rfl⟩
            case measure => simp [intOf]; omega
        · have : k = n := by omega
          subst this
          go_wp2_with fail
          go_ret2
          obtain ⟨h1, h2⟩ := hfin.out
          unfold GEnd
          rw [h1, h2, HN.out]
          exact ⟨rfl, (Keeps.refl _ _).drewN nd⟩

end Go.Proofs.Ytedojgbjfenmaaa
