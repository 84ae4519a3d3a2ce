/-
  Walks over package canon: validity of a tree, its greatest length.
-/
import Derived.Test.YtcmagccfagijlaaGreatRows
import Derived.Test.YtcmagccfagijlaaGreatSl
import Derived.Test.YtcmagccfagijlaaGreatMx
import Derived.IntWalk
namespace Go.Proofs.YtcmagccfagijlaaGreat
set_option linter.unusedVariables false
set_option linter.unusedSimpArgs false
set_option linter.unusedSectionVars false
open Go.RowKit

theorem usedT_len (l : List Int) (k : Nat) : (usedL (l.take k)).length ≤ k := by
  have := usedL_len (l.take k)
  simp at this
  omega

set_option maxHeartbeats 2000000 in
theorem c_right (v : Value) (l : List Int) (w : World) (hv : RdI .i64 w v l) (hn : l.length ≤ 1000000) :
    Calls Tryz.prog 115 #[v] w fun e w' => e = .returned (.bool (treeL l)) ∧ w = w' := by
  obtain ⟨A0, n, cp0, rfl, hnl, -⟩ := hv.form
  have HV := Lib.hid hv
  have HN := Lib.hid hnl
  have hn' : n ≤ 1000000 := by omega
  obtain ⟨R, hR⟩ : ∃ R, R = treeL l := ⟨_, rfl⟩
  have HR := Lib.hid hR
  rw [← hR]
  clear hv hnl hn hR
  go_enter Tryz.func115, Tryz.ntmps115
  go_wp2_with fail
  go_loop [3, 4, 9] (fun s c i => ∃ k : Nat, k ≤ n ∧ i = .int .i64 k ∧ s = .int .i64 (sum11 (l.take k) : Nat) ∧ c = .int .i64 (usedL (l.take k)).length ∧ Hid ((l.take k).all (finM 11) = true)) (fun _ _ i => n - (intOf i).toNat)
  case atStart => exact ⟨0, Nat.zero_le _, rfl, rfl, rfl, by simp [Hid]⟩
  case round =>
    obtain ⟨k, hk, rfl, rfl, rfl, hall⟩ := hrel
    by_cases hlt : k < n
    · obtain ⟨x, hx⟩ : ∃ x, l[k]? = some x := ⟨_, List.getElem?_eq_getElem (by have := HN.out; omega)⟩
      obtain ⟨b, o, rfl, hb, hc⟩ := HV.out.at hx
      have hcap := HV.out.cap
      have hkn : (k : Int) < (n : Int) := by omega
      have hs1 := sum11_le (l.take k)
      have hs2 : (l.take k).length ≤ k := List.length_take_le _ _
      have hu1 := usedT_len l k
      have HST : Hid (sum11 (l.take (k + 1)) = sum11 (l.take k) + if 0 < x then 2 ^ (11 - x.toNat) else 0) := by show _ = _; rw [take_next hx, sum11_snoc]
      have HUC := Lib.hid (usedL_count hx)
      have HAL : Hid (finM 11 x = true → (l.take (k + 1)).all (finM 11) = true) := fun h => by rw [take_next hx, List.all_append, hall.out]; simp [h]
      have HBAD : Hid (finM 11 x = false → R = false) := fun h => by
        rw [HR.out, Bool.eq_false_iff]
        intro ht
        have := (treeL_iff.1 ht).2.1 x (List.mem_of_getElem? hx)
        rw [← Bool.not_eq_true, finM_iff] at h
        exact h this
      obtain ⟨S, hS⟩ : ∃ S, S = sum11 (l.take k) := ⟨_, rfl⟩
      obtain ⟨U, hU⟩ : ∃ U, U = (usedL (l.take k)).length := ⟨_, rfl⟩
      rw [← hS] at hs1 HST ⊢
      rw [← hU] at hu1 HUC ⊢
      have hS9 : (S : Int) ≤ 1024000000 := by omega
      have hU9 : (U : Int) ≤ 1000000 := by omega
      clear hx hS hU hs1 hs2
      by_cases hx0 : x < 0
      · obtain rfl := HBAD.out (by simp [finM]; omega)
        go_wp2_with fail
        go_ret
        exact ⟨rfl, rfl⟩
      · have d0 : decide (x < 0) = false := decide_eq_false hx0
        by_cases hx11 : 11 < x
        · obtain rfl := HBAD.out (by simp [finM]; omega)
          go_wp2_with fail
          go_ret
          exact ⟨rfl, rfl⟩
        · have d1 : decide (11 < x) = false := decide_eq_false hx11
          have NAL := Lib.hid (HAL.out (finM_iff.2 ⟨by omega, by omega⟩))
          by_cases hp : 0 < x
          · obtain ⟨X, rfl⟩ : ∃ X : Nat, x = (X : Int) := ⟨x.toNat, by omega⟩
            have hX1 : 1 ≤ X := by omega
            have hX2 : X ≤ 11 := by omega
            have wsub : IntKind.i64.wrap (11 - (X : Int)) = ((11 - X : Nat) : Int) := by rw [IntWalk.i64_in _ (by omega)]; omega
            have hsum : Hid (wrap64 ((S : Int) + wrap64 ((2 : Int) ^ (11 - X))) = ((sum11 (l.take (k + 1)) : Nat) : Int)) := by
              obtain ⟨h3, h4⟩ := pow11 hX1 hX2
              show _ = _
              rw [h3, HST.out, if_pos hp, Int.toNat_natCast]
              clear h3
              generalize 2 ^ (11 - X) = P at *
              rw [IntWalk.wrap64_in _ ⟨by omega, by omega⟩]
              omega
            clear HBAD HAL HST
            go_wp2_with fail
            go_round
            case rel => exact ⟨k + 1, by omega, by go_num, by rw [hsum.out], by rw [HUC.out, if_pos hp]; go_num, NAL⟩
            case measure => simp [intOf]; omega
          · have d2 : decide (0 < x) = false := decide_eq_false hp
            clear HBAD HAL
            go_wp2_with fail
            go_round
            case rel => exact ⟨k + 1, by omega, by go_num, by rw [HST.out, if_neg hp, Nat.add_zero], by rw [HUC.out, if_neg hp, Nat.add_zero], NAL⟩
            case measure => simp [intOf]; omega
    · obtain rfl : k = n := by omega
      have hR2 : Hid (R = ((decide ((k : Int) ≤ 256) && decide (1 < ((usedL (l.take k)).length : Int))) && ((sum11 (l.take k) : Nat) : Int) == 2048)) := by
        have e : l.take k = l := List.take_of_length_le (by have := HN.out; omega)
        have h1 := hall.out
        rw [e] at h1
        show _ = _
        rw [HR.out, e, Bool.eq_iff_iff]
        have h2 := HN.out
        simp [treeL, h1, ← h2]
        omega
      have HR2 := Lib.hid hR2.out
      clear hR2 HR
      generalize sum11 (l.take k) = S at *
      generalize (usedL (l.take k)).length = U at *
      go_wp2_with fail
      all_goals
        go_ret
        refine ⟨ret_bool ?_, rfl⟩
        rw [HR2.out]
        first | (simp [*]; done) | (simp [*]; omega)

end Go.Proofs.YtcmagccfagijlaaGreat
