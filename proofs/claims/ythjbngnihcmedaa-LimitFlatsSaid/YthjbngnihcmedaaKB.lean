/-
  Walks over the references of package limit: Sum, Fits.
-/
import Derived.Test.YthjbngnihcmedaaKA
namespace Go.Proofs.Ythjbngnihcmedaa
set_option linter.unusedVariables false
set_option linter.unusedSimpArgs false
set_option linter.unusedSectionVars false
open Go.RowKit

/-- The sum of Kraft over the first k symbols. -/
def kraftT (l : List Int) (k : Nat) : Nat := kraftS l (usedL (l.take k))
theorem kraftT_zero (l : List Int) : kraftT l 0 = 0 := rfl
theorem kraftT_all {l : List Int} {k : Nat} (h : l.length ≤ k) : kraftT l k = kraftN l := by rw [kraftT, kraftN, List.take_of_length_le h]
theorem kraftT_step {l : List Int} {k : Nat} {x : Int} (h : l[k]? = some x) : kraftT l (k + 1) = kraftT l k + (if 0 < x then 2 ^ (60 - x.toNat) else 0) := by
  have hk : (l.take k).length = k := by have := (List.getElem?_eq_some_iff.1 h).1; simp; omega
  unfold kraftT
  rw [take_next h, usedL_snoc, kraftS_append, hk]
  split
  · simp [kraftS, keyC_at h]
  · simp [kraftS]
def satK (n : Nat) : Int := if 1152921504606846977 < (n : Int) then 1152921504606846977 else n

theorem sat_step {T X : Nat} (h1 : 1 ≤ X) (h2 : X ≤ 60) : min 1152921504606846977 (IntKind.u64.wrap (satK T + 1152921504606846976 / 2 ^ X)) = satK (T + 2 ^ (60 - X)) := by
  have e1 : (1152921504606846976 : Int) / 2 ^ X = ((2 ^ (60 - X) : Nat) : Int) := by
    have h : (1152921504606846976 : Nat) = 2 ^ (60 - X) * 2 ^ X := by
      rw [← Nat.pow_add, show 60 - X + X = 60 by omega]
    have h3 : (1152921504606846976 : Nat) / 2 ^ X = 2 ^ (60 - X) := by
      rw [h, Nat.mul_div_cancel _ (Nat.two_pow_pos X)]
    have h4 : ((2 : Int) ^ X) = ((2 ^ X : Nat) : Int) := by simp
    rw [h4, ← h3]
    rfl
  have hb := (pow60 h1 h2).2
  rw [e1]
  clear e1
  generalize 2 ^ (60 - X) = P at *
  have hs : 0 ≤ satK T ∧ satK T ≤ 1152921504606846977 := by unfold satK; split <;> omega
  rw [IntWalk.u64_in _ (by omega)]
  unfold satK at *
  push_cast
  split <;> split <;> omega

set_option maxHeartbeats 1000000 in
theorem r_sum (v : Value) (l : List Int) (w : World) (hv : RdI .i64 w v l) (hr : withinL 60 l = true) :
    Calls Try.prog 43 #[v] w fun e w' => e = .returned (.int .u64 (satK (kraftN l))) ∧ w' = w := by
  obtain ⟨A0, n, cp0, rfl, hnl, -⟩ := hv.form
  have HV := Lib.hid hv
  have HN := Lib.hid hnl
  have hn' : n ≤ 256 := by have := (withinL_iff.1 hr).1; omega
  have HR := Lib.hid hr
  clear hv hnl hr
  go_enter Try.func43, Try.ntmps43
  go_wp2_with fail
  go_loop [4, 5] (fun s i => ∃ k : Nat, k ≤ n ∧ i = .int .i64 k ∧ s = .int .u64 (satK (kraftT l k))) (fun _ i => n - (intOf i).toNat)
  case atStart => exact ⟨0, Nat.zero_le _, rfl, rfl⟩
  case round =>
    obtain ⟨k, hk, rfl, rfl⟩ := hrel
    by_cases hlt : k < n
    · obtain ⟨x, hx⟩ : ∃ x, l[k]? = some x := ⟨_, List.getElem?_eq_getElem (by have := HN.out; omega)⟩
      obtain ⟨b, o, rfl, hb, hc⟩ := HV.out.at hx
      have hxb := (withinL_iff.1 HR.out).2 x (List.mem_of_getElem? hx)
      have hcap := HV.out.cap
      have hkn : (k : Int) < (n : Int) := by omega
      have HST := Lib.hid (kraftT_step hx)
      have hs1 : 0 ≤ satK (kraftT l k) ∧ satK (kraftT l k) ≤ 1152921504606846977 := by unfold satK; split <;> omega
      obtain ⟨S, hS⟩ : ∃ S, S = satK (kraftT l k) := ⟨_, rfl⟩
      have HS := Lib.hid hS
      rw [← hS] at hs1 ⊢
      clear hx hS
      by_cases h0 : 0 < x
      · obtain ⟨X, rfl⟩ : ∃ X : Nat, x = (X : Int) := ⟨x.toNat, by omega⟩
        have hX1 : 1 ≤ X := by omega
        have hX2 : X ≤ 60 := by omega
        have HF := Lib.hid (sat_step (T := kraftT l k) hX1 hX2)
        clear hX1 hX2
        go_wp2_with fail
        go_round
        case rel => exact ⟨k + 1, by omega, by go_num, by rw [HST.out, if_pos h0, HS.out, HF.out, Int.toNat_natCast]⟩
        case measure => simp [intOf]; omega
      · have hd : decide (0 < x) = false := by simpa using h0
        go_wp2_with fail
        go_round
        case rel => exact ⟨k + 1, by omega, by go_num, by rw [HST.out, if_neg h0, Nat.add_zero, HS.out]⟩
        case measure => simp [intOf]; omega
    · have : k = n := by omega
      subst this
      go_wp2_with fail
      go_ret
      rw [kraftT_all (by have := HN.out; omega)]
      exact ⟨rfl, rfl⟩

theorem satK_le (n : Nat) : decide (satK n ≤ 1152921504606846976) = decide (n ≤ 1152921504606846976) := by
  rw [Bool.eq_iff_iff]; unfold satK; simp; split <;> omega
theorem satK_eq (n : Nat) : (satK n == 1152921504606846976) = decide (n = 1152921504606846976) := by
  rw [Bool.eq_iff_iff]; unfold satK; simp; split <;> omega

set_option maxHeartbeats 1000000 in
theorem r_fits (v : Value) (l : List Int) (w : World) (hv : RdI .i64 w v l) (hn : l.length ≤ 1000000) :
    Calls Try.prog 19 #[v] w fun e w' => e = .returned (.tuple #[.bool (fitsL l), .bool (fullL l)]) ∧ w' = w := by
  have HR := Lib.hid (r_right13 v l w hv hn)
  cases h60 : withinL 60 l with
  | false =>
    have e1 : fitsL l = false := by rw [fitsL, h60]; rfl
    have e2 : fullL l = false := by rw [fullL, e1]; rfl
    rw [e1, e2]
    rw [h60] at HR
    obtain ⟨A0, n, cp0, rfl, hnl, -⟩ := hv.form
    clear hv hnl e1 e2 h60
    go_enter Try.func19, Try.ntmps19
    go_wp2_with (first | (go_at_call 41; refine HR.out.mono ?_; rintro e w' ⟨rfl, rfl⟩))
    go_ret2
    exact ⟨rfl, rfl⟩
  | true =>
    have HS := Lib.hid (r_sum v l w hv h60)
    have e1 : fitsL l = decide (satK (kraftN l) ≤ 1152921504606846976) := by rw [fitsL, h60, satK_le]; rfl
    have e2 : fullL l = (satK (kraftN l) == 1152921504606846976) := by
      rw [satK_eq, fullL, e1, satK_le, Bool.eq_iff_iff]; simp; omega
    rw [e1, e2]
    rw [h60] at HR
    obtain ⟨A0, n, cp0, rfl, hnl, -⟩ := hv.form
    generalize satK (kraftN l) = S at *
    clear hv hnl e1 e2 h60
    go_enter Try.func19, Try.ntmps19
    go_wp2_with (first | (go_at_call 41; refine HR.out.mono ?_; rintro e w' ⟨rfl, rfl⟩) | (go_at_call 43; refine HS.out.mono ?_; rintro e w' ⟨rfl, rfl⟩))
    go_ret2
    exact ⟨rfl, rfl⟩

end Go.Proofs.Ythjbngnihcmedaa
