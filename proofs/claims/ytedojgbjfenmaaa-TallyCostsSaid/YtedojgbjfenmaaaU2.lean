/-
  Walks over the reference of package tally: the logarithm, the cost.
-/
import Derived.Test.YtedojgbjfenmaaaT2
import Derived.Test.YtedojgbjfenmaaaT7
import Derived.Test.YtedojgbjfenmaaaT8
import Derived.Test.YtedojgbjfenmaaaU1
namespace Go.Proofs.Ytedojgbjfenmaaa
set_option linter.unusedVariables false
set_option linter.unusedSimpArgs false
set_option linter.unusedSectionVars false
open Go.RowKit

theorem dbl_div (x P : Nat) (hP : 0 < P) : (2 * x) / P = 2 * (x / P) + (if P - x % P ≤ x % P then 1 else 0) ∧ (2 * x) % P = (if P - x % P ≤ x % P then x % P - (P - x % P) else 2 * (x % P)) := by
  have h1 := Nat.div_add_mod x P
  have h2 := Nat.mod_lt x hP
  generalize x / P = d at *
  generalize x % P = r at *
  have hx : 2 * x = P * (2 * d) + 2 * r := by rw [← h1, Nat.mul_add, Nat.mul_left_comm]
  split
  · rename_i h
    have e : 2 * x = P * (2 * d + 1) + (r - (P - r)) := by rw [hx, Nat.mul_add]; omega
    have hl : r - (P - r) < P := by omega
    rw [e]
    exact ⟨by rw [Nat.mul_add_div hP, Nat.div_eq_of_lt hl], by rw [Nat.mul_add_mod, Nat.mod_eq_of_lt hl]⟩
  · rename_i h
    have hl : 2 * r < P := by omega
    rw [hx]
    exact ⟨by rw [Nat.mul_add_div hP, Nat.div_eq_of_lt hl], by rw [Nat.mul_add_mod, Nat.mod_eq_of_lt hl]⟩

/-- What the second loop of the reference's logarithm holds behind i rounds. -/
def LogSt (p P k i K r : Nat) : Prop := K = 2 ^ i * k + (p * 2 ^ i) / P ∧ r = (p * 2 ^ i) % P
theorem LogSt.start {p P k : Nat} (h : p < P) : LogSt p P k 0 k p := ⟨by simp [Nat.div_eq_of_lt h], by simp [Nat.mod_eq_of_lt h]⟩
theorem LogSt.step {p P k i K r : Nat} (hP : 0 < P) (h : LogSt p P k i K r) : LogSt p P k (i + 1) (2 * K + (if P - r ≤ r then 1 else 0)) (if P - r ≤ r then r - (P - r) else 2 * r) := by
  obtain ⟨rfl, rfl⟩ := h
  obtain ⟨h1, h2⟩ := dbl_div (p * 2 ^ i) P hP
  have e : p * 2 ^ (i + 1) = 2 * (p * 2 ^ i) := by rw [Nat.pow_succ]; rw [Nat.mul_comm 2, Nat.mul_assoc]
  refine ⟨?_, ?_⟩
  · rw [e, h1, Nat.pow_succ]
    rw [Nat.mul_add, Nat.mul_comm (2 ^ i) 2, Nat.mul_assoc]
    omega
  · rw [e, h2]
theorem LogSt.bd {p P k i K r : Nat} (hp : p < P) (hk : k ≤ 61) (hi : i ≤ 8) (h : LogSt p P k i K r) : K ≤ 20000 ∧ r < P := by
  obtain ⟨rfl, rfl⟩ := h
  have hP : 0 < P := by omega
  refine ⟨?_, Nat.mod_lt _ hP⟩
  have h1 : (p * 2 ^ i) / P ≤ 2 ^ i := by
    rw [Nat.div_le_iff_le_mul_add_pred hP]
    have : p * 2 ^ i ≤ P * 2 ^ i := Nat.mul_le_mul_right _ (by omega)
    omega
  have h2 : 2 ^ i ≤ 256 := Nat.le_trans (Nat.pow_le_pow_right (by omega) hi) (by decide)
  have h3 : 2 ^ i * k ≤ 256 * 61 := Nat.mul_le_mul h2 hk
  omega
theorem LogSt.fin {N k K r : Nat} (hk : N.log2 = k) (h : LogSt (N - 2 ^ k) (2 ^ k) k 8 K r) : K = logN N := by
  obtain ⟨rfl, -⟩ := h
  unfold logN
  rw [hk]

theorem log2_of {N k P : Nat} (hP : P = 2 ^ k) (h1 : P ≤ N) (h2 : N < 2 * P) : N.log2 = k := by
  subst hP
  have h0 : N ≠ 0 := by have := Nat.two_pow_pos k; omega
  have a1 : k ≤ N.log2 := (Nat.le_log2 h0).2 h1
  have a2 : N.log2 < k + 1 := (Nat.log2_lt h0).2 (by rw [Nat.pow_succ]; omega)
  omega

set_option maxHeartbeats 2000000 in
theorem r_log2 (n : Int) (w : World) (h0 : 1 ≤ n) (h1 : n ≤ 4611686018427387903) :
    Calls Try.prog 31 #[.int .i64 n] w fun e w' => e = .returned (.int .i64 (logI n)) ∧ w' = w := by
  obtain ⟨N, rfl⟩ := Int.eq_ofNat_of_zero_le (a := n) (by omega)
  have hlg : Hid (logI (N : Int) = (logN N : Int)) := by show _ = _; simp [logI]
  have hN1 : 1 ≤ N := by omega
  have hN2 : N ≤ 4611686018427387903 := by omega
  go_enter Try.func31, Try.ntmps31
  go_wp2_with fail
  go_loop [3, 4] (fun s p => ∃ (k P : Nat), s = .int .i64 k ∧ p = .int .i64 P ∧ Hid (P = 2 ^ k) ∧ 1 ≤ P ∧ P ≤ N ∧ k ≤ 61) (fun _ p => N - (intOf p).toNat)
  case atStart => exact ⟨0, 1, rfl, rfl, rfl, Nat.le_refl _, hN1, by omega⟩
  case round =>
    obtain ⟨k, P, rfl, rfl, hP, hP1, hPN, hk⟩ := hrel
    by_cases hlt : P ≤ N / 2
    · have hlt' : (P : Int) ≤ (N : Int) / 2 := by omega
      have h2N : 2 * P ≤ N := by omega
      have hk1 : k + 1 ≤ 61 := by
        have h3 : 2 ^ (k + 1) ≤ N := by rw [Nat.pow_succ, ← hP.out]; omega
        have h4 : N.log2 ≤ 61 := log2_lt hN2
        have h5 := (Nat.le_log2 (n := N) (by omega)).2 h3
        omega
      go_wp2_with fail
      go_round
      case rel => exact ⟨k + 1, 2 * P, by go_num, by go_num, by show _ = _; rw [Nat.pow_succ, ← hP.out]; omega, by omega, h2N, hk1⟩
      case measure => simp [intOf]; omega
    · have hlt' : decide ((P : Int) ≤ (N : Int) / 2) = false := by simp; omega
      have hl2 := Lib.hid (log2_of hP.out hPN (by omega))
      have hst0 : Hid (LogSt (N - 2 ^ k) (2 ^ k) k 0 k (N - P)) := by
        have := LogSt.start (p := N - P) (P := P) (k := k) (by omega)
        show LogSt _ _ _ _ _ _
        rw [← hP.out]; exact this
      have hsub : (N : Int) - (P : Int) = ((N - P : Nat) : Int) := by omega
      have HSUB := Lib.hid hsub
      clear hsub
      go_wp2_with fail
      go_loop [3, 5, 6] (fun s r i => ∃ (K R j : Nat), j ≤ 8 ∧ i = .int .i64 j ∧ s = .int .i64 K ∧ r = .int .i64 R ∧ Hid (LogSt (N - 2 ^ k) (2 ^ k) k j K R)) (fun _ _ i => 8 - (intOf i).toNat)
      case atStart => exact ⟨k, N - P, 0, by omega, rfl, rfl, by rw [HSUB.out], hst0⟩
      case round =>
        obtain ⟨K, R, j, hj, rfl, rfl, rfl, hst⟩ := hrel
        have hb := hst.out.bd (by rw [← hP.out]; omega) hk hj
        rw [← hP.out] at hb
        by_cases hj8 : j < 8
        · have hj8' : (j : Int) < 8 := by omega
          have hnx := hst.out.step (by rw [← hP.out]; omega)
          by_cases hc : P - R ≤ R
          · have hc' : (P : Int) - (R : Int) ≤ (R : Int) := by omega
            rw [if_pos (by rw [← hP.out]; exact hc), if_pos (by rw [← hP.out]; exact hc)] at hnx
            have HNX := Lib.hid hnx
            clear hnx
            go_wp2_with fail
            go_round
            case rel => exact ⟨2 * K + 1, R - (2 ^ k - R), j + 1, by omega, by go_num, by go_num, by rw [← hP.out]; exact congrArg (Value.int .i64) (by omega), HNX.out⟩
            case measure => simp [intOf]; omega
          · have hc' : decide ((P : Int) - (R : Int) ≤ (R : Int)) = false := by simp; omega
            rw [if_neg (by rw [← hP.out]; exact hc), if_neg (by rw [← hP.out]; exact hc)] at hnx
            have HNX := Lib.hid hnx
            clear hnx
            go_wp2_with fail
            go_round
            case rel => exact ⟨2 * K + 0, 2 * R, j + 1, by omega, by go_num, by go_num, by go_num, HNX.out⟩
            case measure => simp [intOf]; omega
        · have : j = 8 := by omega
          subst this
          go_wp2_with fail
          go_ret
          exact ⟨ret_int (by rw [hlg.out, LogSt.fin hl2.out hst.out]), rfl⟩

theorem costT_bd {l : List Int} (hr : rightL l = true) (k : Nat) : 0 ≤ costF (sumL l) (l.take k) ∧ costF (sumL l) (l.take k) ≤ 8725186417262592 := by
  have h1 := (sumL_tot hr).2
  have h2 := (rightL_iff.1 hr)
  have h3 := costF_bd (t := sumL l) (by omega) (l.take k) (fun x hx => by
    have hm := List.mem_of_mem_take hx
    exact ⟨(h2.2 x hm).2, sumL_ge (fun z hz => (h2.2 z hz).1) hm⟩)
  have h4 : (l.take k).length ≤ 256 := by simp; omega
  omega

set_option maxHeartbeats 2000000 in
theorem r_cost (v : Value) (l : List Int) (w : World) (hv : RdI .i64 w v l) (hr : rightL l = true) :
    Calls Try.prog 33 #[v] w fun e w' => e = .returned (.int .i64 (costL l)) ∧ Keeps w w' [] := by
  have hle := (rightL_iff.1 hr).1
  have HT := Lib.hid (r_total v l w hv hr)
  obtain ⟨A0, n, cp0, rfl, hnl, -⟩ := hv.form
  have hT := sumL_tot hr
  have hn' : n ≤ 256 := by omega
  have HV := Lib.hid hv
  have HR := Lib.hid hr
  have HN := Lib.hid hnl
  clear hv hr hnl hle
  obtain ⟨T, hTe⟩ : ∃ T, T = sumL l := ⟨_, rfl⟩
  rw [← hTe] at HT hT
  have HTe := Lib.hid hTe
  clear hTe
  go_enter Try.func33, Try.ntmps33
  go_wp2_with fail
  refine HT.out.mono ?_
  rintro e w1 ⟨rfl, rfl⟩
  obtain ⟨w, rfl⟩ : ∃ w, w = w1 := ⟨_, rfl⟩
  go_wp2_with fail
  go_loopw [4, 5] (fun s i wr => ∃ (k nd : Nat), k ≤ n ∧ i = .int .i64 k ∧ s = .int .i64 (costF T (l.take k)) ∧ wr = w.drewN nd) (fun _ i _ => n - (intOf i).toNat)
  case atStart => exact ⟨0, 0, Nat.zero_le _, rfl, by simp [costF], rfl⟩
  case round =>
    obtain ⟨k, nd, hk, rfl, rfl, rfl⟩ := hrel
    by_cases hlt : k < n
    · obtain ⟨x, hx⟩ : ∃ x, l[k]? = some x := ⟨_, List.getElem?_eq_getElem (by have := HN.out; omega)⟩
      obtain ⟨b2, o2, rfl, hb2, hc2⟩ := HV.out.at hx
      have hcap2 := HV.out.cap
      have hx1 := (right_get HR.out hx)
      have hxt : x ≤ T := by rw [HTe.out]; exact sumL_ge (fun z hz => ((rightL_iff.1 HR.out).2 z hz).1) (List.mem_of_getElem? hx)
      have hcb := costT_bd HR.out k
      rw [← HTe.out] at hcb
      have hst : Hid (costF T (l.take (k + 1)) = costF T (l.take k) + if 0 < x then x * (logI T - logI x) else 0) := by
        show _ = _
        rw [take_next hx, costF_snoc]
      have hkn : (k : Int) < (n : Int) := by omega
      have hk0 : (0 : Int) ≤ (k : Int) := Int.natCast_nonneg _
      clear hx
      by_cases hx0 : 0 < x
      · have htb := term_bd hx0 hx1.2 hxt (by omega)
        have hl1 := logI_bd (n := T) (by omega)
        have hl2 := logI_nonneg x
        have hl3 := logI_le (m := x) (n := T) (by omega) hxt
        have hT1 : 1 ≤ T := by omega
        clear hxt
        rw [if_pos hx0] at hst
        generalize costF T (l.take k) = C at *
        have e1 : IntKind.i64.wrap (logI T - logI x) = logI T - logI x := IntWalk.i64_in _ (by omega)
        have e2 : IntKind.i64.wrap (x * (logI T - logI x)) = x * (logI T - logI x) := IntWalk.i64_in _ (by omega)
        have e3 : IntKind.i64.wrap (C + x * (logI T - logI x)) = C + x * (logI T - logI x) := IntWalk.i64_in _ (by omega)
        go_wp2_with fail
        go_quiet ((go_at_call 31; exact quiet_same2 (r_log2 _ _ (by omega) (by omega))))
        clear e1 e2 e3
        go_wp2_with fail
        go_roundw
        case rel => exact ⟨k + 1, nd + nq, by omega, by go_num, by rw [hst.out], rfl⟩
        case measure => simp [intOf]; omega
      · have hd : decide (0 < x) = false := by simpa using hx0
        rw [if_neg hx0] at hst
        clear hxt
        go_wp2_with fail
        go_roundw
        case rel => exact ⟨k + 1, nd, by omega, by go_num, by rw [hst.out, Int.add_zero], rfl⟩
        case measure => simp [intOf]; omega
    · have : k = n := by omega
      subst this
      go_wp2_with fail
      go_ret
      exact ⟨ret_int (by rw [HN.out, List.take_length, HTe.out]; rfl), (Keeps.refl _ _).drewN nd⟩

end Go.Proofs.Ytedojgbjfenmaaa
