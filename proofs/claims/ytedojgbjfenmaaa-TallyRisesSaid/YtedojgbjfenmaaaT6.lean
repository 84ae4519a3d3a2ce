/-
  Walks over package tally: the logarithm.
-/
import Derived.Test.YtedojgbjfenmaaaT2
import Derived.Test.YtedojgbjfenmaaaShelf
import Derived.IntWalk
namespace Go.Proofs.Ytedojgbjfenmaaa
set_option linter.unusedVariables false
set_option linter.unusedSimpArgs false
set_option linter.unusedSectionVars false
open Go.RowKit

theorem bitLenAux_log (f n : Nat) (h : n < 2 ^ f) (h0 : 0 < n) : Go.Lib.bitLenAux f n = n.log2 + 1 := by
  induction f generalizing n with
  | zero => omega
  | succ f ih =>
    rw [Go.Lib.bitLenAux, if_neg (by omega)]
    by_cases h2 : n / 2 = 0
    · have : n = 1 := by omega
      subst this
      cases f <;> simp [Go.Lib.bitLenAux, Nat.log2_def]
    · rw [ih (n / 2) (by rw [Nat.pow_succ] at h; omega) (by omega)]
      rw [Nat.log2_def n, if_pos (by omega)]
      omega
theorem bitLen_log {n : Nat} (h0 : 0 < n) (h : n < 18446744073709551616) : Go.Lib.bitLen n = n.log2 + 1 := bitLenAux_log 64 n h h0

theorem pow_cast (k : Nat) : ((2 : Int) ^ k) = ((2 ^ k : Nat) : Int) := by simp
theorem form_hi (K N P D q : Nat) (hP : P ≤ N) (hN : N ≤ 4611686018427387903) (hq : (N - P) / D = q) (hb : 256 * K + q ≤ 15871) :
    wrap64 ((K : Int) * 256 + wrap64 (IntKind.u64.wrap ((N : Int) - IntKind.u64.wrap ((P : Nat) : Int)) / ((D : Nat) : Int))) = ((256 * K + q : Nat) : Int) := by
  have e2 : (N : Int) - ((P : Nat) : Int) = ((N - P : Nat) : Int) := by omega
  rw [IntWalk.u64_in (P : Int) ⟨by omega, by omega⟩, e2, IntWalk.u64_in ((N - P : Nat) : Int) ⟨by omega, by omega⟩, ← Int.natCast_ediv, hq, IntWalk.wrap64_in (q : Int) ⟨by omega, by omega⟩, IntWalk.wrap64_in _ ⟨by omega, by omega⟩]
  omega
theorem form_lo (K N P D q : Nat) (hP : P ≤ N) (hN : N ≤ 4611686018427387903) (hq : (N - P) * D = q) (hb : 256 * K + q ≤ 15871) :
    wrap64 ((K : Int) * 256 + wrap64 (IntKind.u64.wrap (IntKind.u64.wrap ((N : Int) - IntKind.u64.wrap ((P : Nat) : Int)) * ((D : Nat) : Int)))) = ((256 * K + q : Nat) : Int) := by
  have e2 : (N : Int) - ((P : Nat) : Int) = ((N - P : Nat) : Int) := by omega
  rw [IntWalk.u64_in (P : Int) ⟨by omega, by omega⟩, e2, IntWalk.u64_in ((N - P : Nat) : Int) ⟨by omega, by omega⟩, ← Int.natCast_mul, hq, IntWalk.u64_in (q : Int) ⟨by omega, by omega⟩, IntWalk.wrap64_in (q : Int) ⟨by omega, by omega⟩, IntWalk.wrap64_in _ ⟨by omega, by omega⟩]
  omega
theorem log_hi_form (N k : Nat) (hN : 1 ≤ N) (hk : N.log2 = k) (h8 : 8 ≤ k) (hb : N ≤ 4611686018427387903) :
    wrap64 ((k : Int) * 256 + wrap64 (IntKind.u64.wrap ((N : Int) - IntKind.u64.wrap (2 ^ k)) / 2 ^ (k - 8))) = (logN N : Int) := by
  have h1 : 2 ^ k ≤ N := by rw [← hk]; exact Nat.log2_self_le (by omega)
  have hl := log_hi hk h8
  have hb2 := logN_bd hb
  rw [hl] at hb2 ⊢
  rw [pow_cast, pow_cast]
  exact form_hi k N (2 ^ k) (2 ^ (k - 8)) _ h1 hb rfl hb2
theorem log_lo_form (N k : Nat) (hN : 1 ≤ N) (hk : N.log2 = k) (h8 : k ≤ 8) (hb : N ≤ 4611686018427387903) :
    wrap64 ((k : Int) * 256 + wrap64 (IntKind.u64.wrap (IntKind.u64.wrap ((N : Int) - IntKind.u64.wrap (2 ^ k)) * 2 ^ (8 - k)))) = (logN N : Int) := by
  have h1 : 2 ^ k ≤ N := by rw [← hk]; exact Nat.log2_self_le (by omega)
  have hl := log_lo hk h8
  have hb2 := logN_bd hb
  rw [hl] at hb2 ⊢
  rw [pow_cast, pow_cast]
  exact form_lo k N (2 ^ k) (2 ^ (8 - k)) _ h1 hb rfl hb2

set_option maxHeartbeats 400000 in
theorem log_any (n : Int) (w : World) (h0 : 1 ≤ n) (h1 : n ≤ 4611686018427387903) :
    Calls Try.prog 50 #[.int .i64 n] w fun e w' => e = .returned (.int .i64 (logI n)) ∧ w' = w := by
  obtain ⟨N, rfl⟩ := Int.eq_ofNat_of_zero_le (a := n) (by omega)
  obtain ⟨k, hk⟩ : ∃ k : Nat, N.log2 = k := ⟨_, rfl⟩
  have hbl : (Go.Lib.bitLen (N : Int).toNat : Int) = (k : Int) + 1 := by rw [Int.toNat_natCast, bitLen_log (by omega) (by omega), hk]; rfl
  have HK := Lib.hid hbl
  have HL := Lib.hid hk
  have hk61 : k ≤ 61 := by rw [← hk]; exact log2_lt (by omega)
  clear hbl hk
  by_cases h8 : 8 ≤ k
  · have h8' : (8 : Int) ≤ (k : Int) := by omega
    go_enter Try.func50, Try.ntmps50
    go_wp2_with fail
    refine (Try.bits_Len (N : Int) _ (by omega) (by omega)).mono ?_
    rintro e w' ⟨rfl, rfl⟩
    rw [HK.out]
    go_wp2_with fail
    go_ret
    exact ⟨ret_int (log_hi_form N k (by omega) HL.out h8 (by omega)), rfl⟩
  · have h8' : decide ((8 : Int) ≤ (k : Int)) = false := by simp; omega
    have h8'' : (k : Int) ≤ 8 := by omega
    go_enter Try.func50, Try.ntmps50
    go_wp2_with fail
    refine (Try.bits_Len (N : Int) _ (by omega) (by omega)).mono ?_
    rintro e w' ⟨rfl, rfl⟩
    rw [HK.out]
    go_wp2_with fail
    go_ret
    exact ⟨ret_int (log_lo_form N k (by omega) HL.out (by omega) (by omega)), rfl⟩

def log2E (n : Int) : Bool := decide (1 ≤ n) && decide (n ≤ 4611686018427387903)
theorem log2_yes (n : Int) (w : World) (h0 : 1 ≤ n) (h1 : n ≤ 4611686018427387903) :
    Calls Try.prog 30 #[.int .i64 n] w fun e w' => e = .returned (.tuple #[.int .i64 (logI n), .int .i64 0]) ∧ w' = w := by
  have G := Lib.hid (log_any n w h0 h1)
  have d1 : decide (n < 1) = false := by simp; omega
  go_enter Try.func30, Try.ntmps30
  go_wp2_with fail
  refine G.out.mono ?_
  rintro e w' ⟨rfl, rfl⟩
  go_wp2_with fail
  go_ret2
  exact ⟨rfl, rfl⟩
theorem log2_no (n : Int) (w : World) (h : n < 1 ∨ 4611686018427387903 < n) :
    Calls Try.prog 30 #[.int .i64 n] w fun e w' => e = .returned (.tuple #[.int .i64 0, .int .i64 2]) ∧ w' = w := by
  by_cases h1 : n < 1
  · clear h
    go_enter Try.func30, Try.ntmps30
    go_wp2_with fail
    go_ret2
    exact ⟨rfl, rfl⟩
  · have h2 : 4611686018427387903 < n := by omega
    have d1 : decide (n < 1) = false := by simp; omega
    clear h
    go_enter Try.func30, Try.ntmps30
    go_wp2_with fail
    go_ret2
    exact ⟨rfl, rfl⟩

end Go.Proofs.Ytedojgbjfenmaaa
