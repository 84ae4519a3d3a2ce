/-
  Rows of bits in plain words: the bits of a number, the number of some bits, the bits of bytes. No program is in sight here.
  What a description of a table says, in plain words: bits in, norms or an error out. (No program in sight.)
  The plain mathematics of package tally: what its functions compute of a list of numbers. No program is in sight here.
  Words for memory, used by all walks of the seat: a block that holds just these cells; which of the old blocks a call may change. No program is in sight here.
  The step from a walk to a law's row, once for all laws of the seat: whoever shows that the call returns true and changes nothing that lay in memory before, has the row's contract.
  Slices of numbers in memory: what a slice value reads as; what keeps it; how an argument opens. No program is in sight here.
  Valid tables in plain words; walks over package norm: Check.
  Bits packed into bytes, and a description of a table written, in plain words. (No walk is done here.)
  Walks over package bitin: the bits of a row as a number. (Printed by mkBv.py.)
-/
import Derived.ProofKit
import Derived.Laws.Bits64b
import Derived.RowKit
import Derived.WalkKit
import Derived.WalkSpells
import Derived.WalkLawsBesides
import Derived.Lib.Hide
import Derived.Defers
import Derived.Recover
import Derived.StillTailTactics
import Derived.Deep.QuietTactic
import Derived.BigQuiet
import Derived.Carry
import Derived.Test.YtophgpnnjphnmaaGreatRows
import Derived.Deep.Slices
import Derived.OpenShut
import Derived.OwnWalk
import Derived.Laws.AppendOwnNone
namespace Go.Proofs.YtophgpnnjphnmaaGreat
section
set_option linter.unusedVariables false
set_option linter.unusedSimpArgs false

/-- The low n bits of v, the lowest first. -/
def bitsN (v : Nat) : Nat → List Bool
  | 0 => []
  | n + 1 => decide (v % 2 = 1) :: bitsN (v / 2) n
/-- The number of some bits, the lowest first. -/
def valL : List Bool → Nat
  | [] => 0
  | b :: l => (if b then 1 else 0) + 2 * valL l
/-- The bits of bytes. -/
def rowBits : List Int → List Bool
  | [] => []
  | x :: B => bitsN x.toNat 8 ++ rowBits B

theorem bitsN_len (v n : Nat) : (bitsN v n).length = n := by
  induction n generalizing v with
  | zero => rfl
  | succ n ih => simp [bitsN, ih]
theorem valL_append (a b : List Bool) : valL (a ++ b) = valL a + 2 ^ a.length * valL b := by
  induction a with
  | nil => simp [valL]
  | cons x a ih =>
    simp only [List.cons_append, valL, ih, List.length_cons, Nat.pow_succ]
    have : 2 * (2 ^ a.length * valL b) = 2 ^ a.length * 2 * valL b := by rw [Nat.mul_comm (2 ^ a.length) 2, Nat.mul_assoc]
    omega
theorem valL_lt (a : List Bool) : valL a < 2 ^ a.length := by
  induction a with
  | nil => simp [valL]
  | cons x a ih =>
    simp only [valL, List.length_cons, Nat.pow_succ]
    split <;> omega
theorem valL_bitsN (v n : Nat) : valL (bitsN v n) = v % 2 ^ n := by
  induction n generalizing v with
  | zero => simp [bitsN, valL, Nat.mod_one]
  | succ n ih =>
    have h1 : v % 2 ^ (n + 1) = v % 2 + 2 * (v / 2 % 2 ^ n) := by
      rw [Nat.pow_succ, Nat.mul_comm, Nat.mod_mul]
    simp only [bitsN, valL, ih]
    rw [h1]
    rcases Nat.mod_two_eq_zero_or_one v with h | h <;> simp [h]
theorem bitsN_drop (v n s : Nat) (h : s ≤ n) : (bitsN v n).drop s = bitsN (v / 2 ^ s) (n - s) := by
  induction s generalizing v n with
  | zero => simp
  | succ s ih =>
    obtain ⟨m, rfl⟩ : ∃ m, n = m + 1 := ⟨n - 1, by omega⟩
    simp only [bitsN, List.drop_succ_cons]
    rw [ih _ _ (by omega), Nat.div_div_eq_div_mul, Nat.pow_succ, Nat.mul_comm 2, Nat.succ_sub_succ]
theorem bitsN_take (v n k : Nat) (h : k ≤ n) : (bitsN v n).take k = bitsN v k := by
  induction k generalizing v n with
  | zero => simp [bitsN]
  | succ k ih =>
    obtain ⟨m, rfl⟩ : ∃ m, n = m + 1 := ⟨n - 1, by omega⟩
    simp only [bitsN, List.take_succ_cons]
    rw [ih _ _ (by omega)]
theorem rowBits_len (B : List Int) : (rowBits B).length = 8 * B.length := by
  induction B with
  | nil => rfl
  | cons x B ih => simp only [rowBits, List.length_append, bitsN_len, ih, List.length_cons]; omega
theorem rowBits_append (A B : List Int) : rowBits (A ++ B) = rowBits A ++ rowBits B := by
  induction A with
  | nil => rfl
  | cons x A ih => simp [rowBits, ih]
/-- The bits from a whole byte on. -/
theorem rowBits_drop (B : List Int) (i : Nat) : (rowBits B).drop (8 * i) = rowBits (B.drop i) := by
  induction i generalizing B with
  | zero => simp
  | succ i ih =>
    cases B with
    | nil => simp [rowBits]
    | cons x B =>
      rw [List.drop_succ_cons, ← ih, rowBits, show 8 * (i + 1) = 8 + 8 * i by omega, ← List.drop_drop, List.drop_left' (bitsN_len _ _)]
/-- Some bits within one byte. -/
theorem rowBits_piece {B : List Int} {i s k : Nat} {x : Int} (h : B[i]? = some x) (hs : s + k ≤ 8) : ((rowBits B).drop (8 * i + s)).take k = bitsN (x.toNat / 2 ^ s) k := by
  have hi := (List.getElem?_eq_some_iff.1 h).1
  rw [← List.drop_drop, rowBits_drop, List.drop_eq_getElem_cons hi, (List.getElem?_eq_some_iff.1 h).2, rowBits]
  rw [List.drop_append_of_le_length (by rw [bitsN_len]; omega), List.take_append_of_le_length (by rw [List.length_drop, bitsN_len]; omega), bitsN_drop _ _ _ (by omega), bitsN_take _ _ _ (by omega)]
theorem take_split {α : Type} (l : List α) (a k : Nat) : l.take (a + k) = l.take a ++ (l.drop a).take k := by
  rw [← List.take_append_drop a (l.take (a + k)), List.take_take, Nat.min_eq_left (by omega), List.drop_take]
  congr 1
  rw [Nat.add_sub_cancel_left]

theorem wrapU_nat {a : Nat} (h : a < 18446744073709551616) : IntKind.u64.wrap (a : Int) = (a : Int) := by
  simp [IntKind.wrap, IntKind.signed, IntKind.bits]
  omega
theorem or_high {v got y : Nat} (hv : v < 2 ^ got) : v ||| (y * 2 ^ got) = v + 2 ^ got * y := by
  rw [Nat.or_comm, ← Nat.shiftLeft_eq, ← Nat.shiftLeft_add_eq_or_of_lt hv, Nat.shiftLeft_eq, Nat.mul_comm, Nat.add_comm]
/-- A piece of a byte is laid above what has come. -/
theorem bit_step {v got x s k : Nat} (hv : v < 2 ^ got) (hx : x ≤ 255) (hk : got + k ≤ 64) (hk8 : k ≤ 8) :
    bits .or .u64 (v : Int) (IntKind.u64.wrap (bits .and .u64 (IntKind.u64.wrap (x : Int) / 2 ^ s) (IntKind.u64.wrap (IntKind.u64.wrap (2 ^ k) - 1)) * 2 ^ got)) = ((v + 2 ^ got * (x / 2 ^ s % 2 ^ k) : Nat) : Int) := by
  have hp : ∀ m, 0 < 2 ^ m := fun m => Nat.pow_pos (by omega)
  have h64 : 2 ^ got * 2 ^ k ≤ 18446744073709551616 := by
    rw [← Nat.pow_add, show (18446744073709551616 : Nat) = 2 ^ 64 by decide]
    exact Nat.pow_le_pow_right (by omega) hk
  have hk1 : 2 ^ k ≤ 256 := by
    rw [show (256 : Nat) = 2 ^ 8 by decide]
    exact Nat.pow_le_pow_right (by omega) hk8
  have hg1 : 2 ^ got ≤ 18446744073709551616 := Nat.le_trans (Nat.le_mul_of_pos_right _ (hp k)) h64
  have e1 : IntKind.u64.wrap (x : Int) / 2 ^ s = ((x / 2 ^ s : Nat) : Int) := by rw [wrapU_nat (by omega)]; simp
  have e2 : IntKind.u64.wrap (IntKind.u64.wrap (2 ^ k) - 1) = ((2 ^ k - 1 : Nat) : Int) := by
    have h1 : ((2 : Int) ^ k) = ((2 ^ k : Nat) : Int) := by simp
    have h2 := hp k
    rw [h1, wrapU_nat (by omega), show ((2 ^ k : Nat) : Int) - 1 = ((2 ^ k - 1 : Nat) : Int) by omega, wrapU_nat (by omega)]
  have hd : x / 2 ^ s ≤ x := Nat.div_le_self _ _
  rw [e1, e2, bits_and_u64_nat _ _ (by omega) (by omega), Nat.and_two_pow_sub_one_eq_mod]
  obtain ⟨y, hy⟩ : ∃ y, x / 2 ^ s % 2 ^ k = y := ⟨_, rfl⟩
  rw [hy]
  have hyk : y < 2 ^ k := by rw [← hy]; exact Nat.mod_lt _ (hp k)
  have h3 : ((y : Int) * 2 ^ got) = ((y * 2 ^ got : Nat) : Int) := by simp
  have h4 : y * 2 ^ got + 2 ^ got ≤ 2 ^ got * 2 ^ k := by
    have := Nat.mul_le_mul_left (2 ^ got) hyk
    rw [Nat.mul_succ, Nat.mul_comm] at this
    exact this
  have h5 := hp got
  rw [h3, wrapU_nat (by omega), bits_or_u64_nat _ _ (by omega) (by omega), or_high hv]
end

section
/-- n bits from the front. -/
def tk (L : List Bool) (n : Nat) : Except Int (Nat × List Bool) := if n ≤ L.length then .ok (valL (L.take n), L.drop n) else .error 3
theorem tk_ok {L : List Bool} {n : Nat} (h : n ≤ L.length) : tk L n = .ok (valL (L.take n), L.drop n) := if_pos h
theorem tk_no {L : List Bool} {n : Nat} (h : L.length < n) : tk L n = .error 3 := if_neg (by omega)
theorem tk_lt {L L1 : List Bool} {n t : Nat} (h : tk L n = .ok (t, L1)) : t < 2 ^ n ∧ L1.length + n = L.length := by
  unfold tk at h
  split at h
  · rename_i hn
    injection h with h
    injection h with h1 h2
    subst h1 h2
    refine ⟨?_, by simp; omega⟩
    have := valL_lt (L.take n)
    rwa [List.length_take, Nat.min_eq_left hn] at this
  · cases h

/-- A number below m in truncated binary code. -/
def numP (L : List Bool) (m : Nat) : Except Int (Nat × List Bool) :=
  match tk L m.log2 with
  | .error e => .error e
  | .ok (t, L1) => if t < 2 ^ (m.log2 + 1) - m then .ok (t, L1) else
    match tk L1 1 with
    | .error e => .error e
    | .ok (c, L2) => .ok (2 * t + c - (2 ^ (m.log2 + 1) - m), L2)

theorem log2_le {m : Nat} (h : 0 < m) : 2 ^ m.log2 ≤ m := (Nat.le_log2 (by omega)).1 (Nat.le_refl _)
theorem log2_ltD {m : Nat} (h : 0 < m) : m < 2 ^ (m.log2 + 1) := (Nat.log2_lt (by omega)).1 (Nat.lt_succ_self _)

theorem numP_lt {L L1 : List Bool} {m v : Nat} (hm : 0 < m) (h : numP L m = .ok (v, L1)) : v < m ∧ L1.length + m.log2 ≤ L.length ∧ L.length ≤ L1.length + m.log2 + 1 := by
  unfold numP at h
  have h1 := log2_le hm
  have h2 := log2_ltD hm
  have h3 : 2 ^ (m.log2 + 1) = 2 * 2 ^ m.log2 := by rw [Nat.pow_succ]; omega
  split at h
  · cases h
  · rename_i t L0 ht
    obtain ⟨g1, g2⟩ := tk_lt ht
    split at h
    · injection h with h
      injection h with e1 e2
      subst e1 e2
      omega
    · split at h
      · cases h
      · rename_i c L2 hc
        obtain ⟨g3, g4⟩ := tk_lt hc
        injection h with h
        injection h with e1 e2
        subst e1 e2
        omega

/-- The zeros behind a norm of 0. -/
def zerosP (symbols : Nat) : Nat → List Bool → List Int → Except Int (List Int × List Bool)
  | 0, _, _ => .error 0
  | f + 1, L, out => if symbols ≤ out.length then .error 13 else
    match tk L 2 with
    | .error e => .error e
    | .ok (k, L1) => if k = 3 then zerosP symbols f L1 (out ++ List.replicate k 0) else .ok (out ++ List.replicate k 0, L1)

/-- The norms of a table with that many states. -/
def normsP (symbols : Nat) : Nat → List Bool → Nat → List Int → Bool → Except Int (List Int × List Bool)
  | 0, _, _, _, _ => .error 0
  | f + 1, L, left, out, ran => if left = 0 then .ok (out, L) else if symbols ≤ out.length then .error 13 else
    match numP L (left + 2) with
    | .error e => .error e
    | .ok (v, L1) => if v = 1 ∧ ran = true then .error 13 else
      if v = 1 then
        match zerosP symbols (symbols + 1) L1 (out ++ [(v : Int) - 1]) with
        | .error e => .error e
        | .ok (o, L2) => normsP symbols f L2 left o true
      else normsP symbols f L1 (left - (if v = 0 then 1 else v - 1)) (out ++ [(v : Int) - 1]) false

/-! More bits behind those that are read change nothing. -/
def more {α : Type} (Z : List Bool) : Except Int (α × List Bool) → Except Int (α × List Bool)
  | .error e => .error e
  | .ok (x, R) => .ok (x, R ++ Z)
theorem log2_small {m : Nat} (h0 : 0 < m) (h : m ≤ 514) : m.log2 ≤ 9 := by
  have h1 := log2_le h0
  by_cases h2 : m.log2 ≤ 9
  · exact h2
  · have h3 : 2 ^ 10 ≤ 2 ^ m.log2 := Nat.pow_le_pow_right (by decide) (by omega)
    have h4 : (2 : Nat) ^ 10 = 1024 := by decide
    omega
end

section
set_option linter.unusedVariables false
set_option linter.unusedSimpArgs false

/-! ### Validity, sums, used symbols -/
def usedF : Nat → List Int → List Int
  | _, [] => []
  | i, x :: l => if 0 < x then (i : Int) :: usedF (i + 1) l else usedF (i + 1) l
def usedL (l : List Int) : List Int := usedF 0 l

theorem take_next {l : List Int} {k : Nat} {x : Int} (h : l[k]? = some x) : l.take (k + 1) = l.take k ++ [x] := by
  rw [List.take_add_one, h]; rfl
theorem usedF_snoc (i : Nat) (l : List Int) (x : Int) : usedF i (l ++ [x]) = usedF i l ++ (if 0 < x then [((i + l.length : Nat) : Int)] else []) := by
  induction l generalizing i with
  | nil => simp only [List.nil_append, usedF]; split <;> simp
  | cons y l ih =>
    simp only [List.cons_append, usedF, ih, List.length_cons]
    rw [show i + 1 + l.length = i + (l.length + 1) by omega]
    split <;> simp
theorem usedL_snoc (l : List Int) (x : Int) : usedL (l ++ [x]) = usedL l ++ (if 0 < x then [(l.length : Int)] else []) := by
  unfold usedL; rw [usedF_snoc]; simp
theorem usedF_len (i : Nat) (l : List Int) : (usedF i l).length ≤ l.length := by
  induction l generalizing i with
  | nil => simp [usedF]
  | cons y l ih =>
    simp only [usedF]
    have := ih (i + 1)
    split <;> simp <;> omega
theorem usedL_len (l : List Int) : (usedL l).length ≤ l.length := usedF_len 0 l
/-! ### The logarithm -/
theorem log2_lt {n : Nat} (h : n ≤ 4611686018427387903) : n.log2 ≤ 61 := by
  by_cases h0 : n = 0
  · subst h0; simp
  · have := (Nat.log2_lt h0 (k := 62)).2 (by omega)
    omega
/-! ### The cost -/
end

section
set_option linter.unusedVariables false
set_option linter.unusedSimpArgs false
set_option linter.unusedSectionVars false
open Go.RowKit

/-- What lies below a heap's size lies below a grown heap's size: as the walk asks it. -/
@[go_sem] theorem past_lt2 {a b : Nat} (h : a < b) : a < b + 1 + 1 := by omega
@[go_sem] theorem past_lt3 {a b : Nat} (h : a < b) : a < b + 1 + 1 + 1 := by omega
@[go_sem] theorem past_lt4 {a b : Nat} (h : a < b) : a < b + 1 + 1 + 1 + 1 := by omega
@[go_sem] theorem past_lt5 {a b : Nat} (h : a < b) : a < b + 1 + 1 + 1 + 1 + 1 := by omega
@[go_sem] theorem past_lt6 {a b : Nat} (h : a < b) : a < b + 1 + 1 + 1 + 1 + 1 + 1 := by omega
@[go_sem] theorem past_lt7 {a b : Nat} (h : a < b) : a < b + 1 + 1 + 1 + 1 + 1 + 1 + 1 := by omega
@[go_sem] theorem past_lt8 {a b : Nat} (h : a < b) : a < b + 1 + 1 + 1 + 1 + 1 + 1 + 1 + 1 := by omega
@[go_sem] theorem past_lt9 {a b : Nat} (h : a < b) : a < b + 1 + 1 + 1 + 1 + 1 + 1 + 1 + 1 + 1 := by omega
@[go_sem] theorem past_lt10 {a b : Nat} (h : a < b) : a < b + 1 + 1 + 1 + 1 + 1 + 1 + 1 + 1 + 1 + 1 := by omega
@[go_sem] theorem past_lt11 {a b : Nat} (h : a < b) : a < b + 1 + 1 + 1 + 1 + 1 + 1 + 1 + 1 + 1 + 1 + 1 := by omega
@[go_sem] theorem past_lt12 {a b : Nat} (h : a < b) : a < b + 1 + 1 + 1 + 1 + 1 + 1 + 1 + 1 + 1 + 1 + 1 + 1 := by omega
@[go_sem] theorem past_ne0 {a b : Nat} (h : a < b) : (a = b) = False := eq_false (by omega)
@[go_sem] theorem past_en0 {a b : Nat} (h : a < b) : (b = a) = False := eq_false (by omega)
@[go_sem] theorem past_ne1 {a b : Nat} (h : a < b) : (a = b + 1) = False := eq_false (by omega)
@[go_sem] theorem past_en1 {a b : Nat} (h : a < b) : (b + 1 = a) = False := eq_false (by omega)
@[go_sem] theorem past_ne2 {a b : Nat} (h : a < b) : (a = b + 1 + 1) = False := eq_false (by omega)
@[go_sem] theorem past_en2 {a b : Nat} (h : a < b) : (b + 1 + 1 = a) = False := eq_false (by omega)
@[go_sem] theorem past_ne3 {a b : Nat} (h : a < b) : (a = b + 1 + 1 + 1) = False := eq_false (by omega)
@[go_sem] theorem past_en3 {a b : Nat} (h : a < b) : (b + 1 + 1 + 1 = a) = False := eq_false (by omega)
@[go_sem] theorem past_ne4 {a b : Nat} (h : a < b) : (a = b + 1 + 1 + 1 + 1) = False := eq_false (by omega)
@[go_sem] theorem past_en4 {a b : Nat} (h : a < b) : (b + 1 + 1 + 1 + 1 = a) = False := eq_false (by omega)
@[go_sem] theorem past_ne5 {a b : Nat} (h : a < b) : (a = b + 1 + 1 + 1 + 1 + 1) = False := eq_false (by omega)
@[go_sem] theorem past_en5 {a b : Nat} (h : a < b) : (b + 1 + 1 + 1 + 1 + 1 = a) = False := eq_false (by omega)
@[go_sem] theorem past_ne6 {a b : Nat} (h : a < b) : (a = b + 1 + 1 + 1 + 1 + 1 + 1) = False := eq_false (by omega)
@[go_sem] theorem past_en6 {a b : Nat} (h : a < b) : (b + 1 + 1 + 1 + 1 + 1 + 1 = a) = False := eq_false (by omega)
@[go_sem] theorem past_ne7 {a b : Nat} (h : a < b) : (a = b + 1 + 1 + 1 + 1 + 1 + 1 + 1) = False := eq_false (by omega)
@[go_sem] theorem past_en7 {a b : Nat} (h : a < b) : (b + 1 + 1 + 1 + 1 + 1 + 1 + 1 = a) = False := eq_false (by omega)
@[go_sem] theorem past_ne8 {a b : Nat} (h : a < b) : (a = b + 1 + 1 + 1 + 1 + 1 + 1 + 1 + 1) = False := eq_false (by omega)
@[go_sem] theorem past_en8 {a b : Nat} (h : a < b) : (b + 1 + 1 + 1 + 1 + 1 + 1 + 1 + 1 = a) = False := eq_false (by omega)
@[go_sem] theorem past_ne9 {a b : Nat} (h : a < b) : (a = b + 1 + 1 + 1 + 1 + 1 + 1 + 1 + 1 + 1) = False := eq_false (by omega)
@[go_sem] theorem past_en9 {a b : Nat} (h : a < b) : (b + 1 + 1 + 1 + 1 + 1 + 1 + 1 + 1 + 1 = a) = False := eq_false (by omega)
@[go_sem] theorem past_ne10 {a b : Nat} (h : a < b) : (a = b + 1 + 1 + 1 + 1 + 1 + 1 + 1 + 1 + 1 + 1) = False := eq_false (by omega)
@[go_sem] theorem past_en10 {a b : Nat} (h : a < b) : (b + 1 + 1 + 1 + 1 + 1 + 1 + 1 + 1 + 1 + 1 = a) = False := eq_false (by omega)
@[go_sem] theorem past_ne11 {a b : Nat} (h : a < b) : (a = b + 1 + 1 + 1 + 1 + 1 + 1 + 1 + 1 + 1 + 1 + 1) = False := eq_false (by omega)
@[go_sem] theorem past_en11 {a b : Nat} (h : a < b) : (b + 1 + 1 + 1 + 1 + 1 + 1 + 1 + 1 + 1 + 1 + 1 = a) = False := eq_false (by omega)
@[go_sem] theorem past_ne12 {a b : Nat} (h : a < b) : (a = b + 1 + 1 + 1 + 1 + 1 + 1 + 1 + 1 + 1 + 1 + 1 + 1) = False := eq_false (by omega)
@[go_sem] theorem past_en12 {a b : Nat} (h : a < b) : (b + 1 + 1 + 1 + 1 + 1 + 1 + 1 + 1 + 1 + 1 + 1 + 1 = a) = False := eq_false (by omega)

/-- Block b holds the cells cs, none of them frozen. -/
def Blk (w : World) (b : Nat) (cs : Array Value) (T : TypeId) : Prop := w.heap[b]? = some (.cells cs T (0, 0))

/-- Of the old blocks only those of S may have changed. -/
structure Keeps (w w' : World) (S : List Nat) : Prop where
  os : w'.os = w.os
  tape : w'.tape = w.tape
  output : w'.output = w.output
  size : w.heap.size ≤ w'.heap.size
  block : ∀ k, k < w.heap.size → k ∉ S → w'.heap[k]? = w.heap[k]?

section
variable {w w' w'' : World} {S S' : List Nat} {b : Nat} {cs : Array Value} {T : TypeId}

theorem Keeps.refl (w : World) (S : List Nat) : Keeps w w S := ⟨rfl, rfl, rfl, Nat.le_refl _, fun _ _ _ => rfl⟩
theorem Keeps.trans (h : Keeps w w' S) (k : Keeps w' w'' S') (hs : ∀ x ∈ S', x < w.heap.size → x ∈ S) : Keeps w w'' S :=
  ⟨k.os.trans h.os, k.tape.trans h.tape, k.output.trans h.output, Nat.le_trans h.size k.size,
    fun x hx hn => (k.block x (Nat.lt_of_lt_of_le hx h.size) (fun hm => hn (hs x hm hx))).trans (h.block x hx hn)⟩
theorem Keeps.then (h : Keeps w w' S) (k : Keeps w' w'' []) : Keeps w w'' S := h.trans k (fun _ h => by cases h)
theorem Keeps.mono (h : Keeps w w' S) (hs : ∀ x ∈ S, x ∈ S') : Keeps w w' S' := ⟨h.os, h.tape, h.output, h.size, fun k hk hn => h.block k hk (fun hm => hn (hs k hm))⟩
theorem Keeps.alloc (h : Keeps w w' S) (o : Obj) : Keeps w (w'.alloc o) S :=
  ⟨h.os, h.tape, h.output, by have := h.size; simp; omega, fun k hk hn => by
    rw [Below.heap_alloc _ _ _ (Nat.lt_of_lt_of_le hk h.size)]; exact h.block k hk hn⟩
theorem Keeps.drew (h : Keeps w w' S) : Keeps w w'.drew S := ⟨h.os, h.tape, h.output, h.size, h.block⟩
theorem Keeps.drewN (h : Keeps w w' S) (n : Nat) : Keeps w (w'.drewN n) S := ⟨h.os, h.tape, h.output, h.size, h.block⟩
theorem Keeps.setCell (h : Keeps w w' S) {a : Addr} (ha : w.heap.size ≤ a.block ∨ a.block ∈ S) (v : Value) : Keeps w (w'.setCell a v) S :=
  ⟨h.os, h.tape, h.output, by have := h.size; simp; omega, fun k hk hn => by
    rw [Below.heap_setCell _ _ _ _ (by intro e; subst e; rcases ha with ha | ha; omega; exact hn ha)]; exact h.block k hk hn⟩
theorem Keeps.below (h : Keeps w w' []) : Below w.heap.size w w' := ⟨h.os, h.tape, h.output, h.size, fun k hk => h.block k hk (by simp)⟩
theorem Keeps.of_below (h : Below w.heap.size w w') : Keeps w w' [] := ⟨h.os, h.tape, h.output, h.size, fun k hk _ => h.block k hk⟩
theorem Keeps.of_grown {row : Option Nat} (h : w.grownBy w' row) (hs : ∀ k, row = some k → k ∈ S) : Keeps w w' S :=
  ⟨h.os, h.tape, h.output, h.size, fun k hk hn => h.block k hk (fun e => hn (hs k e.symm))⟩
theorem Keeps.cell (h : Keeps w w' S) {p : Addr} (hp : p.block < w.heap.size) (hn : p.block ∉ S) : w'.cell? p = w.cell? p := World.cell?_of_block (w := w) (h.block p.block hp hn)
theorem Keeps.frozen (h : Keeps w w' S) {p : Addr} (hp : p.block < w.heap.size) (hn : p.block ∉ S) : w'.frozen? p = w.frozen? p := World.frozen?_of_block (w := w) (h.block p.block hp hn)

theorem Blk.cell (h : Blk w b cs T) (i : Nat) : w.cell? ⟨b, i, none⟩ = cs[i]? := cell_of_row w b i cs T (0, 0) h
theorem Blk.frozen (h : Blk w b cs T) (i : Nat) : w.frozen? ⟨b, i, none⟩ = false := by
  have h' : w.heap[b]? = some (.cells cs T (0, 0)) := h
  simp [World.frozen?, h']
theorem Blk.lt (h : Blk w b cs T) : b < w.heap.size := (Array.getElem?_eq_some_iff.1 h).1
theorem Blk.keeps (h : Blk w b cs T) (k : Keeps w w' S) (hn : b ∉ S) : Blk w' b cs T := (k.block b h.lt hn).trans h
theorem Blk.alloc (h : Blk w b cs T) (o : Obj) : Blk (w.alloc o) b cs T := h.keeps ((Keeps.refl w []).alloc o) (by simp)
theorem Blk.drew (h : Blk w b cs T) : Blk w.drew b cs T := h
theorem Blk.drewN (h : Blk w b cs T) (n : Nat) : Blk (w.drewN n) b cs T := h
theorem Blk.new (w : World) (cs : Array Value) (T : TypeId) : Blk (w.alloc (.cells cs T)) w.heap.size cs T := heap_alloc_new w _
theorem Blk.set (h : Blk w b cs T) (i : Nat) (v : Value) : Blk (w.setCell ⟨b, i, none⟩ v) b (cs.setIfInBounds i v) T := by
  have h' : w.heap[b]? = some (.cells cs T (0, 0)) := h
  unfold Blk World.setCell
  simp [Array.getElem?_modify, h']
theorem Blk.setOther (h : Blk w b cs T) {a : Addr} (hn : a.block ≠ b) (v : Value) : Blk (w.setCell a v) b cs T := by
  have h' : w.heap[b]? = some (.cells cs T (0, 0)) := h
  unfold Blk
  rw [Below.heap_setCell _ _ _ _ (fun e => hn e.symm)]
  exact h'
end

theorem Keeps.setCell' {w w' : World} {S : List Nat} {a : Addr} {v : Value} (ha : w.heap.size ≤ a.block ∨ a.block ∈ S) (h : Keeps w w' S) : Keeps w (w'.setCell a v) S := h.setCell ha v

/-- The first three cells of a block, as the walk takes them. -/
theorem Blk.three {w : World} {b : Nat} {x y z : Value} {T : TypeId} (h : Blk w b #[x, y, z] T) :
    w.cell? ⟨b, 0, none⟩ = some x ∧ w.cell? ⟨b, 1, none⟩ = some y ∧ w.cell? ⟨b, 2, none⟩ = some z ∧
    w.frozen? ⟨b, 0, none⟩ = false ∧ w.frozen? ⟨b, 1, none⟩ = false ∧ w.frozen? ⟨b, 2, none⟩ = false :=
  ⟨h.cell 0, h.cell 1, h.cell 2, h.frozen 0, h.frozen 1, h.frozen 2⟩
theorem Blk.one {w : World} {b : Nat} {x : Value} {T : TypeId} (h : Blk w b #[x] T) : w.cell? ⟨b, 0, none⟩ = some x ∧ w.frozen? ⟨b, 0, none⟩ = false := ⟨h.cell 0, h.frozen 0⟩

theorem ret_int {k : IntKind} {a b : Int} (h : a = b) : Ending.returned (.int k a) = .returned (.int k b) := by rw [h]
theorem ret_bool {a b : Bool} (h : a = b) : Ending.returned (.bool a) = .returned (.bool b) := by rw [h]
end

section
set_option linter.unusedVariables false
set_option linter.unusedSimpArgs false
set_option linter.unusedSectionVars false
open Go.ChangeShapes Go.WideShapes Go.ChangeAt Go.RowKit

theorem Tryz.own : ownKnob Tryz.prog.godebug = none := by kernel_rfl
theorem Tryz.laidOut : laidOutB Tryz.prog = true := by kernel_rfl

theorem trodAll_grown {H : Type} {enc : TypeId × Value → H} {P : Program} (hl : laidOutB P = true) {W W' : World} (hb : Below W.heap.size W W') (sp : Nat → Bool) :
    ∀ {ts : List TypeId} {vs : List Value} {ds : List (DataW H)} {ps : List MemPlace}, (∀ t ∈ ts, P.readableRec t = true ∧ t < P.types.size) →
      DataW.TrodAll enc P W 0 (fun _ => true) true ts vs ds ps → (∀ x ∈ ps, x.block < W.heap.size) → (∀ x ∈ ps, sp x.block = true) → DataW.TrodAll enc P W' 0 sp true ts vs ds ps
  | [], [], [], _, _, h, _, _ => h
  | t :: ts, v :: vs, d :: ds, ps, ht, h, hlt, hs => by
    obtain ⟨p, q, h1, h2, rfl⟩ := h
    refine ⟨p, q, ?_, ?_, rfl⟩
    · exact WideElems.Trod_stays hl (ht t (by simp)).1 (ht t (by simp)).2 h1 (fun x hx => hb.same (hlt x (by simp [hx]))) (fun x hx => hs x (by simp [hx]))
    · exact trodAll_grown hl hb sp (fun t' h' => ht t' (by simp [h'])) h2 (fun x hx => hlt x (by simp [hx])) (fun x hx => hs x (by simp [hx]))
  | [], [], _ :: _, _, _, h, _, _ => by cases h
  | [], _ :: _, _, _, _, h, _, _ => by cases h
  | _ :: _, [], _, _, _, h, _, _ => by cases h
  | _ :: _, _ :: _, [], _, _, h, _, _ => by cases h

theorem trodAll_count {H : Type} {enc : TypeId × Value → H} {P : Program} {W : World} {sp : Nat → Bool} :
    ∀ {ts : List TypeId} {vs : List Value} {ds : List (DataW H)} {ps : List MemPlace}, DataW.TrodAll enc P W 0 sp true ts vs ds ps → ds.length = ts.length
  | [], [], [], _, _ => rfl
  | t :: ts, v :: vs, d :: ds, ps, h => by obtain ⟨p, q, _, h2, _⟩ := h; simp [trodAll_count h2]
  | [], [], _ :: _, _, h => by cases h
  | [], _ :: _, _, _, h => by cases h
  | _ :: _, [], _, _, h => by cases h
  | _ :: _, _ :: _, [], _, h => by cases h

/-- What a law's walk shows. -/
def LawEnd (W : World) (e : Ending) (W' : World) : Prop := e = .returned (.bool true) ∧ Below W.heap.size W W'

theorem law_post {H : Type} {enc : TypeId × Value → H} {P : Program} {fn : Func} {s : ChangeSpec} (hl : laidOutB P = true) (hv : s.vars = [])
    (hs : ∀ ds : List (DataW H), ds.length = fn.params.toList.length → s.fn H ds = { results := [.lit (.bool true)], args := ds })
    (hr : ∀ t ∈ fn.params.toList, P.readableRec t = true ∧ t < P.types.size) {tb : TypeId} (hres : fn.resultTypes = #[tb]) (hb : P.underlying tb = some .bool)
    {W W' : World} {args : Array Value} {ds gs : List (DataW H)} {before : List MemPlace} (hW : DataW.Whole enc P fn.params.toList s.vars false W args.toList ds gs before)
    (hB : Below W.heap.size W W') : s.post enc P fn false true false false W args (.bool true) W' := by
  have hlt := hW.lt
  have hW0 := hW
  obtain ⟨p, q, hA, hV, rfl, hz, hn⟩ := hW
  rw [hv] at hV
  have hg : gs = [] ∧ q = [] := by
    cases gs with
    | nil => exact ⟨rfl, hV⟩
    | cons a b => cases hV
  obtain ⟨rfl, rfl⟩ := hg
  have e1 : s.fn H (ds ++ []) = { results := [.lit (.bool true)], args := ds } := by rw [List.append_nil]; exact hs ds (trodAll_count hA)
  refine ⟨ds, [], p ++ [], [], p, [], hW0, ?_, ?_, ?_, ?_, fun h => by cases h⟩
  · rw [e1, hres]
    exact trodAll_mk1 (shut_bool hb _)
  · rw [e1]
    exact trodAll_grown hl hB _ hr hA (fun x hx => hlt x (by simp [hx])) (fun x hx => by simpa using hlt x (by simp [hx]))
  · rw [e1, hv]
    exact rfl
  · exact hB.frame _

theorem law_contract {H : Type} {enc : TypeId × Value → H} {C : Checked} {f : FuncId} {fn : Func} {s : ChangeSpec} {conds : List PathCond} {a : Assume} (hl : laidOutB C.prog = true) (hv : s.vars = [])
    (hs : ∀ ds : List (DataW H), ds.length = fn.params.toList.length → s.fn H ds = { results := [.lit (.bool true)], args := ds })
    (hr : ∀ t ∈ fn.params.toList, C.prog.readableRec t = true ∧ t < C.prog.types.size) {tb : TypeId} (hres : fn.resultTypes = #[tb]) (hb : C.prog.underlying tb = some .bool)
    (walk : ∀ (W : World) (base : Nat) (args : Array Value) (ds : List (DataW H)) (ps : List MemPlace),
      (∀ (j : Nat) t v, fn.params[j]? = some t → args[j]? = some v → Value.okWide C.prog W .any base t v) →
      DataW.TrodAll enc C.prog W 0 (fun _ => true) true fn.params.toList args.toList ds ps → (∀ x ∈ ps, x.block < W.heap.size) → W.noneFrozen ps →
      Calls C.prog f args W (LawEnd W)) :
    ∀ (W : World) (base : Nat) (args : Array Value) (ds gs : List (DataW H)) (before : List MemPlace),
      (∀ (j : Nat) t v, fn.params[j]? = some t → args[j]? = some v → Value.okWide C.prog W .any base t v) →
      DataW.Whole enc C.prog fn.params.toList s.vars false W args.toList ds gs before →
      conds.all (PathCond.test C.prog ⟨fn.params.toList, ds, s.plain.varTypes C.prog, gs⟩) = true →
      a.holds C.prog (lone (Frame.enter C.prog f args .normal) [] W) →
      Calls C.prog f args W fun e W' => ∃ v, e = .returned v ∧ s.post enc C.prog fn false true false false W args v W' := by
  intro W base args ds gs before hval hW _ _
  have hlt := hW.lt
  have hW0 := hW
  obtain ⟨p, q, hA, hV, rfl, hz, hn⟩ := hW
  refine (walk W base args ds p hval hA (fun x hx => hlt x (by simp [hx])) (fun b o h => hz b o (by simp [h]))).mono fun e W' h => ?_
  exact ⟨_, h.1, law_post hl hv hs hr hres hb hW0 h.2⟩
end

section
set_option linter.unusedVariables false
set_option linter.unusedSimpArgs false
set_option linter.unusedSectionVars false
open Go.ChangeShapes Go.WideShapes Go.ChangeAt Go.RowKit

/-- A slice value reads as a list of numbers of kind k. -/
structure RdI (k : IntKind) (w : World) (v : Value) (l : List Int) : Prop where
  form : ∃ a n cp, v = .slice a n cp ∧ n = l.length ∧ (a = none → n = 0 ∧ cp = 0) ∧ (0 < n → n ≤ cp ∧ ∃ b o, a = some ⟨b, o, none⟩ ∧ b < w.heap.size ∧ ∀ i x, l[i]? = some x → w.cell? ⟨b, o + i, none⟩ = some (.int k x))

section
variable {k : IntKind} {w w' : World} {v : Value} {l : List Int} {a : Option Addr} {n cp : Nat}

theorem RdI.nil : RdI k w (.slice none 0 0) [] := ⟨_, _, _, rfl, rfl, fun _ => ⟨rfl, rfl⟩, fun h => absurd h (by omega)⟩
theorem RdI.zero (a : Addr) (c : Nat) : RdI k w (.slice (some a) 0 c) [] := ⟨_, _, _, rfl, rfl, (fun h => by cases h), fun h => absurd h (by omega)⟩
theorem RdI.keeps (h : RdI k w v l) (kk : Keeps w w' []) : RdI k w' v l := by
  obtain ⟨a, n, cp, rfl, hn, h0, hc⟩ := h.form
  refine ⟨a, n, cp, rfl, hn, h0, fun hp => ?_⟩
  obtain ⟨h1, b, o, h2, h3, h4⟩ := hc hp
  exact ⟨h1, b, o, h2, Nat.lt_of_lt_of_le h3 kk.size, fun i x hx => (kk.cell h3 (by simp)).trans (h4 i x hx)⟩
theorem RdI.keepsS {S : List Nat} (h : RdI k w v l) (kk : Keeps w w' S) (hn : ∀ ad n cp, v = .slice (some ad) n cp → 0 < n → ad.block ∉ S) : RdI k w' v l := by
  obtain ⟨a, n, cp, rfl, hl, h0, hc⟩ := h.form
  refine ⟨a, n, cp, rfl, hl, h0, fun hp => ?_⟩
  obtain ⟨h1, b, o, rfl, h3, h4⟩ := hc hp
  exact ⟨h1, b, o, rfl, Nat.lt_of_lt_of_le h3 kk.size, fun i x hx => (kk.cell (p := ⟨b, o + i, none⟩) h3 (fun hm => hn _ _ _ rfl hp hm)).trans (h4 i x hx)⟩
theorem RdI.len (h : RdI k w (.slice a n cp) l) : n = l.length := by
  obtain ⟨a', n', cp', he, hl, -⟩ := h.form
  obtain ⟨h1, h2, h3⟩ := Value.slice.inj he
  rw [h2, hl]
theorem RdI.cap (h : RdI k w (.slice a n cp) l) : n ≤ cp := by
  obtain ⟨a', n', cp', he, hl, h0, hc⟩ := h.form
  obtain ⟨h1, h2, h3⟩ := Value.slice.inj he
  subst h1 h2 h3
  by_cases hp : 0 < n
  · exact (hc hp).1
  · omega
theorem RdI.nilcap (h : RdI k w (.slice none n cp) l) : n = 0 ∧ cp = 0 ∧ l = [] := by
  obtain ⟨a', n', cp', he, hl, h0, hc⟩ := h.form
  obtain ⟨h1, h2, h3⟩ := Value.slice.inj he
  subst h1 h2 h3
  obtain ⟨e1, e2⟩ := h0 rfl
  exact ⟨e1, e2, List.eq_nil_of_length_eq_zero (by omega)⟩
/-- The cell of element i. -/
theorem RdI.at (h : RdI k w (.slice a n cp) l) {i : Nat} {x : Int} (hx : l[i]? = some x) : ∃ b o, a = some ⟨b, o, none⟩ ∧ b < w.heap.size ∧ w.cell? ⟨b, o + i, none⟩ = some (.int k x) := by
  obtain ⟨a', n', cp', he, hl, h0, hc⟩ := h.form
  obtain ⟨h1, h2, h3⟩ := Value.slice.inj he
  subst h1 h2 h3
  have hlt := (List.getElem?_eq_some_iff.1 hx).1
  obtain ⟨_, b, o, h2, h3, h4⟩ := hc (by omega)
  exact ⟨b, o, h2, h3, h4 i x hx⟩
theorem RdI.addr (h : RdI k w (.slice a n cp) l) (hp : 0 < n) : ∃ b o, a = some ⟨b, o, none⟩ ∧ b < w.heap.size ∧ ∀ i x, l[i]? = some x → w.cell? ⟨b, o + i, none⟩ = some (.int k x) := by
  obtain ⟨a', n', cp', he, hl, h0, hc⟩ := h.form
  obtain ⟨h1, h2, h3⟩ := Value.slice.inj he
  subst h1 h2 h3
  exact (hc hp).2
theorem RdI.drewN (h : RdI k w v l) (m : Nat) : RdI k (w.drewN m) v l := h.keeps ((Keeps.refl w []).drewN m)

theorem own_form {base : Nat} {e : TypeId} {size : Nat} {xs : List Value} (h : w.ownsRow base e size v n xs) : ∃ ad cp, v = .slice ad n cp := by
  rcases h.2 with ⟨rfl, rfl⟩ | ⟨g, cp, cur, rfl, -⟩
  · exact ⟨_, _, rfl⟩
  · exact ⟨_, _, rfl⟩
theorem own_keeps {base : Nat} {e : TypeId} {size : Nat} {xs : List Value} (h : w.ownsRow base e size v n xs) (kk : Keeps w w' []) : w'.ownsRow base e size v n xs :=
  h.kept (row := none) ⟨kk.os, kk.tape, kk.output, kk.size, fun i hi _ => kk.block i hi (by simp)⟩ (by cases hv : v.ownBlock <;> simp)
theorem own_base {base base' : Nat} {e : TypeId} {size : Nat} {xs : List Value} (h : w.ownsRow base e size v n xs) (hb : base' ≤ base) : w.ownsRow base' e size v n xs := by
  obtain ⟨h1, h2⟩ := h
  refine ⟨h1, ?_⟩
  rcases h2 with h2 | ⟨g, cap, cur, rfl, hg, r⟩
  · exact .inl h2
  · exact .inr ⟨g, cap, cur, rfl, by omega, r⟩
/-- An owned row of numbers reads as their list. -/
theorem own_reads {base : Nat} {e : TypeId} (h : w.ownsRow base e 1 v l.length (l.map (.int k))) : RdI k w v l := by
  rcases h.2 with ⟨rfl, h0⟩ | ⟨g, cp, cur, rfl, hb, hg, hn, hm, hs, ht⟩
  · exact ⟨_, _, _, rfl, h0.symm, fun _ => ⟨rfl, rfl⟩, fun h => absurd h (by omega)⟩
  · refine ⟨_, _, _, rfl, rfl, (fun h => by cases h), fun h0 => ⟨hn, g, 0, rfl, (Array.getElem?_eq_some_iff.1 hg).1, fun i x hx => ?_⟩⟩
    have hlt := (List.getElem?_eq_some_iff.1 hx).1
    rw [Nat.zero_add, cell_of_row w g i cur e (0, 0) hg]
    have h1 : (cur.toList.take (l.length * 1))[i]? = (l.map (Value.int k))[i]? := by rw [ht]
    rw [List.getElem?_take, if_pos (by omega), List.getElem?_map, hx] at h1
    simpa using h1
/-- The cells of a slice of numbers, as append asks for them. -/
theorem RdI.news {ad : Addr} (h : RdI k w (.slice (some ad) n cp) l) : ∀ j u, (l.map (Value.int k))[j]? = some u → w.cell? (ad.add j) = some u := by
  intro j u hj
  rw [List.getElem?_map] at hj
  obtain ⟨x, hx, rfl⟩ := Option.map_eq_some_iff.1 hj
  obtain ⟨b, o, h2, h3, h4⟩ := h.at hx
  cases h2
  have : (⟨b, o, none⟩ : Addr).add j = ⟨b, o + j, none⟩ := by simp [Addr.add]
  rw [this]
  exact h4
end

theorem nums_one (k : IntKind) (l : List Int) : ∀ u ∈ l.map (Value.int k), u.oneCell' = true := by
  intro u hu
  obtain ⟨x, _, rfl⟩ := List.mem_map.1 hu
  simp [Value.oneCell']

theorem slice_cells {P : Program} {w : World} {t e : TypeId} {r : Reach} {b : Nat} {v : Value} (ht : P.underlying t = some (.slice e)) (h : Value.okWide P w r b t v) : v.cells.toList = [v] := by
  simp only [Value.okWide, ht, Cell.okWide] at h
  cases v <;> simp_all [Value.cells, Cell.ok]

/-- An argument that is a slice of numbers reads as a list. -/
theorem open_nums {H : Type} {enc : TypeId × Value → H} {P : Program} {w : World} {ts e : TypeId} {k : IntKind} {v : Value} {d : DataW H} {p : List MemPlace} (hts : P.underlying ts = some (.slice e)) (he : P.underlying e = some (.int k)) (hE : P.cellsOf e = 1)
    (hv : v.cells.toList = [v]) (h : DataW.Trod enc P w 0 (fun _ => true) true ts v d p) :
    ∃ l : List Int, RdI k w v l ∧ (∀ x ∈ l, (Lit.int k x).wf = true) := by
  obtain ⟨fuel, hf⟩ := h
  rw [hv] at hf
  rcases Go.Deep.open_slice1 hts hE hf with ⟨hcs, hx⟩ | ⟨a, len, cap, m, n, V, D, Pl, hcs, hb, hl, hm, hmm, hx, hel⟩
  · simp at hcs
    subst hcs
    exact ⟨[], .nil, by simp⟩
  · simp at hcs
    subst hcs
    have hmc : len ≤ m := by rw [hmm]; simp; exact hl
    have hread : ∀ i, i < len → ∃ x : Int, w.cell? (a.add i) = some (.int k x) ∧ (Lit.int k x).wf = true := by
      intro i hi
      obtain ⟨hc', ht'⟩ := hel i (by omega)
      obtain ⟨x, ex, _, wx⟩ := DataW.trod_int he ht'
      simp at ex
      exact ⟨x, by rw [hc', ex], wx⟩
    have hlist : ∀ j, j ≤ len → ∃ l : List Int, l.length = j ∧ (∀ i x, l[i]? = some x → w.cell? (a.add i) = some (.int k x)) ∧ (∀ x ∈ l, (Lit.int k x).wf = true) := by
      intro j
      induction j with
      | zero => intro _; exact ⟨[], rfl, by simp, by simp⟩
      | succ j ih =>
        intro hj
        obtain ⟨l, h1, h2, h3⟩ := ih (by omega)
        obtain ⟨x, hx1, hx2⟩ := hread j (by omega)
        refine ⟨l ++ [x], by simp [h1], ?_, ?_⟩
        · intro i y hy
          by_cases hij : i < l.length
          · rw [List.getElem?_append_left hij] at hy
            exact h2 i y hy
          · have hlt := (List.getElem?_eq_some_iff.1 hy).1
            simp at hlt
            have : i = j := by omega
            subst this
            rw [List.getElem?_append_right (by omega)] at hy
            simp [h1] at hy
            subst hy
            exact hx1
        · intro y hy
          simp at hy
          rcases hy with hy | rfl
          · exact h3 y hy
          · exact hx2
    obtain ⟨l, hl1, hl2, hl3⟩ := hlist len (Nat.le_refl _)
    refine ⟨l, ⟨_, _, _, rfl, hl1.symm, (fun h => by cases h), fun h0 => ?_⟩, hl3⟩
    obtain ⟨x, hx⟩ : ∃ x, l[0]? = some x := ⟨_, List.getElem?_eq_getElem (by omega)⟩
    have hc0 := hl2 0 x hx
    have e0 : a.add 0 = a := by simp [Addr.add]
    rw [e0] at hc0
    have hsp : a.spot = none := by
      cases hsp : a.spot with
      | none => rfl
      | some q =>
        simp [World.cell?] at hc0
        split at hc0 <;> simp [hsp] at hc0
    have ha : a = ⟨a.block, a.off, none⟩ := by cases a; simp_all
    refine ⟨hl, a.block, a.off, by rw [← ha], World.block_lt_of_cell? w a hc0, fun i y hy => ?_⟩
    have h1 := hl2 i y hy
    have e1 : a.add i = ⟨a.block, a.off + i, none⟩ := by rw [ha]; simp [Addr.add]
    rw [e1] at h1
    exact h1
end

section
set_option linter.unusedVariables false
set_option linter.unusedSimpArgs false
set_option linter.unusedSectionVars false
open Go.RowKit

/-- The states of a norm. -/
def stN (n : Int) : Int := if n = -1 then 1 else n
def sumN : List Int → Int
  | [] => 0
  | n :: l => stN n + sumN l
/-- A table is valid for bounds on its symbols and its logarithm. -/
def okN (g : Int) (l : List Int) (sy lg : Int) : Bool := decide (0 ≤ g ∧ g ≤ lg ∧ 0 < l.length ∧ (l.length : Int) ≤ sy ∧ l.getD (l.length - 1) 0 ≠ 0 ∧ (∀ n ∈ l, -1 ≤ n) ∧ sumN l = 2 ^ g.toNat)

theorem stN_nonneg {n : Int} (h : -1 ≤ n) : 0 ≤ stN n := by unfold stN; split <;> omega
theorem stN_max {n : Int} (h : -1 ≤ n) : max n (-n) = stN n := by unfold stN; split <;> omega
theorem sumN_append (l m : List Int) : sumN (l ++ m) = sumN l + sumN m := by
  induction l with
  | nil => simp [sumN]
  | cons x l ih => simp only [List.cons_append, sumN, ih]; omega
theorem sumN_nonneg {l : List Int} (h : ∀ n ∈ l, -1 ≤ n) : 0 ≤ sumN l := by
  induction l with
  | nil => simp [sumN]
  | cons x l ih =>
    have h1 := stN_nonneg (h x (by simp))
    have h2 := ih (fun n hn => h n (by simp [hn]))
    simp only [sumN]; omega
theorem sumN_take {l : List Int} {k : Nat} {x : Int} (h : l[k]? = some x) : sumN (l.take (k + 1)) = sumN (l.take k) + stN x := by
  rw [take_next h, sumN_append]; simp [sumN]
theorem okN_false {g : Int} {l : List Int} {sy lg : Int} (h : ¬(0 ≤ g ∧ g ≤ lg ∧ 0 < l.length ∧ (l.length : Int) ≤ sy ∧ l.getD (l.length - 1) 0 ≠ 0 ∧ (∀ n ∈ l, -1 ≤ n) ∧ sumN l = 2 ^ g.toNat)) : okN g l sy lg = false := decide_eq_false h
theorem okN_low {g : Int} {l : List Int} {sy lg : Int} {k : Nat} {x : Int} (h : l[k]? = some x) (hx : x < -1) : okN g l sy lg = false :=
  okN_false (fun ⟨_, _, _, _, _, h6, _⟩ => by have := h6 x (List.mem_of_getElem? h); omega)
theorem sumN_prefix {l : List Int} {k : Nat} (h : ∀ n ∈ l, -1 ≤ n) : sumN (l.take k) ≤ sumN l := by
  have e := sumN_append (l.take k) (l.drop k)
  rw [List.take_append_drop] at e
  have := sumN_nonneg (l := l.drop k) (fun n hn => h n (List.mem_of_mem_drop hn))
  omega
theorem okN_big {g : Int} {l : List Int} {sy lg : Int} {k : Nat} {x : Int} (h : l[k]? = some x) (hx : (2 : Int) ^ g.toNat < sumN (l.take k) + stN x) : okN g l sy lg = false :=
  okN_false (fun ⟨_, _, _, _, _, h6, h7⟩ => by
    have h1 := sumN_prefix (k := k + 1) h6
    rw [sumN_take h] at h1
    omega)
theorem okN_sum {g : Int} {l : List Int} {sy lg : Int} (h1 : 0 ≤ g) (h2 : g ≤ lg) (h3 : 0 < l.length) (h4 : (l.length : Int) ≤ sy) (h5 : l.getD (l.length - 1) 0 ≠ 0) (h6 : ∀ n ∈ l, -1 ≤ n) : okN g l sy lg = decide (sumN l = 2 ^ g.toNat) :=
  decide_eq_decide.2 ⟨fun h => h.2.2.2.2.2.2, fun h => ⟨h1, h2, h3, h4, h5, h6, h⟩⟩
theorem pow9 {g : Int} (h : g ≤ 9) : (1 : Int) ≤ 2 ^ g.toNat ∧ (2 : Int) ^ g.toNat ≤ 512 := by
  obtain ⟨m, hm⟩ : ∃ m, g.toNat = m := ⟨_, rfl⟩
  have hm9 : m ≤ 9 := by omega
  rw [hm]
  match m, hm9 with
  | 0, _ => decide
  | 1, _ => decide
  | 2, _ => decide
  | 3, _ => decide
  | 4, _ => decide
  | 5, _ => decide
  | 6, _ => decide
  | 7, _ => decide
  | 8, _ => decide
  | 9, _ => decide

set_option maxRecDepth 100000 in
set_option maxHeartbeats 4000000 in
theorem ncheck_any (g sy lg : Int) (v : Value) (l : List Int) (w : World) (hv : RdI .i64 w v l) (hn : l.length ≤ 1000000) (hb : ∀ x ∈ l, -9223372036854775808 ≤ x ∧ x ≤ 9223372036854775807) (hg0 : 0 ≤ lg) (hg9 : lg ≤ 9) :
    Calls Tryz.prog 165 #[.agg #[.int .i64 g, v], .int .i64 sy, .int .i64 lg] w fun e w' => e = .returned (.int .i64 (if okN g l sy lg then 0 else 13)) ∧ Keeps w w' [] := by
  obtain ⟨A0, n, cp0, rfl, hnl, -⟩ := hv.form
  have k0 := (Keeps.refl w []).alloc (.cells #[.int .i64 g, .slice A0 n cp0] 92)
  have HV := Lib.hid (hv.keeps k0)
  have HN := Lib.hid hnl
  have HB := Lib.hid hb
  have hn' : n ≤ 1000000 := by omega
  obtain ⟨E, hE⟩ : ∃ E : Int, (if okN g l sy lg then 0 else 13) = E := ⟨_, rfl⟩
  have HE := Lib.hid hE
  have HE0 : Hid (okN g l sy lg = false → E = 13) := fun h => by rw [← HE.out, h]; rfl
  rw [hE]
  clear hv hnl hb hn hE
  obtain ⟨R1, e1⟩ : ∃ R, decide (g < 0) = R := ⟨_, rfl⟩
  obtain ⟨R2, e2⟩ : ∃ R, decide (lg < g) = R := ⟨_, rfl⟩
  have hmin : ¬ (9 < lg) := by omega
  by_cases hn0 : n = 0
  · subst hn0
    have hno : Hid (E = 13) := HE0.out (okN_false (fun h => by have := HN.out; omega))
    go_enter Tryz.func165, Tryz.ntmps165
    go_wp2_with fail
    all_goals
      go_ret
      exact ⟨by rw [hno.out]; rfl, k0⟩
  obtain ⟨m, rfl⟩ : ∃ m, n = m + 1 := ⟨n - 1, by omega⟩
  obtain ⟨y, hy⟩ : ∃ y, l[m]? = some y := ⟨_, List.getElem?_eq_getElem (by have := HN.out; omega)⟩
  have HY : Hid (l.getD (l.length - 1) 0 = y) := by
    show _ = _
    rw [← HN.out, Nat.add_sub_cancel, List.getD_eq_getElem?_getD, hy]; rfl
  obtain ⟨bb, o, rfl, hbb, hc⟩ := HV.out.at hy
  have hcap := HV.out.cap
  obtain ⟨R4, e4⟩ : ∃ R, decide (sy < ((m : Int) + 1)) = R := ⟨_, rfl⟩
  obtain ⟨R5, e5⟩ : ∃ R, (y == 0) = R := ⟨_, rfl⟩
  have HX : Hid (R1 = true ∨ R2 = true ∨ R4 = true ∨ R5 = true → E = 13) := fun h => HE0.out (okN_false (fun q => by
    have hl := HN.out
    obtain ⟨q1, q2, q3, q4, q5, -, -⟩ := q
    rw [HY.out] at q5
    rcases h with h | h | h | h
    · rw [h] at e1; simp at e1; omega
    · rw [h] at e2; simp at e2; omega
    · rw [h] at e4; simp at e4; omega
    · rw [h] at e5; simp at e5; exact q5 e5))
  have HG : Hid (¬ R1 = true → ¬ R2 = true → ¬ R4 = true → ¬ R5 = true → 0 ≤ g ∧ g ≤ lg ∧ (∀ (h6 : ∀ n ∈ l, -1 ≤ n), E = if sumN l = 2 ^ g.toNat then 0 else 13)) := fun h1 h2 h4 h5 => by
    have a1 : 0 ≤ g := by rw [← e1] at h1; simp at h1; omega
    have a2 : g ≤ lg := by rw [← e2] at h2; simp at h2; omega
    have a4 : (l.length : Int) ≤ sy := by rw [← e4] at h4; simp at h4; have := HN.out; omega
    have a5 : y ≠ 0 := by rw [← e5] at h5; simpa using h5
    refine ⟨a1, a2, fun h6 => ?_⟩
    rw [← HE.out, okN_sum a1 a2 (by have := HN.out; omega) a4 (by rw [HY.out]; exact a5) h6]
    simp
  clear hy
  have hz0 : ((m : Int) + 1 == 0) = false := by simp; omega
  by_cases hgr : ¬ (0 ≤ g ∧ g ≤ lg)
  · go_enter Tryz.func165, Tryz.ntmps165
    go_wp2_with fail
    all_goals first
      | (go_ret; exact ⟨by rw [HX.out (by simp [*])]; rfl, k0⟩)
      | (exfalso; obtain ⟨q1, q2, -⟩ := HG.out (by simp_all) (by simp_all) (by simp_all) (by simp_all); exact hgr ⟨q1, q2⟩)
  replace hgr := Classical.not_not.1 hgr
  have hR1 : R1 = false := by rw [← e1]; simp; omega
  have hR2 : R2 = false := by rw [← e2]; simp; omega
  have hsh : ∀ w1 : World, (Op.shift .shl .i64 1 .i64 g).run Tryz.prog w1 = .ok (.int .i64 (2 ^ g.toNat)) w1 := by
    obtain ⟨q1, q2⟩ := hgr
    rcases (by omega : g = 0 ∨ g = 1 ∨ g = 2 ∨ g = 3 ∨ g = 4 ∨ g = 5 ∨ g = 6 ∨ g = 7 ∨ g = 8 ∨ g = 9) with rfl | rfl | rfl | rfl | rfl | rfl | rfl | rfl | rfl | rfl
    all_goals (intro w1; rfl)
  obtain ⟨p1, p2⟩ := pow9 (g := g) (by omega)
  obtain ⟨P2, hP2⟩ : ∃ P : Int, P = 2 ^ g.toNat := ⟨_, rfl⟩
  have HP := Lib.hid hP2
  rw [← hP2] at hsh p1 p2
  subst hR1 hR2
  clear hP2 hgr
  go_enter Tryz.func165, Tryz.ntmps165
  go_wp2_with fail
  all_goals first
    | (go_ret; exact ⟨by rw [HX.out (by simp [*])]; rfl, k0⟩)
    | skip
  have HEE : Hid (∀ (h6 : ∀ n ∈ l, -1 ≤ n), E = if sumN l = P2 then 0 else 13) := fun h6 => by
    rw [HP.out]; exact (HG.out (by simp) (by simp) ‹_› (by simp_all)).2.2 h6
  clear HX HG e1 e2 e4 e5 HY hc hz0
  generalize hW0 : (w.alloc (.cells #[.int .i64 g, .slice (some ⟨bb, o, none⟩) (m + 1) cp0] 92)) = W0 at *
  clear hW0
  go_loopw [7, 50] (fun s7 s50 wr => ∃ k : Nat, k ≤ m + 1 ∧ s7 = .int .i64 (P2 - sumN (l.take k)) ∧ s50 = .int .i64 k ∧ wr = W0 ∧ Hid (∀ x ∈ l.take k, -1 ≤ x) ∧ Hid (sumN (l.take k) ≤ P2)) (fun _ s50 _ => m + 1 - (intOf s50).toNat)
  case atStart => exact ⟨0, Nat.zero_le _, by simp [sumN], rfl, rfl, by show ∀ x ∈ _, _; simp, by show _ ≤ _; simp [sumN]; omega⟩
  case round =>
    obtain ⟨k, hk, rfl, rfl, rfl, hge, hle⟩ := hrel
    by_cases hlt : k < m + 1
    · obtain ⟨x, hx⟩ : ∃ x, l[k]? = some x := ⟨_, List.getElem?_eq_getElem (by have := HN.out; omega)⟩
      obtain ⟨bb', o', e', hbb', hcx⟩ := HV.out.at hx
      cases e'
      have hkn : (k : Int) < (m : Int) + 1 := by omega
      have hk0 : (0 : Int) ≤ (k : Int) := Int.natCast_nonneg _
      obtain ⟨b1, b2⟩ := HB.out x (List.mem_of_getElem? hx)
      have HXg := Lib.hid hx
      clear hx
      have hle' := hle.out
      rcases (by omega : x < -1 ∨ x = -1 ∨ 0 ≤ x) with h3 | h3 | h3
      · have gl : decide (x < -1) = true := by simpa using h3
        have F13 : Hid (E = 13) := HE0.out (okN_low HXg.out h3)
        clear h3
        go_wp2_with fail
        go_ret
        exact ⟨by rw [F13.out]; rfl, k0⟩
      · subst h3
        have gl : decide ((-1) < -1) = false := by simp; try omega
        have hmx : (-1 : Int) ≤ 1 := by omega
        have hst : stN (-1) = 1 := by unfold stN; split <;> omega
        by_cases hbig : P2 - sumN (l.take k) < 1
        · have gb : decide (P2 - sumN (l.take k) < 1) = true := by simpa using hbig
          have F13 : Hid (E = 13) := HE0.out (okN_big HXg.out (by rw [hst, ← HP.out]; omega))
          clear hst hbig
          go_wp2_with fail
          go_ret
          exact ⟨by rw [F13.out]; rfl, k0⟩
        · have gb : decide (P2 - sumN (l.take k) < 1) = false := by simpa using hbig
          have NS := sumN_take HXg.out
          rw [hst] at NS
          have hs0 := sumN_nonneg hge.out
          have hw2 : wrap64 (P2 - sumN (l.take k) - 1) = P2 - sumN (l.take k) - 1 := IntWalk.wrap64_in _ ⟨by omega, by omega⟩
          have NG : Hid (∀ y ∈ l.take (k + 1), -1 ≤ y) := by
            show ∀ y ∈ _, _
            rw [take_next HXg.out]
            intro y hy
            rcases List.mem_append.1 hy with hy | hy
            · exact hge.out y hy
            · rw [List.mem_singleton.1 hy]; omega
          have NS' := Lib.hid NS
          have NL : Hid (sumN (l.take (k + 1)) ≤ P2) := by show _ ≤ _; rw [NS]; omega
          clear hst hs0 NS hbig
          generalize sumN (l.take k) = SK at *
          go_wp2_with fail
          go_roundw
          case rel => exact ⟨k + 1, by omega, by rw [NS'.out]; (congr 1; omega), by go_num, (by first | rfl | trivial), NG, NL⟩
          case measure => simp [intOf]; omega
      · skip
        have gl : decide (x < -1) = false := by simp; try omega
        have hw1 : wrap64 (-x) = -x := IntWalk.wrap64_in _ ⟨by omega, by omega⟩
        have hmx : ¬ (x < -x) := by omega
        have hst : stN x = x := by unfold stN; split <;> omega
        by_cases hbig : P2 - sumN (l.take k) < x
        · have gb : decide (P2 - sumN (l.take k) < x) = true := by simpa using hbig
          have F13 : Hid (E = 13) := HE0.out (okN_big HXg.out (by rw [hst, ← HP.out]; omega))
          clear hst hbig
          go_wp2_with fail
          go_ret
          exact ⟨by rw [F13.out]; rfl, k0⟩
        · have gb : decide (P2 - sumN (l.take k) < x) = false := by simpa using hbig
          have NS := sumN_take HXg.out
          rw [hst] at NS
          have hs0 := sumN_nonneg hge.out
          have hw2 : wrap64 (P2 - sumN (l.take k) - x) = P2 - sumN (l.take k) - x := IntWalk.wrap64_in _ ⟨by omega, by omega⟩
          have NG : Hid (∀ y ∈ l.take (k + 1), -1 ≤ y) := by
            show ∀ y ∈ _, _
            rw [take_next HXg.out]
            intro y hy
            rcases List.mem_append.1 hy with hy | hy
            · exact hge.out y hy
            · rw [List.mem_singleton.1 hy]; omega
          have NS' := Lib.hid NS
          have NL : Hid (sumN (l.take (k + 1)) ≤ P2) := by show _ ≤ _; rw [NS]; omega
          clear hst hs0 NS hbig
          generalize sumN (l.take k) = SK at *
          go_wp2_with fail
          go_roundw
          case rel => exact ⟨k + 1, by omega, by rw [NS'.out]; (congr 1; omega), by go_num, (by first | rfl | trivial), NG, NL⟩
          case measure => simp [intOf]; omega
    · have : k = m + 1 := by omega
      subst this
      have hT : l.take (m + 1) = l := List.take_of_length_le (by have := HN.out; omega)
      rw [hT] at hge hle ⊢
      have F := Lib.hid (HEE.out hge.out)
      have hkn : ¬ ((m : Int) + 1 < (m : Int) + 1) := by omega
      by_cases hq : sumN l = P2
      · have gq : (P2 - sumN l != 0) = false := by simp; omega
        rw [if_pos hq] at F
        clear hq hT
        generalize sumN l = SL at *
        go_wp2_with fail
        go_ret
        exact ⟨by rw [F.out]; rfl, k0⟩
      · have gq : (P2 - sumN l != 0) = true := by simp; omega
        rw [if_neg hq] at F
        clear hq hT
        generalize sumN l = SL at *
        go_wp2_with fail
        go_ret
        exact ⟨by rw [F.out]; rfl, k0⟩
end

section
set_option linter.unusedVariables false
set_option linter.unusedSimpArgs false

/-- Bits packed into bytes, the last one filled up with zeros. -/
def packF : Nat → List Bool → List Int
  | 0, _ => []
  | f + 1, L => match L with
    | [] => []
    | b :: l => (valL ((b :: l).take 8) : Int) :: packF f ((b :: l).drop 8)
def packB (L : List Bool) : List Int := packF L.length L
theorem packF_nil : ∀ f, packF f [] = []
  | 0 => rfl
  | f + 1 => rfl
theorem packF_step {f : Nat} {L : List Bool} (h : L ≠ []) : packF (f + 1) L = (valL (L.take 8) : Int) :: packF f (L.drop 8) := by
  cases L with
  | nil => exact (h rfl).elim
  | cons b l => rfl
theorem packF_fuel : ∀ {f f' : Nat} {L : List Bool}, L.length ≤ f → L.length ≤ f' → packF f L = packF f' L
  | 0, f', L, h, _ => by
    obtain rfl : L = [] := List.eq_nil_of_length_eq_zero (by omega)
    rw [packF_nil, packF_nil]
  | f + 1, 0, L, _, h => by
    obtain rfl : L = [] := List.eq_nil_of_length_eq_zero (by omega)
    rw [packF_nil, packF_nil]
  | f + 1, f' + 1, L, h1, h2 => by
    by_cases hL : L = []
    · subst hL; rw [packF_nil, packF_nil]
    · have h0 : 0 < L.length := List.length_pos_iff.2 hL
      rw [packF_step hL, packF_step hL, packF_fuel (f := f) (f' := f') (L := L.drop 8) (by rw [List.length_drop]; omega) (by rw [List.length_drop]; omega)]
theorem packB_step {L : List Bool} (h : L ≠ []) : packB L = (valL (L.take 8) : Int) :: packB (L.drop 8) := by
  have h0 : 0 < L.length := List.length_pos_iff.2 h
  unfold packB
  obtain ⟨k, hk⟩ : ∃ k, L.length = k + 1 := ⟨L.length - 1, by omega⟩
  rw [hk, packF_step h]
  congr 1
  exact packF_fuel (by rw [List.length_drop]; omega) (Nat.le_refl _)
/-- What a writer holds, as bytes: whole bytes and n bits of v. -/
theorem packB_row : ∀ {B : List Int} {v n : Nat}, (∀ x ∈ B, 0 ≤ x ∧ x ≤ 255) → n < 8 → v < 2 ^ n → packB (rowBits B ++ bitsN v n) = B ++ (if 0 < n then [(v : Int)] else [])
  | [], v, n, _, hn, hv => by
    by_cases h : 0 < n
    · rw [if_pos h]
      obtain ⟨k, rfl⟩ : ∃ k, n = k + 1 := ⟨n - 1, by omega⟩
      have hl := bitsN_len v (k + 1)
      have hne : rowBits [] ++ bitsN v (k + 1) ≠ [] := by rw [rowBits, List.nil_append]; unfold bitsN; simp
      rw [packB_step hne, rowBits, List.nil_append, List.take_of_length_le (by omega), List.drop_of_length_le (by omega), valL_bitsN, Nat.mod_eq_of_lt hv]
      rfl
    · obtain rfl : n = 0 := by omega
      rfl
  | x :: B, v, n, hB, hn, hv => by
    have hx := hB x (by simp)
    have hl := bitsN_len x.toNat 8
    have ih := packB_row (B := B) (v := v) (n := n) (fun y hy => hB y (by simp [hy])) hn hv
    have hne : rowBits (x :: B) ++ bitsN v n ≠ [] := by rw [rowBits]; unfold bitsN; simp
    rw [packB_step hne]
    have e : rowBits (x :: B) ++ bitsN v n = bitsN x.toNat 8 ++ (rowBits B ++ bitsN v n) := by rw [rowBits, List.append_assoc]
    rw [e, List.take_left' hl, List.drop_left' hl, ih, valL_bitsN, Nat.mod_eq_of_lt (by omega), List.cons_append]
    congr 1
    omega
theorem bitsN_valL : ∀ L : List Bool, bitsN (valL L) L.length = L
  | [] => rfl
  | b :: L => by
    have ih := bitsN_valL L
    simp only [List.length_cons, bitsN, valL]
    cases b with
    | true =>
      rw [if_pos rfl, show (1 + 2 * valL L) / 2 = valL L by omega, ih, decide_eq_true (by omega)]
    | false =>
      rw [if_neg (by simp), show (0 + 2 * valL L) / 2 = valL L by omega, ih, decide_eq_false (by omega)]
theorem bitsN_pad : ∀ (v n k : Nat), v < 2 ^ n → bitsN v (n + k) = bitsN v n ++ List.replicate k false
  | v, 0, k, h => by
    obtain rfl : v = 0 := by simpa using h
    rw [Nat.zero_add, bitsN, List.nil_append]
    induction k with
    | zero => rfl
    | succ k ih => rw [bitsN, List.replicate_succ, show 0 / 2 = 0 from rfl, ih]; rfl
  | v, n + 1, k, h => by
    rw [show n + 1 + k = (n + k) + 1 by omega, bitsN, bitsN, bitsN_pad (v / 2) n k (by rw [Nat.pow_succ] at h; omega), List.cons_append]
/-- Every row of bits is whole bytes and less than eight bits. -/
theorem row_form : ∀ (f : Nat) (L : List Bool), L.length ≤ f → ∃ (B : List Int) (v n : Nat), (∀ x ∈ B, 0 ≤ x ∧ x ≤ 255) ∧ n < 8 ∧ v < 2 ^ n ∧ L = rowBits B ++ bitsN v n
  | 0, L, h => ⟨[], 0, 0, by simp, by omega, by decide, by
    obtain rfl : L = [] := List.eq_nil_of_length_eq_zero (by omega)
    rfl⟩
  | f + 1, L, h => by
    by_cases h8 : L.length < 8
    · exact ⟨[], valL L, L.length, by simp, h8, valL_lt L, by rw [bitsN_valL]; rfl⟩
    · obtain ⟨B, v, n, h1, h2, h3, h4⟩ := row_form f (L.drop 8) (by rw [List.length_drop]; omega)
      have ht : (L.take 8).length = 8 := by rw [List.length_take]; omega
      have hv := valL_lt (L.take 8)
      rw [ht] at hv
      refine ⟨((valL (L.take 8) : Nat) : Int) :: B, v, n, ?_, h2, h3, ?_⟩
      · intro x hx
        rcases List.mem_cons.1 hx with rfl | hx
        · omega
        · exact h1 x hx
      · rw [rowBits, List.append_assoc, ← h4, Int.toNat_natCast]
        have := bitsN_valL (L.take 8)
        rw [ht] at this
        rw [this, List.take_append_drop]
/-- What the packed bytes say. -/
theorem packB_bits (L : List Bool) : ∃ k, k < 8 ∧ rowBits (packB L) = L ++ List.replicate k false ∧ 8 * (packB L).length = L.length + k ∧ ∀ x ∈ packB L, 0 ≤ x ∧ x ≤ 255 := by
  obtain ⟨B, v, n, h1, h2, h3, rfl⟩ := row_form L.length L (Nat.le_refl _)
  rw [packB_row h1 h2 h3]
  by_cases h : 0 < n
  · rw [if_pos h]
    have hv8 : v < 256 := by
      have : 2 ^ n ≤ 2 ^ 7 := Nat.pow_le_pow_right (by decide) (by omega)
      have e : (2 : Nat) ^ 7 = 128 := by decide
      omega
    refine ⟨8 - n, by omega, ?_, ?_, ?_⟩
    · have hp := bitsN_pad v n (8 - n) h3
      rw [show n + (8 - n) = 8 by omega] at hp
      rw [rowBits_append, rowBits, rowBits, List.append_nil, Int.toNat_natCast, hp, List.append_assoc]
    · rw [List.length_append, List.length_append, rowBits_len, bitsN_len, List.length_singleton]; omega
    · intro x hx
      rcases List.mem_append.1 hx with hx | hx
      · exact h1 x hx
      · have := List.mem_singleton.1 hx; omega
  · obtain rfl : n = 0 := by omega
    refine ⟨0, by omega, ?_, ?_, ?_⟩
    · simp [bitsN]
    · rw [List.length_append, List.length_append, rowBits_len, bitsN_len]; simp
    · intro x hx
      rcases List.mem_append.1 hx with hx | hx
      · exact h1 x hx
      · simp at hx
theorem packB_len (L : List Bool) : (packB L).length ≤ L.length := by
  obtain ⟨k, h1, -, h2, -⟩ := packB_bits L
  omega

/-- A number v below m in truncated binary code. -/
def numB (m v : Nat) : List Bool := if v < 2 ^ (m.log2 + 1) - m then bitsN v m.log2 else bitsN ((v + (2 ^ (m.log2 + 1) - m)) / 2) m.log2 ++ bitsN ((v + (2 ^ (m.log2 + 1) - m)) % 2) 1
theorem tk_bits {v n : Nat} (h : v < 2 ^ n) (R : List Bool) : tk (bitsN v n ++ R) n = .ok (v, R) := by
  have hl := bitsN_len v n
  rw [tk_ok (by rw [List.length_append]; omega), List.take_left' hl, List.drop_left' hl, valL_bitsN, Nat.mod_eq_of_lt h]
theorem numP_numB {m v : Nat} (h : v < m) (R : List Bool) : numP (numB m v ++ R) m = .ok (v, R) := by
  have h1 := log2_le (m := m) (by omega)
  have h2 := log2_ltD (m := m) (by omega)
  have h3 : 2 ^ (m.log2 + 1) = 2 * 2 ^ m.log2 := by rw [Nat.pow_succ]; omega
  unfold numP numB
  by_cases hv : v < 2 ^ (m.log2 + 1) - m
  · rw [if_pos hv, tk_bits (by omega)]
    simp only
    rw [if_pos hv]
  · rw [if_neg hv, List.append_assoc, tk_bits (by omega)]
    simp only
    rw [if_neg (by omega), tk_bits (by rw [Nat.pow_one]; omega)]
    simp only
    congr 2
    omega

/-- The number of zeros at the front. -/
def zrL : List Int → Nat
  | [] => 0
  | n :: l => if n = 0 then zrL l + 1 else 0
theorem zrL_le : ∀ l : List Int, zrL l ≤ l.length
  | [] => Nat.le_refl _
  | n :: l => by
    have := zrL_le l
    unfold zrL
    split
    · simp only [List.length_cons]; omega
    · omega
theorem zrL_split : ∀ l : List Int, l = List.replicate (zrL l) 0 ++ l.drop (zrL l)
  | [] => rfl
  | n :: l => by
    by_cases h : n = 0
    · subst h
      have := zrL_split l
      rw [zrL, if_pos rfl, List.replicate_succ, List.cons_append, List.drop_succ_cons, ← this]
    · rw [zrL, if_neg h]; rfl
theorem zrL_head : ∀ l : List Int, (l.drop (zrL l)).head? ≠ some 0
  | [] => by simp
  | n :: l => by
    by_cases h : n = 0
    · subst h
      rw [zrL, if_pos rfl, List.drop_succ_cons]
      exact zrL_head l
    · rw [zrL, if_neg h]; simpa using h

/-- The run of zeros behind a norm of 0. -/
def zerosE : Nat → Nat → List Bool
  | 0, k => bitsN k 2
  | f + 1, k => if 3 ≤ k then bitsN 3 2 ++ zerosE f (k - 3) else bitsN k 2
theorem zerosP_zerosE {symbols : Nat} (R : List Bool) : ∀ (f e k : Nat) (out : List Int), k ≤ 3 * e + 2 → k < f → out.length + k < symbols → zerosP symbols f (zerosE e k ++ R) out = .ok (out ++ List.replicate k 0, R)
  | 0, e, k, out, _, h, _ => by omega
  | f + 1, 0, k, out, h0, h1, h2 => by
    unfold zerosP zerosE
    rw [if_neg (by omega), tk_bits (by omega)]
    simp only
    rw [if_neg (by omega)]
  | f + 1, e + 1, k, out, h0, h1, h2 => by
    unfold zerosP zerosE
    by_cases h3 : 3 ≤ k
    · rw [if_pos h3, if_neg (by omega), List.append_assoc, tk_bits (by decide)]
      simp only
      rw [if_pos trivial, zerosP_zerosE R f e (k - 3) (out ++ List.replicate 3 0) (by omega) (by omega) (by simp; omega), List.append_assoc, List.replicate_append_replicate, show 3 + (k - 3) = k by omega]
    · rw [if_neg h3, if_neg (by omega), tk_bits (by omega)]
      simp only
      rw [if_neg (by omega)]

/-- The norms of a table whose states number left. -/
def normsE : Nat → Nat → List Int → List Bool
  | 0, _, _ => []
  | _ + 1, _, [] => []
  | f + 1, left, n :: l => numB (left + 2) (n + 1).toNat ++ (if n = 0 then zerosE (zrL l) (zrL l) ++ normsE f left (l.drop (zrL l)) else normsE f (left - (stN n).toNat) l)

theorem normsP_normsE {symbols : Nat} (R : List Bool) : ∀ (f g left : Nat) (l out : List Int) (ran : Bool), l.length < f → l.length ≤ g → (∀ n ∈ l, -1 ≤ n) → sumN l = (left : Int) → out.length + l.length ≤ symbols → (l ≠ [] → l.getLast? ≠ some 0) → (ran = true → l.head? ≠ some 0) →
    normsP symbols f (normsE g left l ++ R) left out ran = .ok (out ++ l, R)
  | 0, _, _, _, _, _, h, _, _, _, _, _, _ => by omega
  | f + 1, g, left, [], out, ran, _, _, _, hs, _, _, _ => by
    have : left = 0 := by simp only [sumN] at hs; omega
    subst this
    unfold normsP
    cases g <;> simp [normsE]
  | f + 1, 0, left, n :: l, out, ran, _, hg, _, _, _, _, _ => by simp at hg
  | f + 1, g + 1, left, n :: l, out, ran, hf, hg, hlow, hs, hsy, hlast, hran => by
    have hn := hlow n (by simp)
    have hlow' : ∀ x ∈ l, -1 ≤ x := fun x hx => hlow x (by simp [hx])
    have hp := sumN_nonneg hlow'
    have hst := stN_nonneg hn
    simp only [sumN] at hs
    simp only [List.length_cons] at hf hg hsy
    have hleft : left ≠ 0 := by
      intro h0
      subst h0
      -- all norms are 0, but the last one isn't
      have hz : ∀ (m : List Int), (∀ x ∈ m, -1 ≤ x) → sumN m = 0 → m ≠ [] → m.getLast? = some 0 := by
        intro m
        induction m with
        | nil => intro _ _ h; exact (h rfl).elim
        | cons y m ih =>
          intro h1 h2 _
          have hy := stN_nonneg (h1 y (by simp))
          have hm := sumN_nonneg (l := m) (fun x hx => h1 x (by simp [hx]))
          simp only [sumN] at h2
          by_cases hm0 : m = []
          · subst hm0
            have : stN y = 0 := by simp only [sumN] at h2; omega
            have hy0 : y = 0 := by unfold stN at this; split at this <;> omega
            subst hy0
            rfl
          · have := ih (fun x hx => h1 x (by simp [hx])) (by omega) hm0
            rw [List.getLast?_cons, this]; rfl
      exact hlast (by simp) (hz (n :: l) hlow (by simp only [sumN]; omega) (by simp))
    have hstn : stN n ≤ (left : Int) := by omega
    have hstx : n ≤ stN n := by unfold stN; split <;> omega
    unfold normsP normsE
    rw [if_neg hleft, if_neg (by omega), List.append_assoc, numP_numB (by omega)]
    simp only
    by_cases h0 : n = 0
    · subst h0
      have hr : ran ≠ true := fun h => hran h (by simp)
      rw [if_neg (by rintro ⟨-, h⟩; exact hr h), if_pos (show ((0 : Int) + 1).toNat = 1 from rfl), if_pos rfl, List.append_assoc]
      have hzl := zrL_le l
      have hsp := zrL_split l
      have hne : l.drop (zrL l) ≠ [] := by
        intro h
        rw [h, List.append_nil] at hsp
        refine hlast (by simp) ?_
        rw [hsp, ← List.replicate_succ]
        simp [List.getLast?_replicate]
      have hlt : zrL l < l.length := by
        have : 0 < (l.drop (zrL l)).length := List.length_pos_iff.2 hne
        rw [List.length_drop] at this
        omega
      rw [zerosP_zerosE _ (symbols + 1) (zrL l) (zrL l) _ (by omega) (by omega) (by simp; omega)]
      simp only
      have hsum : sumN (l.drop (zrL l)) = (left : Int) := by
        have hz : ∀ k, sumN (List.replicate k (0 : Int)) = 0 := by
          intro k
          induction k with
          | zero => rfl
          | succ k ih => rw [List.replicate_succ, sumN, ih]; rfl
        have e := sumN_append (List.replicate (zrL l) 0) (l.drop (zrL l))
        rw [← hsp, hz] at e
        have : stN 0 = 0 := rfl
        omega
      rw [normsP_normsE R f g left (l.drop (zrL l)) _ true (by rw [List.length_drop]; omega) (by rw [List.length_drop]; omega) (fun x hx => hlow' x (List.mem_of_mem_drop hx)) hsum
        (by simp only [List.length_append, List.length_singleton, List.length_replicate, List.length_drop]; omega) (fun _ => by
          intro h
          refine hlast (by simp) ?_
          rw [List.getLast?_drop, if_neg (by omega)] at h
          rw [List.getLast?_cons, h]; rfl) (fun _ => zrL_head l)]
      congr 2
      rw [List.append_assoc, List.append_assoc, ← hsp]
      rfl
    · rw [if_neg (by omega), if_neg (by omega), if_neg h0]
      have e1 : left - (if (n + 1).toNat = 0 then 1 else (n + 1).toNat - 1) = left - (stN n).toNat := by
        unfold stN
        split <;> split <;> omega
      rw [e1, normsP_normsE R f g (left - (stN n).toNat) l _ false (by omega) (by omega) hlow' (by omega)
        (by simp only [List.length_append, List.length_singleton]; omega) (fun hne h => by
          refine hlast (by simp) ?_
          rw [List.getLast?_cons, h]; rfl) (fun h => by cases h)]
      congr 2
      rw [List.append_assoc]
      congr 1
      simp only [List.singleton_append]
      congr 1
      omega

/-- The bits and the bytes of a table's description. -/
def descL (log : Nat) (norm : List Int) : List Bool := bitsN (log - 1) 4 ++ normsE norm.length (2 ^ log) norm
def descE (log : Nat) (norm : List Int) : List Int := packB (descL log norm)
end

section
set_option linter.unusedVariables false
set_option linter.unusedSimpArgs false
set_option linter.unusedSectionVars false
open Go.RowKit

/-- The number of n bits of a row of bytes, from bit p on. -/
def bitsAt (B : List Int) (p n : Nat) : Nat := valL (((rowBits B).drop p).take n)
theorem bitsAt_zero (B : List Int) (p : Nat) : bitsAt B p 0 = 0 := by simp [bitsAt, valL]
theorem bitsAt_lt (B : List Int) (p n : Nat) : bitsAt B p n < 2 ^ n := by
  refine Nat.lt_of_lt_of_le (valL_lt _) (Nat.pow_le_pow_right (by omega) ?_)
  rw [List.length_take]; omega
theorem bitsAt_step {B : List Int} {p got k i s : Nat} {x : Int} (hx : B[i]? = some x) (hi : p + got = 8 * i + s) (hs : s + k ≤ 8) (hl : p + got ≤ 8 * B.length) : bitsAt B p (got + k) = bitsAt B p got + 2 ^ got * (x.toNat / 2 ^ s % 2 ^ k) := by
  unfold bitsAt
  rw [take_split, valL_append, List.drop_drop, hi, rowBits_piece hx hs, valL_bitsN, List.length_take, List.length_drop, rowBits_len, Nat.min_eq_left (by omega)]

set_option maxRecDepth 100000 in
set_option maxHeartbeats 4000000 in
theorem byteOn_any (A G N V RB R : Nat) (p got n : Nat) (bs : Value) (fr to : Int) (B : List Int) (w : World) (TA TG TN TV TR TF : TypeId) (hA : Blk w A #[.int .i64 p] TA) (hG : Blk w G #[.int .i64 got] TG) (hN : Blk w N #[.int .i64 n] TN) (hV : Blk w V #[.int .u64 (bitsAt B p got : Nat)] TV)
    (hRB : Blk w RB #[.pointer (some ⟨R, 0, none⟩)] TR) (hR : Blk w R #[bs, .int .i64 fr, .int .i64 to] TF) (hv : RdI .u8 w bs B) (hl : B.length ≤ 1000000) (hb : ∀ x ∈ B, 0 ≤ x ∧ x ≤ 255) (hat : p + n ≤ 8 * B.length) (hgn : got < n) (hn : n ≤ 64) (hGV : G ≠ V) (hAV : A ≠ V) (hAG : A ≠ G) :
    Calls Tryz.prog 164 #[.pointer (some ⟨A, 0, none⟩), .pointer (some ⟨G, 0, none⟩), .pointer (some ⟨N, 0, none⟩), .pointer (some ⟨V, 0, none⟩), .pointer (some ⟨RB, 0, none⟩)] w fun e w' =>
      ∃ k : Nat, 0 < k ∧ got + k ≤ n ∧ e = .returned (.tuple #[]) ∧ Blk w' G #[.int .i64 ((got + k : Nat) : Int)] TG ∧ Blk w' V #[.int .u64 (bitsAt B p (got + k) : Nat)] TV ∧ Keeps w w' [V, G] := by
  obtain ⟨A0, m, cp0, rfl, hnl, -⟩ := hv.form
  obtain ⟨a0, a1⟩ := hA.one
  obtain ⟨g0, g1⟩ := hG.one
  obtain ⟨n0, n1⟩ := hN.one
  obtain ⟨v0, v1⟩ := hV.one
  obtain ⟨r0, r1⟩ := hRB.one
  have q0 := hR.cell 0
  simp at q0
  obtain ⟨x, hx⟩ : ∃ x, B[(p + got) / 8]? = some x := ⟨_, List.getElem?_eq_getElem (by omega)⟩
  obtain ⟨bb, o, rfl, hbb, hc⟩ := hv.at hx
  have hcap := hv.cap
  obtain ⟨xn, rfl⟩ := Int.eq_ofNat_of_zero_le (hb x (List.mem_of_getElem? hx)).1
  have hx255 : xn ≤ 255 := by have := (hb _ (List.mem_of_getElem? hx)).2; omega
  obtain ⟨s, hs⟩ : ∃ s, (p + got) % 8 = s := ⟨_, rfl⟩
  obtain ⟨i, hi⟩ : ∃ i, (p + got) / 8 = i := ⟨_, rfl⟩
  rw [hi] at hx hc
  have es : ((p : Int) + (got : Int)) % 8 = (s : Int) := by omega
  have ei : ((p : Int) + (got : Int)) / 8 = (i : Int) := by omega
  obtain ⟨K8, h8⟩ : ∃ K : Nat, (8 : Int) - (s : Int) = (K : Int) := ⟨8 - s, by omega⟩
  obtain ⟨K9, h9⟩ : ∃ K : Nat, (n : Int) - (got : Int) = (K : Int) := ⟨n - got, by omega⟩
  have hlt0 := bitsAt_lt B p got
  have HST := Lib.hid (fun k (h : s + k ≤ 8) => bitsAt_step (p := p) (got := got) (k := k) (i := i) (s := s) hx (by omega) h (by omega))
  have HM := Lib.hid (show m = B.length from hnl)
  have HBS0 : ∀ k, got + k ≤ 64 → k ≤ 8 → bits .or .u64 ((bitsAt B p got : Nat) : Int) (IntKind.u64.wrap (bits .and .u64 ((xn : Int) / 2 ^ s) (IntKind.u64.wrap (IntKind.u64.wrap (2 ^ k) - 1)) * 2 ^ got)) = ((bitsAt B p got + 2 ^ got * (xn / 2 ^ s % 2 ^ k) : Nat) : Int) := fun k h1 h2 => by
    have h := bit_step (v := bitsAt B p got) (s := s) hlt0 hx255 h1 h2
    rw [wrapU_nat (a := xn) (by omega)] at h
    exact h
  have HBS := Lib.hid HBS0
  have hi0 : (i : Int) < (m : Int) := by omega
  have hi1 : (0 : Int) ≤ (i : Int) := by omega
  clear hx hb hlt0 HBS0
  generalize hv0 : bitsAt B p got = v at *
  by_cases hlt : (K9 : Int) < (K8 : Int)
  · have HQ := Lib.hid (HST.out K9 (by omega))
    rw [Int.toNat_natCast] at HQ
    have HBK := Lib.hid (HBS.out K9 (by omega) (by omega))
    have hcon : 0 < K9 ∧ got + K9 ≤ n := by omega
    have HCON := Lib.hid hcon
    clear hcon
    go_enter Tryz.func164, Tryz.ntmps164
    go_wp2_with fail
    go_region
    rw [HBK.out, ← HQ.out]
    have k1 : Keeps w (w.setCell ⟨V, 0, none⟩ (.int .u64 ((bitsAt B p (got + K9) : Nat) : Int))).drew [V, G] := ((Keeps.refl w _).setCell (.inr (by simp)) _).drew
    have bV : Blk (w.setCell ⟨V, 0, none⟩ (.int .u64 ((bitsAt B p (got + K9) : Nat) : Int))).drew V #[.int .u64 ((bitsAt B p (got + K9) : Nat) : Int)] TV := by have := (hV.set 0 (.int .u64 ((bitsAt B p (got + K9) : Nat) : Int))).drew; simpa using this
    have bG : Blk (w.setCell ⟨V, 0, none⟩ (.int .u64 ((bitsAt B p (got + K9) : Nat) : Int))).drew G #[.int .i64 got] TG := (hG.setOther (by dsimp only; exact hGV.symm) _).drew
    obtain ⟨w1, hw1⟩ : ∃ w1, w1 = (w.setCell ⟨V, 0, none⟩ (.int .u64 ((bitsAt B p (got + K9) : Nat) : Int))).drew := ⟨_, rfl⟩
    rw [← hw1] at bV bG k1 ⊢
    clear hw1 a0 a1 g0 g1 n0 n1 v0 v1 r0 r1 q0 hc
    obtain ⟨g0, g1⟩ := bG.one
    go_wp2_with fail
    go_end0
    refine ⟨K9, HCON.out.1, HCON.out.2, rfl, ?_, bV.setOther (by dsimp only; exact hGV) _, k1.setCell (.inr (by simp)) _⟩
    have := bG.set 0 (.int .i64 ((got : Int) + (K9 : Int)))
    simpa using this
  · have HQ := Lib.hid (HST.out K8 (by omega))
    rw [Int.toNat_natCast] at HQ
    have HBK := Lib.hid (HBS.out K8 (by omega) (by omega))
    have hcon : 0 < K8 ∧ got + K8 ≤ n := by omega
    have HCON := Lib.hid hcon
    clear hcon
    go_enter Tryz.func164, Tryz.ntmps164
    go_wp2_with fail
    go_region
    rw [HBK.out, ← HQ.out]
    have k1 : Keeps w (w.setCell ⟨V, 0, none⟩ (.int .u64 ((bitsAt B p (got + K8) : Nat) : Int))).drew [V, G] := ((Keeps.refl w _).setCell (.inr (by simp)) _).drew
    have bV : Blk (w.setCell ⟨V, 0, none⟩ (.int .u64 ((bitsAt B p (got + K8) : Nat) : Int))).drew V #[.int .u64 ((bitsAt B p (got + K8) : Nat) : Int)] TV := by have := (hV.set 0 (.int .u64 ((bitsAt B p (got + K8) : Nat) : Int))).drew; simpa using this
    have bG : Blk (w.setCell ⟨V, 0, none⟩ (.int .u64 ((bitsAt B p (got + K8) : Nat) : Int))).drew G #[.int .i64 got] TG := (hG.setOther (by dsimp only; exact hGV.symm) _).drew
    obtain ⟨w1, hw1⟩ : ∃ w1, w1 = (w.setCell ⟨V, 0, none⟩ (.int .u64 ((bitsAt B p (got + K8) : Nat) : Int))).drew := ⟨_, rfl⟩
    rw [← hw1] at bV bG k1 ⊢
    clear hw1 a0 a1 g0 g1 n0 n1 v0 v1 r0 r1 q0 hc
    obtain ⟨g0, g1⟩ := bG.one
    go_wp2_with fail
    go_end0
    refine ⟨K8, HCON.out.1, HCON.out.2, rfl, ?_, bV.setOther (by dsimp only; exact hGV) _, k1.setCell (.inr (by simp)) _⟩
    have := bG.set 0 (.int .i64 ((got : Int) + (K8 : Int)))
    simpa using this

def gotOf (w : World) (g : Nat) : Nat := match w.cell? ⟨g, 0, none⟩ with | some v => (intOf v).toNat | none => 0

set_option maxRecDepth 100000 in
set_option maxHeartbeats 4000000 in
theorem value_any (R : Nat) (p n : Nat) (bs : Value) (fr to : Int) (B : List Int) (w : World) (TF : TypeId) (hR : Blk w R #[bs, .int .i64 fr, .int .i64 to] TF) (hv : RdI .u8 w bs B) (hl : B.length ≤ 1000000) (hb : ∀ x ∈ B, 0 ≤ x ∧ x ≤ 255) (hat : p + n ≤ 8 * B.length) (hn : n ≤ 64) :
    Calls Tryz.prog 133 #[.pointer (some ⟨R, 0, none⟩), .int .i64 p, .int .i64 n] w fun e w' => e = .returned (.int .u64 (bitsAt B p n : Nat)) ∧ Keeps w w' [] := by
  have hmf : ∀ (fn : Fn) (first cap : Array Value) (w : World), (Instr.makeFunc fn first cap).run Tryz.prog w = .ok (.func fn first cap) w := fun _ _ _ _ => rfl
  have HBO := Lib.hid (fun w1 got (k : Keeps w w1 []) TA TG TN TV TR A G N V RB hA hG hN hV hRB hgn h1 h2 h3 => byteOn_any A G N V RB R p got n bs fr to B w1 TA TG TN TV TR TF hA hG hN hV hRB (hR.keeps k (by simp)) (hv.keeps k) hl hb hat hgn hn h1 h2 h3)
  clear hR hv hl hb hat
  go_enter Tryz.func133, Tryz.ntmps133
  go_wp2_with fail
  obtain ⟨bRB, bA, bN, bV, bG, k0⟩ : Blk (((((w.alloc (.cells #[.pointer (some ⟨R, 0, none⟩)] 204)).alloc (.cells #[.int .i64 p] 3)).alloc (.cells #[.int .i64 n] 3)).alloc (.cells #[.int .u64 0] 64)).alloc (.cells #[.int .i64 0] 3)) w.heap.size #[.pointer (some ⟨R, 0, none⟩)] 204 ∧ Blk (((((w.alloc (.cells #[.pointer (some ⟨R, 0, none⟩)] 204)).alloc (.cells #[.int .i64 p] 3)).alloc (.cells #[.int .i64 n] 3)).alloc (.cells #[.int .u64 0] 64)).alloc (.cells #[.int .i64 0] 3)) (w.heap.size + 1) #[.int .i64 p] 3 ∧ Blk (((((w.alloc (.cells #[.pointer (some ⟨R, 0, none⟩)] 204)).alloc (.cells #[.int .i64 p] 3)).alloc (.cells #[.int .i64 n] 3)).alloc (.cells #[.int .u64 0] 64)).alloc (.cells #[.int .i64 0] 3)) (w.heap.size + 1 + 1) #[.int .i64 n] 3 ∧ Blk (((((w.alloc (.cells #[.pointer (some ⟨R, 0, none⟩)] 204)).alloc (.cells #[.int .i64 p] 3)).alloc (.cells #[.int .i64 n] 3)).alloc (.cells #[.int .u64 0] 64)).alloc (.cells #[.int .i64 0] 3)) (w.heap.size + 1 + 1 + 1) #[.int .u64 0] 64 ∧ Blk (((((w.alloc (.cells #[.pointer (some ⟨R, 0, none⟩)] 204)).alloc (.cells #[.int .i64 p] 3)).alloc (.cells #[.int .i64 n] 3)).alloc (.cells #[.int .u64 0] 64)).alloc (.cells #[.int .i64 0] 3)) (w.heap.size + 1 + 1 + 1 + 1) #[.int .i64 0] 3 ∧ Keeps w (((((w.alloc (.cells #[.pointer (some ⟨R, 0, none⟩)] 204)).alloc (.cells #[.int .i64 p] 3)).alloc (.cells #[.int .i64 n] 3)).alloc (.cells #[.int .u64 0] 64)).alloc (.cells #[.int .i64 0] 3)) [] := by
    refine ⟨((((Blk.new w _ _).alloc _).alloc _).alloc _).alloc _, ?_, ?_, ?_, ?_, (((((Keeps.refl w []).alloc _).alloc _).alloc _).alloc _).alloc _⟩
    · have := (((Blk.new (w.alloc (.cells #[.pointer (some ⟨R, 0, none⟩)] 204)) #[.int .i64 p] 3).alloc (.cells #[.int .i64 n] 3)).alloc (.cells #[.int .u64 0] 64)).alloc (.cells #[.int .i64 0] 3)
      simpa only [World.size_alloc] using this
    · have := ((Blk.new ((w.alloc (.cells #[.pointer (some ⟨R, 0, none⟩)] 204)).alloc (.cells #[.int .i64 p] 3)) #[.int .i64 n] 3).alloc (.cells #[.int .u64 0] 64)).alloc (.cells #[.int .i64 0] 3)
      simpa only [World.size_alloc] using this
    · have := (Blk.new (((w.alloc (.cells #[.pointer (some ⟨R, 0, none⟩)] 204)).alloc (.cells #[.int .i64 p] 3)).alloc (.cells #[.int .i64 n] 3)) #[.int .u64 0] 64).alloc (.cells #[.int .i64 0] 3)
      simpa only [World.size_alloc] using this
    · have := Blk.new ((((w.alloc (.cells #[.pointer (some ⟨R, 0, none⟩)] 204)).alloc (.cells #[.int .i64 p] 3)).alloc (.cells #[.int .i64 n] 3)).alloc (.cells #[.int .u64 0] 64)) #[.int .i64 0] 3
      simpa only [World.size_alloc] using this
  generalize (((((w.alloc (.cells #[.pointer (some ⟨R, 0, none⟩)] 204)).alloc (.cells #[.int .i64 p] 3)).alloc (.cells #[.int .i64 n] 3)).alloc (.cells #[.int .u64 0] 64)).alloc (.cells #[.int .i64 0] 3)) = w0 at *
  obtain ⟨A, hA⟩ : ∃ A, A = w.heap.size + 1 := ⟨_, rfl⟩
  obtain ⟨N, hN⟩ : ∃ A, A = w.heap.size + 1 + 1 := ⟨_, rfl⟩
  obtain ⟨V, hV⟩ : ∃ A, A = w.heap.size + 1 + 1 + 1 := ⟨_, rfl⟩
  obtain ⟨G, hG⟩ : ∃ A, A = w.heap.size + 1 + 1 + 1 + 1 := ⟨_, rfl⟩
  rw [← hG] at bG ⊢
  rw [← hV] at bV ⊢
  rw [← hN] at bN ⊢
  rw [← hA] at bA ⊢
  have HD := Lib.hid (show G ≠ V ∧ A ≠ V ∧ A ≠ G ∧ w.heap.size < A ∧ w.heap.size < N ∧ w.heap.size < V ∧ w.heap.size < G ∧ N ≠ V ∧ N ≠ G from by omega)
  clear hA hN hV hG
  go_loopw [14] (fun s14 wr => ∃ got : Nat, got ≤ n ∧ Blk wr w.heap.size #[.pointer (some ⟨R, 0, none⟩)] 204 ∧ Blk wr A #[.int .i64 p] 3 ∧ Blk wr N #[.int .i64 n] 3 ∧ Blk wr V #[.int .u64 ((bitsAt B p got : Nat) : Int)] 64 ∧ Blk wr G #[.int .i64 (got : Int)] 3 ∧ Keeps w wr []) (fun _ wr => n - gotOf wr G)
  case atStart => exact ⟨0, Nat.zero_le _, bRB, bA, bN, by rw [bitsAt_zero]; exact bV, bG, k0⟩
  case round =>
    obtain ⟨got, hgn, cRB, cA, cN, cV, cG, kk⟩ := hrel
    obtain ⟨g0, g1⟩ := cG.one
    obtain ⟨n0, n1⟩ := cN.one
    by_cases hlt : got < n
    · have hkn : (got : Int) < (n : Int) := by omega
      have hgo : gotOf wr G = got := by unfold gotOf; rw [g0]; simp [intOf]
      go_wp2_with fail
      refine (HBO.out _ got kk _ _ _ _ _ A G N V w.heap.size cA cG cN cV cRB hlt HD.out.1 HD.out.2.1 HD.out.2.2.1).mono ?_
      rintro e w5 ⟨k, hk0, hkn2, rfl, dG, dV, k5⟩
      have kk5 : Keeps w w5 [] := kk.trans k5 (fun j hj hlt => by have := HD.out; simp at hj; omega)
      have dRB := cRB.keeps k5 (by have := HD.out; simp; omega)
      have dA := cA.keeps k5 (by have := HD.out; simp; omega)
      have dN := cN.keeps k5 (by have := HD.out; simp; omega)
      have hgo5 : gotOf w5 G = got + k := by unfold gotOf; rw [(dG.one).1]; simp [intOf]; omega
      have HGO := Lib.hid hgo
      have HGO5 := Lib.hid hgo5
      clear hgo hgo5 g0 g1 n0 n1
      go_wp2_with fail
      go_roundw
      case rel => exact ⟨got + k, hkn2, dRB, dA, dN, dV, dG, kk5⟩
      case measure => rw [HGO.out, HGO5.out]; omega
    · have : got = n := by omega
      subst this
      obtain ⟨v0, v1⟩ := cV.one
      have hlt' : ¬ ((got : Int) < (got : Int)) := by omega
      go_wp2_with fail
      refine bodyPost_ret (v := .int .u64 ((bitsAt B p got : Nat) : Int)) (by simp only [results, Tryz.results133]; go_simp) rfl ⟨rfl, ?_⟩
      exact kk.setCell (.inl (by have := HD.out; dsimp only; omega)) _
end

end Go.Proofs.YtophgpnnjphnmaaGreat
