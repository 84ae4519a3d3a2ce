/-
  What a description of a table says, in plain words: bits in, norms or an error out. (No program in sight.)
  The length of a number in bits is its logarithm and one more. No program is in sight here.
-/
import Derived.Test.YtophgpnnjphnmaaGreatQ2
import Derived.WalkKit
import Derived.Shelf.Small.Bits
namespace Go.Proofs.YtophgpnnjphnmaaGreat
section
/-- n bits from the front. -/
def tk (L : List Bool) (n : Nat) : Except Int (Nat × List Bool) := if n ≤ L.length then .ok (valL (L.take n), L.drop n) else .error 3
theorem tk_ok {L : List Bool} {n : Nat} (h : n ≤ L.length) : tk L n = .ok (valL (L.take n), L.drop n) := if_pos h
theorem tk_no {L : List Bool} {n : Nat} (h : L.length < n) : tk L n = .error 3 := if_neg (by omega)
theorem tk_lt {L L1 : List Bool} {n t : Nat} (h : tk L n = .ok (t, L1)) : t < 2 ^ n ∧ L1.length + n = L.length := by
  unfold tk at h
  split at h
  · rename_i hn
    injection h with h
    injection h with h1 h2
    subst h1 h2
    refine ⟨?_, by simp; omega⟩
    have := valL_lt (L.take n)
    rwa [List.length_take, Nat.min_eq_left hn] at this
  · cases h

/-- A number below m in truncated binary code. -/
def numP (L : List Bool) (m : Nat) : Except Int (Nat × List Bool) :=
  match tk L m.log2 with
  | .error e => .error e
  | .ok (t, L1) => if t < 2 ^ (m.log2 + 1) - m then .ok (t, L1) else
    match tk L1 1 with
    | .error e => .error e
    | .ok (c, L2) => .ok (2 * t + c - (2 ^ (m.log2 + 1) - m), L2)

theorem log2_le {m : Nat} (h : 0 < m) : 2 ^ m.log2 ≤ m := (Nat.le_log2 (by omega)).1 (Nat.le_refl _)
theorem log2_ltD {m : Nat} (h : 0 < m) : m < 2 ^ (m.log2 + 1) := (Nat.log2_lt (by omega)).1 (Nat.lt_succ_self _)

theorem numP_lt {L L1 : List Bool} {m v : Nat} (hm : 0 < m) (h : numP L m = .ok (v, L1)) : v < m ∧ L1.length + m.log2 ≤ L.length ∧ L.length ≤ L1.length + m.log2 + 1 := by
  unfold numP at h
  have h1 := log2_le hm
  have h2 := log2_ltD hm
  have h3 : 2 ^ (m.log2 + 1) = 2 * 2 ^ m.log2 := by rw [Nat.pow_succ]; omega
  split at h
  · cases h
  · rename_i t L0 ht
    obtain ⟨g1, g2⟩ := tk_lt ht
    split at h
    · injection h with h
      injection h with e1 e2
      subst e1 e2
      omega
    · split at h
      · cases h
      · rename_i c L2 hc
        obtain ⟨g3, g4⟩ := tk_lt hc
        injection h with h
        injection h with e1 e2
        subst e1 e2
        omega

/-- The zeros behind a norm of 0. -/
def zerosP (symbols : Nat) : Nat → List Bool → List Int → Except Int (List Int × List Bool)
  | 0, _, _ => .error 0
  | f + 1, L, out => if symbols ≤ out.length then .error 13 else
    match tk L 2 with
    | .error e => .error e
    | .ok (k, L1) => if k = 3 then zerosP symbols f L1 (out ++ List.replicate k 0) else .ok (out ++ List.replicate k 0, L1)

/-- The norms of a table with that many states. -/
def normsP (symbols : Nat) : Nat → List Bool → Nat → List Int → Bool → Except Int (List Int × List Bool)
  | 0, _, _, _, _ => .error 0
  | f + 1, L, left, out, ran => if left = 0 then .ok (out, L) else if symbols ≤ out.length then .error 13 else
    match numP L (left + 2) with
    | .error e => .error e
    | .ok (v, L1) => if v = 1 ∧ ran = true then .error 13 else
      if v = 1 then
        match zerosP symbols (symbols + 1) L1 (out ++ [(v : Int) - 1]) with
        | .error e => .error e
        | .ok (o, L2) => normsP symbols f L2 left o true
      else normsP symbols f L1 (left - (if v = 0 then 1 else v - 1)) (out ++ [(v : Int) - 1]) false

/-- The table that the bytes describe: its log, its norms and how many bytes the description has. -/
def tableP (B : List Int) (symbols log : Nat) : Except Int (Nat × List Int × Nat) :=
  match tk (rowBits B) 4 with
  | .error e => .error e
  | .ok (n, L1) => if log < n + 1 ∨ 8 < n then .error 13 else
    match normsP (min symbols 256) (min symbols 256 + 1) L1 (2 ^ (n + 1)) [] false with
    | .error e => .error e
    | .ok (l, L2) => if (L2.take (L2.length % 8)).all (fun b => !b) then .ok (n + 1, l, B.length - L2.length / 8) else .error 14

/-! More bits behind those that are read change nothing. -/
def more {α : Type} (Z : List Bool) : Except Int (α × List Bool) → Except Int (α × List Bool)
  | .error e => .error e
  | .ok (x, R) => .ok (x, R ++ Z)
theorem tk_app {A Z : List Bool} {n : Nat} (h : n ≤ A.length) : tk (A ++ Z) n = more Z (tk A n) := by
  rw [tk_ok h, tk_ok (by simp; omega), List.take_append_of_le_length h, List.drop_append_of_le_length h]
  rfl
theorem numP_app {A Z : List Bool} {m : Nat} (h : m.log2 + 1 ≤ A.length) : numP (A ++ Z) m = more Z (numP A m) := by
  unfold numP
  rw [tk_app (by omega)]
  cases ht : tk A m.log2 with
  | error e => rfl
  | ok x =>
    obtain ⟨t, L1⟩ := x
    obtain ⟨-, h2⟩ := tk_lt ht
    simp only [more]
    split
    · rfl
    · rw [tk_app (by omega)]
      cases tk L1 1 with
      | error e => rfl
      | ok y => rfl
theorem zerosP_len {symbols : Nat} : ∀ {f : Nat} {L L2 : List Bool} {out o : List Int}, zerosP symbols f L out = .ok (o, L2) → out.length ≤ o.length ∧ L2.length ≤ L.length ∧ L.length ≤ L2.length + 2 + 2 * (o.length - out.length) ∧ L.length ≤ L2.length + 2 * (symbols - out.length) := by
  intro f
  induction f with
  | zero => intro L L2 out o h; cases h
  | succ f ih =>
    intro L L2 out o h
    unfold zerosP at h
    split at h
    · cases h
    · split at h
      · cases h
      · rename_i k L1 hk
        obtain ⟨-, h2⟩ := tk_lt hk
        split at h
        · rename_i h3
          subst h3
          obtain ⟨g1, g2, g3, g4⟩ := ih h
          simp only [List.length_append, List.length_replicate] at g1 g3 g4
          omega
        · injection h with h
          injection h with e1 e2
          subst e1 e2
          simp only [List.length_append, List.length_replicate]
          omega
theorem zerosP_app {symbols : Nat} {Z : List Bool} : ∀ {f : Nat} {A : List Bool} {out : List Int}, 2 * (symbols - out.length) ≤ A.length → zerosP symbols f (A ++ Z) out = more Z (zerosP symbols f A out) := by
  intro f
  induction f with
  | zero => intro A out _; rfl
  | succ f ih =>
    intro A out h
    unfold zerosP
    split
    · rfl
    · rw [tk_app (by omega)]
      cases hk : tk A 2 with
      | error e => rfl
      | ok x =>
        obtain ⟨k, L1⟩ := x
        obtain ⟨-, h2⟩ := tk_lt hk
        simp only [more]
        split
        · rename_i h3
          subst h3
          exact ih (by simp only [List.length_append, List.length_replicate]; omega)
        · rfl

theorem log2_small {m : Nat} (h0 : 0 < m) (h : m ≤ 514) : m.log2 ≤ 9 := by
  have h1 := log2_le h0
  by_cases h2 : m.log2 ≤ 9
  · exact h2
  · have h3 : 2 ^ 10 ≤ 2 ^ m.log2 := Nat.pow_le_pow_right (by decide) (by omega)
    have h4 : (2 : Nat) ^ 10 = 1024 := by decide
    omega
theorem normsP_app {symbols : Nat} {Z : List Bool} : ∀ {f : Nat} {A : List Bool} {left : Nat} {out : List Int} {ran : Bool}, left ≤ 512 → 12 * (symbols - out.length) ≤ A.length → normsP symbols f (A ++ Z) left out ran = more Z (normsP symbols f A left out ran) := by
  intro f
  induction f with
  | zero => intro A left out ran _ _; rfl
  | succ f ih =>
    intro A left out ran hl h
    unfold normsP
    split
    · rfl
    · split
      · rfl
      · have h9 := log2_small (m := left + 2) (by omega) (by omega)
        rw [numP_app (by omega)]
        cases hk : numP A (left + 2) with
        | error e => rfl
        | ok x =>
          obtain ⟨v, L1⟩ := x
          obtain ⟨h1, h2, h3⟩ := numP_lt (by omega) hk
          simp only [more]
          split
          · rfl
          · split
            · rename_i hv
              rw [zerosP_app (by simp only [List.length_append, List.length_cons, List.length_nil]; omega)]
              cases hz : zerosP symbols (symbols + 1) L1 (out ++ [(v : Int) - 1]) with
              | error e => rfl
              | ok y =>
                obtain ⟨o, L2⟩ := y
                obtain ⟨g1, g2, g3, g4⟩ := zerosP_len hz
                simp only [List.length_append, List.length_cons, List.length_nil] at g1 g3 g4
                exact ih hl (by omega)
            · refine ih ?_ ?_
              · split <;> omega
              · simp only [List.length_append, List.length_cons, List.length_nil]
                omega
end

section
set_option linter.unusedVariables false
set_option linter.unusedSimpArgs false

theorem bitLenAux_log (f n : Nat) (h : n < 2 ^ f) (h0 : 0 < n) : Go.Lib.bitLenAux f n = n.log2 + 1 := by
  induction f generalizing n with
  | zero => omega
  | succ f ih =>
    rw [Go.Lib.bitLenAux, if_neg (by omega)]
    by_cases h2 : n / 2 = 0
    · have : n = 1 := by omega
      subst this
      cases f <;> simp [Go.Lib.bitLenAux, Nat.log2_def]
    · rw [ih (n / 2) (by rw [Nat.pow_succ] at h; omega) (by omega)]
      rw [Nat.log2_def n, if_pos (by omega)]
      omega
theorem bitLen_log {n : Nat} (h0 : 0 < n) (h : n < 18446744073709551616) : Go.Lib.bitLen n = n.log2 + 1 := bitLenAux_log 64 n h h0
end

end Go.Proofs.YtophgpnnjphnmaaGreat
