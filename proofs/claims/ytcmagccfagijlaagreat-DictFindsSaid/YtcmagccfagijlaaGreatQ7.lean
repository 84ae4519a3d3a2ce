/-
  The greatest number of a list; whether a list holds a positive one. No program is in sight here.
  Walks over package canon: validity of a tree, its greatest length.
-/
import Derived.Test.YtcmagccfagijlaaGreatQ5
import Derived.Lib.Slices
import Derived.WalkKit
import Derived.IntWalk
import Derived.Test.YtcmagccfagijlaaGreatRows
namespace Go.Proofs.YtcmagccfagijlaaGreat
section
set_option linter.unusedVariables false
set_option linter.unusedSimpArgs false
open Go.RowKit

/-- The greatest number, 0 at least. -/
def mxL (l : List Int) : Int := l.foldl max 0
theorem mxL_snoc (l : List Int) (x : Int) : mxL (l ++ [x]) = max (mxL l) x := by simp [mxL]
theorem foldl_max_ge (l : List Int) (a : Int) : a ≤ l.foldl max a ∧ (∀ x ∈ l, x ≤ l.foldl max a) ∧ (l.foldl max a = a ∨ l.foldl max a ∈ l) := by
  induction l generalizing a with
  | nil => simp
  | cons y l ih =>
    obtain ⟨h1, h2, h3⟩ := ih (max a y)
    simp only [List.foldl_cons]
    refine ⟨by omega, fun x hx => ?_, ?_⟩
    · rcases List.mem_cons.1 hx with rfl | hx
      · omega
      · exact h2 x hx
    · rcases h3 with h3 | h3
      · rcases Int.le_total a y with h | h
        · right; rw [h3, Int.max_eq_right h]; simp
        · left; rw [h3]; exact Int.max_eq_left h
      · right; simp [h3]
theorem mxL_nonneg (l : List Int) : 0 ≤ mxL l := (foldl_max_ge l 0).1
theorem mxL_ge {l : List Int} {x : Int} (h : x ∈ l) : x ≤ mxL l := (foldl_max_ge l 0).2.1 x h
theorem mxL_le {l : List Int} {m : Int} (h0 : 0 ≤ m) (h : ∀ x ∈ l, x ≤ m) : mxL l ≤ m := by
  rcases (foldl_max_ge l 0).2.2 with h1 | h1
  · unfold mxL; omega
  · exact h _ h1
theorem maxOf_eq {l : List Int} (h : ∀ x ∈ l, 0 ≤ x) : Go.Lib.maxOf l = mxL l := by
  cases l with
  | nil => rfl
  | cons a t =>
    have ha := h a (by simp)
    simp only [Go.Lib.maxOf, mxL, List.headD_cons, List.foldl_cons]
    congr 1; omega
theorem usedF_pos {l : List Int} (i : Nat) : 0 < (usedF i l).length ↔ ∃ x ∈ l, 0 < x := by
  induction l generalizing i with
  | nil => simp [usedF]
  | cons y l ih =>
    simp only [usedF]
    by_cases h : 0 < y
    · rw [if_pos h]; simp [h]
    · rw [if_neg h, ih (i + 1)]; simp [h]
theorem usedL_pos {l : List Int} : 0 < (usedL l).length ↔ ∃ x ∈ l, 0 < x := usedF_pos 0
theorem mxL_zero {l : List Int} : mxL l = 0 ↔ ¬ 0 < (usedL l).length := by
  rw [usedL_pos]
  constructor
  · rintro h ⟨x, hx, h0⟩
    have := mxL_ge hx
    omega
  · intro h
    rcases (foldl_max_ge l 0).2.2 with h1 | h1
    · exact h1
    · have h2 := mxL_nonneg l
      rcases Int.lt_or_eq_of_le h2 with h3 | h3
      · exact absurd ⟨_, h1, h3⟩ h
      · exact h3.symm

/-- Is a number between 0 and m? -/
def finM (m n : Int) : Bool := decide (0 ≤ n) && decide (n ≤ m)
theorem finM_iff {m x : Int} : finM m x = true ↔ 0 ≤ x ∧ x ≤ m := by simp [finM]

/-! ### Trees -/
/-- The sum of Kraft in parts of 2^11. -/
def sum11 : List Int → Nat
  | [] => 0
  | x :: l => (if 0 < x then 2 ^ (11 - x.toNat) else 0) + sum11 l
theorem sum11_append (a b : List Int) : sum11 (a ++ b) = sum11 a + sum11 b := by
  induction a with
  | nil => simp [sum11]
  | cons x a ih => simp only [List.cons_append, sum11, ih]; omega
theorem sum11_snoc (l : List Int) (x : Int) : sum11 (l ++ [x]) = sum11 l + (if 0 < x then 2 ^ (11 - x.toNat) else 0) := by
  rw [sum11_append]; simp [sum11]
theorem sum11_le (l : List Int) : sum11 l ≤ 1024 * l.length := by
  induction l with
  | nil => simp [sum11]
  | cons x l ih =>
    simp only [sum11, List.length_cons]
    split
    · have : 2 ^ (11 - x.toNat) ≤ 2 ^ 10 := Nat.pow_le_pow_right (by decide) (by omega)
      omega
    · omega
def treeL (l : List Int) : Bool := (decide (l.length ≤ 256) && l.all (finM 11)) && (decide (1 < (usedL l).length) && decide (sum11 l = 2048))
theorem treeL_iff {l : List Int} : treeL l = true ↔ l.length ≤ 256 ∧ (∀ x ∈ l, 0 ≤ x ∧ x ≤ 11) ∧ 1 < (usedL l).length ∧ sum11 l = 2048 := by
  simp [treeL, finM, and_assoc]
theorem usedL_count {l : List Int} {k : Nat} {x : Int} (h : l[k]? = some x) : (usedL (l.take (k + 1))).length = (usedL (l.take k)).length + if 0 < x then 1 else 0 := by
  rw [take_next h, usedL_snoc, List.length_append]; split <;> rfl
theorem pow11 {X : Nat} (h1 : 1 ≤ X) (h2 : X ≤ 11) : wrap64 ((2 : Int) ^ (11 - X)) = ((2 ^ (11 - X) : Nat) : Int) ∧ 2 ^ (11 - X) ≤ 1024 := by
  have h : (2:Nat) ^ (11 - X) ≤ 2 ^ 10 := Nat.pow_le_pow_right (by decide) (by omega)
  have h3 : (2 : Nat) ^ 10 = 1024 := by decide
  rw [h3] at h
  have h4 : ((2 : Int) ^ (11 - X)) = ((2 ^ (11 - X) : Nat) : Int) := by simp
  refine ⟨?_, h⟩
  rw [h4]
  generalize 2 ^ (11 - X) = N at *
  exact IntWalk.wrap64_in _ ⟨by omega, by omega⟩
end

section
set_option linter.unusedVariables false
set_option linter.unusedSimpArgs false
set_option linter.unusedSectionVars false
open Go.RowKit

theorem usedT_len (l : List Int) (k : Nat) : (usedL (l.take k)).length ≤ k := by
  have := usedL_len (l.take k)
  simp at this
  omega

set_option maxHeartbeats 2000000 in
theorem c_right (v : Value) (l : List Int) (w : World) (hv : RdI .i64 w v l) (hn : l.length ≤ 1000000) :
    Calls Tryz.prog 115 #[v] w fun e w' => e = .returned (.bool (treeL l)) ∧ w = w' := by
  obtain ⟨A0, n, cp0, rfl, hnl, -⟩ := hv.form
  have HV := Lib.hid hv
  have HN := Lib.hid hnl
  have hn' : n ≤ 1000000 := by omega
  obtain ⟨R, hR⟩ : ∃ R, R = treeL l := ⟨_, rfl⟩
  have HR := Lib.hid hR
  rw [← hR]
  clear hv hnl hn hR
  go_enter Tryz.func115, Tryz.ntmps115
  go_wp2_with fail
  go_loop [3, 4, 9] (fun s c i => ∃ k : Nat, k ≤ n ∧ i = .int .i64 k ∧ s = .int .i64 (sum11 (l.take k) : Nat) ∧ c = .int .i64 (usedL (l.take k)).length ∧ Hid ((l.take k).all (finM 11) = true)) (fun _ _ i => n - (intOf i).toNat)
  case atStart => exact ⟨0, Nat.zero_le _, rfl, rfl, rfl, by simp [Hid]⟩
  case round =>
    obtain ⟨k, hk, rfl, rfl, rfl, hall⟩ := hrel
    by_cases hlt : k < n
    · obtain ⟨x, hx⟩ : ∃ x, l[k]? = some x := ⟨_, List.getElem?_eq_getElem (by have := HN.out; omega)⟩
      obtain ⟨b, o, rfl, hb, hc⟩ := HV.out.at hx
      have hcap := HV.out.cap
      have hkn : (k : Int) < (n : Int) := by omega
      have hs1 := sum11_le (l.take k)
      have hs2 : (l.take k).length ≤ k := List.length_take_le _ _
      have hu1 := usedT_len l k
      have HST : Hid (sum11 (l.take (k + 1)) = sum11 (l.take k) + if 0 < x then 2 ^ (11 - x.toNat) else 0) := by show _ = _; rw [take_next hx, sum11_snoc]
      have HUC := Lib.hid (usedL_count hx)
      have HAL : Hid (finM 11 x = true → (l.take (k + 1)).all (finM 11) = true) := fun h => by rw [take_next hx, List.all_append, hall.out]; simp [h]
      have HBAD : Hid (finM 11 x = false → R = false) := fun h => by
        rw [HR.out, Bool.eq_false_iff]
        intro ht
        have := (treeL_iff.1 ht).2.1 x (List.mem_of_getElem? hx)
        rw [← Bool.not_eq_true, finM_iff] at h
        exact h this
      obtain ⟨S, hS⟩ : ∃ S, S = sum11 (l.take k) := ⟨_, rfl⟩
      obtain ⟨U, hU⟩ : ∃ U, U = (usedL (l.take k)).length := ⟨_, rfl⟩
      rw [← hS] at hs1 HST ⊢
      rw [← hU] at hu1 HUC ⊢
      have hS9 : (S : Int) ≤ 1024000000 := by omega
      have hU9 : (U : Int) ≤ 1000000 := by omega
      clear hx hS hU hs1 hs2
      by_cases hx0 : x < 0
      · obtain rfl := HBAD.out (by simp [finM]; omega)
        go_wp2_with fail
        go_ret
        exact ⟨rfl, rfl⟩
      · have d0 : decide (x < 0) = false := decide_eq_false hx0
        by_cases hx11 : 11 < x
        · obtain rfl := HBAD.out (by simp [finM]; omega)
          go_wp2_with fail
          go_ret
          exact ⟨rfl, rfl⟩
        · have d1 : decide (11 < x) = false := decide_eq_false hx11
          have NAL := Lib.hid (HAL.out (finM_iff.2 ⟨by omega, by omega⟩))
          by_cases hp : 0 < x
          · obtain ⟨X, rfl⟩ : ∃ X : Nat, x = (X : Int) := ⟨x.toNat, by omega⟩
            have hX1 : 1 ≤ X := by omega
            have hX2 : X ≤ 11 := by omega
            have wsub : IntKind.i64.wrap (11 - (X : Int)) = ((11 - X : Nat) : Int) := by rw [IntWalk.i64_in _ (by omega)]; omega
            have hsum : Hid (wrap64 ((S : Int) + wrap64 ((2 : Int) ^ (11 - X))) = ((sum11 (l.take (k + 1)) : Nat) : Int)) := by
              obtain ⟨h3, h4⟩ := pow11 hX1 hX2
              show _ = _
              rw [h3, HST.out, if_pos hp, Int.toNat_natCast]
              clear h3
              generalize 2 ^ (11 - X) = P at *
              rw [IntWalk.wrap64_in _ ⟨by omega, by omega⟩]
              omega
            clear HBAD HAL HST
            go_wp2_with fail
            go_round
            case rel => exact ⟨k + 1, by omega, by go_num, by rw [hsum.out], by rw [HUC.out, if_pos hp]; go_num, NAL⟩
            case measure => simp [intOf]; omega
          · have d2 : decide (0 < x) = false := decide_eq_false hp
            clear HBAD HAL
            go_wp2_with fail
            go_round
            case rel => exact ⟨k + 1, by omega, by go_num, by rw [HST.out, if_neg hp, Nat.add_zero], by rw [HUC.out, if_neg hp, Nat.add_zero], NAL⟩
            case measure => simp [intOf]; omega
    · obtain rfl : k = n := by omega
      have hR2 : Hid (R = ((decide ((k : Int) ≤ 256) && decide (1 < ((usedL (l.take k)).length : Int))) && ((sum11 (l.take k) : Nat) : Int) == 2048)) := by
        have e : l.take k = l := List.take_of_length_le (by have := HN.out; omega)
        have h1 := hall.out
        rw [e] at h1
        show _ = _
        rw [HR.out, e, Bool.eq_iff_iff]
        have h2 := HN.out
        simp [treeL, h1, ← h2]
        omega
      have HR2 := Lib.hid hR2.out
      clear hR2 HR
      generalize sum11 (l.take k) = S at *
      generalize (usedL (l.take k)).length = U at *
      go_wp2_with fail
      all_goals
        go_ret
        refine ⟨ret_bool ?_, rfl⟩
        rw [HR2.out]
        first | (simp [*]; done) | (simp [*]; omega)
end

end Go.Proofs.YtcmagccfagijlaaGreat
