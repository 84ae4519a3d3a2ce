/-
  Counts turned into norms, in plain words; and that the norms are a valid table. (No program in sight.)
-/
import Derived.Test.YtophgpnnjphnmaaGreatQ1
import Derived.Test.YtophgpnnjphnmaaGreatQ13
namespace Go.Proofs.YtophgpnnjphnmaaGreat
set_option linter.unusedVariables false
set_option linter.unusedSimpArgs false

/-- The first of those with the greatest value. -/
def furF (among : Nat → Bool) (of : Nat → Int) : Nat → Option Nat
  | 0 => none
  | i + 1 => match furF among of i with
    | none => if among i then some i else none
    | some b => if among i && decide (of b < of i) then some i else some b
theorem furF_none {among : Nat → Bool} {of : Nat → Int} : ∀ {n : Nat}, furF among of n = none → ∀ i, i < n → among i = false
  | 0, _, i, hi => by omega
  | n + 1, h, i, hi => by
    unfold furF at h
    cases hf : furF among of n with
    | none =>
      rw [hf] at h
      simp only at h
      split at h
      · cases h
      · rename_i ha
        by_cases hin : i < n
        · exact furF_none hf i hin
        · obtain rfl : i = n := by omega
          simpa using ha
    | some b =>
      rw [hf] at h
      simp only at h
      split at h <;> cases h
theorem furF_some {among : Nat → Bool} {of : Nat → Int} : ∀ {n b : Nat}, furF among of n = some b → b < n ∧ among b = true ∧ ∀ i, i < n → among i = true → of i ≤ of b
  | 0, b, h => by cases h
  | n + 1, b, h => by
    unfold furF at h
    cases hf : furF among of n with
    | none =>
      rw [hf] at h
      simp only at h
      split at h
      · rename_i ha
        injection h with h
        subst h
        refine ⟨by omega, ha, fun i hi hai => ?_⟩
        by_cases hin : i < n
        · have := furF_none hf i hin
          rw [this] at hai; cases hai
        · obtain rfl : i = n := by omega
          exact Int.le_refl _
      · cases h
    | some c =>
      rw [hf] at h
      simp only at h
      obtain ⟨c1, c2, c3⟩ := furF_some hf
      split at h
      · rename_i ha
        injection h with h
        subst h
        simp only [Bool.and_eq_true, decide_eq_true_eq] at ha
        refine ⟨by omega, ha.1, fun i hi hai => ?_⟩
        by_cases hin : i < n
        · have := c3 i hin hai; omega
        · obtain rfl : i = n := by omega
          exact Int.le_refl _
      · rename_i ha
        injection h with h
        subst h
        refine ⟨by omega, c2, fun i hi hai => ?_⟩
        by_cases hin : i < n
        · exact c3 i hin hai
        · obtain rfl : i = n := by omega
          rw [hai, Bool.true_and] at ha
          simp only [decide_eq_true_eq] at ha
          omega

/-- How far a norm lies below what its count asks for. -/
def aboveF (C N : List Int) (S T : Int) (i : Nat) : Int := C.getD i 0 * S - N.getD i 0 * T
def initN (C : List Int) (S T : Int) : List Int := C.map fun c => if 0 < c then (if c * S / T < 1 then 1 else c * S / T) else 0
def upN (C N : List Int) (S T : Int) : List Int := match furF (fun i => decide (0 < C.getD i 0)) (aboveF C N S T) C.length with
  | none => N
  | some b => N.set b (N.getD b 0 + 1)
def downN (C N : List Int) (S T : Int) : List Int := match furF (fun i => decide (1 < N.getD i 0)) (fun i => - aboveF C N S T i) C.length with
  | none => N
  | some b => N.set b (N.getD b 0 - 1)
def upK (C : List Int) (S T : Int) : Nat → List Int → List Int
  | 0, N => N
  | k + 1, N => upK C S T k (upN C N S T)
def downK (C : List Int) (S T : Int) : Nat → List Int → List Int
  | 0, N => N
  | k + 1, N => downK C S T k (downN C N S T)
def sumZ : List Int → Int
  | [] => 0
  | x :: l => x + sumZ l
def mendN (C : List Int) (S T : Int) : List Int := if sumZ (initN C S T) ≤ S then upK C S T (S - sumZ (initN C S T)).toNat (initN C S T) else downK C S T (sumZ (initN C S T) - S).toNat (initN C S T)
/-- The norms of -1 marked. -/
def markN (C N : List Int) (S T : Int) : List Int := (List.range C.length).map fun i => if 0 < C.getD i 0 ∧ C.getD i 0 * S < T then -1 else N.getD i 0
/-- The number of symbols up to the last one that is used. -/
def usedN (C : List Int) : Nat → Nat
  | 0 => 0
  | i + 1 => if 0 < C.getD i 0 then i + 1 else usedN C i
def normF (C : List Int) (S T : Int) : List Int := (markN C (mendN C S T) S T).take (usedN C C.length)
/-- How many counts are positive. -/
def posN : List Int → Int
  | [] => 0
  | c :: l => (if 0 < c then 1 else 0) + posN l

theorem sumZ_set : ∀ (l : List Int) (b : Nat) (x : Int), b < l.length → sumZ (l.set b x) = sumZ l - l.getD b 0 + x
  | [], b, x, h => by simp at h
  | y :: l, 0, x, _ => by simp only [List.set_cons_zero, sumZ, List.getD_cons_zero]; omega
  | y :: l, b + 1, x, h => by
    have := sumZ_set l b x (by simpa using h)
    simp only [List.set_cons_succ, sumZ, List.getD_cons_succ, this]
    omega
theorem getD_set (l : List Int) (b i : Nat) (x : Int) (h : b < l.length) : (l.set b x).getD i 0 = if i = b then x else l.getD i 0 := by
  rw [List.getD_eq_getElem?_getD, List.getD_eq_getElem?_getD, List.getElem?_set]
  by_cases hi : b = i
  · subst hi
    rw [if_pos rfl, if_pos rfl, if_pos h]; rfl
  · rw [if_neg hi, if_neg (fun e => hi e.symm)]

/-- What stays true of the norms while they are mended. -/
structure MendOk (C N : List Int) (S T : Int) : Prop where
  len : N.length = C.length
  zero : ∀ i, i < C.length → C.getD i 0 = 0 → N.getD i 0 = 0
  pos : ∀ i, i < C.length → 0 < C.getD i 0 → 1 ≤ N.getD i 0
  low : ∀ i, i < C.length → 0 < C.getD i 0 → C.getD i 0 * S < T → N.getD i 0 = 1
theorem mul_lists : ∀ (C N : List Int) (S T : Int), N.length = C.length → (∀ i, i < C.length → C.getD i 0 * S ≤ N.getD i 0 * T) → sumZ C * S ≤ sumZ N * T
  | [], [], S, T, _, _ => by simp [sumZ]
  | [], n :: N, S, T, h, _ => by simp at h
  | c :: C, [], S, T, h, _ => by simp at h
  | c :: C, n :: N, S, T, hl, h => by
    have h0 := h 0 (by simp)
    have ih := mul_lists C N S T (by simpa using hl) (fun i hi => by have := h (i + 1) (by simpa using hi); simpa using this)
    simp only [List.getD_cons_zero] at h0
    simp only [sumZ, Int.add_mul]
    omega
theorem sum_le_pos : ∀ (C N : List Int), N.length = C.length → (∀ i, i < C.length → 0 ≤ C.getD i 0) → (∀ i, i < C.length → C.getD i 0 = 0 → N.getD i 0 = 0) → (∀ i, i < C.length → N.getD i 0 ≤ 1) → sumZ N ≤ posN C
  | [], [], _, _, _, _ => by simp [sumZ, posN]
  | [], n :: N, h, _, _, _ => by simp at h
  | c :: C, [], h, _, _, _ => by simp at h
  | c :: C, n :: N, hl, hc, hz, h => by
    have ih := sum_le_pos C N (by simpa using hl) (fun i hi => by have := hc (i + 1) (by simpa using hi); simpa using this) (fun i hi => by have := hz (i + 1) (by simpa using hi); simpa using this) (fun i hi => by have := h (i + 1) (by simpa using hi); simpa using this)
    have h0 := h 0 (by simp)
    have z0 := hz 0 (by simp)
    have c0 := hc 0 (by simp)
    simp only [List.getD_cons_zero] at h0 z0 c0
    simp only [sumZ, posN]
    split
    · omega
    · have := z0 (by omega)
      omega

theorem up_ok {C N : List Int} {S T : Int} (h : MendOk C N S T) (hT : 0 < T) (hTs : T = sumZ C) (hC : ∀ i, i < C.length → 0 ≤ C.getD i 0) (hlt : sumZ N < S) : ∃ b, furF (fun i => decide (0 < C.getD i 0)) (aboveF C N S T) C.length = some b ∧ b < C.length ∧ upN C N S T = N.set b (N.getD b 0 + 1) ∧ MendOk C (upN C N S T) S T ∧ sumZ (upN C N S T) = sumZ N + 1 := by
  have hex : ∃ i, i < C.length ∧ N.getD i 0 * T < C.getD i 0 * S := by
    by_cases hb : ∀ i, i < C.length → C.getD i 0 * S ≤ N.getD i 0 * T
    · exfalso
      have := mul_lists C N S T h.len hb
      rw [← hTs, Int.mul_comm T S] at this
      have h2 : sumZ N * T < S * T := Int.mul_lt_mul_of_pos_right hlt hT
      omega
    · obtain ⟨i, hi⟩ := Classical.not_forall.1 hb
      obtain ⟨hi1, hi2⟩ := Classical.not_imp.1 hi
      exact ⟨i, hi1, by omega⟩
  obtain ⟨i, hi1, hi2⟩ := hex
  have hci : 0 < C.getD i 0 := by
    by_cases h0 : C.getD i 0 = 0
    · rw [h0, h.zero i hi1 h0] at hi2
      omega
    · have := hC i hi1; omega
  cases hf : furF (fun i => decide (0 < C.getD i 0)) (aboveF C N S T) C.length with
  | none =>
    have := furF_none hf i hi1
    simp only [decide_eq_false_iff_not] at this
    omega
  | some b =>
    obtain ⟨b1, b2, b3⟩ := furF_some hf
    simp only [decide_eq_true_eq] at b2
    have hb := b3 i hi1 (by simpa using hci)
    have hbl : b < N.length := by rw [h.len]; exact b1
    have hab : 0 < aboveF C N S T b := by
      have : 0 < aboveF C N S T i := by unfold aboveF; omega
      omega
    have hpb := h.pos b b1 b2
    have hbig : T ≤ C.getD b 0 * S := by
      unfold aboveF at hab
      have : 1 * T ≤ N.getD b 0 * T := Int.mul_le_mul_of_nonneg_right hpb (by omega)
      omega
    have hu : upN C N S T = N.set b (N.getD b 0 + 1) := by unfold upN; rw [hf]
    refine ⟨b, rfl, b1, hu, ?_, ?_⟩
    · rw [hu]
      refine ⟨by rw [List.length_set]; exact h.len, fun j hj h0 => ?_, fun j hj h0 => ?_, fun j hj h0 h1 => ?_⟩
      · rw [getD_set _ _ _ _ hbl]
        split
        · rename_i e; subst e; omega
        · exact h.zero j hj h0
      · rw [getD_set _ _ _ _ hbl]
        split
        · omega
        · exact h.pos j hj h0
      · rw [getD_set _ _ _ _ hbl]
        split
        · rename_i e; subst e; omega
        · exact h.low j hj h0 h1
    · rw [hu, sumZ_set _ _ _ hbl]; omega
theorem down_ok {C N : List Int} {S T : Int} (h : MendOk C N S T) (hC : ∀ i, i < C.length → 0 ≤ C.getD i 0) (hp : posN C ≤ S) (hlt : S < sumZ N) : ∃ b, furF (fun i => decide (1 < N.getD i 0)) (fun i => - aboveF C N S T i) C.length = some b ∧ b < C.length ∧ downN C N S T = N.set b (N.getD b 0 - 1) ∧ MendOk C (downN C N S T) S T ∧ sumZ (downN C N S T) = sumZ N - 1 := by
  cases hf : furF (fun i => decide (1 < N.getD i 0)) (fun i => - aboveF C N S T i) C.length with
  | none =>
    exfalso
    have := sum_le_pos C N h.len hC h.zero (fun i hi => by
      have := furF_none hf i hi
      simp only [decide_eq_false_iff_not] at this
      omega)
    omega
  | some b =>
    obtain ⟨b1, b2, -⟩ := furF_some hf
    simp only [decide_eq_true_eq] at b2
    have hbl : b < N.length := by rw [h.len]; exact b1
    have hu : downN C N S T = N.set b (N.getD b 0 - 1) := by unfold downN; rw [hf]
    refine ⟨b, rfl, b1, hu, ?_, ?_⟩
    · rw [hu]
      refine ⟨by rw [List.length_set]; exact h.len, fun j hj h0 => ?_, fun j hj h0 => ?_, fun j hj h0 h1 => ?_⟩
      · rw [getD_set _ _ _ _ hbl]
        split
        · rename_i e; subst e
          have := h.zero j b1 h0
          omega
        · exact h.zero j hj h0
      · rw [getD_set _ _ _ _ hbl]
        split
        · rename_i e; subst e; omega
        · exact h.pos j hj h0
      · rw [getD_set _ _ _ _ hbl]
        split
        · rename_i e; subst e
          have := h.low j b1 h0 h1
          omega
        · exact h.low j hj h0 h1
    · rw [hu, sumZ_set _ _ _ hbl]; omega
theorem upK_ok {C : List Int} {S T : Int} (hT : 0 < T) (hTs : T = sumZ C) (hC : ∀ i, i < C.length → 0 ≤ C.getD i 0) : ∀ (k : Nat) (N : List Int), MendOk C N S T → sumZ N + (k : Int) ≤ S → MendOk C (upK C S T k N) S T ∧ sumZ (upK C S T k N) = sumZ N + (k : Int)
  | 0, N, h, _ => ⟨h, by simp [upK]⟩
  | k + 1, N, h, hk => by
    obtain ⟨b, -, -, -, h1, h2⟩ := up_ok h hT hTs hC (by omega)
    obtain ⟨g1, g2⟩ := upK_ok hT hTs hC k (upN C N S T) h1 (by omega)
    exact ⟨g1, by rw [upK, g2, h2]; omega⟩
theorem downK_ok {C : List Int} {S T : Int} (hC : ∀ i, i < C.length → 0 ≤ C.getD i 0) (hp : posN C ≤ S) : ∀ (k : Nat) (N : List Int), MendOk C N S T → S ≤ sumZ N - (k : Int) → MendOk C (downK C S T k N) S T ∧ sumZ (downK C S T k N) = sumZ N - (k : Int)
  | 0, N, h, _ => ⟨h, by simp [downK]⟩
  | k + 1, N, h, hk => by
    obtain ⟨b, -, -, -, h1, h2⟩ := down_ok h hC hp (by omega)
    obtain ⟨g1, g2⟩ := downK_ok hC hp k (downN C N S T) h1 (by omega)
    exact ⟨g1, by rw [downK, g2, h2]; omega⟩
theorem init_ok {C : List Int} {S T : Int} (hT : 0 < T) : MendOk C (initN C S T) S T := by
  have hget : ∀ i, i < C.length → (initN C S T).getD i 0 = if 0 < C.getD i 0 then (if C.getD i 0 * S / T < 1 then 1 else C.getD i 0 * S / T) else 0 := fun i hi => by
    unfold initN
    rw [List.getD_eq_getElem?_getD, List.getElem?_map, List.getD_eq_getElem?_getD, List.getElem?_eq_getElem hi]
    rfl
  refine ⟨by simp [initN], fun i hi h0 => ?_, fun i hi h0 => ?_, fun i hi h0 h1 => ?_⟩
  · rw [hget i hi, h0]; rfl
  · rw [hget i hi, if_pos h0]
    split <;> omega
  · rw [hget i hi, if_pos h0, if_pos]
    have := Int.ediv_lt_of_lt_mul hT (show C.getD i 0 * S < 1 * T by omega)
    exact this
theorem mend_ok {C : List Int} {S T : Int} (hT : 0 < T) (hTs : T = sumZ C) (hC : ∀ i, i < C.length → 0 ≤ C.getD i 0) (hp : posN C ≤ S) : MendOk C (mendN C S T) S T ∧ sumZ (mendN C S T) = S := by
  unfold mendN
  split
  · rename_i h
    obtain ⟨h1, h2⟩ := upK_ok (S := S) hT hTs hC (S - sumZ (initN C S T)).toNat _ (init_ok hT) (by omega)
    exact ⟨h1, by rw [h2]; omega⟩
  · rename_i h
    obtain ⟨h1, h2⟩ := downK_ok (S := S) (T := T) hC hp (sumZ (initN C S T) - S).toNat _ (init_ok hT) (by omega)
    exact ⟨h1, by rw [h2]; omega⟩

theorem usedN_le (C : List Int) : ∀ n, usedN C n ≤ n
  | 0 => Nat.le_refl _
  | n + 1 => by
    have := usedN_le C n
    unfold usedN
    split <;> omega
theorem usedN_after {C : List Int} : ∀ {n i : Nat}, usedN C n ≤ i → i < n → ¬ 0 < C.getD i 0
  | 0, i, _, h => by omega
  | n + 1, i, h1, h2 => by
    unfold usedN at h1
    split at h1
    · omega
    · rename_i h
      by_cases hin : i < n
      · exact usedN_after h1 hin
      · obtain rfl : i = n := by omega
        exact h
theorem usedN_last {C : List Int} : ∀ {n : Nat}, 0 < usedN C n → 0 < C.getD (usedN C n - 1) 0
  | 0, h => by simp [usedN] at h
  | n + 1, h => by
    unfold usedN at h ⊢
    split
    · rename_i h1
      simpa using h1
    · rename_i h1
      rw [if_neg h1] at h
      exact usedN_last h
theorem sumN_zero : ∀ {l : List Int}, (∀ x ∈ l, x = 0) → sumN l = 0
  | [], _ => rfl
  | x :: l, h => by
    have := sumN_zero (l := l) (fun y hy => h y (by simp [hy]))
    have hx := h x (by simp)
    subst hx
    simp [sumN, this, stN]
/-- The sum of the states of marked norms is that of the norms. -/
theorem mark_sum {C N : List Int} {S T : Int} (h : MendOk C N S T) (hC : ∀ i, i < C.length → 0 ≤ C.getD i 0) : ∀ k, k ≤ C.length → sumN ((markN C N S T).take k) = sumZ (N.take k)
  | 0, _ => by simp [sumN, sumZ]
  | k + 1, hk => by
    have ih := mark_sum h hC k (by omega)
    have hm : (markN C N S T)[k]? = some (if 0 < C.getD k 0 ∧ C.getD k 0 * S < T then -1 else N.getD k 0) := by
      unfold markN
      rw [List.getElem?_map, List.getElem?_range (by omega)]
      rfl
    have hN : N[k]? = some (N.getD k 0) := by
      rw [List.getD_eq_getElem?_getD, List.getElem?_eq_getElem (by rw [h.len]; omega)]; rfl
    have hs : ∀ (l : List Int) (x : Int), sumZ (l ++ [x]) = sumZ l + x := by
      intro l x
      induction l with
      | nil => simp [sumZ]
      | cons y l ih => simp only [List.cons_append, sumZ, ih]; omega
    rw [sumN_take hm, ih, List.take_add_one, hN]
    simp only [Option.toList_some]
    rw [hs]
    congr 1
    by_cases hc : 0 < C.getD k 0 ∧ C.getD k 0 * S < T
    · rw [if_pos hc, h.low k (by omega) hc.1 hc.2]; rfl
    · rw [if_neg hc]
      unfold stN
      rw [if_neg]
      intro e
      by_cases h0 : C.getD k 0 = 0
      · have := h.zero k (by omega) h0; omega
      · have := h.pos k (by omega) (by have := hC k (by omega); omega); omega
theorem markN_len (C N : List Int) (S T : Int) : (markN C N S T).length = C.length := by simp [markN]
/-- A norm is 0 where its count is. -/
theorem mark_get {C N : List Int} {S T : Int} (h : MendOk C N S T) (hC : ∀ i, i < C.length → 0 ≤ C.getD i 0) {i : Nat} (hi : i < C.length) : -1 ≤ (markN C N S T).getD i 0 ∧ ((markN C N S T).getD i 0 ≠ 0 ↔ 0 < C.getD i 0) := by
  have hm : (markN C N S T).getD i 0 = if 0 < C.getD i 0 ∧ C.getD i 0 * S < T then -1 else N.getD i 0 := by
    unfold markN
    rw [List.getD_eq_getElem?_getD, List.getElem?_map, List.getElem?_range hi]
    rfl
  rw [hm]
  by_cases h0 : C.getD i 0 = 0
  · have hz := h.zero i hi h0
    rw [if_neg (by omega), hz]
    omega
  · have hp := h.pos i hi (by have := hC i hi; omega)
    have := hC i hi
    split <;> omega
/-- The norms of counts are a valid table. -/
theorem normF_ok {C : List Int} {S T : Int} {log : Nat} (hS : S = ((2 ^ log : Nat) : Int)) (hlog : log ≤ 9) (hT : 0 < T) (hTs : T = sumZ C) (hC : ∀ i, i < C.length → 0 ≤ C.getD i 0) (hp : posN C ≤ S) (hu : 0 < usedN C C.length) (hl : C.length ≤ 256) :
    TblOk log (normF C S T) ∧ (normF C S T).getD ((normF C S T).length - 1) 0 ≠ 0 ∧ (normF C S T).length = usedN C C.length ∧ ∀ i, i < C.length → 0 < C.getD i 0 → i < (normF C S T).length ∧ (normF C S T).getD i 0 ≠ 0 := by
  obtain ⟨h1, h2⟩ := mend_ok hT hTs hC hp
  have hul := usedN_le C C.length
  have hml := markN_len C (mendN C S T) S T
  have hlen : (normF C S T).length = usedN C C.length := by unfold normF; rw [List.length_take, hml]; omega
  have hget : ∀ i, i < usedN C C.length → (normF C S T).getD i 0 = (markN C (mendN C S T) S T).getD i 0 := fun i hi => by
    unfold normF
    rw [List.getD_eq_getElem?_getD, List.getElem?_take_of_lt hi, ← List.getD_eq_getElem?_getD]
  have hsum : sumN (normF C S T) = S := by
    have e1 := mark_sum h1 hC C.length (Nat.le_refl _)
    rw [List.take_of_length_le (by omega), List.take_of_length_le (by rw [h1.len]; omega), h2] at e1
    have e2 := sumN_append (normF C S T) ((markN C (mendN C S T) S T).drop (usedN C C.length))
    unfold normF at e2
    rw [List.take_append_drop, e1] at e2
    have e3 := sumN_zero (l := (markN C (mendN C S T) S T).drop (usedN C C.length)) (fun x hx => by
      obtain ⟨j, hj⟩ := List.getElem?_of_mem hx
      rw [List.getElem?_drop] at hj
      have hjl := (List.getElem?_eq_some_iff.1 hj).1
      rw [hml] at hjl
      have hg := mark_get h1 hC hjl
      have hn := usedN_after (C := C) (n := C.length) (i := usedN C C.length + j) (by omega) hjl
      have hx0 : (markN C (mendN C S T) S T).getD (usedN C C.length + j) 0 = x := by rw [List.getD_eq_getElem?_getD, hj]; rfl
      rw [hx0] at hg
      by_cases hx1 : x = 0
      · exact hx1
      · exact (hn (hg.2.1 hx1)).elim)
    unfold normF
    omega
  refine ⟨⟨hlog, by omega, by omega, fun n hn => ?_, by rw [hsum, hS]⟩, ?_, hlen, fun i hi hc => ?_⟩
  · obtain ⟨j, hj⟩ := List.getElem?_of_mem hn
    have hjl := (List.getElem?_eq_some_iff.1 hj).1
    have hx0 : (normF C S T).getD j 0 = n := by rw [List.getD_eq_getElem?_getD, hj]; rfl
    rw [← hx0, hget j (by omega)]
    exact (mark_get h1 hC (by omega)).1
  · rw [hlen, hget _ (by omega)]
    exact (mark_get h1 hC (by omega)).2.2 (usedN_last hu)
  · have hiu : i < usedN C C.length := by
      by_cases hb : i < usedN C C.length
      · exact hb
      · exact (usedN_after (C := C) (n := C.length) (by omega) hi hc).elim
    exact ⟨by omega, by rw [hget i hiu]; exact (mark_get h1 hC hi).2.2 hc⟩


end Go.Proofs.YtophgpnnjphnmaaGreat
