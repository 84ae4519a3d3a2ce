/-
  The plain law on histograms of concatenations, on the cost of even histograms, on the order of symbols. No program is in sight here.
-/
import Derived.Test.YtedojgbjfenmaaaT7
import Derived.Test.YtedojgbjfenmaaaT10
import Derived.Test.YtedojgbjfenmaaaT12
namespace Go.Proofs.Ytedojgbjfenmaaa
set_option linter.unusedVariables false
set_option linter.unusedSimpArgs false
open Go.RowKit

/-! ### Concatenations -/
def cnt (c : Nat) : List Int → Int
  | [] => 0
  | x :: l => (if x.toNat = c then 1 else 0) + cnt c l
theorem cnt_append (c : Nat) (l m : List Int) : cnt c (l ++ m) = cnt c l + cnt c m := by
  induction l with
  | nil => simp [cnt]
  | cons x l ih => simp [cnt, ih]; omega
theorem histF_cnt : ∀ (l : List Int) (h : List Int), h.length = 256 → (∀ x ∈ l, 0 ≤ x ∧ x ≤ 255) → (∀ i : Nat, h.getD i 0 + l.length ≤ 2147483647) → ∀ c : Nat, (histF h l).getD c 0 = h.getD c 0 + cnt c l
  | [], h, _, _, _, c => by simp [histF, cnt]
  | x :: l, h, hl, hb, hs, c => by
    have hx := hb x (by simp)
    have hsx := hs x.toNat
    simp only [List.length_cons] at hs hsx
    push_cast at hs hsx
    have e : bump h x = h.set x.toNat (h.getD x.toNat 0 + 1) := by unfold bump; rw [if_pos (by omega)]
    have key : ∀ i : Nat, (bump h x).getD i 0 = h.getD i 0 + (if x.toNat = i then 1 else 0) := by
      intro i
      rw [e]
      simp only [List.getD, List.getElem?_set]
      by_cases hi : x.toNat = i
      · subst hi
        rw [if_pos rfl, if_pos (by omega)]
        simp
      · rw [if_neg hi]
        simp [hi]
    have ih := histF_cnt l (bump h x) (by rw [bump_len]; exact hl) (fun y hy => hb y (by simp [hy])) (fun i => by rw [key]; have := hs i; split <;> omega) c
    show (histF (bump h x) l).getD c 0 = _
    rw [ih, key]
    simp only [cnt]
    omega
theorem histL_cnt {l : List Int} (hb : ∀ x ∈ l, 0 ≤ x ∧ x ≤ 255) (hl : l.length ≤ 100000) (c : Nat) : (histL l).getD c 0 = cnt c l := by
  have hz : ∀ i : Nat, (List.replicate 256 (0 : Int)).getD i 0 = 0 := by
    intro i
    simp only [List.getD, List.getElem?_replicate]
    split <;> rfl
  unfold histL
  rw [histF_cnt l _ List.length_replicate hb (fun i => by rw [hz]; omega) c, hz]
  omega
theorem histL_len (l : List Int) : (histL l).length = 256 := by unfold histL; rw [histF_len]; exact List.length_replicate
theorem getD_ext {a b : List Int} (hl : a.length = b.length) (h : ∀ i : Nat, a.getD i 0 = b.getD i 0) : a = b := by
  apply List.ext_getElem hl
  intro i h1 h2
  have := h i
  simpa [List.getD, List.getElem?_eq_getElem h1, List.getElem?_eq_getElem h2] using this
theorem histL_add {l m : List Int} (h1 : ∀ x ∈ l, 0 ≤ x ∧ x ≤ 255) (h2 : ∀ x ∈ m, 0 ≤ x ∧ x ≤ 255) (hl : l.length + m.length ≤ 100000) : addL (histL l) (histL m) = histL (l ++ m) := by
  refine getD_ext (by rw [addL_len, histL_len, histL_len, histL_len]; rfl) fun i => ?_
  rw [addL_getD, histL_cnt h1 (by omega), histL_cnt h2 (by omega), histL_cnt (fun x hx => by rcases List.mem_append.1 hx with h | h; exact h1 x h; exact h2 x h) (by simp; omega), cnt_append]
theorem histL_right {l : List Int} (h : ∀ x ∈ l, 0 ≤ x ∧ x ≤ 255) : rightL (histL l) = true := by
  have hc : Counts (histL l) := Counts.histF h Counts.zero
  exact rightL_iff.2 ⟨by rw [hc.1]; decide, hc.2⟩
theorem histL_ok {l m : List Int} (h1 : ∀ x ∈ l, 0 ≤ x ∧ x ≤ 255) (h2 : ∀ x ∈ m, 0 ≤ x ∧ x ≤ 255) (hl : l.length + m.length ≤ 100000) : addOk (histL l) (histL m) = true := by
  unfold addOk
  rw [histL_add h1 h2 hl, histL_right h1, histL_right h2, histL_right (fun x hx => by rcases List.mem_append.1 hx with h | h; exact h1 x h; exact h2 x h)]
  rfl

/-! ### Even histograms -/
theorem sumL_rep (m : Nat) (x : Int) : sumL (List.replicate m x) = m * x := by
  induction m with
  | zero => simp [sumL]
  | succ m ih => simp only [List.replicate_succ, sumL, ih]; push_cast; rw [Int.add_mul]; omega
theorem costF_rep (t : Int) (m : Nat) (x : Int) (hx : 0 < x) : costF t (List.replicate m x) = m * (x * (logI t - logI x)) := by
  induction m with
  | zero => simp [costF]
  | succ m ih =>
    simp only [List.replicate_succ, costF, ih, if_pos hx]
    push_cast
    rw [Int.add_mul]
    omega
theorem logN_pow (k : Nat) : logN (2 ^ k) = 256 * k := by
  unfold logN
  rw [Nat.log2_two_pow, Nat.sub_self, Nat.zero_mul, Nat.zero_div, Nat.add_zero]
theorem logI_pow (k : Nat) : logI (((2 ^ k : Nat) : Int)) = 256 * k := by
  unfold logI
  rw [Int.toNat_natCast, logN_pow, Int.natCast_mul]
  rfl
theorem even_cost (a b : Nat) : costL (List.replicate (2 ^ a) (((2 ^ b : Nat) : Int))) = ((256 * a * 2 ^ a * 2 ^ b : Nat) : Int) := by
  have hp : (0 : Int) < ((2 ^ b : Nat) : Int) := by have := Nat.two_pow_pos b; omega
  unfold costL
  rw [sumL_rep, costF_rep _ _ _ hp]
  have e : ((2 ^ a : Nat) : Int) * ((2 ^ b : Nat) : Int) = ((2 ^ (a + b) : Nat) : Int) := by rw [Nat.pow_add, Int.natCast_mul]
  rw [e, logI_pow, logI_pow]
  have e2 : (256 * ((a + b : Nat) : Int) - 256 * (b : Int)) = ((256 * a : Nat) : Int) := by omega
  rw [e2, ← Int.natCast_mul, ← Int.natCast_mul]
  congr 1
  rw [Nat.mul_comm (2 ^ b), ← Nat.mul_assoc, Nat.mul_comm (2 ^ a)]
theorem even_right {a b : Nat} (ha : a ≤ 8) (hb : b ≤ 20) : rightL (List.replicate (2 ^ a) (((2 ^ b : Nat) : Int))) = true := by
  rw [rightL_iff]
  have h1 : 2 ^ a ≤ 2 ^ 8 := Nat.pow_le_pow_right (by omega) ha
  have h2 : 2 ^ b ≤ 2 ^ 20 := Nat.pow_le_pow_right (by omega) hb
  refine ⟨by rw [List.length_replicate]; exact h1, fun x hx => ?_⟩
  have := (List.mem_replicate.1 hx).2
  subst this
  have h3 : (2 : Nat) ^ 20 = 1048576 := by decide
  have h4 : 2 ^ b ≤ 2147483648 := by omega
  exact ⟨Int.natCast_nonneg _, Int.ofNat_le.2 h4⟩

/-! ### The order of symbols -/
theorem sumL_perm {l m : List Int} (h : l.Perm m) : sumL l = sumL m := by
  induction h with
  | nil => rfl
  | cons x _ ih => simp only [sumL, ih]
  | swap x y l => simp only [sumL]; omega
  | trans _ _ h1 h2 => exact h1.trans h2
theorem costF_perm (t : Int) {l m : List Int} (h : l.Perm m) : costF t l = costF t m := by
  induction h with
  | nil => rfl
  | cons x _ ih => simp only [costF, ih]
  | swap x y l => simp only [costF]; omega
  | trans _ _ h1 h2 => exact h1.trans h2
theorem costF_append (t : Int) (l m : List Int) : costF t (l ++ m) = costF t l + costF t m := by
  induction l with
  | nil => simp [costF]
  | cons x l ih => simp only [List.cons_append, costF, ih]; omega
/-- The histogram turned: rotated, reversed, three unused symbols behind. -/
def turnL (l : List Int) (k : Nat) : List Int := (l.drop k ++ l.take k).reverse ++ [0, 0, 0]
theorem turn_perm (l : List Int) (k : Nat) : ((l.drop k ++ l.take k).reverse).Perm l :=
  (List.reverse_perm _).trans (List.perm_append_comm.trans (by rw [List.take_append_drop]))
theorem turn_cost (l : List Int) (k : Nat) : costL (turnL l k) = costL l := by
  unfold costL turnL
  rw [sumL_append, costF_append, sumL_perm (turn_perm l k), costF_perm _ (turn_perm l k)]
  simp [sumL, costF]
theorem turn_right {l : List Int} (k : Nat) (h : rightL l = true) (hl : l.length ≤ 200) : rightL (turnL l k) = true := by
  rw [rightL_iff] at h ⊢
  have hp := turn_perm l k
  refine ⟨by unfold turnL; rw [List.length_append, hp.length_eq]; simp; omega, fun x hx => ?_⟩
  unfold turnL at hx
  rcases List.mem_append.1 hx with hx | hx
  · exact h.2 x (hp.mem_iff.1 hx)
  · simp at hx; omega

/-- Behind j exchanges from both ends. -/
def revK (t : List Int) (j : Nat) : List Int := (List.range t.length).map fun p => if p < j ∨ t.length - j ≤ p then t.getD (t.length - 1 - p) 0 else t.getD p 0
theorem revK_len (t : List Int) (j : Nat) : (revK t j).length = t.length := by simp [revK]
theorem revK_get (t : List Int) (j p : Nat) (hp : p < t.length) : (revK t j)[p]? = some (if p < j ∨ t.length - j ≤ p then t.getD (t.length - 1 - p) 0 else t.getD p 0) := by
  simp [revK, List.getElem?_map, List.getElem?_range hp]
theorem revK_zero (t : List Int) : revK t 0 = t := by
  apply List.ext_getElem? 
  intro p
  by_cases hp : p < t.length
  · rw [revK_get t 0 p hp, if_neg (by omega), List.getElem?_eq_getElem hp]
    simp [List.getD, List.getElem?_eq_getElem hp]
  · rw [List.getElem?_eq_none (by rw [revK_len]; omega), List.getElem?_eq_none (by omega)]
theorem revK_step (t : List Int) (j : Nat) (hj : j < t.length / 2) : revK t (j + 1) = ((revK t j).set j (t.getD (t.length - 1 - j) 0)).set (t.length - 1 - j) (t.getD j 0) := by
  apply List.ext_getElem? 
  intro p
  by_cases hp : p < t.length
  · rw [revK_get t (j + 1) p hp]
    by_cases h2 : t.length - 1 - j = p
    · subst h2
      rw [List.getElem?_set_self (by rw [List.length_set, revK_len]; exact hp), if_pos (by omega)]
      congr 2
      omega
    · rw [List.getElem?_set_ne h2]
      by_cases h1 : j = p
      · subst h1
        rw [List.getElem?_set_self (by rw [revK_len]; exact hp), if_pos (by omega)]
      · rw [List.getElem?_set_ne h1, revK_get t j p hp]
        congr 1
        by_cases h3 : p < j ∨ t.length - j ≤ p
        · rw [if_pos h3, if_pos (by omega)]
        · rw [if_neg h3, if_neg (by omega)]
  · rw [List.getElem?_eq_none (by rw [revK_len]; omega), List.getElem?_eq_none (by simp [revK_len]; omega)]
theorem revK_done (t : List Int) : revK t (t.length / 2) = t.reverse := by
  apply List.ext_getElem? 
  intro p
  by_cases hp : p < t.length
  · rw [revK_get t _ p hp, List.getElem?_reverse hp, List.getElem?_eq_getElem (by omega)]
    have e : t.getD (t.length - 1 - p) 0 = t[t.length - 1 - p]'(by omega) := by simp [List.getD, List.getElem?_eq_getElem (show t.length - 1 - p < t.length by omega)]
    split
    · rw [e]
    · rename_i h
      have : t.length - 1 - p = p := by omega
      simp only [this] at e ⊢
      rw [e]
  · rw [List.getElem?_eq_none (by rw [revK_len]; omega), List.getElem?_eq_none (by simp; omega)]

/-! ### One used symbol costs nothing -/
theorem sumF_used (L : List Int) : ∀ (i : Nat) (l : List Int), L.drop i = l → (∀ x ∈ l, 0 ≤ x) → sumL ((usedF i l).map (getI L)) = sumL l
  | i, [], _, _ => by simp [usedF, sumL]
  | i, x :: l, h, h0 => by
    have hx : L[i]? = some x := by
      have := congrArg (fun m => m[0]?) h
      simpa [List.getElem?_drop] using this
    have hd : L.drop (i + 1) = l := by
      have := congrArg List.tail h
      simpa [List.tail_drop] using this
    have ih := sumF_used L (i + 1) l hd (fun y hy => h0 y (by simp [hy]))
    have hg : getI L (i : Int) = x := by simp [getI, List.getD, hx]
    have hx0 := h0 x (by simp)
    simp only [usedF]
    split
    · simp only [List.map_cons, sumL, hg, ih]
    · simp only [sumL, ih]; omega
theorem cost_one {l : List Int} (hr : rightL l = true) (hu : (usedL l).length ≤ 1) : costL l = 0 := by
  have h0 : ∀ x ∈ l, 0 ≤ x := fun x hx => ((rightL_iff.1 hr).2 x hx).1
  unfold costL
  rw [← costF_usedL (sumL l) l]
  have hs : sumL ((usedL l).map (getI l)) = sumL l := sumF_used l 0 l (by simp) h0
  match hm : usedL l, hu with
  | [], _ => simp [costF]
  | [s], _ =>
    rw [hm] at hs
    simp only [List.map_cons, List.map_nil, sumL] at hs
    simp only [List.map_cons, List.map_nil, costF]
    rw [← hs]
    split <;> simp
theorem cost_nonneg {l : List Int} (hr : rightL l = true) : 0 ≤ costL l ∧ costL l ≤ 8725186417262592 := by
  have h := costU_bd hr (usedL l).length
  rw [List.take_length, costF_usedL] at h
  exact h

end Go.Proofs.Ytedojgbjfenmaaa
