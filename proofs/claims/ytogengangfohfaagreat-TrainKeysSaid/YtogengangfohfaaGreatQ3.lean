/-
  Plain laws of training: the keys that are handed out; the pieces of samples. No program is in sight here.
  The plain mathematics of package tally: what its functions compute of a list of numbers. No program is in sight here.
  Histograms: the plain law; lists of byte slices in memory. No program is in sight here.
  Walks over package train: of (whether the samples are valid).
-/
import Derived.Test.YtogengangfohfaaGreatQ2
import Derived.RowKit
import Derived.Test.YtogengangfohfaaGreatQ1
namespace Go.Proofs.YtogengangfohfaaGreat
section
set_option linter.unusedVariables false
set_option linter.unusedSimpArgs false

/-- All keys of all samples, one sample behind another. -/
def allK (l : List (List Int)) : List (List Int) := l.flatMap keysL
theorem allK_snoc (l : List (List Int)) (b : List Int) : allK (l ++ [b]) = allK l ++ keysL b := by simp [allK]
theorem allK_len {l : List (List Int)} {m : Nat} (h : ∀ b ∈ l, b.length ≤ m) : (allK l).length ≤ l.length * m := by
  induction l with
  | nil => simp [allK]
  | cons b l ih =>
    have h1 := keys_len b
    have h2 := h b (by simp)
    have h3 := ih (fun x hx => h x (by simp [hx]))
    simp only [allK, List.flatMap_cons, List.length_append, List.length_cons, Nat.add_mul] at *
    omega
/-- What is handed out of a list of keys. -/
def outK (c : List Int → Nat) (L : List (List Int)) : List (List Int) := dedL (L.filter fun k => decide (1 < c k))
theorem outK_nil (c : List Int → Nat) : outK c [] = [] := rfl
theorem outK_yes {c : List Int → Nat} {L : List (List Int)} {k : List Int} (h : 1 < c k) (hk : k ∉ L) : outK c (L ++ [k]) = outK c L ++ [k] := by
  simp only [outK, List.filter_append, List.filter_cons, h, decide_true, if_true, List.filter_nil]
  rw [ded_snoc, if_neg (fun hm => hk (List.mem_filter.1 hm).1)]
theorem outK_old {c : List Int → Nat} {L : List (List Int)} {k : List Int} (hk : k ∈ L) : outK c (L ++ [k]) = outK c L := by
  simp only [outK, List.filter_append, List.filter_cons, List.filter_nil]
  by_cases h : 1 < c k
  · simp only [h, decide_true, if_true]
    rw [ded_snoc, if_pos (List.mem_filter.2 ⟨hk, by simpa using h⟩)]
  · simp [h]
theorem outK_no {c : List Int → Nat} {L : List (List Int)} {k : List Int} (h : ¬ 1 < c k) : outK c (L ++ [k]) = outK c L := by
  simp [outK, List.filter_append, h]
theorem outK_mem {c : List Int → Nat} {L : List (List Int)} {k : List Int} (h : 1 < c k) : k ∈ outK c L ↔ k ∈ L := by
  simp [outK, mem_ded, h]
theorem outK_pre (c : List Int → Nat) (L M : List (List Int)) : outK c L <+: outK c (L ++ M) := by
  induction M generalizing L with
  | nil => simp
  | cons k M ih =>
    have h1 : L ++ k :: M = (L ++ [k]) ++ M := by simp
    rw [h1]
    refine List.IsPrefix.trans ?_ (ih (L ++ [k]))
    by_cases h : 1 < c k
    · by_cases hk : k ∈ L
      · rw [outK_old hk]; exact List.prefix_refl _
      · rw [outK_yes h hk]; exact List.prefix_append _ _
    · rw [outK_no h]; exact List.prefix_refl _

/-- The pieces of one sample. -/
def chunkL (b : List Int) : List (List Int) := (List.range ((b.length + 31) / 32)).map fun i => (b.drop (32 * i)).take 32
theorem chunk_len (b : List Int) : (chunkL b).length = (b.length + 31) / 32 := by simp [chunkL]
theorem chunk_at {b : List Int} {i : Nat} (h : 32 * i < b.length) : (chunkL b)[i]? = some ((b.drop (32 * i)).take 32) := by
  simp only [chunkL, List.getElem?_map]
  rw [List.getElem?_range (by omega)]; rfl
theorem chunk_take {b : List Int} {i : Nat} (h : 32 * i < b.length) : (chunkL b).take (i + 1) = (chunkL b).take i ++ [(b.drop (32 * i)).take 32] := by
  rw [List.take_add_one, chunk_at h]; rfl
theorem chunk_all {b : List Int} {i : Nat} (h : b.length ≤ 32 * i) : (chunkL b).take i = chunkL b := List.take_of_length_le (by rw [chunk_len]; omega)
theorem chunk_byte {b p : List Int} (hb : ∀ x ∈ b, 0 ≤ x ∧ x ≤ 255) (h : p ∈ chunkL b) : ∀ x ∈ p, 0 ≤ x ∧ x ≤ 255 := by
  simp only [chunkL, List.mem_map, List.mem_range] at h
  obtain ⟨i, _, rfl⟩ := h
  exact fun x hx => hb x (List.mem_of_mem_drop (List.mem_of_mem_take hx))
theorem chunk_short {b p : List Int} (h : p ∈ chunkL b) : p.length ≤ 32 := by
  simp only [chunkL, List.mem_map, List.mem_range] at h
  obtain ⟨i, _, rfl⟩ := h
  simp; omega
def allP (l : List (List Int)) : List (List Int) := l.flatMap chunkL
theorem allP_snoc (l : List (List Int)) (b : List Int) : allP (l ++ [b]) = allP l ++ chunkL b := by simp [allP]
theorem allP_len {l : List (List Int)} {m : Nat} (h : ∀ b ∈ l, b.length ≤ m) : (allP l).length ≤ l.length * (m + 1) := by
  induction l with
  | nil => simp [allP]
  | cons b l ih =>
    have h1 := chunk_len b
    have h2 := h b (by simp)
    have h3 := ih (fun x hx => h x (by simp [hx]))
    simp only [allP, List.flatMap_cons, List.length_append, List.length_cons, Nat.add_mul] at *
    omega
def longP (L : List (List Int)) : List (List Int) := L.filter fun p => decide (6 ≤ p.length)
theorem longP_yes {L : List (List Int)} {p : List Int} (h : 6 ≤ p.length) : longP (L ++ [p]) = longP L ++ [p] := by simp [longP, List.filter_append, h]
theorem longP_no {L : List (List Int)} {p : List Int} (h : ¬ 6 ≤ p.length) : longP (L ++ [p]) = longP L := by simp [longP, List.filter_append, h]
theorem longP_len (L : List (List Int)) : (longP L).length ≤ L.length := List.length_filter_le _ _
/-- The pieces of samples. -/
def piecesL (l : List (List Int)) : List (List Int) := longP (allP l)
theorem mem_pieces {l : List (List Int)} {p : List Int} (h : p ∈ piecesL l) : 6 ≤ p.length ∧ p.length ≤ 32 ∧ ∃ b ∈ l, p ∈ chunkL b := by
  simp only [piecesL, longP, List.mem_filter, allP, List.mem_flatMap, decide_eq_true_eq] at h
  obtain ⟨⟨b, h1, h2⟩, h3⟩ := h
  exact ⟨h3, chunk_short h2, b, h1, h2⟩

/-- The samples are valid. -/
def mayL (l : List (List Int)) : Prop := l.length ≤ 1024 ∧ ∀ b ∈ l, b.length ≤ 131072
instance (l : List (List Int)) : Decidable (mayL l) := by unfold mayL; exact inferInstance

/-- What the queue still costs. -/
def costQ (q : List It) : Nat := (q.map fun x => x.worth.toNat + 1).sum
theorem costQ_perm {q q' : List It} (h : q.Perm q') : costQ q = costQ q' := (h.map _).sum_nat
theorem costQ_cons (x : It) (q : List It) : costQ (x :: q) = x.worth.toNat + 1 + costQ q := by simp [costQ]
theorem costQ_snoc (x : It) (q : List It) : costQ (q ++ [x]) = costQ q + (x.worth.toNat + 1) := by simp [costQ]

/-- The queue at the start. -/
theorem QOk.start {c : List Int → Nat} {P : List (List Int)} {size : Nat} {q : List It} (h : q.Perm ((List.range P.length).map fun i : Nat => (⟨(i : Int), (wkL c [] (P.getD i []) : Nat), P.getD i []⟩ : It))) : QOk c P size [] [] q := by
  refine QOk.perm ⟨fun x hx => ?_, ?_, fun i p h1 h2 h3 => ?_⟩ h
  · simp only [List.mem_map, List.mem_range] at hx
    obtain ⟨i, hi, rfl⟩ := hx
    exact ⟨i, rfl, by simp [List.getD_eq_getElem?_getD, hi], Int.le_refl _⟩
  · rw [List.map_map, List.Nodup, List.pairwise_map]
    exact (List.nodup_range (n := P.length)).imp (fun h e => h (by simp at e; omega))
  · have hi := (List.getElem?_eq_some_iff.1 h1).1
    exact ⟨_, List.mem_map.2 ⟨i, List.mem_range.2 hi, rfl⟩, rfl⟩
theorem costQ_start (c : List Int → Nat) (P : List (List Int)) : True := trivial

/-- The reference's step. -/
theorem wk_of_cnt {l : List (List Int)} {k : List Int} {but : List (List Int)} : oneW (cntL l) but k = if 1 < cntL l k ∧ k ∉ but then cntL l k - 1 else 0 := by
  unfold oneW
  by_cases h : k ∈ but
  · simp [h]
  · by_cases h1 : 1 < cntL l k
    · simp [h, h1]
    · simp [h, h1]; omega
theorem wk_of_nil {l : List (List Int)} {k : List Int} : oneW (cntL l) [] k = if 1 < cntL l k then cntL l k - 1 else 0 := by
  rw [wk_of_cnt]; simp
end

section
set_option linter.unusedVariables false
set_option linter.unusedSimpArgs false

/-! ### Validity, sums, used symbols -/
def fineC (n : Int) : Bool := decide (0 ≤ n) && decide (n ≤ 2147483648)
def rightL (l : List Int) : Bool := decide (l.length ≤ 256) && l.all fineC
def sumL : List Int → Int
  | [] => 0
  | x :: l => x + sumL l
def usedF : Nat → List Int → List Int
  | _, [] => []
  | i, x :: l => if 0 < x then (i : Int) :: usedF (i + 1) l else usedF (i + 1) l
def usedL (l : List Int) : List Int := usedF 0 l

theorem take_next {l : List Int} {k : Nat} {x : Int} (h : l[k]? = some x) : l.take (k + 1) = l.take k ++ [x] := by
  rw [List.take_add_one, h]; rfl
theorem sumL_snoc (l : List Int) (x : Int) : sumL (l ++ [x]) = sumL l + x := by
  induction l with
  | nil => simp [sumL]
  | cons y l ih => simp [sumL, ih]; omega
theorem sumL_append (l m : List Int) : sumL (l ++ m) = sumL l + sumL m := by
  induction l with
  | nil => simp [sumL]
  | cons y l ih => simp [sumL, ih]; omega
theorem usedF_snoc (i : Nat) (l : List Int) (x : Int) : usedF i (l ++ [x]) = usedF i l ++ (if 0 < x then [((i + l.length : Nat) : Int)] else []) := by
  induction l generalizing i with
  | nil => simp only [List.nil_append, usedF]; split <;> simp
  | cons y l ih =>
    simp only [List.cons_append, usedF, ih, List.length_cons]
    rw [show i + 1 + l.length = i + (l.length + 1) by omega]
    split <;> simp
theorem usedL_snoc (l : List Int) (x : Int) : usedL (l ++ [x]) = usedL l ++ (if 0 < x then [(l.length : Int)] else []) := by
  unfold usedL; rw [usedF_snoc]; simp
theorem usedF_len (i : Nat) (l : List Int) : (usedF i l).length ≤ l.length := by
  induction l generalizing i with
  | nil => simp [usedF]
  | cons y l ih =>
    simp only [usedF]
    have := ih (i + 1)
    split <;> simp <;> omega
theorem usedL_len (l : List Int) : (usedL l).length ≤ l.length := usedF_len 0 l
theorem usedF_mem {i : Nat} {l : List Int} {s : Int} (h : s ∈ usedF i l) : ∃ j : Nat, s = ((i + j : Nat) : Int) ∧ ∃ x, l[j]? = some x ∧ 0 < x := by
  induction l generalizing i with
  | nil => simp [usedF] at h
  | cons y l ih =>
    simp only [usedF] at h
    split at h
    · rcases List.mem_cons.1 h with rfl | h
      · exact ⟨0, by simp, y, by simp, by assumption⟩
      · obtain ⟨j, rfl, x, hx, h0⟩ := ih h
        exact ⟨j + 1, by congr 1; omega, x, by simpa using hx, h0⟩
    · obtain ⟨j, rfl, x, hx, h0⟩ := ih h
      exact ⟨j + 1, by congr 1; omega, x, by simpa using hx, h0⟩
theorem usedL_mem {l : List Int} {s : Int} (h : s ∈ usedL l) : ∃ j : Nat, s = (j : Int) ∧ ∃ x, l[j]? = some x ∧ 0 < x := by
  obtain ⟨j, rfl, x, hx, h0⟩ := usedF_mem h
  exact ⟨j, by simp, x, hx, h0⟩

theorem fineC_iff {n : Int} : fineC n = true ↔ 0 ≤ n ∧ n ≤ 2147483648 := by simp [fineC]
theorem rightL_iff {l : List Int} : rightL l = true ↔ l.length ≤ 256 ∧ ∀ x ∈ l, 0 ≤ x ∧ x ≤ 2147483648 := by
  simp [rightL, fineC]
theorem sumL_bd {l : List Int} (h : ∀ x ∈ l, 0 ≤ x ∧ x ≤ 2147483648) : 0 ≤ sumL l ∧ sumL l ≤ l.length * 2147483648 := by
  induction l with
  | nil => simp [sumL]
  | cons y l ih =>
    have h1 := h y (by simp)
    have h2 := ih (fun x hx => h x (by simp [hx]))
    simp only [sumL, List.length_cons]
    push_cast
    omega
theorem sumL_take_bd {l : List Int} (h : rightL l = true) (k : Nat) : 0 ≤ sumL (l.take k) ∧ sumL (l.take k) ≤ 549755813888 := by
  obtain ⟨h1, h2⟩ := rightL_iff.1 h
  have h3 := sumL_bd (l := l.take k) (fun x hx => h2 x (List.mem_of_mem_take hx))
  have h4 : (l.take k).length ≤ 256 := by simp; omega
  omega
theorem right_get {l : List Int} (h : rightL l = true) {k : Nat} {x : Int} (hx : l[k]? = some x) : 0 ≤ x ∧ x ≤ 2147483648 := (rightL_iff.1 h).2 x (List.mem_of_getElem? hx)

/-! ### The logarithm -/
/-- 256 times the logarithm, linear between powers of two, rounded down. -/
def logN (n : Nat) : Nat := 256 * n.log2 + (n - 2 ^ n.log2) * 256 / 2 ^ n.log2
def logI (n : Int) : Int := (logN n.toNat : Int)

theorem log_hi {n k : Nat} (hk : n.log2 = k) (h8 : 8 ≤ k) : logN n = 256 * k + (n - 2 ^ k) / 2 ^ (k - 8) := by
  unfold logN
  rw [hk]
  have e : 2 ^ k = 2 ^ (k - 8) * 256 := by
    rw [show (256 : Nat) = 2 ^ 8 from rfl, ← Nat.pow_add]; congr 1; omega
  generalize n - 2 ^ k = p
  rw [e, Nat.mul_div_mul_right _ _ (by omega)]
theorem log_lo {n k : Nat} (hk : n.log2 = k) (h8 : k ≤ 8) : logN n = 256 * k + (n - 2 ^ k) * 2 ^ (8 - k) := by
  unfold logN
  rw [hk]
  have e : (256 : Nat) = 2 ^ (8 - k) * 2 ^ k := by
    rw [← Nat.pow_add, show 8 - k + k = 8 by omega]
  generalize n - 2 ^ k = p
  congr 1
  conv => lhs; rw [e]
  rw [← Nat.mul_assoc, Nat.mul_div_cancel _ (Nat.two_pow_pos k)]

theorem log_le {m n : Nat} (h0 : 1 ≤ m) (h : m ≤ n) : logN m ≤ logN n := by
  have hm := Nat.log2_self_le (n := m) (by omega)
  have hn := Nat.log2_self_le (n := n) (by omega)
  have hm2 := Nat.lt_log2_self (n := m)
  have hn2 := Nat.lt_log2_self (n := n)
  unfold logN
  generalize m.log2 = a at *
  generalize n.log2 = b at *
  rcases Nat.lt_trichotomy a b with hab | rfl | hab
  · have h1 : (m - 2 ^ a) * 256 / 2 ^ a < 256 := by
      rw [Nat.div_lt_iff_lt_mul (Nat.two_pow_pos a)]
      rw [Nat.pow_succ] at hm2
      omega
    have : 256 * (a + 1) ≤ 256 * b := Nat.mul_le_mul_left _ hab
    exact Nat.le_trans (Nat.add_le_add_left (Nat.le_of_lt h1) (256 * a)) (Nat.le_trans (by omega) (Nat.le_add_right (256 * b) _))
  · have : (m - 2 ^ a) * 256 / 2 ^ a ≤ (n - 2 ^ a) * 256 / 2 ^ a := Nat.div_le_div_right (by omega)
    omega
  · exfalso
    have : 2 ^ (b + 1) ≤ 2 ^ a := Nat.pow_le_pow_right (by omega) hab
    omega
theorem log2_lt {n : Nat} (h : n ≤ 4611686018427387903) : n.log2 ≤ 61 := by
  by_cases h0 : n = 0
  · subst h0; simp
  · have := (Nat.log2_lt h0 (k := 62)).2 (by omega)
    omega
theorem logN_bd {n : Nat} (h : n ≤ 4611686018427387903) : logN n ≤ 15871 := by
  have h1 := log2_lt h
  have h2 := Nat.lt_log2_self (n := n)
  unfold logN
  generalize n.log2 = a at *
  have h3 : (n - 2 ^ a) * 256 / 2 ^ a < 256 := by
    rw [Nat.div_lt_iff_lt_mul (Nat.two_pow_pos a)]
    rw [Nat.pow_succ] at h2
    have := Nat.two_pow_pos a
    omega
  omega

/-! ### The cost -/
def costF (t : Int) : List Int → Int
  | [] => 0
  | x :: l => (if 0 < x then x * (logI t - logI x) else 0) + costF t l
def costL (l : List Int) : Int := costF (sumL l) l
theorem costF_snoc (t : Int) (l : List Int) (x : Int) : costF t (l ++ [x]) = costF t l + (if 0 < x then x * (logI t - logI x) else 0) := by
  induction l with
  | nil => simp [costF]
  | cons y l ih => simp only [List.cons_append, costF, ih]; omega
end

section
set_option linter.unusedVariables false
set_option linter.unusedSimpArgs false
open Go.RowKit

/-- One byte more. -/
def bump (h : List Int) (c : Int) : List Int := h.set c.toNat (if h.getD c.toNat 0 + 1 < 2147483648 then h.getD c.toNat 0 + 1 else 2147483648)
def histF (h : List Int) (l : List Int) : List Int := l.foldl bump h
def histL (l : List Int) : List Int := histF (List.replicate 256 0) l
def ints (h : List Int) : Array Value := (h.map (Value.int .i64)).toArray

theorem bump_len (h : List Int) (c : Int) : (bump h c).length = h.length := by simp [bump]
theorem histF_len (l : List Int) : ∀ h : List Int, (histF h l).length = h.length := by
  induction l with
  | nil => intro h; rfl
  | cons c l ih => intro h; exact (ih _).trans (bump_len h c)
theorem histF_snoc (h l : List Int) (c : Int) : histF h (l ++ [c]) = bump (histF h l) c := by simp [histF]
theorem histF_append (h l m : List Int) : histF h (l ++ m) = histF (histF h l) m := by simp [histF]
/-- All entries are counts. -/
def Counts (h : List Int) : Prop := h.length = 256 ∧ ∀ x ∈ h, 0 ≤ x ∧ x ≤ 2147483648
theorem Counts.zero : Counts (List.replicate 256 0) := ⟨List.length_replicate, fun x hx => by have := (List.mem_replicate.1 hx).2; omega⟩
theorem Counts.get {h : List Int} (hc : Counts h) {i : Nat} (hi : i < 256) : ∃ x, h[i]? = some x ∧ 0 ≤ x ∧ x ≤ 2147483648 := by
  have hlt : i < h.length := by rw [hc.1]; exact hi
  exact ⟨_, List.getElem?_eq_getElem hlt, hc.2 _ (List.getElem_mem hlt)⟩
theorem Counts.bump {h : List Int} (hc : Counts h) {c : Int} (h0 : 0 ≤ c) (h1 : c ≤ 255) : Counts (bump h c) := by
  refine ⟨by rw [bump_len]; exact hc.1, fun x hx => ?_⟩
  obtain ⟨y, hy, hy0, hy1⟩ := hc.get (i := c.toNat) (by omega)
  have hg : h.getD c.toNat 0 = y := by simp [List.getD, hy]
  unfold Go.Proofs.YtogengangfohfaaGreat.bump at hx
  rw [hg] at hx
  rcases List.mem_or_eq_of_mem_set hx with hx | rfl
  · exact hc.2 x hx
  · split <;> omega
theorem Counts.histF {l : List Int} (hl : ∀ x ∈ l, 0 ≤ x ∧ x ≤ 255) : ∀ {h : List Int}, Counts h → Counts (histF h l) := by
  induction l with
  | nil => intro h hc; exact hc
  | cons c l ih => intro h hc; exact ih (fun x hx => hl x (by simp [hx])) (hc.bump (hl c (by simp)).1 (hl c (by simp)).2)

theorem ints_get {h : List Int} {i : Nat} {x : Int} (hx : h[i]? = some x) : (ints h)[i]? = some (.int .i64 x) := by simp [ints, hx]
theorem ints_set (h : List Int) (i : Nat) (x : Int) : (ints h).setIfInBounds i (.int .i64 x) = ints (h.set i x) := by simp [ints, List.map_set]
theorem ints_size (h : List Int) : (ints h).size = h.length := by simp [ints]

/-- A slice of slices of numbers reads as a list of lists. -/
structure RdL (k : IntKind) (w : World) (v : Value) (ls : List (List Int)) : Prop where
  form : ∃ a n cp, v = .slice a n cp ∧ n = ls.length ∧ (0 < n → n ≤ cp ∧ ∃ b o, a = some ⟨b, o, none⟩ ∧ b < w.heap.size ∧ ∀ i l, ls[i]? = some l → ∃ vi, w.cell? ⟨b, o + i, none⟩ = some vi ∧ RdI k w vi l)

section
variable {k : IntKind} {w w' : World} {v : Value} {ls : List (List Int)} {a : Option Addr} {n cp : Nat}
theorem RdL.keeps (h : RdL k w v ls) (kk : Keeps w w' []) : RdL k w' v ls := by
  obtain ⟨a, n, cp, rfl, hn, hc⟩ := h.form
  refine ⟨a, n, cp, rfl, hn, fun hp => ?_⟩
  obtain ⟨h1, b, o, h2, h3, h4⟩ := hc hp
  refine ⟨h1, b, o, h2, Nat.lt_of_lt_of_le h3 kk.size, fun i l hl => ?_⟩
  obtain ⟨vi, h5, h6⟩ := h4 i l hl
  exact ⟨vi, (kk.cell (p := ⟨b, o + i, none⟩) h3 (by simp)).trans h5, h6.keeps kk⟩
theorem RdL.at (h : RdL k w (.slice a n cp) ls) {i : Nat} {l : List Int} (hx : ls[i]? = some l) : ∃ b o vi, a = some ⟨b, o, none⟩ ∧ b < w.heap.size ∧ w.cell? ⟨b, o + i, none⟩ = some vi ∧ RdI k w vi l ∧ n ≤ cp := by
  obtain ⟨a', n', cp', he, hl, hc⟩ := h.form
  obtain ⟨h1, h2, h3⟩ := Value.slice.inj he
  subst h1 h2 h3
  have hlt := (List.getElem?_eq_some_iff.1 hx).1
  obtain ⟨h0, b, o, h2, h3, h4⟩ := hc (by omega)
  obtain ⟨vi, h5, h6⟩ := h4 i l hx
  exact ⟨b, o, vi, h2, h3, h5, h6, h0⟩
theorem RdL.len (h : RdL k w (.slice a n cp) ls) : n = ls.length := by
  obtain ⟨a', n', cp', he, hl, -⟩ := h.form
  obtain ⟨h1, h2, h3⟩ := Value.slice.inj he
  rw [h2, hl]
end
end

section
set_option linter.unusedVariables false
set_option linter.unusedSimpArgs false
set_option linter.unusedSectionVars false
open Go.RowKit

theorem of1_any {b : Bool} (a : Option Addr) (n c : Nat) (w : World) (h : decide (131072 < n) = b) :
    Calls Tryz.prog 100 #[.slice a n c] w fun e w' => e = .returned (.bool b) ∧ w = w' := by
  subst h
  by_cases h : 131072 < n
  · have h1 : (131072 : Int) < (n : Int) := by omega
    simp only [h, decide_true]
    go_enter Tryz.func100, Tryz.ntmps100
    go_wp2
    go_ret
    exact ⟨rfl, rfl⟩
  · have h1 : decide ((131072 : Int) < (n : Int)) = false := decide_eq_false (by omega)
    simp only [h, decide_false]
    go_enter Tryz.func100, Tryz.ntmps100
    go_wp2
    go_ret
    exact ⟨rfl, rfl⟩

/-- Where IndexFunc ends. -/
def IdxEnd (bad : Prop) (w : World) (e : Ending) (w' : World) : Prop := w = w' ∧ ((bad ∧ ∃ i : Nat, e = .returned (.int .i64 i)) ∨ (¬ bad ∧ e = .returned (.int .i64 (-1))))

set_option maxRecDepth 100000 in
set_option maxHeartbeats 1000000 in
theorem idx_any (v : Value) (l : List (List Int)) (w : World) (hv : RdL .u8 w v l) (hl : l.length ≤ 1000000000) :
    Calls Tryz.prog 172 #[v, .func (.func 100) #[] #[]] w (IdxEnd (∃ b ∈ l, 131072 < b.length) w) := by
  obtain ⟨A0, n0, cp0, rfl, hn0, -⟩ := hv.form
  have HV := Lib.hid hv
  have HN := Lib.hid hn0
  have hn1 : n0 ≤ 1000000000 := by omega
  clear hv hn0 hl
  go_enter Tryz.func172, Tryz.ntmps172
  go_wp2_with fail
  go_loop [8] (fun s8 => ∃ i : Nat, i ≤ n0 ∧ s8 = .int .i64 i ∧ Hid (∀ b ∈ l.take i, b.length ≤ 131072)) (fun s8 => n0 - (intOf s8).toNat)
  case atStart => exact ⟨0, Nat.zero_le _, rfl, fun b hb => by simp at hb⟩
  case round =>
    obtain ⟨i, hi, rfl, HA⟩ := hrel
    by_cases hlt : i < n0
    · obtain ⟨b, hb⟩ : ∃ b, l[i]? = some b := ⟨_, List.getElem?_eq_getElem (by have := HN.out; omega)⟩
      obtain ⟨bb, oo, vi, rfl, hbb, hcc, hri, hcap⟩ := HV.out.at hb
      have hii : (i : Int) < (n0 : Int) := by omega
      obtain ⟨a2, n2, c2, rfl, hn2, -⟩ := hri.form
      have hbm := List.mem_of_getElem? hb
      by_cases hbig : 131072 < n2
      · have hbad : Hid (∃ b ∈ l, 131072 < b.length) := ⟨b, hbm, by omega⟩
        have hd : decide (131072 < n2) = true := by simpa using hbig
        have HD := Lib.hid hd
        clear hb hbm hri hn2 hd
        go_wp2_with (go_at_call 100; refine (of1_any _ _ _ _ HD.out).mono ?_; rintro e w' ⟨rfl, rfl⟩)
        go_ret
        exact ⟨rfl, .inl ⟨hbad.out, i, rfl⟩⟩
      · have hd : decide (131072 < n2) = false := by simpa using hbig
        have HD := Lib.hid hd
        have HA2 : Hid (∀ b ∈ l.take (i + 1), b.length ≤ 131072) := fun x hx => by
          rw [List.take_add_one, hb] at hx
          rcases List.mem_append.1 hx with hx | hx
          · exact HA.out x hx
          · simp at hx; subst hx; omega
        clear hb hbm hri hn2 hd
        go_wp2_with (go_at_call 100; refine (of1_any _ _ _ _ HD.out).mono ?_; rintro e w' ⟨rfl, rfl⟩)
        go_round
        case rel => exact ⟨i + 1, by omega, by go_num, HA2⟩
        case measure => simp [intOf]; omega
    · have hii : decide ((i : Int) < (n0 : Int)) = false := decide_eq_false (by omega)
      have hno : Hid (¬ ∃ b ∈ l, 131072 < b.length) := by
        rintro ⟨b, hb, h⟩
        have := HA.out b (by rw [List.take_of_length_le (by have := HN.out; omega)]; exact hb)
        omega
      go_wp2_with fail
      go_ret
      exact ⟨rfl, .inr ⟨hno.out, rfl⟩⟩

set_option maxRecDepth 100000 in
theorem cont_any {q : Bool} (v : Value) (l : List (List Int)) (w : World) (hv : RdL .u8 w v l) (hl : l.length ≤ 1000000000) (hq : (∃ b ∈ l, 131072 < b.length) ↔ q = true) :
    Calls Tryz.prog 99 #[v, .func (.func 100) #[] #[]] w fun e w' => e = .returned (.bool q) ∧ w = w' := by
  have HI := Lib.hid (idx_any v l w hv hl)
  obtain ⟨A0, n0, cp0, rfl, hn0, -⟩ := hv.form
  have HQ := Lib.hid hq
  clear hv hn0 hq
  go_enter Tryz.func99, Tryz.ntmps99
  go_wp2_with fail
  refine HI.out.mono ?_
  rintro e w' ⟨rfl, h⟩
  rcases h with ⟨h1, i, rfl⟩ | ⟨h1, rfl⟩
  · obtain rfl : q = true := HQ.out.1 h1
    have h0 : (0 : Int) ≤ (i : Int) := Int.natCast_nonneg _
    clear h1 HI HQ
    go_wp2_with fail
    go_ret
    exact ⟨rfl, rfl⟩
  · obtain rfl : q = false := by cases q; rfl; exact absurd (HQ.out.2 rfl) h1
    clear h1 HI HQ
    go_wp2_with fail
    go_ret
    exact ⟨rfl, rfl⟩

/-- Where of ends. -/
def OfEnd (w : World) (v : Value) (l : List (List Int)) (e : Ending) (w' : World) : Prop :=
  Keeps w w' [] ∧ ((mayL l ∧ e = .returned (.agg #[v])) ∨ (¬ mayL l ∧ e = .panicked [raisedBy 2 false]))

set_option maxRecDepth 100000 in
set_option maxHeartbeats 1000000 in
theorem of_any (v : Value) (l : List (List Int)) (w : World) (hv : RdL .u8 w v l) (hl : l.length ≤ 1000000000) :
    Calls Tryz.prog 45 #[v] w (OfEnd w v l) := by
  have hq : ∃ q : Bool, ((∃ b ∈ l, 131072 < b.length) ↔ q = true) := ⟨decide (∃ b ∈ l, 131072 < b.length), by simp⟩
  obtain ⟨q, hq⟩ := hq
  have k0 := (Keeps.refl w []).alloc (.cells #[.slice none 0 0] 83)
  have HI := Lib.hid (cont_any v l _ (hv.keeps k0) hl hq)
  obtain ⟨A0, n0, cp0, rfl, hn0, -⟩ := hv.form
  have HQ := Lib.hid hq
  have HN := Lib.hid hn0
  clear hv hn0 hq hl
  by_cases h1 : n0 ≤ 1024
  · have h1' : (n0 : Int) ≤ 1024 := by omega
    cases q
    · have hm : Hid (mayL l) := ⟨by have := HN.out; omega, fun b hb => by
        by_cases h : 131072 < b.length
        · exact absurd (HQ.out.1 ⟨b, hb, h⟩) (by simp)
        · omega⟩
      go_enter Tryz.func45, Tryz.ntmps45
      go_wp2_with fail
      refine HI.out.mono ?_
      rintro e w1 ⟨rfl, rfl⟩
      clear HI HQ
      go_wp2_with (refine (tis_yes rfl _ _).mono ?_; rintro e w1 ⟨rfl, rfl⟩)
      refine bodyPost_ret (v := .agg #[.slice A0 n0 cp0]) (by simp only [results, Tryz.results45]; go_simp) rfl ⟨?_, .inl ⟨hm.out, rfl⟩⟩
      exact (Keeps.refl w []).alloc _
    · have hm : Hid (¬ mayL l) := fun h => by
        obtain ⟨b, hb, h2⟩ := HQ.out.2 rfl
        have := h.2 b hb; omega
      go_enter Tryz.func45, Tryz.ntmps45
      go_wp2_with fail
      refine HI.out.mono ?_
      rintro e w1 ⟨rfl, rfl⟩
      clear HI HQ
      go_wp2_with (refine (tis_no rfl _ _).mono ?_; rintro e w1 ⟨rfl, rfl⟩)
      exact ⟨rfl, k0, .inr ⟨hm.out, rfl⟩⟩
  · have h1' : decide ((n0 : Int) ≤ 1024) = false := decide_eq_false (by omega)
    have hm : Hid (¬ mayL l) := fun h => by have := h.1; have := HN.out; omega
    go_enter Tryz.func45, Tryz.ntmps45
    go_wp2_with fail
    refine HI.out.mono ?_
    rintro e w1 ⟨rfl, rfl⟩
    clear HI HQ
    go_wp2_with (refine (tis_no rfl _ _).mono ?_; rintro e w1 ⟨rfl, rfl⟩)
    exact ⟨rfl, k0, .inr ⟨hm.out, rfl⟩⟩
end

end Go.Proofs.YtogengangfohfaaGreat
