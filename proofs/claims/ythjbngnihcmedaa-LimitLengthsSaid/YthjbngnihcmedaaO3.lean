/-
  Code lengths in plain words: costs, Kraft's sum, optimal assignments; sums of prefixes of sorted rows. No program is in sight here.
  Package-merge in plain words: what the chosen packages count; the lengths that come of it are optimal. No program is in sight here.
  Lengths for a histogram in plain words; what Lengths returns is optimal. No program is in sight here.
-/
import Derived.Test.YthjbngnihcmedaaJQ
import Derived.Test.YthjbngnihcmedaaKH
namespace Go.Proofs.Ythjbngnihcmedaa
section
set_option linter.unusedVariables false
set_option linter.unusedSimpArgs false

/-- Weights with code lengths. -/
abbrev PairL := List (Int × Nat)
def costX : PairL → Int
  | [] => 0
  | p :: r => p.1 * (p.2 : Int) + costX r
def kraftX (M : Nat) : PairL → Nat
  | [] => 0
  | p :: r => 2 ^ (M - p.2) + kraftX M r
theorem costX_perm {X Y : PairL} (h : X.Perm Y) : costX X = costX Y := by
  induction h with
  | nil => rfl
  | cons x _ ih => simp only [costX, ih]
  | swap x y l => simp only [costX]; omega
  | trans _ _ h1 h2 => rw [h1, h2]
theorem kraftX_perm {M : Nat} {X Y : PairL} (h : X.Perm Y) : kraftX M X = kraftX M Y := by
  induction h with
  | nil => rfl
  | cons x _ ih => simp only [kraftX, ih]
  | swap x y l => simp only [kraftX]; omega
  | trans _ _ h1 h2 => rw [h1, h2]
theorem kraftX_append (M : Nat) (X Y : PairL) : kraftX M (X ++ Y) = kraftX M X + kraftX M Y := by
  induction X with
  | nil => simp [kraftX]
  | cons p X ih => simp only [List.cons_append, kraftX, ih]; omega
theorem costX_append (X Y : PairL) : costX (X ++ Y) = costX X + costX Y := by
  induction X with
  | nil => simp [costX]
  | cons p X ih => simp only [List.cons_append, costX, ih]; omega
theorem kraftX_scale {M M' : Nat} (hM : M ≤ M') {X : PairL} (h : ∀ p ∈ X, p.2 ≤ M) : kraftX M' X = 2 ^ (M' - M) * kraftX M X := by
  induction X with
  | nil => simp [kraftX]
  | cons p X ih =>
    have hp := h p (by simp)
    simp only [kraftX, ih (fun q hq => h q (by simp [hq])), Nat.mul_add, ← Nat.pow_add]
    congr 2; omega
/-- May these lengths be used with limit L? -/
def Feas (L : Nat) (X : PairL) : Prop := (∀ p ∈ X, 1 ≤ p.2 ∧ p.2 ≤ L) ∧ kraftX L X ≤ 2 ^ L
/-- c is the least cost of lengths for the weights W with limit L. -/
def OptL (L : Nat) (W : List Int) (c : Int) : Prop := (∃ X : PairL, (X.map Prod.fst).Perm W ∧ Feas L X ∧ costX X = c) ∧ ∀ X : PairL, (X.map Prod.fst).Perm W → Feas L X → c ≤ costX X
theorem OptL.uniq {L : Nat} {W : List Int} {c d : Int} (h1 : OptL L W c) (h2 : OptL L W d) : c = d := by
  obtain ⟨⟨X, x1, x2, x3⟩, a⟩ := h1
  obtain ⟨⟨Y, y1, y2, y3⟩, b⟩ := h2
  have := a Y y1 y2
  have := b X x1 x2
  omega
theorem OptL.perm {L : Nat} {W V : List Int} {c : Int} (h : OptL L W c) (hp : W.Perm V) : OptL L V c := by
  obtain ⟨⟨X, x1, x2, x3⟩, a⟩ := h
  exact ⟨⟨X, x1.trans hp, x2, x3⟩, fun Y y1 y2 => a Y (y1.trans hp.symm) y2⟩
theorem Feas.mono {L L' : Nat} {X : PairL} (h : Feas L X) (hL : L ≤ L') : Feas L' X := by
  refine ⟨fun p hp => ⟨(h.1 p hp).1, by have := (h.1 p hp).2; omega⟩, ?_⟩
  rw [kraftX_scale hL (fun p hp => (h.1 p hp).2)]
  have e : 2 ^ L' = 2 ^ (L' - L) * 2 ^ L := by rw [← Nat.pow_add]; congr 1; omega
  rw [e]
  exact Nat.mul_le_mul_left _ h.2

/-! ### Sorted rows -/
def SrtP (R : PackL) : Prop := R.Pairwise (fun a b => a.1 ≤ b.1)
theorem merged_srt : ∀ {a b : PackL}, SrtP a → SrtP b → SrtP (mergedP a b)
  | [], b, _, hb => by simpa [mergedP] using hb
  | x :: a, [], ha, _ => by rw [mergedP_nil]; exact ha
  | x :: a, y :: b, ha, hb => by
    have ha2 := List.pairwise_cons.1 ha
    have hb2 := List.pairwise_cons.1 hb
    by_cases h : x.1 ≤ y.1
    · rw [mergedP_left h]
      refine List.pairwise_cons.2 ⟨fun z hz => ?_, merged_srt ha2.2 hb⟩
      rcases mergedP_mem hz with hz | hz
      · exact ha2.1 z hz
      · rcases List.mem_cons.1 hz with rfl | hz
        · exact h
        · have := hb2.1 z hz; omega
    · rw [mergedP_right h]
      refine List.pairwise_cons.2 ⟨fun z hz => ?_, merged_srt ha hb2.2⟩
      rcases mergedP_mem hz with hz | hz
      · rcases List.mem_cons.1 hz with rfl | hz
        · omega
        · have := ha2.1 z hz; omega
      · exact hb2.1 z hz
theorem paired_mem : ∀ {R : PackL} {z : Int × List Int}, z ∈ pairedP R → ∃ c ∈ R, ∃ d ∈ R, z.1 = c.1 + d.1
  | [], z, h => by simp [pairedP] at h
  | [x], z, h => by simp [pairedP] at h
  | x :: y :: r, z, h => by
    rcases List.mem_cons.1 (by simpa [pairedP] using h : z ∈ (x.1 + y.1, x.2 ++ y.2) :: pairedP r) with rfl | h
    · exact ⟨x, by simp, y, by simp, rfl⟩
    · obtain ⟨c, hc, d, hd, e⟩ := paired_mem h
      exact ⟨c, by simp [hc], d, by simp [hd], e⟩
theorem paired_srt : ∀ {R : PackL}, SrtP R → SrtP (pairedP R)
  | [], _ => by simp [pairedP, SrtP]
  | [x], _ => by simp [pairedP, SrtP]
  | x :: y :: r, h => by
    have h1 := List.pairwise_cons.1 h
    have h2 := List.pairwise_cons.1 h1.2
    show SrtP ((x.1 + y.1, x.2 ++ y.2) :: pairedP r)
    refine List.pairwise_cons.2 ⟨fun z hz => ?_, paired_srt h2.2⟩
    obtain ⟨c, hc, d, hd, e⟩ := paired_mem hz
    have := h1.1 c (by simp [hc])
    have := h2.1 d hd
    dsimp only
    omega
theorem row_srt {S : PackL} (h : SrtP S) : ∀ k, SrtP (rowP S k)
  | 0 => h
  | k + 1 => merged_srt h (paired_srt (row_srt h k))
def NonP (R : PackL) : Prop := ∀ p ∈ R, 0 ≤ p.1
theorem merged_non {a b : PackL} (ha : NonP a) (hb : NonP b) : NonP (mergedP a b) := fun p hp => by
  rcases mergedP_mem hp with h | h
  · exact ha p h
  · exact hb p h
theorem paired_non {R : PackL} (h : NonP R) : NonP (pairedP R) := fun p hp => by
  obtain ⟨c, hc, d, hd, e⟩ := paired_mem hp
  have := h c hc
  have := h d hd
  omega
theorem row_non {S : PackL} (h : NonP S) : ∀ k, NonP (rowP S k)
  | 0 => h
  | k + 1 => merged_non h (paired_non (row_non h k))

/-! ### Sums of prefixes -/
def pre (R : PackL) (t : Nat) : Int := sumW (R.take t)
theorem pre_zero (R : PackL) : pre R 0 = 0 := by simp [pre, sumW]
theorem pre_cons (x : Int × List Int) (R : PackL) (t : Nat) : pre (x :: R) (t + 1) = x.1 + pre R t := by simp [pre, sumW]
theorem pre_step {v : Int} : ∀ {R : PackL} {t : Nat}, (∀ z ∈ R, v ≤ z.1) → t < R.length → pre R t + v ≤ pre R (t + 1)
  | [], t, _, h => by simp at h
  | x :: R, 0, h, _ => by rw [pre_zero, pre_cons, pre_zero]; have := h x (by simp); omega
  | x :: R, t + 1, h, hl => by
    rw [pre_cons, pre_cons]
    have := pre_step (R := R) (t := t) (fun z hz => h z (by simp [hz])) (by simpa using hl)
    omega
theorem pre_mono {R : PackL} (h : NonP R) {s t : Nat} (hst : s ≤ t) : pre R s ≤ pre R t := by
  induction R generalizing s t with
  | nil => simp [pre, sumW]
  | cons x R ih =>
    cases s with
    | zero =>
      rw [pre_zero]
      cases t with
      | zero => rw [pre_zero]; exact Int.le_refl _
      | succ t =>
        rw [pre_cons]
        have := ih (fun p hp => h p (by simp [hp])) (Nat.zero_le t)
        rw [pre_zero] at this
        have := h x (by simp)
        omega
    | succ s =>
      obtain ⟨t, rfl⟩ : ∃ u, t = u + 1 := ⟨t - 1, by omega⟩
      rw [pre_cons, pre_cons]
      have := ih (fun p hp => h p (by simp [hp])) (show s ≤ t by omega)
      omega
theorem pre_merged : ∀ {X Y : PackL} {a b : Nat}, SrtP X → SrtP Y → a ≤ X.length → b ≤ Y.length → pre (mergedP X Y) (a + b) ≤ pre X a + pre Y b
  | [], Y, a, b, _, _, ha, _ => by
    have : a = 0 := by simpa using ha
    subst this
    simp [mergedP, pre, sumW]
  | x :: X, [], a, b, _, _, _, hb => by
    have : b = 0 := by simpa using hb
    subst this
    rw [mergedP_nil, pre_zero]; simp
  | x :: X, y :: Y, a, b, hX, hY, ha, hb => by
    have hX2 := List.pairwise_cons.1 hX
    have hY2 := List.pairwise_cons.1 hY
    by_cases h : x.1 ≤ y.1
    · rw [mergedP_left h]
      cases a with
      | succ a =>
        rw [show a + 1 + b = (a + b) + 1 by omega, pre_cons, pre_cons]
        have := pre_merged (a := a) (b := b) hX2.2 hY (by simpa using ha) hb
        omega
      | zero =>
        cases b with
        | zero => simp [pre_zero]
        | succ b =>
          rw [show 0 + (b + 1) = (0 + b) + 1 by omega, pre_cons, pre_zero]
          have h1 := pre_merged (a := 0) (b := b) hX2.2 hY (Nat.zero_le _) (by omega)
          rw [pre_zero] at h1
          have h2 := pre_step (v := x.1) (R := y :: Y) (t := b) (fun z hz => by
            rcases List.mem_cons.1 hz with rfl | hz
            · exact h
            · have := hY2.1 z hz; omega) (by omega)
          omega
    · rw [mergedP_right h]
      cases b with
      | succ b =>
        rw [show a + (b + 1) = (a + b) + 1 by omega, pre_cons, pre_cons]
        have := pre_merged (a := a) (b := b) hX hY2.2 ha (by simpa using hb)
        omega
      | zero =>
        cases a with
        | zero => simp [pre_zero]
        | succ a =>
          rw [Nat.add_zero, pre_cons, pre_zero]
          have h1 := pre_merged (a := a) (b := 0) hX hY2.2 (by omega) (Nat.zero_le _)
          rw [pre_zero, Nat.add_zero] at h1
          have h2 := pre_step (v := y.1) (R := x :: X) (t := a) (fun z hz => by
            rcases List.mem_cons.1 hz with rfl | hz
            · omega
            · have := hX2.1 z hz; omega) (by omega)
          omega
theorem pre_paired : ∀ {R : PackL} {b : Nat}, 2 * b ≤ R.length → pre (pairedP R) b = pre R (2 * b)
  | R, 0, _ => by simp [pre_zero]
  | [], b + 1, h => by simp at h
  | [x], b + 1, h => by simp at h; omega
  | x :: y :: r, b + 1, h => by
    show pre ((x.1 + y.1, x.2 ++ y.2) :: pairedP r) (b + 1) = _
    rw [pre_cons, show 2 * (b + 1) = 2 * b + 1 + 1 by omega, pre_cons, pre_cons, pre_paired (by simp at h; omega)]
    dsimp only; omega

/-! ### A part of the weights weighs no less than as many of the least -/
def sumI : List Int → Int
  | [] => 0
  | x :: l => x + sumI l
theorem sumI_perm {X Y : List Int} (h : X.Perm Y) : sumI X = sumI Y := by
  induction h with
  | nil => rfl
  | cons x _ ih => simp only [sumI, ih]
  | swap x y l => simp only [sumI]; omega
  | trans _ _ h1 h2 => rw [h1, h2]
theorem pre_part : ∀ {S : PackL} {V V' : List Int}, SrtP S → (V ++ V').Perm (S.map Prod.fst) → pre S V.length ≤ sumI V
  | [], V, V', _, h => by
    have : V = [] := by
      have := h.length_eq
      simp at this
      exact this.1
    subst this
    simp [pre, sumW, sumI]
  | s :: S, [], V', _, h => by simp [pre, sumW, sumI]
  | s :: S, v :: V, V', hS, h => by
    have hS2 := List.pairwise_cons.1 hS
    have hmin : ∀ u ∈ v :: V ++ V', s.1 ≤ u := fun u hu => by
      have := h.mem_iff.1 hu
      simp only [List.map_cons, List.mem_cons] at this
      rcases this with rfl | this
      · exact Int.le_refl _
      · obtain ⟨p, hp, rfl⟩ := List.mem_map.1 this
        exact hS2.1 p hp
    have hs : s.1 ∈ v :: V ++ V' := h.mem_iff.2 (by simp)
    rcases List.mem_append.1 hs with hs | hs
    · have e := List.perm_cons_erase hs
      have h2 : (((v :: V).erase s.1) ++ V').Perm (S.map Prod.fst) := by
        have h3 : (s.1 :: (((v :: V).erase s.1) ++ V')).Perm (s.1 :: S.map Prod.fst) := by
          have := (e.symm.append_right V').trans h
          simpa using this
        exact (List.perm_cons _).1 h3
      have ih := pre_part hS2.2 h2
      have hl := e.length_eq
      simp only [List.length_cons] at hl ⊢
      rw [pre_cons, sumI_perm e]
      rw [show ((v :: V).erase s.1).length = V.length by omega] at ih
      simp only [sumI]; omega
    · have e := List.perm_cons_erase hs
      have h2 : (V ++ (v :: V'.erase s.1)).Perm (S.map Prod.fst) := by
        have h3 : (s.1 :: (V ++ (v :: V'.erase s.1))).Perm (s.1 :: S.map Prod.fst) := by
          refine List.Perm.trans ?_ h
          have h4 : (v :: V ++ V').Perm (v :: V ++ (s.1 :: V'.erase s.1)) := List.Perm.append_left _ e
          refine List.Perm.trans ?_ h4.symm
          have h5 : (v :: V ++ s.1 :: V'.erase s.1).Perm (s.1 :: (v :: V ++ V'.erase s.1)) := List.perm_middle
          refine List.Perm.trans ?_ h5.symm
          refine List.Perm.cons _ ?_
          exact List.perm_middle
        exact (List.perm_cons _).1 h3
      have ih := pre_part hS2.2 h2
      simp only [List.length_cons]
      rw [pre_cons]
      have := hmin v (by simp)
      simp only [sumI]; omega

/-! ### The lower bound -/
def nA (X : PairL) (j : Nat) : Nat := (X.filter fun p => decide (j ≤ p.2)).length
def wA (X : PairL) (j : Nat) : Int := sumI ((X.filter fun p => decide (j ≤ p.2)).map Prod.fst)
theorem pre_A {S : PackL} {X : PairL} (hS : SrtP S) (hX : (X.map Prod.fst).Perm (S.map Prod.fst)) (j : Nat) : pre S (nA X j) ≤ wA X j := by
  have e : ((X.filter fun p => decide (j ≤ p.2)) ++ (X.filter fun p => !decide (j ≤ p.2))).Perm X := List.filter_append_perm _ X
  have e2 := (e.map Prod.fst).trans hX
  rw [List.map_append] at e2
  have := pre_part hS e2
  rw [List.length_map] at this
  exact this
theorem nA_le (X : PairL) (j : Nat) : nA X j ≤ X.length := List.length_filter_le _ _
/-- What is counted up to level k, from the deepest one up. -/
def SW (L k : Nat) : PairL → Int
  | [] => 0
  | p :: r => p.1 * ((k + 1 - (L - p.2) : Nat) : Int) + SW L k r
theorem SW_zero {L : Nat} {X : PairL} (h : ∀ p ∈ X, p.2 ≤ L) : SW L 0 X = wA X L := by
  induction X with
  | nil => rfl
  | cons p X ih =>
    have hp := h p (by simp)
    have i := ih (fun q hq => h q (by simp [hq]))
    unfold wA at *
    simp only [SW, List.filter_cons]
    by_cases hl : L ≤ p.2
    · rw [if_pos (by simpa using hl), List.map_cons, sumI, i, show (0 + 1 - (L - p.2) : Nat) = 1 by omega]; simp
    · rw [if_neg (by simpa using hl), i, show (0 + 1 - (L - p.2) : Nat) = 0 by omega]; simp
theorem SW_step {L k : Nat} {X : PairL} (hk : k + 1 < L) (h : ∀ p ∈ X, p.2 ≤ L) : SW L (k + 1) X = SW L k X + wA X (L - (k + 1)) := by
  induction X with
  | nil => rfl
  | cons p X ih =>
    have hp := h p (by simp)
    have i := ih (fun q hq => h q (by simp [hq]))
    unfold wA at *
    simp only [SW, List.filter_cons]
    by_cases hl : L - (k + 1) ≤ p.2
    · rw [if_pos (by simpa using hl), List.map_cons, sumI, i, show (k + 1 + 1 - (L - p.2) : Nat) = (k + 1 - (L - p.2)) + 1 by omega, Int.natCast_add, Int.mul_add]; simp; omega
    · rw [if_neg (by simpa using hl), i, show (k + 1 + 1 - (L - p.2) : Nat) = 0 by omega, show (k + 1 - (L - p.2) : Nat) = 0 by omega]; omega
theorem SW_all {L : Nat} (hL : 1 ≤ L) {X : PairL} (h : ∀ p ∈ X, p.2 ≤ L) : SW L (L - 1) X = costX X := by
  induction X with
  | nil => rfl
  | cons p X ih =>
    have hp := h p (by simp)
    simp only [SW, costX, ih (fun q hq => h q (by simp [hq])), show (L - 1 + 1 - (L - p.2) : Nat) = p.2 by omega]
def KR (L k : Nat) : PairL → Nat
  | [] => 0
  | p :: r => 2 ^ (min (L - p.2) (k + 1)) + KR L k r
theorem KR_zero {L : Nat} {X : PairL} (h : ∀ p ∈ X, p.2 ≤ L) : KR L 0 X + nA X L = X.length * 2 := by
  induction X with
  | nil => rfl
  | cons p X ih =>
    have hp := h p (by simp)
    have i := ih (fun q hq => h q (by simp [hq]))
    unfold nA at *
    simp only [KR, List.filter_cons, List.length_cons]
    by_cases hl : L ≤ p.2
    · rw [if_pos (by simpa using hl), List.length_cons, show min (L - p.2) (0 + 1) = 0 by omega]; omega
    · rw [if_neg (by simpa using hl), show min (L - p.2) (0 + 1) = 1 by omega]; omega
theorem KR_step {L k : Nat} {X : PairL} (hk : k + 1 < L) (h : ∀ p ∈ X, p.2 ≤ L) : KR L (k + 1) X + nA X (L - (k + 1)) * 2 ^ (k + 1) = KR L k X + X.length * 2 ^ (k + 1) := by
  induction X with
  | nil => rfl
  | cons p X ih =>
    have hp := h p (by simp)
    have i := ih (fun q hq => h q (by simp [hq]))
    have e2 : 2 ^ (k + 1 + 1) = 2 ^ (k + 1) + 2 ^ (k + 1) := by rw [Nat.pow_succ 2 (k + 1)]; omega
    unfold nA at *
    simp only [KR, List.filter_cons, List.length_cons, Nat.add_mul, Nat.one_mul]
    by_cases hl : L - (k + 1) ≤ p.2
    · rw [if_pos (by simpa using hl), List.length_cons, show min (L - p.2) (k + 1 + 1) = L - p.2 by omega, show min (L - p.2) (k + 1) = L - p.2 by omega, Nat.add_mul, Nat.one_mul]; omega
    · rw [if_neg (by simpa using hl), show min (L - p.2) (k + 1 + 1) = k + 1 + 1 by omega, show min (L - p.2) (k + 1) = k + 1 by omega, e2]; omega
theorem KR_all {L : Nat} (hL : 1 ≤ L) {X : PairL} (h : ∀ p ∈ X, p.2 ≤ L) : KR L (L - 1) X = kraftX L X := by
  induction X with
  | nil => rfl
  | cons p X ih =>
    have hp := h p (by simp)
    simp only [KR, kraftX, ih (fun q hq => h q (by simp [hq])), show min (L - p.2) (L - 1 + 1) = L - p.2 by omega]
def tA (L : Nat) (X : PairL) : Nat → Nat
  | 0 => nA X L
  | k + 1 => nA X (L - (k + 1)) + tA L X k / 2
theorem tA_len {L : Nat} {X : PairL} {S : PackL} (hl : X.length = S.length) : ∀ k, tA L X k ≤ (rowP S k).length
  | 0 => by simp only [tA, rowP]; have := nA_le X L; omega
  | k + 1 => by
    simp only [tA, rowP, mergedP_len, pairedP_len]
    have := nA_le X (L - (k + 1))
    have := tA_len (L := L) hl k
    omega
theorem low_bound {L : Nat} {X : PairL} {S : PackL} (hS : SrtP S) (h0 : NonP S) (hX : (X.map Prod.fst).Perm (S.map Prod.fst)) (h : ∀ p ∈ X, p.2 ≤ L) : ∀ k, k < L → pre (rowP S k) (tA L X k) ≤ SW L k X
  | 0, _ => by
    rw [SW_zero h]
    exact pre_A hS hX L
  | k + 1, hk => by
    have ih := low_bound hS h0 hX h k (by omega)
    have hl : X.length = S.length := by simpa using hX.length_eq
    have ht := tA_len (L := L) hl k
    rw [SW_step hk h]
    have h1 := pre_merged (X := S) (Y := pairedP (rowP S k)) (a := nA X (L - (k + 1))) (b := tA L X k / 2) hS (paired_srt (row_srt hS k)) (by have := nA_le X (L - (k + 1)); omega) (by rw [pairedP_len]; omega)
    rw [pre_paired (by omega)] at h1
    have h2 := pre_mono (row_non h0 k) (show 2 * (tA L X k / 2) ≤ tA L X k by omega)
    have h3 := pre_A hS hX (L - (k + 1))
    show pre (mergedP S (pairedP (rowP S k))) (nA X (L - (k + 1)) + tA L X k / 2) ≤ _
    omega
theorem tA_low {L : Nat} {X : PairL} (h : ∀ p ∈ X, p.2 ≤ L) : ∀ k, k < L → X.length * 2 ^ (k + 1) < KR L k X + (tA L X k + 1) * 2 ^ k
  | 0, _ => by
    have := KR_zero h
    simp only [tA, Nat.pow_zero, Nat.pow_one, Nat.mul_one]; omega
  | k + 1, hk => by
    have ih := tA_low h k (by omega)
    have hs := KR_step hk h
    simp only [tA]
    have e1 : X.length * 2 ^ (k + 1 + 1) = X.length * 2 ^ (k + 1) + X.length * 2 ^ (k + 1) := by rw [Nat.pow_succ 2 (k + 1), ← Nat.mul_assoc]; omega
    have e2 : (nA X (L - (k + 1)) + tA L X k / 2 + 1) * 2 ^ (k + 1) = nA X (L - (k + 1)) * 2 ^ (k + 1) + (2 * (tA L X k / 2) + 2) * 2 ^ k := by
      rw [Nat.add_assoc, Nat.add_mul, Nat.pow_succ 2 k, Nat.mul_comm (2 ^ k) 2, ← Nat.mul_assoc (tA L X k / 2 + 1)]
      congr 2; omega
    have e3 : (tA L X k + 1) * 2 ^ k ≤ (2 * (tA L X k / 2) + 2) * 2 ^ k := Nat.mul_le_mul_right _ (by omega)
    rw [e1, e2]
    omega
/-- No lengths cost less than the lightest packages weigh. -/
theorem pm_low {L : Nat} {X : PairL} {S : PackL} (hL : 1 ≤ L) (hS : SrtP S) (h0 : NonP S) (hX : (X.map Prod.fst).Perm (S.map Prod.fst)) (h : Feas L X) : pre (rowP S (L - 1)) (2 * S.length - 2) ≤ costX X := by
  have hb : ∀ p ∈ X, p.2 ≤ L := fun p hp => (h.1 p hp).2
  have h1 := low_bound hS h0 hX hb (L - 1) (by omega)
  have h2 := tA_low hb (L - 1) (by omega)
  rw [SW_all hL hb] at h1
  rw [KR_all hL hb] at h2
  have hk := h.2
  have hl : X.length = S.length := by simpa using hX.length_eq
  have e : 2 ^ L = 2 * 2 ^ (L - 1) := by rw [Nat.mul_comm, ← Nat.pow_succ]; congr 1; omega
  rw [show L - 1 + 1 = L by omega] at h2
  have h3 : 2 * S.length - 2 ≤ tA L X (L - 1) := by
    rw [hl] at h2
    rw [e] at h2 hk
    have h4 : S.length * (2 * 2 ^ (L - 1)) < (tA L X (L - 1) + 3) * 2 ^ (L - 1) := by
      have : (tA L X (L - 1) + 3) * 2 ^ (L - 1) = (tA L X (L - 1) + 1) * 2 ^ (L - 1) + 2 * 2 ^ (L - 1) := by rw [← Nat.add_mul]
      omega
    rw [← Nat.mul_assoc] at h4
    have := Nat.lt_of_mul_lt_mul_right h4
    omega
  have := pre_mono (row_non h0 (L - 1)) h3
  omega
end

section
set_option linter.unusedVariables false
set_option linter.unusedSimpArgs false

def cntP : PackL → Int → Nat
  | [], _ => 0
  | p :: r, s => p.2.count s + cntP r s
theorem cntP_perm {X Y : PackL} (h : X.Perm Y) (s : Int) : cntP X s = cntP Y s := by
  induction h with
  | nil => rfl
  | cons x _ ih => simp only [cntP, ih]
  | swap x y l => simp only [cntP]; omega
  | trans _ _ h1 h2 => rw [h1, h2]
theorem cntP_append (X Y : PackL) (s : Int) : cntP (X ++ Y) s = cntP X s + cntP Y s := by
  induction X with
  | nil => simp [cntP]
  | cons p X ih => simp only [List.cons_append, cntP, ih]; omega
theorem sumW_perm {X Y : PackL} (h : X.Perm Y) : sumW X = sumW Y := by
  induction h with
  | nil => rfl
  | cons x _ ih => simp only [sumW, ih]
  | swap x y l => simp only [sumW]; omega
  | trans _ _ h1 h2 => rw [h1, h2]
theorem sumW_append (X Y : PackL) : sumW (X ++ Y) = sumW X + sumW Y := by
  induction X with
  | nil => simp [sumW]
  | cons p X ih => simp only [List.cons_append, sumW, ih]; omega
theorem SrtP.get {R : PackL} (h : SrtP R) {i j : Nat} {u v : Int × List Int} (hij : i ≤ j) (hu : R[i]? = some u) (hv : R[j]? = some v) : u.1 ≤ v.1 := by
  rcases Nat.eq_or_lt_of_le hij with rfl | hlt
  · rw [hu] at hv; cases hv; exact Int.le_refl _
  · obtain ⟨h1, e1⟩ := List.getElem?_eq_some_iff.1 hu
    obtain ⟨h2, e2⟩ := List.getElem?_eq_some_iff.1 hv
    have := List.pairwise_iff_getElem.1 h i j h1 h2 hlt
    rw [e1, e2] at this
    exact this

/-- The first packages of a merged row: the first of each of both. -/
theorem take_merged : ∀ {X Y : PackL} {m : Nat}, SrtP X → SrtP Y → m ≤ X.length + Y.length →
    ∃ a b, a + b = m ∧ a ≤ X.length ∧ b ≤ Y.length ∧ ((mergedP X Y).take m).Perm (X.take a ++ Y.take b) ∧ ∀ i x y, X[i]? = some x → 0 < b → Y[b - 1]? = some y → x.1 ≤ y.1 → i < a
  | [], Y, m, _, _, hm => ⟨0, m, by omega, by simp, by simpa using hm, by simp [mergedP], fun i x y h => by simp at h⟩
  | x :: X, [], m, _, _, hm => ⟨m, 0, by omega, by simpa using hm, by simp, by rw [mergedP_nil]; simp, fun i x y _ h => absurd h (by omega)⟩
  | x :: X, y :: Y, 0, _, _, _ => ⟨0, 0, rfl, by simp, by simp, by simp, fun i x y _ h => absurd h (by omega)⟩
  | x :: X, y :: Y, m + 1, hX, hY, hm => by
    have hX2 := List.pairwise_cons.1 hX
    have hY2 := List.pairwise_cons.1 hY
    by_cases h : x.1 ≤ y.1
    · obtain ⟨a, b, h1, h2, h3, h4, h5⟩ := take_merged (X := X) (Y := y :: Y) (m := m) hX2.2 hY (by simp at hm ⊢; omega)
      refine ⟨a + 1, b, by omega, by simp; omega, h3, ?_, ?_⟩
      · rw [mergedP_left h]
        simpa using h4.cons x
      · intro i u v hu hb hv huv
        cases i with
        | zero => omega
        | succ i =>
          have := h5 i u v (by simpa using hu) hb hv huv
          omega
    · obtain ⟨a, b, h1, h2, h3, h4, h5⟩ := take_merged (X := x :: X) (Y := Y) (m := m) hX hY2.2 (by simp at hm ⊢; omega)
      refine ⟨a, b + 1, by omega, h2, by simp; omega, ?_, ?_⟩
      · rw [mergedP_right h]
        simp only [List.take_succ_cons]
        exact (h4.cons y).trans List.perm_middle.symm
      · intro i u v hu hb hv huv
        rw [Nat.add_sub_cancel] at hv
        cases b with
        | zero =>
          simp at hv
          subst hv
          have hx : x.1 ≤ u.1 := hX.get (i := 0) (j := i) (Nat.zero_le _) rfl hu
          omega
        | succ b => exact h5 i u v hu (by omega) (by simpa using hv) huv
theorem paired_get : ∀ {R : PackL} {b : Nat} {y : Int × List Int}, NonP R → (pairedP R)[b]? = some y → ∃ q, R[2 * b + 1]? = some q ∧ q.1 ≤ y.1
  | [], b, y, _, h => by simp [pairedP] at h
  | [x], b, y, _, h => by simp [pairedP] at h
  | x :: z :: r, 0, y, h0, h => by
    have h' : ((x.1 + z.1, x.2 ++ z.2) :: pairedP r)[0]? = some y := h
    simp at h'
    subst h'
    have := h0 x (by simp)
    exact ⟨z, by simp, by dsimp only; omega⟩
  | x :: z :: r, b + 1, y, h0, h => by
    have h' : ((x.1 + z.1, x.2 ++ z.2) :: pairedP r)[b + 1]? = some y := h
    rw [List.getElem?_cons_succ] at h'
    obtain ⟨q, hq, hle⟩ := paired_get (fun p hp => h0 p (by simp [hp])) h'
    exact ⟨q, by rw [show 2 * (b + 1) + 1 = 2 * b + 1 + 1 + 1 by omega]; simpa using hq, hle⟩
theorem paired_cnt : ∀ {R : PackL} {b : Nat} (s : Int), 2 * b ≤ R.length → cntP ((pairedP R).take b) s = cntP (R.take (2 * b)) s
  | R, 0, s, _ => by simp [cntP]
  | [], b + 1, s, h => by simp at h
  | [x], b + 1, s, h => by simp at h; omega
  | x :: y :: r, b + 1, s, h => by
    show cntP (((x.1 + y.1, x.2 ++ y.2) :: pairedP r).take (b + 1)) s = _
    rw [List.take_succ_cons, cntP, show 2 * (b + 1) = 2 * b + 1 + 1 by omega, List.take_succ_cons, List.take_succ_cons, cntP, cntP, paired_cnt s (by simp at h; omega)]
    simp only [List.count_append]; omega

/-! ### How many singles are chosen at each level -/
def cntA (S : PackL) : List Nat → Int → Nat
  | [], _ => 0
  | a :: r, s => cntP (S.take a) s + cntA S r s
def preA (S : PackL) : List Nat → Int
  | [] => 0
  | a :: r => pre S a + preA S r
def binA : List Nat → Nat
  | [] => 0
  | a :: r => a * 2 ^ r.length + binA r
structure Chain (S : PackL) (k m : Nat) (av : List Nat) : Prop where
  len : av.length = k + 1
  le : ∀ a ∈ av, a ≤ S.length
  fall : av.Pairwise (fun a b => b ≤ a)
  cnt : ∀ s, cntP ((rowP S k).take m) s = cntA S av s
  sum : pre (rowP S k) m = preA S av
  bin : binA av = m * 2 ^ k
  head : ∀ a r, av = a :: r → ∀ i p q, i < a → S[i]? = some p → (rowP S k)[m - 1]? = some q → p.1 ≤ q.1
theorem chain {S : PackL} (hS : SrtP S) (h0 : NonP S) : ∀ k m, m ≤ (rowP S k).length → ∃ av, Chain S k m av
  | 0, m, hm => ⟨[m], rfl, fun a ha => by simp at ha; subst ha; exact hm, by simp, fun s => by simp [cntA, rowP], by simp [preA, rowP], by simp [binA], fun a r e i p q hi hp hq => by
      injection e with e1 e2
      subst e1
      exact hS.get (by omega) hp hq⟩
  | k + 1, m, hm => by
    have hrow := row_srt hS k
    have hnon := row_non h0 k
    simp only [rowP, mergedP_len, pairedP_len] at hm
    obtain ⟨a, b, h1, h2, h3, h4, h5⟩ := take_merged (X := S) (Y := pairedP (rowP S k)) (m := m) hS (paired_srt hrow) (by rw [pairedP_len]; exact hm)
    rw [pairedP_len] at h3
    obtain ⟨av, hc⟩ := chain hS h0 k (2 * b) (by omega)
    have hlen := hc.len
    obtain ⟨a', r, rfl⟩ : ∃ a' r, av = a' :: r := by
      cases av with
      | nil => simp at hlen
      | cons a' r => exact ⟨a', r, rfl⟩
    have hf := List.pairwise_cons.1 hc.fall
    have haa : a' ≤ a := by
      cases ha' : a' with
      | zero => omega
      | succ i =>
        subst ha'
        have hb : 0 < b := by
          cases b with
          | zero =>
            have := hc.bin
            simp only [binA] at this
            have h9 : 0 < (i + 1) * 2 ^ r.length := Nat.mul_pos (by omega) (Nat.two_pow_pos _)
            omega
          | succ b => omega
        have hiS : i < S.length := by have := hc.le (i + 1) (by simp); omega
        obtain ⟨p, hp⟩ : ∃ p, S[i]? = some p := ⟨_, List.getElem?_eq_getElem hiS⟩
        obtain ⟨y, hy⟩ : ∃ y, (pairedP (rowP S k))[b - 1]? = some y := ⟨_, List.getElem?_eq_getElem (by rw [pairedP_len]; omega)⟩
        obtain ⟨q, hq, hqy⟩ := paired_get hnon hy
        rw [show 2 * (b - 1) + 1 = 2 * b - 1 by omega] at hq
        have hpq := hc.head _ _ rfl i p q (by omega) hp hq
        have := h5 i p y hp hb hy (by omega)
        omega
    refine ⟨a :: a' :: r, by simp at hlen ⊢; omega, ?_, ?_, ?_, ?_, ?_, ?_⟩
    · intro x hx
      rcases List.mem_cons.1 hx with rfl | hx
      · exact h2
      · exact hc.le x hx
    · refine List.pairwise_cons.2 ⟨fun x hx => ?_, hc.fall⟩
      rcases List.mem_cons.1 hx with rfl | hx
      · exact haa
      · have := hf.1 x hx; omega
    · intro s
      show cntP ((mergedP S (pairedP (rowP S k))).take m) s = _
      rw [cntP_perm h4, cntP_append, paired_cnt s (by omega), hc.cnt s]
      rfl
    · show sumW ((mergedP S (pairedP (rowP S k))).take m) = _
      rw [sumW_perm h4, sumW_append]
      have e := pre_paired (R := rowP S k) (b := b) (by omega)
      unfold pre at e
      rw [e]
      have e2 := hc.sum
      unfold pre at e2
      rw [e2]
      rfl
    · have hb := hc.bin
      have hl : (a' :: r).length = k + 1 := hc.len
      rw [binA, hb, hl, Nat.pow_succ, ← h1]
      rw [Nat.add_mul, Nat.mul_comm 2 b, Nat.mul_assoc b 2, Nat.mul_comm 2 (2 ^ k)]
    · intro x y e i p q hi hp hq
      injection e with e1 e2
      subst e1
      have hmem : p ∈ (rowP S (k + 1)).take m := by
        refine h4.mem_iff.2 (List.mem_append_left _ ?_)
        refine List.mem_of_getElem? (i := i) ?_
        rw [List.getElem?_take, if_pos hi]; exact hp
      obtain ⟨j, hj⟩ := List.getElem?_of_mem hmem
      have hjm : j < m := by
        have := (List.getElem?_eq_some_iff.1 hj).1
        simp at this; omega
      rw [List.getElem?_take, if_pos hjm] at hj
      exact (row_srt hS (k + 1)).get (by omega) hj hq

/-! ### The lengths of the chain -/
def lenA (av : List Nat) (r : Nat) : Nat := (av.filter fun a => decide (r < a)).length
def pairsA (av : List Nat) : PackL → Nat → PairL
  | [], _ => []
  | p :: S, r => (p.1, lenA av r) :: pairsA av S (r + 1)
theorem lenA_cons (a : Nat) (av : List Nat) (r : Nat) : lenA (a :: av) r = (if r < a then 1 else 0) + lenA av r := by
  unfold lenA
  rw [List.filter_cons]
  by_cases h : r < a
  · rw [if_pos (by simpa using h), if_pos h, List.length_cons]; omega
  · rw [if_neg (by simpa using h), if_neg h]; omega
theorem lenA_le (av : List Nat) (r : Nat) : lenA av r ≤ av.length := List.length_filter_le _ _
theorem lenA_zero {av : List Nat} {r : Nat} (h : ∀ a ∈ av, a ≤ r) : lenA av r = 0 := by
  unfold lenA
  rw [List.length_eq_zero_iff, List.filter_eq_nil_iff]
  intro a ha
  have := h a ha
  simp; omega
theorem pairsA_fst (av : List Nat) : ∀ (S : PackL) (r : Nat), (pairsA av S r).map Prod.fst = S.map Prod.fst
  | [], r => rfl
  | p :: S, r => by simp only [pairsA, List.map_cons, pairsA_fst av S (r + 1)]
theorem pairsA_len (av : List Nat) : ∀ (S : PackL) (r : Nat), (pairsA av S r).length = S.length
  | [], r => rfl
  | p :: S, r => by simp only [pairsA, List.length_cons, pairsA_len av S (r + 1)]
theorem pairsA_le (av : List Nat) : ∀ (S : PackL) (r : Nat), ∀ p ∈ pairsA av S r, p.2 ≤ av.length
  | [], r, p, h => by simp [pairsA] at h
  | q :: S, r, p, h => by
    rcases List.mem_cons.1 h with rfl | h
    · exact lenA_le av r
    · exact pairsA_le av S (r + 1) p h
theorem kraft_nil : ∀ (S : PackL) (r : Nat), kraftX 0 (pairsA [] S r) = S.length
  | [], r => rfl
  | p :: S, r => by simp only [pairsA, kraftX, kraft_nil S (r + 1), List.length_cons]; simp [lenA]; omega
theorem kraft_cons {a : Nat} {av : List Nat} (h : ∀ x ∈ av, x ≤ a) : ∀ (S : PackL) (r : Nat), kraftX (av.length + 1) (pairsA (a :: av) S r) + min S.length (a - r) * 2 ^ av.length = kraftX av.length (pairsA av S r) + S.length * 2 ^ av.length
  | [], r => by simp [pairsA, kraftX]
  | p :: S, r => by
    have ih := kraft_cons h S (r + 1)
    simp only [pairsA, kraftX, List.length_cons, lenA_cons]
    have hl := lenA_le av r
    by_cases hr : r < a
    · rw [if_pos hr, show av.length + 1 - (1 + lenA av r) = av.length - lenA av r by omega]
      rw [show min (S.length + 1) (a - r) = min S.length (a - (r + 1)) + 1 by omega, Nat.add_mul, Nat.add_mul]
      omega
    · have hz : lenA av r = 0 := lenA_zero (fun x hx => by have := h x hx; omega)
      rw [if_neg hr, hz, show av.length + 1 - (0 + 0) = av.length + 1 by omega, Nat.pow_succ, show min (S.length + 1) (a - r) = 0 by omega, Nat.sub_zero, Nat.add_mul]
      rw [show min S.length (a - (r + 1)) = 0 by omega] at ih
      omega
theorem kraft_chain {S : PackL} : ∀ {av : List Nat}, av.Pairwise (fun a b => b ≤ a) → (∀ a ∈ av, a ≤ S.length) → kraftX av.length (pairsA av S 0) + binA av = S.length * 2 ^ av.length
  | [], _, _ => by simp only [binA, List.length_nil, kraft_nil]; omega
  | a :: av, hf, hl => by
    have hf2 := List.pairwise_cons.1 hf
    have ih := kraft_chain (S := S) hf2.2 (fun x hx => hl x (by simp [hx]))
    have hc := kraft_cons hf2.1 S 0
    have ha := hl a (by simp)
    rw [Nat.sub_zero, Nat.min_eq_right ha] at hc
    simp only [binA, List.length_cons]
    rw [Nat.pow_succ, ← Nat.mul_assoc]
    omega
theorem cost_nil : ∀ (S : PackL) (r : Nat), costX (pairsA [] S r) = 0
  | [], r => rfl
  | p :: S, r => by simp only [pairsA, costX, cost_nil S (r + 1)]; simp [lenA]
theorem cost_cons (a : Nat) (av : List Nat) : ∀ (S : PackL) (r : Nat), costX (pairsA (a :: av) S r) = pre S (a - r) + costX (pairsA av S r)
  | [], r => by simp [pairsA, costX, pre, sumW]
  | p :: S, r => by
    have ih := cost_cons a av S (r + 1)
    simp only [pairsA, costX, lenA_cons, ih]
    by_cases hr : r < a
    · rw [if_pos hr, show a - r = (a - (r + 1)) + 1 by omega, pre_cons, Int.natCast_add, Int.mul_add]; simp; omega
    · rw [if_neg hr, show a - r = 0 by omega, show a - (r + 1) = 0 by omega, pre_zero, pre_zero]; simp
theorem cost_chain (S : PackL) : ∀ (av : List Nat), costX (pairsA av S 0) = preA S av
  | [] => cost_nil S 0
  | a :: av => by rw [cost_cons, cost_chain S av, Nat.sub_zero]; rfl
theorem kraftX_pos {M : Nat} {X : PairL} (h : X ≠ []) : 0 < kraftX M X := by
  cases X with
  | nil => exact absurd rfl h
  | cons p X => simp only [kraftX]; have := Nat.two_pow_pos (M - p.2); omega
theorem pairs_pos {M : Nat} {X : PairL} (h2 : 2 ≤ X.length) (hk : kraftX M X ≤ 2 ^ M) : ∀ p ∈ X, 1 ≤ p.2 := by
  intro p hp
  have e := List.perm_cons_erase hp
  rw [kraftX_perm e] at hk
  have hl := e.length_eq
  have hne : X.erase p ≠ [] := fun h => by rw [h] at hl; simp at hl; omega
  have := kraftX_pos (M := M) hne
  simp only [kraftX] at hk
  cases hp2 : p.2 with
  | zero => rw [hp2, Nat.sub_zero] at hk; omega
  | succ n => omega

/-- Package-merge: the lengths of the chain are optimal. -/
theorem pm_best {S : PackL} {L : Nat} (hL : 1 ≤ L) (hS : SrtP S) (h0 : NonP S) (h2 : 2 ≤ S.length) (hle : S.length ≤ 2 ^ L) :
    ∃ av, Chain S (L - 1) (2 * S.length - 2) av ∧ Feas L (pairsA av S 0) ∧ kraftX L (pairsA av S 0) = 2 ^ L ∧ OptL L (S.map Prod.fst) (costX (pairsA av S 0)) := by
  obtain ⟨av, hc⟩ := chain hS h0 (L - 1) (2 * S.length - 2) (rowP_enough h2 hL hle)
  have hl : av.length = L := by rw [hc.len]; omega
  have hk := kraft_chain hc.fall hc.le
  have hb := hc.bin
  rw [hl] at hk
  have e : 2 ^ L = 2 * 2 ^ (L - 1) := by rw [Nat.mul_comm, ← Nat.pow_succ]; congr 1; omega
  have hb2 : binA av = (S.length - 1) * 2 ^ L := by
    rw [hb, e, ← Nat.mul_assoc, show (S.length - 1) * 2 = 2 * S.length - 2 by omega]
  have hk2 : kraftX L (pairsA av S 0) = 2 ^ L := by
    rw [hb2] at hk
    obtain ⟨n, hn⟩ : ∃ n, S.length = n + 1 := ⟨S.length - 1, by omega⟩
    rw [hn, Nat.add_sub_cancel, Nat.add_mul] at hk
    omega
  have hF : Feas L (pairsA av S 0) := ⟨fun p hp => ⟨pairs_pos (by rw [pairsA_len]; exact h2) (Nat.le_of_eq hk2) p hp, by have := pairsA_le av S 0 p hp; omega⟩, Nat.le_of_eq hk2⟩
  refine ⟨av, hc, hF, hk2, ⟨pairsA av S 0, by rw [pairsA_fst], hF, rfl⟩, fun X hX hFX => ?_⟩
  rw [cost_chain, ← hc.sum]
  exact pm_low hL hS h0 hX hFX
end

section
set_option linter.unusedVariables false
set_option linter.unusedSimpArgs false

/-! ### Used symbols -/
theorem usedF_same : ∀ {l out : List Int} (i : Nat), out.length = l.length → (∀ (j : Nat) (x y : Int), l[j]? = some x → out[j]? = some y → (0 < y ↔ 0 < x)) → usedF i out = usedF i l
  | [], [], i, _, _ => rfl
  | [], y :: out, i, h, _ => by simp at h
  | x :: l, [], i, h, _ => by simp at h
  | x :: l, y :: out, i, h, hj => by
    have h0 := hj 0 x y rfl rfl
    have ih := usedF_same (l := l) (out := out) (i + 1) (by simpa using h) (fun j a b ha hb => hj (j + 1) a b (by simpa using ha) (by simpa using hb))
    simp only [usedF, ih]
    by_cases hx : 0 < x
    · rw [if_pos hx, if_pos (h0.2 hx)]
    · rw [if_neg hx, if_neg (fun h => hx (h0.1 h))]
theorem usedF_ge {l : List Int} : ∀ {i : Nat}, ∀ s ∈ usedF i l, (i : Int) ≤ s := by
  intro i s hs
  obtain ⟨j, rfl, -⟩ := usedF_mem hs
  omega
theorem usedF_nodup : ∀ (l : List Int) (i : Nat), (usedF i l).Nodup
  | [], i => List.nodup_nil
  | x :: l, i => by
    simp only [usedF]
    have ih := usedF_nodup l (i + 1)
    split
    · refine List.nodup_cons.2 ⟨fun hm => ?_, ih⟩
      have := usedF_ge _ hm
      omega
    · exact ih
theorem usedL_nodup (l : List Int) : (usedL l).Nodup := usedF_nodup l 0
theorem usedF_in : ∀ {l : List Int} {i j : Nat} {x : Int}, l[j]? = some x → 0 < x → ((i + j : Nat) : Int) ∈ usedF i l
  | [], i, j, x, h, _ => by simp at h
  | y :: l, i, 0, x, h, hx => by
    simp at h
    subst h
    simp [usedF, hx]
  | y :: l, i, j + 1, x, h, hx => by
    have := usedF_in (l := l) (i := i + 1) (j := j) (x := x) (by simpa using h) hx
    rw [show i + 1 + j = i + (j + 1) by omega] at this
    simp only [usedF]
    split
    · exact List.mem_cons_of_mem _ this
    · exact this
theorem usedL_in {l : List Int} {j : Nat} {x : Int} (h : l[j]? = some x) (hx : 0 < x) : (j : Int) ∈ usedL l := by
  have := usedF_in (i := 0) h hx
  rw [Nat.zero_add] at this
  exact this
theorem EqF.perm {key : Int → Int} {L L' : List Int} (h : EqF key L L') : L.Perm L' := by
  rw [List.perm_iff_count]
  intro a
  have e : ∀ M : List Int, M.count a = (M.filter (fun z => key z == key a)).count a := fun M => by
    rw [List.count_filter (by simp)]
  rw [e L, e L', h]
theorem sortU_perm (l : List Int) : (usedL l).Perm (sortU l) := (sortU_spec l).1.perm
theorem sortU_nodup (l : List Int) : (sortU l).Nodup := (sortU_perm l).nodup_iff.1 (usedL_nodup l)

/-! ### Counting -/
theorem bump_get (out : List Int) (i j : Nat) : (bump out (i : Int))[j]? = if i = j then out[j]?.map (· + 1) else out[j]? := by
  unfold bump
  rw [Int.toNat_natCast]
  by_cases h : i = j
  · subst h
    rw [if_pos rfl]
    cases he : out[i]? with
    | none => rw [List.getElem?_eq_none_iff] at he; simp [he]
    | some x => rw [List.getElem?_set_self (List.getElem?_eq_some_iff.1 he).1]; simp
  · rw [if_neg h, List.getElem?_set_ne h]
theorem bumps_get : ∀ {l : List Int} (out : List Int) (j : Nat), (∀ s ∈ l, ∃ i : Nat, s = (i : Int)) → (bumps out l)[j]? = out[j]?.map (· + ((l.count (j : Int) : Nat) : Int))
  | [], out, j, _ => by simp [bumps]
  | s :: l, out, j, h => by
    obtain ⟨i, rfl⟩ := h s (by simp)
    show (bumps (bump out i) l)[j]? = _
    rw [bumps_get (bump out i) j (fun s hs => h s (by simp [hs])), bump_get, List.count_cons]
    by_cases hij : i = j
    · subst hij
      rw [if_pos rfl]
      cases out[i]? with
      | none => rfl
      | some x => simp; omega
    · rw [if_neg hij]
      have : ((i : Int) == (j : Int)) = false := by simp; omega
      rw [this]
      simp
theorem bumpP_get : ∀ {R : PackL} (out : List Int) (j : Nat), (∀ p ∈ R, ∀ s ∈ p.2, ∃ i : Nat, s = (i : Int)) → (bumpP out R)[j]? = out[j]?.map (· + ((cntP R (j : Int) : Nat) : Int))
  | [], out, j, _ => by simp [bumpP, cntP]
  | p :: R, out, j, h => by
    show (bumpP (bumps out p.2) R)[j]? = _
    rw [bumpP_get (bumps out p.2) j (fun q hq => h q (by simp [hq])), bumps_get out j (h p (by simp))]
    cases out[j]? with
    | none => rfl
    | some x => simp [cntP]; omega

/-! ### Lengths for a histogram -/
def pairsU (l out : List Int) : PairL := (usedL l).map fun s => (keyC l s, (atL out s.toNat).toNat)
def wtsU (l : List Int) : List Int := (usedL l).map (keyC l)
theorem pairsU_fst (l out : List Int) : (pairsU l out).map Prod.fst = wtsU l := by simp [pairsU, wtsU, List.map_map, Function.comp_def]
structure LensFor (l out : List Int) (L : Nat) : Prop where
  len : out.length = l.length
  zero : ∀ (j : Nat) (x : Int), l[j]? = some x → ¬ 0 < x → out[j]? = some 0
  pos : ∀ (j : Nat) (x : Int), l[j]? = some x → 0 < x → ∃ n : Nat, out[j]? = some (n : Int) ∧ 1 ≤ n ∧ n ≤ L
  full : kraftX L (pairsU l out) = 2 ^ L
section
variable {l out : List Int} {L : Nat}
theorem LensFor.sign (h : LensFor l out L) : ∀ (j : Nat) (x y : Int), l[j]? = some x → out[j]? = some y → (0 < y ↔ 0 < x) := fun j x y hx hy => by
  by_cases h0 : 0 < x
  · obtain ⟨n, h1, h2, h3⟩ := h.pos j x hx h0
    rw [h1] at hy
    have := Option.some.inj hy
    omega
  · have h1 := h.zero j x hx h0
    rw [h1] at hy
    have := Option.some.inj hy
    omega
theorem LensFor.used (h : LensFor l out L) : usedL out = usedL l := usedF_same 0 h.len h.sign
theorem LensFor.mem (h : LensFor l out L) : ∀ y ∈ out, 0 ≤ y ∧ y ≤ (L : Int) := fun y hy => by
  obtain ⟨j, hj⟩ := List.getElem?_of_mem hy
  obtain ⟨x, hx⟩ : ∃ x, l[j]? = some x := ⟨_, List.getElem?_eq_getElem (by have := (List.getElem?_eq_some_iff.1 hj).1; have := h.len; omega)⟩
  by_cases h0 : 0 < x
  · obtain ⟨n, h1, h2, h3⟩ := h.pos j x hx h0
    rw [h1] at hj
    have := Option.some.inj hj
    omega
  · have h1 := h.zero j x hx h0
    rw [h1] at hj
    have := Option.some.inj hj
    omega
theorem LensFor.within (h : LensFor l out L) (hl : l.length ≤ 256) (hL : L ≤ 60) : withinL 60 out = true := withinL_iff.2 ⟨by rw [h.len]; exact hl, fun y hy => by have := h.mem y hy; omega⟩
theorem LensFor.mx (h : LensFor l out L) : mxL out ≤ (L : Int) := mxL_le (by omega) (fun y hy => (h.mem y hy).2)
theorem LensFor.pairs_le (h : LensFor l out L) : ∀ p ∈ pairsU l out, 1 ≤ p.2 ∧ p.2 ≤ L := fun p hp => by
  obtain ⟨s, hs, rfl⟩ := List.mem_map.1 hp
  obtain ⟨j, rfl, x, hx, h0⟩ := usedL_mem hs
  obtain ⟨n, h1, h2, h3⟩ := h.pos j x hx h0
  simp only [atL, Int.toNat_natCast, h1, Option.getD_some]
  omega
theorem LensFor.feas (h : LensFor l out L) : Feas L (pairsU l out) := ⟨h.pairs_le, Nat.le_of_eq h.full⟩
theorem kraftS_pairs (h : LensFor l out L) : ∀ {U : List Int}, (∀ s ∈ U, s ∈ usedL l) → kraftS out U = kraftX 60 (U.map fun s => (keyC l s, (atL out s.toNat).toNat))
  | [], _ => rfl
  | s :: U, hU => by
    rw [List.map_cons, kraftS, kraftX, kraftS_pairs h (fun t ht => hU t (by simp [ht]))]
    rfl
theorem LensFor.fits (h : LensFor l out L) (hl : l.length ≤ 256) (hL : L ≤ 60) : fitsL out = true ∧ fullL out = true := by
  have e : kraftN out = 1152921504606846976 := by
    unfold kraftN
    rw [h.used, kraftS_pairs h (fun s hs => hs)]
    show kraftX 60 (pairsU l out) = _
    rw [kraftX_scale hL (fun p hp => (h.pairs_le p hp).2), h.full, ← Nat.pow_add, show 60 - L + L = 60 by omega]
  have h1 : fitsL out = true := by rw [fitsL, h.within hl hL, e]; rfl
  exact ⟨h1, by rw [fullL, h1, e]; rfl⟩
theorem LensFor.long (h : LensFor l out L) : longL l out = true := by
  unfold longL
  rw [List.all_eq_true]
  intro s hs
  obtain ⟨j, rfl, x, hx, h0⟩ := usedL_mem hs
  obtain ⟨n, h1, h2, h3⟩ := h.pos j x hx h0
  simp only [atL, Int.toNat_natCast, h1, Option.getD_some]
  simp; omega
theorem LensFor.costErr (h : LensFor l out L) (hr : rightL l = true) (hL : L ≤ 60) : costErr l out = 0 := by
  unfold Go.Proofs.Ythjbngnihcmedaa.costErr
  rw [hr, h.within (rightL_iff.1 hr).1 hL, h.long]; rfl
theorem LensFor.costS (h : LensFor l out L) : ∀ {U : List Int}, (∀ s ∈ U, s ∈ usedL l) → Go.Proofs.Ythjbngnihcmedaa.costS l out U = costX (U.map fun s => (keyC l s, (atL out s.toNat).toNat))
  | [], _ => rfl
  | s :: U, hU => by
    rw [List.map_cons, Go.Proofs.Ythjbngnihcmedaa.costS, costX, h.costS (fun t ht => hU t (by simp [ht]))]
    obtain ⟨j, rfl, x, hx, h0⟩ := usedL_mem (hU s (by simp))
    obtain ⟨n, h1, h2, h3⟩ := h.pos j x hx h0
    simp only [atL, Int.toNat_natCast, h1, Option.getD_some]
theorem LensFor.costOut (h : LensFor l out L) : costOut l out = costX (pairsU l out) := h.costS (fun s hs => hs)
end

/-! ### Lengths returns the best -/
theorem firstP_srt (l : List Int) : SrtP (firstP l) := by
  unfold SrtP firstP
  rw [List.pairwise_map]
  exact (sortU_spec l).2
theorem firstP_non (l : List Int) : NonP (firstP l) := fun p hp => by
  obtain ⟨s, hs, rfl⟩ := List.mem_map.1 hp
  obtain ⟨j, rfl, x, hx, h0⟩ := sortU_mem hs
  rw [keyC_at hx]; dsimp only; omega
theorem firstP_fst (l : List Int) : (firstP l).map Prod.fst = (sortU l).map (keyC l) := by simp [firstP, List.map_map, Function.comp_def]
theorem cnt_map (l : List Int) (s : Int) : ∀ (U : List Int), cntP (U.map fun s => (keyC l s, [s])) s = U.count s
  | [] => rfl
  | t :: U => by
    rw [List.map_cons, cntP, cnt_map l s U, List.count_cons]
    by_cases h : t = s
    · subst h; simp; omega
    · have : (t == s) = false := by simpa using h
      simp [h, this]
theorem count_take {U : List Int} (hU : U.Nodup) {r : Nat} {s : Int} (h : U[r]? = some s) (a : Nat) : (U.take a).count s = if r < a then 1 else 0 := by
  have hn : (U.take a).Nodup := hU.sublist (List.take_sublist a U)
  by_cases hr : r < a
  · rw [if_pos hr]
    have hm : s ∈ U.take a := List.mem_of_getElem? (i := r) (by rw [List.getElem?_take, if_pos hr]; exact h)
    have h1 := List.nodup_iff_count.1 hn s
    have h2 := List.count_pos_iff.2 hm
    omega
  · rw [if_neg hr, List.count_eq_zero]
    intro hm
    obtain ⟨i, hi⟩ := List.getElem?_of_mem hm
    have hia : i < a := by have := (List.getElem?_eq_some_iff.1 hi).1; simp at this; omega
    rw [List.getElem?_take, if_pos hia] at hi
    obtain ⟨q1, q2⟩ := List.getElem?_eq_some_iff.1 hi
    obtain ⟨p1, p2⟩ := List.getElem?_eq_some_iff.1 h
    have := (List.getElem_inj hU).1 (q2.trans p2.symm)
    omega
theorem cntA_len (l : List Int) {r : Nat} {s : Int} (h : (sortU l)[r]? = some s) : ∀ (av : List Nat), cntA (firstP l) av s = lenA av r
  | [] => rfl
  | a :: av => by
    rw [cntA, cntA_len l h av, lenA_cons]
    congr 1
    unfold firstP
    rw [← List.map_take, cnt_map, count_take (sortU_nodup l) h]
theorem cntA_out (l : List Int) {s : Int} (h : s ∉ usedL l) : ∀ (av : List Nat), cntA (firstP l) av s = 0
  | [] => rfl
  | a :: av => by
    rw [cntA, cntA_out l h av]
    unfold firstP
    rw [← List.map_take, cnt_map, List.count_eq_zero.2 (fun hm => h ((sortU_perm l).mem_iff.2 (List.mem_of_mem_take hm)))]
theorem pairsA_get (av : List Nat) : ∀ (S : PackL) (r i : Nat), (pairsA av S r)[i]? = S[i]?.map fun p => (p.1, lenA av (r + i))
  | [], r, i => by simp [pairsA]
  | p :: S, r, 0 => by simp [pairsA]
  | p :: S, r, i + 1 => by
    simp only [pairsA, List.getElem?_cons_succ]
    rw [pairsA_get av S (r + 1) i, show r + 1 + i = r + (i + 1) by omega]
/-- Lengths: optimal lengths for the histogram. -/
theorem limOut_best {l : List Int} {m : Nat} (hr : rightL l = true) (hm : 1 ≤ m) (h2 : 1 < (usedL l).length) (hle : (usedL l).length ≤ 2 ^ m) :
    LensFor l (limOut l (m : Int)) m ∧ OptL m (wtsU l) (costOut l (limOut l (m : Int))) := by
  have hlen : (firstP l).length = (usedL l).length := firstP_len l
  obtain ⟨av, hc, hF, hk, hO⟩ := pm_best (S := firstP l) hm (firstP_srt l) (firstP_non l) (by omega) (by omega)
  have hO0 := hO
  have hal : av.length = m := by rw [hc.len]; omega
  have hout : limOut l (m : Int) = bumpP (List.replicate l.length 0) ((rowP (firstP l) (m - 1)).take (2 * (firstP l).length - 2)) := by
    rw [limOut, Int.toNat_natCast, hlen]
  have hget : ∀ j, j < l.length → (limOut l (m : Int))[j]? = some ((cntA (firstP l) av (j : Int) : Nat) : Int) := fun j hj => by
    rw [hout, bumpP_get _ _ (fun p hp s hs => by
      obtain ⟨-, -, -, -, h5⟩ := rowB_row hr (m - 1) p (List.mem_of_mem_take hp)
      obtain ⟨i, hi, -⟩ := h5 s hs
      exact ⟨i, hi⟩), hc.cnt, List.getElem?_replicate, if_pos hj]
    simp
  have hlens : ∀ r s, (sortU l)[r]? = some s → ∃ j : Nat, s = (j : Int) ∧ (limOut l (m : Int))[j]? = some ((lenA av r : Nat) : Int) := fun r s hs => by
    obtain ⟨j, rfl, x, hx, h0⟩ := sortU_mem (List.mem_of_getElem? hs)
    refine ⟨j, rfl, ?_⟩
    rw [hget j (List.getElem?_eq_some_iff.1 hx).1, cntA_len l hs]
  have hpairs : ((sortU l).map fun s => (keyC l s, (atL (limOut l (m : Int)) s.toNat).toNat)) = pairsA av (firstP l) 0 := by
    apply List.ext_getElem?
    intro i
    rw [pairsA_get, List.getElem?_map]
    unfold firstP
    rw [List.getElem?_map]
    cases hs : (sortU l)[i]? with
    | none => rfl
    | some s =>
      obtain ⟨j, rfl, hj⟩ := hlens i s hs
      simp only [Option.map_some, atL, Int.toNat_natCast, hj, Option.getD_some, Nat.zero_add]
  have hperm : (pairsU l (limOut l (m : Int))).Perm (pairsA av (firstP l) 0) := by
    rw [← hpairs]
    exact (sortU_perm l).map _
  have hL : LensFor l (limOut l (m : Int)) m := by
    refine ⟨?_, ?_, ?_, ?_⟩
    · rw [hout, bumpP_len, List.length_replicate]
    · intro j x hx h0
      rw [hget j (List.getElem?_eq_some_iff.1 hx).1, cntA_out l (fun hm => ?_)]
      · rfl
      · obtain ⟨i, hi, y, hy, hy0⟩ := usedL_mem hm
        obtain rfl : j = i := by omega
        rw [hx] at hy
        have := Option.some.inj hy
        omega
    · intro j x hx h0
      have hin := (sortU_perm l).mem_iff.1 (usedL_in hx h0)
      obtain ⟨r, hrr⟩ := List.getElem?_of_mem hin
      obtain ⟨i, hi, hg⟩ := hlens r _ hrr
      obtain rfl : j = i := by omega
      refine ⟨lenA av r, hg, ?_⟩
      have hp : ((keyC l (j : Int)), lenA av r) ∈ pairsA av (firstP l) 0 := List.mem_of_getElem? (i := r) (by
        rw [pairsA_get]
        unfold firstP
        rw [List.getElem?_map, hrr, Nat.zero_add]; rfl)
      exact hF.1 _ hp
    · rw [kraftX_perm hperm]; exact hk
  refine ⟨hL, ?_⟩
  rw [hL.costOut, costX_perm hperm]
  refine hO.perm ?_
  rw [firstP_fst]
  exact ((sortU_perm l).map _).symm
end

end Go.Proofs.Ythjbngnihcmedaa
