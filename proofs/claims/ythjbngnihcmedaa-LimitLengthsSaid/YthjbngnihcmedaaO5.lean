/-
  Huffman's merging in plain words: its lengths are optimal, complete and at most 60. No program is in sight here.
  What Unlimited returns is optimal; more frequent symbols have no longer code words. No program is in sight here.
-/
import Derived.Test.YthjbngnihcmedaaO3
namespace Go.Proofs.Ythjbngnihcmedaa
section
set_option linter.unusedVariables false
set_option linter.unusedSimpArgs false

/-! ### Weights alone -/
def insW (x : Int) : List Int → List Int
  | [] => [x]
  | y :: r => if y < x then y :: insW x r else x :: y :: r
/-- The sum of all merged weights. -/
def refH : Nat → List Int → Int
  | k + 1, a :: b :: r => (a + b) + refH k (insW (a + b) r)
  | _, _ => 0
theorem insW_perm (x : Int) : ∀ r : List Int, (insW x r).Perm (x :: r)
  | [] => List.Perm.refl _
  | y :: r => by
    unfold insW
    split
    · exact ((insW_perm x r).cons y).trans (List.Perm.swap x y r)
    · exact List.Perm.refl _
def SrtI (l : List Int) : Prop := l.Pairwise (fun a b => a ≤ b)
theorem insW_srt {x : Int} : ∀ {r : List Int}, SrtI r → SrtI (insW x r)
  | [], _ => by simp [insW, SrtI]
  | y :: r, h => by
    have h2 := List.pairwise_cons.1 h
    unfold insW
    split
    · rename_i hlt
      refine List.pairwise_cons.2 ⟨fun z hz => ?_, insW_srt h2.2⟩
      rcases List.mem_cons.1 ((insW_perm x r).mem_iff.1 hz) with rfl | hz
      · omega
      · exact h2.1 z hz
    · rename_i hge
      refine List.pairwise_cons.2 ⟨fun z hz => ?_, h⟩
      rcases List.mem_cons.1 hz with rfl | hz
      · omega
      · have := h2.1 z hz; omega
theorem insW_len (x : Int) (r : List Int) : (insW x r).length = r.length + 1 := (insW_perm x r).length_eq

/-! ### The lower bound -/
theorem longest : ∀ {X : PairL}, X ≠ [] → ∃ q ∈ X, ∀ p ∈ X, p.2 ≤ q.2
  | [], h => absurd rfl h
  | [p], _ => ⟨p, by simp, fun r hr => by have := List.mem_singleton.1 hr; subst this; exact Nat.le_refl _⟩
  | p :: r :: X, _ => by
    obtain ⟨q, hq, hm⟩ := longest (X := r :: X) (by simp)
    by_cases h : p.2 ≤ q.2
    · refine ⟨q, List.mem_cons_of_mem _ hq, fun u hu => ?_⟩
      rcases List.mem_cons.1 hu with rfl | hu
      · exact h
      · exact hm u hu
    · refine ⟨p, by simp, fun u hu => ?_⟩
      rcases List.mem_cons.1 hu with rfl | hu
      · exact Nat.le_refl _
      · have := hm u hu; omega
/-- The least weight may take the greatest length. -/
theorem pick {M : Nat} {X : PairL} {v : Int} {W : List Int} (hX : (X.map Prod.fst).Perm (v :: W)) (hv : ∀ w ∈ W, v ≤ w) :
    ∃ (m : Nat) (Y : PairL), (Y.map Prod.fst).Perm W ∧ costX ((v, m) :: Y) ≤ costX X ∧ kraftX M ((v, m) :: Y) = kraftX M X ∧ (∀ p ∈ Y, p.2 ≤ m) ∧ ∃ q ∈ X, q.2 = m := by
  have hne : X ≠ [] := fun h => by subst h; have := hX.length_eq; simp at this
  obtain ⟨q, hq, hm⟩ := longest hne
  obtain ⟨p, hp, hpv⟩ := List.mem_map.1 (hX.mem_iff.2 (List.mem_cons_self (a := v) (l := W)))
  have e := List.perm_cons_erase hp
  by_cases hpq : p = q
  · subst hpq
    have h1 : ((X.erase p).map Prod.fst).Perm W := by
      have := (e.symm.map Prod.fst).trans hX
      rw [List.map_cons, hpv] at this
      exact (List.perm_cons _).1 this
    have h2 : (v, p.2) = p := by rw [← hpv]
    refine ⟨p.2, X.erase p, h1, ?_, ?_, fun r hr => hm r (List.mem_of_mem_erase hr), p, hp, rfl⟩
    · rw [h2, ← costX_perm e]; exact Int.le_refl _
    · rw [h2, ← kraftX_perm e]
  · have hq1 : q ∈ X.erase p := by
      have := e.mem_iff.1 hq
      rcases List.mem_cons.1 this with h | h
      · exact absurd h.symm hpq
      · exact h
    have e2 := List.perm_cons_erase hq1
    have e3 : X.Perm (p :: q :: (X.erase p).erase q) := e.trans (e2.cons p)
    have h1 : ((((q.1, p.2) : Int × Nat) :: (X.erase p).erase q).map Prod.fst).Perm W := by
      have := (e3.symm.map Prod.fst).trans hX
      rw [List.map_cons, List.map_cons, hpv] at this
      rw [List.map_cons]
      exact (List.perm_cons _).1 this
    have hvq : v ≤ q.1 := hv _ (h1.mem_iff.1 (by simp))
    have hlen := hm p hp
    refine ⟨q.2, (q.1, p.2) :: (X.erase p).erase q, h1, ?_, ?_, ?_, q, hq, rfl⟩
    · rw [costX_perm e3]
      simp only [costX, hpv]
      have h5 : 0 ≤ (q.1 - v) * ((q.2 : Int) - (p.2 : Int)) := Int.mul_nonneg (by omega) (by omega)
      rw [Int.sub_mul, Int.mul_sub, Int.mul_sub] at h5
      omega
    · rw [kraftX_perm e3]
      simp only [kraftX]; omega
    · intro r hr
      rcases List.mem_cons.1 hr with rfl | hr
      · exact hlen
      · exact hm r (List.mem_of_mem_erase (List.mem_of_mem_erase hr))
theorem huf_low {M : Nat} : ∀ (k : Nat) {W : List Int} {X : PairL}, SrtI W → (∀ w ∈ W, 0 ≤ w) → (X.map Prod.fst).Perm W → (∀ p ∈ X, p.2 ≤ M) → kraftX M X ≤ 2 ^ M → refH k W ≤ costX X := by
  have hnon : ∀ {X : PairL} {W : List Int}, (∀ w ∈ W, 0 ≤ w) → (X.map Prod.fst).Perm W → 0 ≤ costX X := by
    intro X W h hp
    have h2 : ∀ p ∈ X, 0 ≤ p.1 := fun p hm => h _ (hp.mem_iff.1 (List.mem_map.2 ⟨p, hm, rfl⟩))
    clear hp h
    induction X with
    | nil => exact Int.le_refl _
    | cons p X ih =>
      have := ih (fun q hq => h2 q (by simp [hq]))
      have h3 := Int.mul_nonneg (h2 p (by simp)) (Int.natCast_nonneg p.2)
      simp only [costX]; omega
  intro k
  induction k with
  | zero => intro W X _ h0 hp _ _; exact hnon h0 hp
  | succ k ih =>
    intro W X hS h0 hp hb hk
    match W, hS, h0, hp with
    | [], _, h0, hp => exact hnon h0 hp
    | [w], _, h0, hp => exact hnon h0 hp
    | a :: b :: r, hS, h0, hp =>
      have hS1 := List.pairwise_cons.1 hS
      have hS2 := List.pairwise_cons.1 hS1.2
      obtain ⟨m1, Y, y1, y2, y3, y4, q1, hq1, e1⟩ := pick (M := M) hp hS1.1
      obtain ⟨m2, Z, z1, z2, z3, z4, q2, hq2, e2⟩ := pick (M := M) y1 hS2.1
      have hm1 : m1 ≤ M := by rw [← e1]; exact hb q1 hq1
      have hm2 : m2 ≤ m1 := by rw [← e2]; exact y4 q2 hq2
      have ha := h0 a (by simp)
      have hb0 := h0 b (by simp)
      have hKZ := kraftX_scale (M := m2) (M' := M) (by omega) z4
      have hkr : 2 ^ (M - m2) * 2 + kraftX M Z ≤ 2 ^ M ∧ 1 ≤ m2 := by
        have h1 : kraftX M X = 2 ^ (M - m1) + (2 ^ (M - m2) + kraftX M Z) := by rw [← y3, kraftX, ← z3, kraftX]
        rw [h1] at hk
        have e3 : 2 ^ M = 2 ^ (M - m2) * 2 ^ m2 := by rw [← Nat.pow_add]; congr 1; omega
        rw [hKZ, e3] at hk ⊢
        have hpos := Nat.two_pow_pos (M - m1)
        have h4 : 2 ^ (M - m2) * (1 + kraftX m2 Z) < 2 ^ (M - m2) * 2 ^ m2 := by rw [Nat.mul_add]; omega
        have h5 := Nat.lt_of_mul_lt_mul_left h4
        have h6 : 2 ^ (M - m2) * (2 + kraftX m2 Z) ≤ 2 ^ (M - m2) * 2 ^ m2 := Nat.mul_le_mul_left _ (by omega)
        rw [Nat.mul_add] at h6
        refine ⟨h6, ?_⟩
        cases m2 with
        | zero => simp at h5
        | succ n => omega
      have hI := ih (W := insW (a + b) r) (X := (a + b, m2 - 1) :: Z) (insW_srt hS2.2) (fun w hw => by
          rcases List.mem_cons.1 ((insW_perm (a + b) r).mem_iff.1 hw) with rfl | hw
          · omega
          · exact h0 w (by simp [hw])) (by
          rw [List.map_cons]
          exact (z1.cons _).trans (insW_perm (a + b) r).symm) (fun p hp => by
          rcases List.mem_cons.1 hp with rfl | hp
          · dsimp only; omega
          · have := z4 p hp; omega) (by
          simp only [kraftX]
          rw [show M - (m2 - 1) = (M - m2) + 1 by omega, Nat.pow_succ]
          exact hkr.1)
      show (a + b) + refH k (insW (a + b) r) ≤ _
      simp only [costX] at y2 z2 hI
      have h7 : a * (m2 : Int) ≤ a * (m1 : Int) := Int.mul_le_mul_of_nonneg_left (by omega) ha
      have h8 : (a + b) * ((m2 - 1 : Nat) : Int) = a * (m2 : Int) + b * (m2 : Int) - (a + b) := by
        rw [Int.natCast_sub hkr.2, Int.mul_sub, Int.add_mul]; omega
      rw [h8] at hI
      omega

/-! ### The tree -/
def fib : Nat → Nat × Nat
  | 0 => (0, 1)
  | n + 1 => ((fib n).2, (fib n).1 + (fib n).2)
theorem fib_mono {m n : Nat} (h : m ≤ n) : (fib m).2 ≤ (fib n).2 := by
  induction n with
  | zero => obtain rfl : m = 0 := by omega
            exact Nat.le_refl _
  | succ n ih =>
    rcases Nat.eq_or_lt_of_le h with rfl | h
    · exact Nat.le_refl _
    · have := ih (by omega)
      simp only [fib]; omega
abbrev TreeL := List ((Int × List Int) × Nat)
def kraftD (M : Nat) : TreeL → Nat
  | [] => 0
  | x :: r => 2 ^ (M - x.2) + kraftD M r
def costD : TreeL → Int
  | [] => 0
  | x :: r => x.1.1 * (x.2 : Int) + costD r
def depthD (j : Int) : TreeL → Nat
  | [] => 0
  | x :: r => x.1.2.count j * x.2 + depthD j r
theorem kraftD_perm {M : Nat} {X Y : TreeL} (h : X.Perm Y) : kraftD M X = kraftD M Y := by
  induction h with
  | nil => rfl
  | cons x _ ih => simp only [kraftD, ih]
  | swap x y l => simp only [kraftD]; omega
  | trans _ _ h1 h2 => rw [h1, h2]
theorem costD_perm {X Y : TreeL} (h : X.Perm Y) : costD X = costD Y := by
  induction h with
  | nil => rfl
  | cons x _ ih => simp only [costD, ih]
  | swap x y l => simp only [costD]; omega
  | trans _ _ h1 h2 => rw [h1, h2]
theorem depthD_perm {j : Int} {X Y : TreeL} (h : X.Perm Y) : depthD j X = depthD j Y := by
  induction h with
  | nil => rfl
  | cons x _ ih => simp only [depthD, ih]
  | swap x y l => simp only [depthD]; omega
  | trans _ _ h1 h2 => rw [h1, h2]
theorem merged_perm : ∀ (a b : PackL), (mergedP a b).Perm (a ++ b)
  | [], b => by simp [mergedP]
  | x :: a, [] => by rw [mergedP_nil]; simp
  | x :: a, y :: b => by
    by_cases h : x.1 ≤ y.1
    · rw [mergedP_left h]
      exact (merged_perm a (y :: b)).cons x
    · rw [mergedP_right h]
      exact ((merged_perm (x :: a) b).cons y).trans List.perm_middle.symm
def hufC : Nat → PackL → Int
  | k + 1, a :: b :: r => (a.1 + b.1) + hufC k (mergedP r [(a.1 + b.1, a.2 ++ b.2)])
  | _, _ => 0
structure Tree (k : Nat) (L : PackL) (out : List Int) (D : TreeL) : Prop where
  of : (D.map Prod.fst).Perm L
  full : ∀ M, (∀ x ∈ D, x.2 ≤ M) → kraftD M D = 2 ^ M
  get : ∀ j : Nat, (hufP k L out)[j]? = out[j]?.map (· + ((depthD (j : Int) D : Nat) : Int))
  cost : hufC k L = costD D
  fibs : ∀ m : Int, (∀ q ∈ L, m ≤ q.1) → ∀ x ∈ D, (((fib x.2).2 : Nat) : Int) * x.1.1 + (((fib x.2).1 : Nat) : Int) * m ≤ sumW L
theorem tree_one (k : Nat) (p : Int × List Int) (out : List Int) (h1 : hufP k [p] out = out) (h2 : hufC k [p] = 0) : Tree k [p] out [(p, 0)] := by
  refine ⟨by simp, fun M _ => by simp [kraftD], fun j => ?_, by rw [h2]; simp [costD], fun m _ x hx => ?_⟩
  · rw [h1]; simp [depthD]
  · have := List.mem_singleton.1 hx
    subst this
    simp [fib, sumW]
theorem huf_tree : ∀ (k : Nat) (L : PackL) (out : List Int), L ≠ [] → L.length ≤ k + 1 → SrtP L → NonP L → (∀ p ∈ L, ∀ s ∈ p.2, ∃ i : Nat, s = (i : Int)) → ∃ D, Tree k L out D := by
  intro k
  induction k with
  | zero =>
    intro L out hne hl _ _ _
    match L, hne, hl with
    | [p], _, _ => exact ⟨_, tree_one 0 p out rfl rfl⟩
    | p :: q :: r, _, hl => simp at hl
  | succ k ih =>
    intro L out hne hl hS h0 hs
    match L, hne, hl, hS, h0, hs with
    | [p], _, _, _, _, _ => exact ⟨_, tree_one (k + 1) p out rfl rfl⟩
    | a :: b :: r, _, hl, hS, h0, hs =>
      have hS1 := List.pairwise_cons.1 hS
      have hS2 := List.pairwise_cons.1 hS1.2
      have ha := h0 a (by simp)
      have hb := h0 b (by simp)
      have hab := hS1.1 b (by simp)
      obtain ⟨c, hc⟩ : ∃ c : Int × List Int, c = (a.1 + b.1, a.2 ++ b.2) := ⟨_, rfl⟩
      have hmp := merged_perm r [c]
      have hmp2 : (mergedP r [c]).Perm (c :: r) := hmp.trans (List.perm_append_singleton c r)
      obtain ⟨D', hD⟩ := ih (mergedP r [c]) (bumps out (a.2 ++ b.2)) (fun h => by have := hmp2.length_eq; rw [h] at this; simp at this)
        (by rw [hmp2.length_eq]; simp at hl ⊢; omega) (merged_srt hS2.2 (List.pairwise_singleton _ _))
        (fun p hp => by
          rcases List.mem_cons.1 (hmp2.mem_iff.1 hp) with rfl | hp
          · rw [hc]; dsimp only; omega
          · exact h0 p (by simp [hp]))
        (fun p hp => by
          rcases List.mem_cons.1 (hmp2.mem_iff.1 hp) with rfl | hp
          · rw [hc]
            intro s hs2
            rcases List.mem_append.1 hs2 with hs2 | hs2
            · exact hs a (by simp) s hs2
            · exact hs b (by simp) s hs2
          · exact hs p (by simp [hp]))
      have hof := hD.of.trans hmp2
      obtain ⟨x, hxD, hxc⟩ := List.mem_map.1 (hof.mem_iff.2 (List.mem_cons_self (a := c) (l := r)))
      obtain ⟨⟨xw, xs⟩, d⟩ := x
      dsimp only at hxc
      subst hxc
      have e := List.perm_cons_erase hxD
      have hr : ((D'.erase ((xw, xs), d)).map Prod.fst).Perm r := by
        have := (e.symm.map Prod.fst).trans hof
        rw [List.map_cons] at this
        exact (List.perm_cons _).1 this
      obtain ⟨D2, hD2⟩ : ∃ D2, D2 = D'.erase ((xw, xs), d) := ⟨_, rfl⟩
      rw [← hD2] at e hr
      injection hc with hw hsy
      refine ⟨(a, d + 1) :: (b, d + 1) :: D2, ?_, ?_, ?_, ?_, ?_⟩
      · simp only [List.map_cons]
        exact (hr.cons b).cons a
      · intro M hM
        have h1 := hM (a, d + 1) (by simp)
        dsimp only at h1
        have h2 := hD.full M (fun x hx => by
          rcases List.mem_cons.1 (e.mem_iff.1 hx) with rfl | hx
          · dsimp only; omega
          · exact hM x (by simp [hx]))
        rw [kraftD_perm e, kraftD] at h2
        dsimp only at h2
        rw [← h2]
        simp only [kraftD]
        rw [show M - d = (M - (d + 1)) + 1 by omega, Nat.pow_succ]; omega
      · intro j
        show (hufP k (mergedP r [(a.1 + b.1, a.2 ++ b.2)]) (bumps out (a.2 ++ b.2)))[j]? = _
        have hg := hD.get j
        rw [← hsy] at hg
        rw [← hw, ← hsy, hg, depthD_perm e, bumps_get out j (fun s hs2 => by
          rw [hsy] at hs2
          rcases List.mem_append.1 hs2 with hs2 | hs2
          · exact hs a (by simp) s hs2
          · exact hs b (by simp) s hs2)]
        cases out[j]? with
        | none => rfl
        | some y =>
          simp only [Option.map_some, depthD, hsy, List.count_append]
          congr 1
          simp only [Nat.mul_add, Nat.add_mul, Nat.mul_one]
          omega
      · show (a.1 + b.1) + hufC k (mergedP r [(a.1 + b.1, a.2 ++ b.2)]) = _
        rw [← hw, ← hsy, hD.cost, costD_perm e]
        simp only [costD]
        rw [hw, Int.natCast_add, Int.mul_add, Int.mul_add, Int.add_mul]
        simp; omega
      · intro m hm x hx
        have hT : sumW (mergedP r [(xw, xs)]) = sumW (a :: b :: r) := by
          rw [sumW_perm hmp2]; simp only [sumW]; omega
        have hma := hm a (by simp)
        have hF := hD.fibs b.1 (fun q hq => by
          rcases List.mem_cons.1 (hmp2.mem_iff.1 hq) with rfl | hq
          · dsimp only; omega
          · exact hS2.1 q hq)
        rw [hT] at hF
        have q1 : ∀ (n : Nat) {u v : Int}, u ≤ v → (n : Int) * u ≤ (n : Int) * v := fun n _ _ h => Int.mul_le_mul_of_nonneg_left h (Int.natCast_nonneg n)
        rcases List.mem_cons.1 hx with rfl | hx
        · have h3 := hF _ hxD
          dsimp only at h3 ⊢
          simp only [fib]
          rw [hw, Int.mul_add] at h3
          rw [Int.natCast_add, Int.add_mul]
          have := q1 (fib d).1 hab
          have := q1 (fib d).2 (show m ≤ b.1 by omega)
          omega
        · rcases List.mem_cons.1 hx with rfl | hx
          · have h3 := hF _ hxD
            dsimp only at h3 ⊢
            simp only [fib]
            rw [hw, Int.mul_add] at h3
            rw [Int.natCast_add, Int.add_mul]
            have := q1 (fib d).2 hma
            omega
          · have h3 := hF x (e.mem_iff.2 (by simp [hx]))
            have := q1 (fib x.2).1 (show m ≤ b.1 by omega)
            omega
end

section
set_option linter.unusedVariables false
set_option linter.unusedSimpArgs false

theorem merged_ins (c : Int × List Int) : ∀ {r : PackL}, SrtP r → (mergedP r [c]).map Prod.fst = insW c.1 (r.map Prod.fst)
  | [], _ => rfl
  | a :: r, h => by
    have h2 := List.pairwise_cons.1 h
    have ih := merged_ins c h2.2
    simp only [List.map_cons, insW]
    by_cases h1 : a.1 ≤ c.1
    · rw [mergedP_left h1, List.map_cons, ih]
      by_cases h3 : a.1 < c.1
      · rw [if_pos h3]
      · have e : a.1 = c.1 := by omega
        rw [if_neg h3, e]
        congr 1
        cases r with
        | nil => simp [insW, e]
        | cons z r =>
          have := h2.1 z (by simp)
          simp only [List.map_cons, insW]
          rw [if_neg (by omega)]
    · rw [mergedP_right h1, mergedP_nil, if_neg (by omega)]
      rfl
theorem hufC_ref : ∀ (k : Nat) {L : PackL}, SrtP L → hufC k L = refH k (L.map Prod.fst)
  | 0, L, _ => by
    match L with
    | [] => rfl
    | [a] => rfl
    | a :: b :: r => rfl
  | k + 1, [], _ => rfl
  | k + 1, [a], _ => rfl
  | k + 1, a :: b :: r, h => by
    have h1 := List.pairwise_cons.1 h
    have h2 := List.pairwise_cons.1 h1.2
    show (a.1 + b.1) + hufC k (mergedP r [(a.1 + b.1, a.2 ++ b.2)]) = (a.1 + b.1) + refH k (insW (a.1 + b.1) (r.map Prod.fst))
    rw [hufC_ref k (merged_srt h2.2 (List.pairwise_singleton _ _)), merged_ins _ h2.2]

def flatD (D : TreeL) : PairL := D.map fun x => (x.1.1, x.2)
theorem kraft_flat (M : Nat) : ∀ D : TreeL, kraftX M (flatD D) = kraftD M D
  | [] => rfl
  | x :: D => by
    have := kraft_flat M D
    unfold flatD at this ⊢
    rw [List.map_cons, kraftX, kraftD, this]
theorem cost_flat : ∀ D : TreeL, costX (flatD D) = costD D
  | [] => rfl
  | x :: D => by
    have := cost_flat D
    unfold flatD at this ⊢
    rw [List.map_cons, costX, costD, this]
theorem depth_none {j : Int} : ∀ {D : TreeL}, (∀ x ∈ D, j ∉ x.1.2) → depthD j D = 0
  | [], _ => rfl
  | x :: D, h => by
    rw [depthD, depth_none (fun y hy => h y (by simp [hy])), List.count_eq_zero.2 (h x (by simp))]
    simp
theorem firstP_nodup (l : List Int) : (firstP l).Nodup := by
  unfold firstP List.Nodup
  rw [List.pairwise_map]
  exact (sortU_nodup l).imp (fun h e => h (by simpa using (Prod.mk.inj e).2))

theorem fib61 : 549755813888 < (fib 61).2 := by decide

theorem freeOut_best {l : List Int} (hr : rightL l = true) (h2 : 1 < (usedL l).length) :
    LensFor l (freeOut l) 60 ∧ costOut l (freeOut l) = refH (usedL l).length ((sortU l).map (keyC l)) ∧
      ∀ (X : PairL) (M : Nat), (X.map Prod.fst).Perm (wtsU l) → (∀ p ∈ X, p.2 ≤ M) → kraftX M X ≤ 2 ^ M → costOut l (freeOut l) ≤ costX X := by
  have hlen : (firstP l).length = (usedL l).length := firstP_len l
  have hsym : ∀ p ∈ firstP l, ∃ j : Nat, (j : Int) ∈ usedL l ∧ p = (keyC l (j : Int), [(j : Int)]) ∧ 1 ≤ p.1 := fun p hp => by
    obtain ⟨s, hs, rfl⟩ := List.mem_map.1 hp
    have hs2 := (sortU_perm l).mem_iff.2 hs
    obtain ⟨j, rfl, x, hx, h0⟩ := usedL_mem hs2
    refine ⟨j, hs2, rfl, ?_⟩
    rw [keyC_at hx]; dsimp only; omega
  obtain ⟨D, hD⟩ := huf_tree (usedL l).length (firstP l) (List.replicate l.length 0) (fun h => by rw [h] at hlen; simp at hlen; omega) (by omega) (firstP_srt l) (firstP_non l)
    (fun p hp s hs => by
      obtain ⟨j, -, rfl, -⟩ := hsym p hp
      have := List.mem_singleton.1 hs
      exact ⟨j, this⟩)
  have hDmem : ∀ x ∈ D, x.1 ∈ firstP l := fun x hx => hD.of.mem_iff.1 (List.mem_map.2 ⟨x, hx, rfl⟩)
  have hD60 : ∀ x ∈ D, x.2 ≤ 60 := fun x hx => by
    by_cases h : x.2 ≤ 60
    · exact h
    · exfalso
      have h1 := hD.fibs 0 (fun q hq => firstP_non l q hq) x hx
      obtain ⟨j, -, -, hw⟩ := hsym x.1 (hDmem x hx)
      have h3 := (hufB_first hr).w
      have h4 := fib_mono (show 61 ≤ x.2 by omega)
      have h5 := fib61
      have h6 : (((fib x.2).2 : Nat) : Int) * 1 ≤ (((fib x.2).2 : Nat) : Int) * x.1.1 := Int.mul_le_mul_of_nonneg_left hw (Int.natCast_nonneg _)
      simp only [Int.mul_zero, Int.add_zero] at h1
      omega
  have hget : ∀ j, j < l.length → (freeOut l)[j]? = some ((depthD (j : Int) D : Nat) : Int) := fun j hj => by
    unfold freeOut
    rw [hD.get j, List.getElem?_replicate, if_pos hj]
    simp
  have hdep : ∀ x ∈ D, ∀ j : Nat, x.1 = (keyC l (j : Int), [(j : Int)]) → depthD (j : Int) D = x.2 := fun x hx j hj => by
    have e := List.perm_cons_erase hx
    have hn : (x.1 :: (D.erase x).map Prod.fst).Nodup := by
      have h1 := (e.map Prod.fst).symm.trans hD.of
      rw [List.map_cons] at h1
      exact h1.nodup_iff.2 (firstP_nodup l)
    rw [depthD_perm e, depthD, depth_none (fun y hy hm => ?_), hj]
    · simp
    · obtain ⟨i, -, hy2, -⟩ := hsym y.1 (hDmem y (List.mem_of_mem_erase hy))
      rw [hy2] at hm
      have := List.mem_singleton.1 hm
      rw [← this] at hy2
      refine (List.nodup_cons.1 hn).1 ?_
      rw [hj, ← hy2]
      exact List.mem_map.2 ⟨y, hy, rfl⟩
  have hused : ∀ j : Nat, (j : Int) ∈ usedL l → ∃ x ∈ D, x.1 = (keyC l (j : Int), [(j : Int)]) := fun j hj => by
    have h1 : (keyC l (j : Int), [(j : Int)]) ∈ firstP l := List.mem_map.2 ⟨(j : Int), (sortU_perm l).mem_iff.1 hj, rfl⟩
    obtain ⟨x, hx, hxe⟩ := List.mem_map.1 (hD.of.mem_iff.2 h1)
    exact ⟨x, hx, hxe⟩
  have hperm : (pairsU l (freeOut l)).Perm (flatD D) := by
    have h1 : D = (D.map Prod.fst).map fun p => (p, depthD (p.2.headD 0) D) := by
      rw [List.map_map]
      conv => lhs; rw [← List.map_id D]
      refine List.map_congr_left fun x hx => ?_
      obtain ⟨j, -, hj, -⟩ := hsym x.1 (hDmem x hx)
      have h3 := hdep x hx j hj
      simp only [Function.comp, id]
      rw [hj]
      simp only [List.headD_cons]
      rw [h3, ← hj]
    have h2 : D.Perm ((sortU l).map fun s => ((keyC l s, [s]), depthD s D)) := by
      have h3 := (hD.of.map fun p => (p, depthD (p.2.headD 0) D))
      rw [← h1] at h3
      refine h3.trans ?_
      unfold firstP
      rw [List.map_map]
      exact List.Perm.refl _
    have h4 : (flatD D).Perm ((sortU l).map fun s => (keyC l s, depthD s D)) := by
      have := h2.map fun x : (Int × List Int) × Nat => (x.1.1, x.2)
      rw [List.map_map] at this
      exact this
    have h5 : pairsU l (freeOut l) = (usedL l).map fun s => (keyC l s, depthD s D) := by
      unfold pairsU
      refine List.map_congr_left fun s hs => ?_
      obtain ⟨j, rfl, x, hx, h0⟩ := usedL_mem hs
      rw [Int.toNat_natCast]
      unfold atL
      rw [hget j (List.getElem?_eq_some_iff.1 hx).1]
      simp
    rw [h5]
    exact ((sortU_perm l).map _).trans h4.symm
  have hk : kraftX 60 (pairsU l (freeOut l)) = 2 ^ 60 := by rw [kraftX_perm hperm, kraft_flat, hD.full 60 hD60]
  have hplen : (pairsU l (freeOut l)).length = (usedL l).length := by simp [pairsU]
  have hL : LensFor l (freeOut l) 60 := by
    refine ⟨?_, ?_, ?_, hk⟩
    · have h1 : ∀ (k : Nat) (L : PackL) (o : List Int), (hufP k L o).length = o.length := by
        intro k
        induction k with
        | zero => intro L o; match L with
          | [] => rfl
          | [a] => rfl
          | a :: b :: r => rfl
        | succ k ih => intro L o; match L with
          | [] => rfl
          | [a] => rfl
          | a :: b :: r => rw [hufP_step, ih, bumps_len]
      unfold freeOut
      rw [h1, List.length_replicate]
    · intro j x hx h0
      rw [hget j (List.getElem?_eq_some_iff.1 hx).1, depth_none (fun y hy hm => ?_)]
      · rfl
      · obtain ⟨i, hi, hy2, -⟩ := hsym y.1 (hDmem y hy)
        rw [hy2] at hm
        have := List.mem_singleton.1 hm
        obtain ⟨q, hq, z, hz, hz0⟩ := usedL_mem hi
        obtain rfl : j = q := by omega
        rw [hx] at hz
        have := Option.some.inj hz
        omega
    · intro j x hx h0
      have hin := usedL_in hx h0
      obtain ⟨y, hy, hye⟩ := hused j hin
      have hd := hdep y hy j hye
      refine ⟨depthD (j : Int) D, hget j (List.getElem?_eq_some_iff.1 hx).1, ?_, by rw [hd]; exact hD60 y hy⟩
      have hp : (keyC l (j : Int), depthD (j : Int) D) ∈ pairsU l (freeOut l) := by
        refine List.mem_map.2 ⟨(j : Int), hin, ?_⟩
        rw [Int.toNat_natCast]
        unfold atL
        rw [hget j (List.getElem?_eq_some_iff.1 hx).1]
        simp
      exact pairs_pos (by omega) (Nat.le_of_eq hk) _ hp
  have hcost : costOut l (freeOut l) = refH (usedL l).length ((sortU l).map (keyC l)) := by
    rw [hL.costOut, costX_perm hperm, cost_flat, ← hD.cost, hufC_ref _ (firstP_srt l), firstP_fst]
  refine ⟨hL, hcost, fun X M hX hM hkX => ?_⟩
  rw [hcost]
  refine huf_low (M := M) _ ?_ ?_ (hX.trans ((sortU_perm l).map _)) hM hkX
  · unfold SrtI
    rw [List.pairwise_map]
    exact (sortU_spec l).2
  · intro w hw
    obtain ⟨s, hs, rfl⟩ := List.mem_map.1 hw
    obtain ⟨j, rfl, x, hx, h0⟩ := sortU_mem hs
    rw [keyC_at hx]; omega

/-- More frequent symbols have no longer code words. -/
theorem best_mono {l out : List Int} {L : Nat} (h : LensFor l out L) (hb : ∀ X : PairL, (X.map Prod.fst).Perm (wtsU l) → Feas L X → costOut l out ≤ costX X)
    {a b : Nat} {x y : Int} (ha : l[a]? = some x) (hy : l[b]? = some y) (hxy : y < x) (h0 : 0 < y) : atL out a ≤ atL out b := by
  obtain ⟨p, hp, hp1, hp2⟩ := h.pos a x ha (by omega)
  obtain ⟨q, hq, hq1, hq2⟩ := h.pos b y hy h0
  have ea : atL out a = (p : Int) := by simp [atL, hp]
  have eb : atL out b = (q : Int) := by simp [atL, hq]
  rw [ea, eb]
  by_cases hle : p ≤ q
  · omega
  · exfalso
    have hina := usedL_in ha (by omega)
    have hinb := usedL_in hy h0
    have e1 := List.perm_cons_erase hina
    have hinb1 : (b : Int) ∈ (usedL l).erase (a : Int) := by
      rcases List.mem_cons.1 (e1.mem_iff.1 hinb) with h1 | h1
      · have hab : b = a := by omega
        subst hab
        rw [ha] at hy
        have := Option.some.inj hy
        omega
      · exact h1
    have e2 := List.perm_cons_erase hinb1
    have e3 := e1.trans (e2.cons _)
    obtain ⟨R, hR⟩ : ∃ R, R = ((usedL l).erase (a : Int)).erase (b : Int) := ⟨_, rfl⟩
    rw [← hR] at e3
    have f1 : (pairsU l out).Perm ((x, p) :: (y, q) :: R.map fun s => (keyC l s, (atL out s.toNat).toNat)) := by
      have := e3.map fun s => (keyC l s, (atL out s.toNat).toNat)
      simp only [List.map_cons, Int.toNat_natCast, keyC_at ha, keyC_at hy, ea, eb] at this
      exact this
    obtain ⟨Z, hZ⟩ : ∃ Z, Z = R.map fun s => (keyC l s, (atL out s.toNat).toNat) := ⟨_, rfl⟩
    rw [← hZ] at f1
    have hF := h.feas
    have g1 : (((x, q) :: (y, p) :: Z : PairL).map Prod.fst).Perm (wtsU l) := by
      rw [← pairsU_fst l out]
      have := f1.map Prod.fst
      simp only [List.map_cons] at this ⊢
      exact this.symm
    have g2 : Feas L ((x, q) :: (y, p) :: Z) := by
      refine ⟨fun r hr => ?_, ?_⟩
      · rcases List.mem_cons.1 hr with rfl | hr
        · exact ⟨hq1, hq2⟩
        · rcases List.mem_cons.1 hr with rfl | hr
          · exact ⟨hp1, hp2⟩
          · exact hF.1 r (f1.mem_iff.2 (by simp [hr]))
      · have := hF.2
        rw [kraftX_perm f1] at this
        simp only [kraftX] at this ⊢
        omega
    have g3 := hb _ g1 g2
    rw [h.costOut, costX_perm f1] at g3
    simp only [costX] at g3
    have g4 : 0 < (x - y) * ((p : Int) - (q : Int)) := Int.mul_pos (by omega) (by omega)
    rw [Int.sub_mul, Int.mul_sub, Int.mul_sub] at g4
    omega
end

end Go.Proofs.Ythjbngnihcmedaa
