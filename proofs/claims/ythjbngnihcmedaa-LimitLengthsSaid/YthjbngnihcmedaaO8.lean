/-
  The reference's dynamic programming in plain words. No program is in sight here.
-/
import Derived.Test.YthjbngnihcmedaaO6
namespace Go.Proofs.Ythjbngnihcmedaa
set_option linter.unusedVariables false
set_option linter.unusedSimpArgs false

def LensB (m : Nat) (X : PairL) : Prop := ∀ p ∈ X, 1 ≤ p.2 ∧ p.2 ≤ m
/-- b: the least cost of lengths for V whose sum of Kraft is i, or -1. -/
def Best (m : Nat) (V : List Int) (i : Nat) (b : Int) : Prop :=
  (b = -1 ∧ ∀ X : PairL, X.map Prod.fst = V → LensB m X → kraftX m X ≠ i) ∨
  (0 ≤ b ∧ (∃ X : PairL, X.map Prod.fst = V ∧ LensB m X ∧ kraftX m X = i ∧ costX X = b) ∧ ∀ X : PairL, X.map Prod.fst = V → LensB m X → kraftX m X = i → b ≤ costX X)
/-- .. with one more weight, whose length is at most L. -/
def BestUp (m : Nat) (V : List Int) (w : Int) (L i : Nat) (b : Int) : Prop :=
  (b = -1 ∧ ∀ (X : PairL) (n : Nat), X.map Prod.fst = V → LensB m X → 1 ≤ n → n ≤ L → kraftX m X + 2 ^ (m - n) ≠ i) ∨
  (0 ≤ b ∧ (∃ (X : PairL) (n : Nat), X.map Prod.fst = V ∧ LensB m X ∧ 1 ≤ n ∧ n ≤ L ∧ kraftX m X + 2 ^ (m - n) = i ∧ costX X + w * (n : Int) = b) ∧
    ∀ (X : PairL) (n : Nat), X.map Prod.fst = V → LensB m X → 1 ≤ n → n ≤ L → kraftX m X + 2 ^ (m - n) = i → b ≤ costX X + w * (n : Int))
section
variable {m : Nat} {V : List Int} {w b : Int} {L i : Nat}
theorem best_nil (m i : Nat) : Best m [] i (if i = 0 then 0 else -1) := by
  by_cases h : i = 0
  · subst h
    rw [if_pos rfl]
    refine .inr ⟨Int.le_refl _, ⟨[], rfl, (fun p hp => by cases hp), rfl, rfl⟩, fun X hX _ _ => ?_⟩
    rw [List.map_eq_nil_iff.1 hX]; exact Int.le_refl _
  · rw [if_neg h]
    refine .inl ⟨rfl, fun X hX _ hk => h ?_⟩
    rw [List.map_eq_nil_iff.1 hX] at hk
    exact hk.symm
theorem up_zero : BestUp m V w 0 i (-1) := .inl ⟨rfl, fun X n _ _ h1 h2 => by omega⟩
theorem Best.sign (h : Best m V i b) : b = -1 ∨ 0 ≤ b := by
  rcases h with h | h
  · exact .inl h.1
  · exact .inr h.1
theorem BestUp.sign (h : BestUp m V w L i b) : b = -1 ∨ 0 ≤ b := by
  rcases h with h | h
  · exact .inl h.1
  · exact .inr h.1
/-- Length L + 1 gives nothing. -/
theorem up_skip (h : BestUp m V w L i b) (hn : ∀ X : PairL, X.map Prod.fst = V → LensB m X → kraftX m X + 2 ^ (m - (L + 1)) ≠ i) : BestUp m V w (L + 1) i b := by
  have key : ∀ (X : PairL) (n : Nat), X.map Prod.fst = V → LensB m X → n ≤ L + 1 → kraftX m X + 2 ^ (m - n) = i → n ≤ L := fun X n h1 h2 h3 h4 => by
    rcases Nat.eq_or_lt_of_le h3 with rfl | h5
    · exact absurd h4 (hn X h1 h2)
    · omega
  rcases h with ⟨h1, h2⟩ | ⟨h1, ⟨X, n, a1, a2, a3, a4, a5, a6⟩, h3⟩
  · exact .inl ⟨h1, fun X n a1 a2 a3 a4 a5 => h2 X n a1 a2 a3 (key X n a1 a2 a4 a5) a5⟩
  · exact .inr ⟨h1, ⟨X, n, a1, a2, a3, by omega, a5, a6⟩, fun Y k b1 b2 b3 b4 b5 => h3 Y k b1 b2 b3 (key Y k b1 b2 b4 b5) b5⟩
theorem up_far (h : BestUp m V w L i b) (hp : i < 2 ^ (m - (L + 1))) : BestUp m V w (L + 1) i b := up_skip h (fun X _ _ hk => by omega)
theorem up_none {b' : Int} {j : Nat} (h : BestUp m V w L i b) (hB : Best m V j b') (hj : j + 2 ^ (m - (L + 1)) = i) (hb : b' < 0) : BestUp m V w (L + 1) i b := by
  rcases hB with ⟨-, hB⟩ | ⟨hB, -⟩
  · exact up_skip h (fun X h1 h2 hk => hB X h1 h2 (by omega))
  · omega
theorem up_take {b' : Int} {j : Nat} (hL : L + 1 ≤ m) (hw : 0 ≤ w) (h : BestUp m V w L i b) (hB : Best m V j b') (hj : j + 2 ^ (m - (L + 1)) = i) (hb : 0 ≤ b') :
    ((b < 0 ∨ b' + w * ((L + 1 : Nat) : Int) < b) → BestUp m V w (L + 1) i (b' + w * ((L + 1 : Nat) : Int))) ∧ (¬ (b < 0 ∨ b' + w * ((L + 1 : Nat) : Int) < b) → BestUp m V w (L + 1) i b) := by
  have hB' : (∃ X : PairL, X.map Prod.fst = V ∧ LensB m X ∧ kraftX m X = j ∧ costX X = b') ∧ ∀ X : PairL, X.map Prod.fst = V → LensB m X → kraftX m X = j → b' ≤ costX X := by
    rcases hB with ⟨hB, -⟩ | ⟨-, hB⟩
    · omega
    · exact hB
  obtain ⟨⟨X, x1, x2, x3, x4⟩, hmin⟩ := hB'
  have hwn : 0 ≤ w * ((L + 1 : Nat) : Int) := Int.mul_nonneg hw (Int.natCast_nonneg _)
  have old : ∀ (Y : PairL) (n : Nat), Y.map Prod.fst = V → LensB m Y → 1 ≤ n → n ≤ L + 1 → kraftX m Y + 2 ^ (m - n) = i → b' + w * ((L + 1 : Nat) : Int) ≤ costX Y + w * (n : Int) ∨ (n ≤ L ∧ 0 ≤ b ∧ b ≤ costX Y + w * (n : Int)) := by
    intro Y n y1 y2 y3 y4 y5
    rcases Nat.eq_or_lt_of_le y4 with rfl | y6
    · left
      have := hmin Y y1 y2 (by omega)
      omega
    · right
      rcases h with ⟨-, h2⟩ | ⟨h1, -, h3⟩
      · exact absurd y5 (h2 Y n y1 y2 y3 (by omega))
      · exact ⟨by omega, h1, h3 Y n y1 y2 y3 (by omega) y5⟩
  refine ⟨fun hc => .inr ⟨by omega, ⟨X, L + 1, x1, x2, by omega, Nat.le_refl _, by rw [x3]; exact hj, by rw [x4]⟩, fun Y n y1 y2 y3 y4 y5 => ?_⟩, fun hc => ?_⟩
  · rcases old Y n y1 y2 y3 y4 y5 with h1 | ⟨h1, h2, h3⟩
    · exact h1
    · omega
  · rcases h with ⟨h1, -⟩ | ⟨h1, ⟨Z, k, z1, z2, z3, z4, z5, z6⟩, h3⟩
    · omega
    · refine .inr ⟨h1, ⟨Z, k, z1, z2, z3, by omega, z5, z6⟩, fun Y n y1 y2 y3 y4 y5 => ?_⟩
      rcases old Y n y1 y2 y3 y4 y5 with h1 | ⟨h1, h2, h3⟩
      · omega
      · exact h3
theorem up_all (h : BestUp m V w m i b) : Best m (V ++ [w]) i b := by
  have split : ∀ Y : PairL, Y.map Prod.fst = V ++ [w] → LensB m Y → ∃ (X : PairL) (n : Nat), Y = X ++ [(w, n)] ∧ X.map Prod.fst = V ∧ LensB m X ∧ 1 ≤ n ∧ n ≤ m ∧ kraftX m Y = kraftX m X + 2 ^ (m - n) ∧ costX Y = costX X + w * (n : Int) := by
    intro Y hY hl
    obtain ⟨X, Z, rfl, h1, h2⟩ := List.map_eq_append_iff.1 hY
    obtain ⟨p, rfl⟩ : ∃ p, Z = [p] := by
      have := congrArg List.length h2
      simp at this
      exact List.length_eq_one_iff.1 this
    have hp : p.1 = w := by simpa using h2
    have hpl := hl p (by simp)
    refine ⟨X, p.2, by rw [← hp], h1, fun q hq => hl q (by simp [hq]), hpl.1, hpl.2, ?_, ?_⟩
    · rw [kraftX_append]; simp [kraftX]
    · rw [costX_append]; simp [costX, hp]
  rcases h with ⟨h1, h2⟩ | ⟨h1, ⟨X, n, a1, a2, a3, a4, a5, a6⟩, h3⟩
  · refine .inl ⟨h1, fun Y hY hl hk => ?_⟩
    obtain ⟨X, n, -, x1, x2, x3, x4, x5, -⟩ := split Y hY hl
    exact h2 X n x1 x2 x3 x4 (by omega)
  · refine .inr ⟨h1, ⟨X ++ [(w, n)], by simp [a1], ?_, ?_, ?_⟩, fun Y hY hl hk => ?_⟩
    · intro p hp
      rcases List.mem_append.1 hp with hp | hp
      · exact a2 p hp
      · have := List.mem_singleton.1 hp; subst this; exact ⟨a3, a4⟩
    · rw [kraftX_append]; simp [kraftX]; exact a5
    · rw [costX_append]; simp [costX]; exact a6
    · obtain ⟨X, n, -, x1, x2, x3, x4, x5, x6⟩ := split Y hY hl
      rw [x6]
      exact h3 X n x1 x2 x3 x4 (by omega)
theorem costX_bd {X : PairL} (h0 : ∀ p ∈ X, 0 ≤ p.1 ∧ p.1 ≤ 2147483648) (hl : ∀ p ∈ X, p.2 ≤ 11) : costX X ≤ 23622320128 * (X.length : Int) := by
  induction X with
  | nil => simp [costX]
  | cons p X ih =>
    have h1 := ih (fun q hq => h0 q (by simp [hq])) (fun q hq => hl q (by simp [hq]))
    have h2 := h0 p (by simp)
    have h3 := hl p (by simp)
    have h4 : p.1 * (p.2 : Int) ≤ 2147483648 * 11 := Int.mul_le_mul h2.2 (by omega) (by omega) (by decide)
    simp only [costX, List.length_cons]
    push_cast
    omega
theorem Best.bd (h : Best m V i b) (hm : m ≤ 11) (hV : ∀ x ∈ V, 0 ≤ x ∧ x ≤ 2147483648) : -1 ≤ b ∧ b ≤ 23622320128 * (V.length : Int) := by
  rcases h with ⟨h, -⟩ | ⟨h, ⟨X, x1, x2, x3, x4⟩, -⟩
  · omega
  · have h1 := costX_bd (X := X) (fun p hp => hV _ (by rw [← x1]; exact List.mem_map.2 ⟨p, hp, rfl⟩)) (fun p hp => by have := (x2 p hp).2; omega)
    have h2 : X.length = V.length := by rw [← x1, List.length_map]
    rw [h2, x4] at h1
    omega
end
theorem order_of : ∀ {V : List Int} {X : PairL}, (X.map Prod.fst).Perm V → ∃ Y : PairL, Y.Perm X ∧ Y.map Prod.fst = V
  | [], X, h => by
    have : X = [] := by simpa using h.length_eq
    subst this
    exact ⟨[], List.Perm.refl _, rfl⟩
  | v :: V, X, h => by
    obtain ⟨p, hp, hpv⟩ := List.mem_map.1 (h.mem_iff.2 (List.mem_cons_self (a := v) (l := V)))
    have e := List.perm_cons_erase hp
    have h2 : ((X.erase p).map Prod.fst).Perm V := by
      have := (e.symm.map Prod.fst).trans h
      rw [List.map_cons, hpv] at this
      exact (List.perm_cons _).1 this
    obtain ⟨Y, y1, y2⟩ := order_of h2
    exact ⟨p :: Y, (y1.cons p).trans e.symm, by rw [List.map_cons, hpv, y2]⟩
/-- The least of a row's entries that are not -1. -/
def LeastUp (B : List Int) (k : Nat) (s : Int) : Prop :=
  (s = -1 ∧ ∀ (i : Nat) (b : Int), i < k → B[i]? = some b → b < 0) ∨ (0 ≤ s ∧ (∃ i, i < k ∧ B[i]? = some s) ∧ ∀ (i : Nat) (b : Int), i < k → B[i]? = some b → 0 ≤ b → s ≤ b)
theorem least_zero (B : List Int) : LeastUp B 0 (-1) := .inl ⟨rfl, fun i b h => by omega⟩
theorem LeastUp.sign {B : List Int} {k : Nat} {s : Int} (h : LeastUp B k s) : s = -1 ∨ 0 ≤ s := by
  rcases h with h | h
  · exact .inl h.1
  · exact .inr h.1
theorem least_take {B : List Int} {k : Nat} {s b : Int} (h : LeastUp B k s) (hb : B[k]? = some b) (h0 : 0 ≤ b) (hc : s < 0 ∨ b < s) : LeastUp B (k + 1) b := by
  refine .inr ⟨h0, ⟨k, by omega, hb⟩, fun i c hi hB hc0 => ?_⟩
  rcases Nat.eq_or_lt_of_le (Nat.le_of_lt_succ hi) with rfl | hi
  · rw [hb] at hB; cases hB; exact Int.le_refl _
  · rcases h with ⟨h1, h2⟩ | ⟨h1, -, h3⟩
    · have := h2 i c hi hB; omega
    · have := h3 i c hi hB hc0; omega
theorem least_skip {B : List Int} {k : Nat} {s b : Int} (h : LeastUp B k s) (hb : B[k]? = some b) (hc : b < 0 ∨ (0 ≤ s ∧ s ≤ b)) : LeastUp B (k + 1) s := by
  rcases h with ⟨h1, h2⟩ | ⟨h1, ⟨i0, hi0, hB0⟩, h3⟩
  · refine .inl ⟨h1, fun i c hi hB => ?_⟩
    rcases Nat.eq_or_lt_of_le (Nat.le_of_lt_succ hi) with rfl | hi
    · rw [hb] at hB; cases hB; omega
    · exact h2 i c hi hB
  · refine .inr ⟨h1, ⟨i0, by omega, hB0⟩, fun i c hi hB hc0 => ?_⟩
    rcases Nat.eq_or_lt_of_le (Nat.le_of_lt_succ hi) with rfl | hi
    · rw [hb] at hB; cases hB; omega
    · exact h3 i c hi hB hc0
theorem least_opt {m : Nat} {V B : List Int} {s c : Int} (hB : ∀ i, i ≤ 2 ^ m → ∃ b, B[i]? = some b ∧ Best m V i b) (hs : LeastUp B (2 ^ m + 1) s) (hO : OptL m V c) : s = c := by
  obtain ⟨⟨X, x1, x2, x3⟩, hmin⟩ := hO
  have ord : ∀ X : PairL, (X.map Prod.fst).Perm V → Feas m X → ∃ b, B[kraftX m X]? = some b ∧ 0 ≤ b ∧ b ≤ costX X := by
    intro X h1 h2
    obtain ⟨Y, y1, y2⟩ := order_of h1
    have hk : kraftX m Y = kraftX m X := kraftX_perm y1
    have hl : LensB m Y := fun p hp => h2.1 p (y1.mem_iff.1 hp)
    obtain ⟨b, b1, b2⟩ := hB (kraftX m X) h2.2
    rcases b2 with ⟨-, b3⟩ | ⟨b3, -, b4⟩
    · exact absurd hk (b3 Y y2 hl)
    · exact ⟨b, b1, b3, by have := b4 Y y2 hl hk; rw [costX_perm y1] at this; exact this⟩
  obtain ⟨b, hb1, hb2, hb3⟩ := ord X x1 x2
  have hxk : kraftX m X < 2 ^ m + 1 := by have := x2.2; omega
  rcases hs with ⟨-, h2⟩ | ⟨h1, ⟨i, hi, hBi⟩, h3⟩
  · have := h2 _ _ hxk hb1; omega
  · have h4 := h3 _ _ hxk hb1 hb2
    obtain ⟨b', b1', b2'⟩ := hB i (by omega)
    rw [hBi] at b1'
    obtain rfl := Option.some.inj b1'
    rcases b2' with ⟨b3, -⟩ | ⟨-, ⟨Y, y1, y2, y3, y4⟩, -⟩
    · omega
    · have := hmin Y (by rw [y1]) ⟨y2, by rw [y3]; omega⟩
      omega
def posL (l : List Int) : List Int := l.filter fun x => decide (0 < x)
theorem posL_snoc (l : List Int) (x : Int) : posL (l ++ [x]) = posL l ++ (if 0 < x then [x] else []) := by
  unfold posL
  rw [List.filter_append]
  congr 1
  by_cases h : 0 < x
  · simp [h]
  · simp [h]

end Go.Proofs.Ythjbngnihcmedaa
