/-
  Merging two sorted neighbours in place: the plain part (halving searches, the cut), and no program in sight.
-/
import Derived.Test.YthjbngnihcmedaaSo1
namespace Go.Proofs.Ythjbngnihcmedaa
set_option linter.unusedVariables false
set_option linter.unusedSimpArgs false

/-- A halving search: q holds from i0 up to i, and fails from j up to j0. -/
def SeaI (q : Nat → Prop) (i0 i j j0 : Nat) : Prop := (∀ c, i0 ≤ c → c < i → q c) ∧ (∀ c, j ≤ c → c < j0 → ¬ q c)
def MonI (q : Nat → Prop) (i0 j0 : Nat) : Prop := ∀ c d, i0 ≤ c → c ≤ d → d < j0 → q d → q c
theorem sea_start (q : Nat → Prop) (i0 j0 : Nat) : SeaI q i0 i0 j0 j0 := ⟨fun c h1 h2 => by omega, fun c h1 h2 => by omega⟩
theorem sea_up {q : Nat → Prop} {i0 i j j0 h : Nat} (hm : MonI q i0 j0) (s : SeaI q i0 i j j0) (hj : h < j0) (hq : q h) : SeaI q i0 (h + 1) j j0 :=
  ⟨fun c h1 h2 => hm c h h1 (by omega) hj hq, s.2⟩
theorem sea_dn {q : Nat → Prop} {i0 i j j0 h : Nat} (hm : MonI q i0 j0) (s : SeaI q i0 i j j0) (hi : i0 ≤ h) (hq : ¬ q h) : SeaI q i0 i h j0 :=
  ⟨s.1, fun c h1 h2 hc => hq (hm h c hi h1 h2 hc)⟩

theorem take_get {L : List Int} {k : Nat} {x : Int} (h : x ∈ L.take k) : ∃ t, t < k ∧ L[t]? = some x := by
  obtain ⟨t, ht⟩ := List.mem_iff_getElem?.1 h
  rw [List.getElem?_take] at ht
  split at ht
  · exact ⟨t, by assumption, ht⟩
  · cases ht
theorem drop_get {L : List Int} {k : Nat} {x : Int} (h : x ∈ L.drop k) : ∃ t, k ≤ t ∧ L[t]? = some x := by
  obtain ⟨t, ht⟩ := List.mem_iff_getElem?.1 h
  rw [List.getElem?_drop] at ht
  exact ⟨k + t, by omega, ht⟩

section
variable {key : Int → Int} {X Y Z P S : List Int} {x y : Int} {a m b i : Nat}

/-- Where a number belongs in a sorted list: behind the lesser ones. -/
def qLess (key : Int → Int) (Y : List Int) (m : Nat) (x : Int) (c : Nat) : Prop := ∃ u, Y[c - m]? = some u ∧ key u < key x
/-- .. behind those that are not greater. -/
def qLeq (key : Int → Int) (X : List Int) (a : Nat) (y : Int) (c : Nat) : Prop := ∃ u, X[c - a]? = some u ∧ key u ≤ key y
/-- Where the two halves are cut. -/
def qCut (key : Int → Int) (X Y : List Int) (a mid : Nat) (c : Nat) : Prop := ∃ u v, X[c - a]? = some u ∧ Y[mid - 1 - c]? = some v ∧ key u ≤ key v

theorem qLess_mono (h : Srt key Y) : MonI (qLess key Y m x) m (m + Y.length) := by
  rintro c d h1 h2 h3 ⟨u, hu, hlt⟩
  obtain ⟨v, hv⟩ : ∃ v, Y[c - m]? = some v := ⟨_, List.getElem?_eq_getElem (by omega)⟩
  exact ⟨v, hv, by have := h.get (show c - m ≤ d - m by omega) hv hu; omega⟩
theorem qLeq_mono (h : Srt key X) : MonI (qLeq key X a y) a (a + X.length) := by
  rintro c d h1 h2 h3 ⟨u, hu, hlt⟩
  obtain ⟨v, hv⟩ : ∃ v, X[c - a]? = some v := ⟨_, List.getElem?_eq_getElem (by omega)⟩
  exact ⟨v, hv, by have := h.get (show c - a ≤ d - a by omega) hv hu; omega⟩

theorem cutLess (h : SeaI (qLess key Y m x) m i i (m + Y.length)) (h1 : m ≤ i) (h2 : i ≤ m + Y.length) : ∃ Y1 Y2, Y = Y1 ++ Y2 ∧ m + Y1.length = i ∧ (∀ u ∈ Y1, key u < key x) ∧ (∀ u ∈ Y2, key x ≤ key u) := by
  refine ⟨Y.take (i - m), Y.drop (i - m), (List.take_append_drop _ _).symm, by simp; omega, fun u hu => ?_, fun u hu => ?_⟩
  · obtain ⟨t, ht, hg⟩ := take_get hu
    obtain ⟨v, hv, hlt⟩ := h.1 (m + t) (by omega) (by omega)
    rw [Nat.add_sub_cancel_left, hg] at hv
    cases hv; exact hlt
  · obtain ⟨t, ht, hg⟩ := drop_get hu
    have hlt := (List.getElem?_eq_some_iff.1 hg).1
    have := h.2 (m + t) (by omega) (by omega)
    rcases Int.lt_or_le (key u) (key x) with hc | hc
    · exact absurd ⟨u, by rw [Nat.add_sub_cancel_left]; exact hg, hc⟩ this
    · exact hc
theorem cutLeq (h : SeaI (qLeq key X a y) a i i (a + X.length)) (h1 : a ≤ i) (h2 : i ≤ a + X.length) : ∃ X1 X2, X = X1 ++ X2 ∧ a + X1.length = i ∧ (∀ u ∈ X1, key u ≤ key y) ∧ (∀ u ∈ X2, key y < key u) := by
  refine ⟨X.take (i - a), X.drop (i - a), (List.take_append_drop _ _).symm, by simp; omega, fun u hu => ?_, fun u hu => ?_⟩
  · obtain ⟨t, ht, hg⟩ := take_get hu
    obtain ⟨v, hv, hlt⟩ := h.1 (a + t) (by omega) (by omega)
    rw [Nat.add_sub_cancel_left, hg] at hv
    cases hv; exact hlt
  · obtain ⟨t, ht, hg⟩ := drop_get hu
    have hlt := (List.getElem?_eq_some_iff.1 hg).1
    have := h.2 (a + t) (by omega) (by omega)
    rcases Int.lt_or_le (key y) (key u) with hc | hc
    · exact hc
    · exact absurd ⟨u, by rw [Nat.add_sub_cancel_left]; exact hg, hc⟩ this

theorem doneLess {Y1 Y2 : List Int} (hY : Srt key (Y1 ++ Y2)) (h1 : ∀ u ∈ Y1, key u < key x) (h2 : ∀ u ∈ Y2, key x ≤ key u) : EqF key ([x] ++ (Y1 ++ Y2)) (Y1 ++ x :: Y2) ∧ Srt key (Y1 ++ x :: Y2) := by
  refine ⟨?_, ?_⟩
  · have e := (EqF.swap (key := key) (A := [x]) (B := Y1) (fun u hu v hv => by have := List.mem_singleton.1 hu; subst this; have := h1 v hv; omega)).append (EqF.refl Y2)
    simpa using e
  · exact hY.left.append (List.pairwise_cons.2 ⟨h2, hY.right⟩) (fun u hu v hv => by
      rcases List.mem_cons.1 hv with rfl | hv
      · have := h1 u hu; omega
      · exact hY.across u hu v hv)
theorem doneLeq {X1 X2 : List Int} (hX : Srt key (X1 ++ X2)) (h1 : ∀ u ∈ X1, key u ≤ key y) (h2 : ∀ u ∈ X2, key y < key u) : EqF key ((X1 ++ X2) ++ [y]) (X1 ++ y :: X2) ∧ Srt key (X1 ++ y :: X2) := by
  refine ⟨?_, ?_⟩
  · have e := (EqF.refl X1).append (EqF.swap (key := key) (A := X2) (B := [y]) (fun u hu v hv => by have := List.mem_singleton.1 hv; subst this; have := h2 u hu; omega))
    simpa using e
  · exact hX.left.append (List.pairwise_cons.2 ⟨fun v hv => by have := h2 v hv; omega, hX.right⟩) (fun u hu v hv => by
      rcases List.mem_cons.1 hv with rfl | hv
      · exact h1 u hu
      · exact hX.across u hu v hv)

theorem split_at {L : List Int} {k : Nat} (hk : k < L.length) : ∃ u, L.drop k = u :: L.drop (k + 1) ∧ L.take (k + 1) = L.take k ++ [u] :=
  ⟨L[k], List.drop_eq_getElem_cons hk, by rw [List.take_add_one, List.getElem?_eq_getElem hk]; rfl⟩

/-- x moves behind the first k of Y1. -/
def mvR (P : List Int) (x : Int) (Y1 T : List Int) (k : Nat) : List Int := P ++ Y1.take k ++ x :: Y1.drop k ++ T
theorem mvR_step {Y1 T : List Int} {k : Nat} (hk : k < Y1.length) : ∃ u, (mvR P x Y1 T k)[P.length + k]? = some x ∧ (mvR P x Y1 T k)[P.length + k + 1]? = some u ∧
    ((mvR P x Y1 T k).set (P.length + k) u).set (P.length + k + 1) x = mvR P x Y1 T (k + 1) := by
  obtain ⟨u, hd, ht⟩ := split_at hk
  refine ⟨u, ?_⟩
  have e : mvR P x Y1 T k = (P ++ Y1.take k) ++ x :: u :: (Y1.drop (k + 1) ++ T) := by
    unfold mvR; rw [hd]; simp
  have e2 : mvR P x Y1 T (k + 1) = (P ++ Y1.take k) ++ u :: x :: (Y1.drop (k + 1) ++ T) := by
    unfold mvR; rw [ht]; simp
  have p : P.length + k = (P ++ Y1.take k).length := by simp; omega
  rw [e, e2, p]
  exact ⟨get_mid, get_mid1, swap_next'⟩
/-- y stands behind the first k of X2. -/
theorem mvL_step {X2 T : List Int} {k : Nat} (hk : k < X2.length) : ∃ u, (mvR P y X2 T (k + 1))[P.length + k + 1]? = some y ∧ (mvR P y X2 T (k + 1))[P.length + k]? = some u ∧
    ((mvR P y X2 T (k + 1)).set (P.length + k + 1) u).set (P.length + k) y = mvR P y X2 T k := by
  obtain ⟨u, hd, ht⟩ := split_at hk
  refine ⟨u, ?_⟩
  have e : mvR P y X2 T k = (P ++ X2.take k) ++ y :: u :: (X2.drop (k + 1) ++ T) := by
    unfold mvR; rw [hd]; simp
  have e2 : mvR P y X2 T (k + 1) = (P ++ X2.take k) ++ u :: y :: (X2.drop (k + 1) ++ T) := by
    unfold mvR; rw [ht]; simp
  have p : P.length + k = (P ++ X2.take k).length := by simp; omega
  rw [e, e2, p]
  exact ⟨get_mid1, get_mid, swap_next⟩

theorem qCut_mono (hX : Srt key X) (hY : Srt key Y) {mid s0 r0 : Nat} (h1 : a ≤ s0) (h2 : r0 ≤ mid) (h3 : mid ≤ s0 + Y.length) (h4 : r0 ≤ a + X.length) : MonI (qCut key X Y a mid) s0 r0 := by
  rintro c d hc hcd hd ⟨u, v, hu, hv, hle⟩
  obtain ⟨u', hu'⟩ : ∃ u', X[c - a]? = some u' := ⟨_, List.getElem?_eq_getElem (by omega)⟩
  obtain ⟨v', hv'⟩ : ∃ v', Y[mid - 1 - c]? = some v' := ⟨_, List.getElem?_eq_getElem (by omega)⟩
  have e1 := hX.get (show c - a ≤ d - a by omega) hu' hu
  have e2 := hY.get (show mid - 1 - d ≤ mid - 1 - c by omega) hv hv'
  exact ⟨u', v', hu', hv', by omega⟩

/-- The cut of two sorted neighbours. -/
theorem symCut (hX : Srt key X) (hY : Srt key Y) {mid s0 r0 s e : Nat} (sea : SeaI (qCut key X Y a mid) s0 s s r0) (h0 : s0 ≤ s) (hr : s ≤ r0) (ha : a ≤ s0) (hrm : r0 ≤ mid) (hrX : r0 ≤ a + X.length) (hsY : mid ≤ s0 + Y.length)
    (hs0 : s0 = a ∨ mid = s0 + Y.length) (hr0 : r0 = mid ∨ r0 = a + X.length) (he : s + e = mid) :
    ∃ X1 X2 Y1 Y2, X = X1 ++ X2 ∧ Y = Y1 ++ Y2 ∧ a + X1.length = s ∧ Y1.length = e ∧ (∀ x ∈ X1, ∀ y ∈ Y2, key x ≤ key y) ∧ (∀ x ∈ X2, ∀ y ∈ Y1, key y < key x) := by
  refine ⟨X.take (s - a), X.drop (s - a), Y.take e, Y.drop e, (List.take_append_drop _ _).symm, (List.take_append_drop _ _).symm, by simp; omega, by simp; omega, fun x hx y hy => ?_, fun x hx y hy => ?_⟩
  · obtain ⟨t1, ht1, g1⟩ := take_get hx
    obtain ⟨t2, ht2, g2⟩ := drop_get hy
    have l2 := (List.getElem?_eq_some_iff.1 g2).1
    by_cases hss : s = s0
    · omega
    · obtain ⟨u, v, hu, hv, hle⟩ := sea.1 (s - 1) (by omega) (by omega)
      have e1 := hX.get (show t1 ≤ s - 1 - a by omega) g1 hu
      have e2 := hY.get (show mid - 1 - (s - 1) ≤ t2 by omega) hv g2
      omega
  · obtain ⟨t1, ht1, g1⟩ := drop_get hx
    obtain ⟨t2, ht2, g2⟩ := take_get hy
    have l1 := (List.getElem?_eq_some_iff.1 g1).1
    by_cases hss : s = r0
    · omega
    · have hn := sea.2 s (Nat.le_refl _) (by omega)
      obtain ⟨u, hu⟩ : ∃ u, X[s - a]? = some u := ⟨_, List.getElem?_eq_getElem (by omega)⟩
      obtain ⟨v, hv⟩ : ∃ v, Y[mid - 1 - s]? = some v := ⟨_, List.getElem?_eq_getElem (by omega)⟩
      have e1 := hX.get (show s - a ≤ t1 by omega) hu g1
      have e2 := hY.get (show t2 ≤ mid - 1 - s by omega) g2 hv
      rcases Int.lt_or_le (key v) (key u) with hc | hc
      · omega
      · exact absurd ⟨u, v, hu, hv, hc⟩ hn

/-- Both halves sorted: the whole is. -/
theorem symDone {X1 X2 Y1 Y2 Z1 Z2 : List Int} (hX : Srt key (X1 ++ X2)) (hY : Srt key (Y1 ++ Y2)) (h1 : ∀ x ∈ X1, ∀ y ∈ Y2, key x ≤ key y) (h2 : ∀ x ∈ X2, ∀ y ∈ Y1, key y < key x)
    (e1 : EqF key (X1 ++ Y1) Z1) (e2 : EqF key (X2 ++ Y2) Z2) (s1 : Srt key Z1) (s2 : Srt key Z2) : EqF key ((X1 ++ X2) ++ (Y1 ++ Y2)) (Z1 ++ Z2) ∧ Srt key (Z1 ++ Z2) := by
  refine ⟨?_, s1.append s2 fun x hx y hy => ?_⟩
  · have e := ((EqF.refl X1).append ((EqF.swap (key := key) (A := X2) (B := Y1) (fun x hx y hy => by have := h2 x hx y hy; omega)).append (EqF.refl Y2)))
    have e' : EqF key ((X1 ++ X2) ++ (Y1 ++ Y2)) ((X1 ++ Y1) ++ (X2 ++ Y2)) := by simpa using e
    exact e'.trans (e1.append e2)
  · have hx' := e1.mem.2 hx
    have hy' := e2.mem.2 hy
    rcases List.mem_append.1 hx' with hx' | hx' <;> rcases List.mem_append.1 hy' with hy' | hy'
    · exact hX.across x hx' y hy'
    · exact h1 x hx' y hy'
    · have := h2 y hy' x hx'; omega
    · exact hY.across x hx' y hy'
end

end Go.Proofs.Ythjbngnihcmedaa
