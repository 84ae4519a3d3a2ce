/-
  The reference of spread tables: Step; what lies at the places, in plain words.
-/
import Derived.Test.YtcmagccfagijlaaGreatQ17
import Derived.Test.YtcmagccfagijlaaGreatQ4
namespace Go.Proofs.YtcmagccfagijlaaGreat
set_option linter.unusedVariables false
set_option linter.unusedSimpArgs false
set_option linter.unusedSectionVars false
open Go.RowKit

set_option maxRecDepth 100000 in
theorem rstep_any (s : Nat) (w : World) (hs : s ≤ 512) :
    Calls Tryz.prog 215 #[.int .i64 (s : Int)] w fun e w' => e = .returned (.int .i64 ((stepN s : Nat) : Int)) ∧ w' = w := by
  have h1 : ¬ (512 : Int) < (s : Int) := by omega
  by_cases h : s < 16
  · have h2 : (s : Int) < 16 := by omega
    have e : stepN s = 1 := if_pos h
    rw [e]
    go_enter Tryz.func215, Tryz.ntmps215
    go_wp2_with fail
    go_ret
    exact ⟨rfl, rfl⟩
  · have h2 : ¬ (s : Int) < 16 := by omega
    have e : ((stepN s : Nat) : Int) = (s : Int) / 2 + (s : Int) / 8 + 3 := by unfold stepN; rw [if_neg h]; omega
    rw [e]
    have h3 : (s : Int) ≤ 512 := by omega
    obtain ⟨A, hA⟩ : ∃ A : Int, (s : Int) / 2 = A := ⟨_, rfl⟩
    obtain ⟨B, hB⟩ : ∃ B : Int, (s : Int) / 8 = B := ⟨_, rfl⟩
    rw [hA, hB]
    have a1 : 0 ≤ A := by omega
    have a2 : A ≤ 256 := by omega
    have b1 : 0 ≤ B := by omega
    have b2 : B ≤ 64 := by omega
    go_enter Tryz.func215, Tryz.ntmps215
    go_wp2_with fail
    go_ret
    exact ⟨rfl, rfl⟩

/-- The places as numbers, -1 where nothing lies. -/
def outL (S : Nat) (f : Int → Option Int) : List Int := (List.range S).map fun p => (f ((p : Nat) : Int)).getD (-1)
theorem outL_len (S : Nat) (f : Int → Option Int) : (outL S f).length = S := by simp [outL]
theorem outL_get {S p : Nat} {f : Int → Option Int} (h : p < S) : (outL S f)[p]? = some ((f ((p : Nat) : Int)).getD (-1)) := by simp [outL, h]
theorem outL_set {S p : Nat} {f : Int → Option Int} {x : Int} (h : p < S) : (outL S f).set p x = outL S (updI f (p : Int) x) := by
  apply List.ext_getElem?
  intro i
  rw [List.getElem?_set]
  by_cases hi : i < S
  · rw [outL_get (f := updI f (p : Int) x) hi]
    by_cases hp : p = i
    · subst hp
      rw [if_pos rfl, if_pos (by rw [outL_len]; exact h)]
      simp only [updI, if_true]
      rfl
    · rw [if_neg hp, outL_get hi]
      have : ¬ ((i : Int) = (p : Int)) := by omega
      simp only [updI, if_neg this]
  · rw [List.getElem?_eq_none (l := outL S (updI f (p : Int) x)) (by rw [outL_len]; omega), if_neg (by omega)]
    exact List.getElem?_eq_none (by rw [outL_len]; omega)
theorem outL_none (S : Nat) : outL S (fun _ => none) = List.replicate S (-1) := by
  unfold outL
  apply List.ext_getElem?
  intro i
  by_cases hi : i < S
  · simp [hi]
  · simp [hi]
theorem neg_set (k m : Nat) : (List.replicate k (-1 : Int) ++ List.replicate (m + 1) 0).set k (-1) = List.replicate (k + 1) (-1) ++ List.replicate m 0 := by
  rw [List.set_append_right _ _ (by simp), List.length_replicate, Nat.sub_self, List.replicate_succ (n := m), List.set_cons_zero, List.replicate_succ' (n := k), List.append_assoc]
  rfl

/-- The symbol that is laid next. -/
theorem others_at {norm : List Int} {i k m : Nat} {x : Int} (hx : norm[i]? = some x) (hk : k < x.toNat) (hm : i < m) : (othersK norm m).getD ((othersK norm i).length + k) 0 = i := by
  induction m with
  | zero => omega
  | succ m ih =>
    by_cases him : i < m
    · have := ih him
      have hl : (othersK norm i).length + k < (othersK norm m).length := by
        clear ih this hm
        induction m with
        | zero => omega
        | succ m ih2 =>
          have e : othersK norm (m + 1) = othersK norm m ++ List.replicate (norm.getD m 0).toNat m := by
            simp only [othersK, List.range_succ, List.flatMap_append, List.flatMap_cons, List.flatMap_nil, List.append_nil]
          rw [e, List.length_append, List.length_replicate]
          by_cases h2 : i < m
          · have := ih2 h2
            omega
          · obtain rfl : i = m := by omega
            rw [getD_some hx]
            omega
      have e : othersK norm (m + 1) = othersK norm m ++ List.replicate (norm.getD m 0).toNat m := by
        simp only [othersK, List.range_succ, List.flatMap_append, List.flatMap_cons, List.flatMap_nil, List.append_nil]
      rw [e, List.getD_eq_getElem?_getD, List.getElem?_append_left hl, ← List.getD_eq_getElem?_getD]
      exact this
    · obtain rfl : i = m := by omega
      rw [othersK_next hx, List.getD_eq_getElem?_getD, List.getElem?_append_right (by omega), Nat.add_sub_cancel_left, List.getElem?_replicate, if_pos hk]
      rfl

theorem hasB_pos {S : Nat} {lows others fr : List Nat} {p z : Int} (h : hasB S lows others fr p = some z) : 0 ≤ z := by
  unfold hasB hasA at h
  split at h
  · injection h with h; omega
  · split at h
    · injection h with h; omega
    · cases h
/-- A filled place: all free places up to it are filled. -/
theorem vis_fill {g v : Nat} {lows others fr : List Nat} (hg : g ≤ 9) (hv : v < 2 ^ g) (hl : lows.length ≤ 2 ^ g) (hf : fr = freeN (2 ^ g) (2 ^ g - lows.length) v ∨ fr = freeN (2 ^ g) (2 ^ g - lows.length) (v + 1))
    (h : hasB (2 ^ g) lows others fr ((visitN (2 ^ g) v : Nat) : Int) ≠ none) : fr = freeN (2 ^ g) (2 ^ g - lows.length) (v + 1) := by
  rcases hf with rfl | h1
  · by_cases hp : visitN (2 ^ g) v < 2 ^ g - lows.length
    · exact absurd (hasB_none hp (visit_fresh hg hv)) h
    · exact (free_succ_no hp).symm
  · exact h1
/-- A free place. -/
theorem vis_free {g v : Nat} {lows others fr : List Nat} (hg : g ≤ 9) (hv : v < 2 ^ g) (hl : lows.length ≤ 2 ^ g) (hf : fr = freeN (2 ^ g) (2 ^ g - lows.length) v ∨ fr = freeN (2 ^ g) (2 ^ g - lows.length) (v + 1))
    (h : hasB (2 ^ g) lows others fr ((visitN (2 ^ g) v : Nat) : Int) = none) : freeN (2 ^ g) (2 ^ g - lows.length) (v + 1) = fr ++ [visitN (2 ^ g) v] ∧ visitN (2 ^ g) v ∉ fr := by
  have hvl := visit_lt (s := 2 ^ g) (k := v) (Nat.two_pow_pos g)
  have hp : visitN (2 ^ g) v < 2 ^ g - lows.length := by
    refine Decidable.byContradiction fun hp => ?_
    have := hasB_some_low (S := 2 ^ g) (lows := lows) (others := others) (fr := fr) (p := visitN (2 ^ g) v) (by omega) hvl hl
    rw [h] at this
    cases this
  rcases hf with rfl | h1
  · exact ⟨free_succ_yes hp, visit_fresh hg hv⟩
  · exfalso
    have hm : visitN (2 ^ g) v ∈ fr := by rw [h1, free_succ_yes hp]; simp
    have := hasB_some_mem (S := 2 ^ g) (lows := lows) (others := others) hm
    rw [h] at this
    cases this
/-- As long as something is to be laid, the visits do not end. -/
theorem vis_more {g v : Nat} {lows fr : List Nat} (hg : g ≤ 9) (hv : v < 2 ^ g) (hf : fr = freeN (2 ^ g) (2 ^ g - lows.length) (v + 1)) (hn : fr.length < 2 ^ g - lows.length) : v + 1 < 2 ^ g := by
  refine Decidable.byContradiction fun h => ?_
  have e : v + 1 = 2 ^ g := by omega
  have := free_len (g := g) (top := 2 ^ g - lows.length) hg (by omega)
  rw [hf, e] at hn
  omega
/-- In the end all free places are filled. -/
theorem vis_end {g v : Nat} {lows fr : List Nat} (hg : g ≤ 9) (hv : v < 2 ^ g) (hf : fr = freeN (2 ^ g) (2 ^ g - lows.length) v ∨ fr = freeN (2 ^ g) (2 ^ g - lows.length) (v + 1)) (hn : fr.length = 2 ^ g - lows.length) : fr = freeN (2 ^ g) (2 ^ g - lows.length) (2 ^ g) := by
  have hl := free_len (g := g) (top := 2 ^ g - lows.length) hg (by omega)
  rcases hf with h | h
  · have hp := free_prefix (s := 2 ^ g) (top := 2 ^ g - lows.length) (k := v) (m := 2 ^ g) (by omega)
    rw [h]
    exact hp.eq_of_length (by rw [← h, hn, hl])
  · have hp := free_prefix (s := 2 ^ g) (top := 2 ^ g - lows.length) (k := v + 1) (m := 2 ^ g) (by omega)
    rw [h]
    exact hp.eq_of_length (by rw [← h, hn, hl])
theorem out_end {g : Nat} {norm : List Int} (hg : g ≤ 9) (hl : (lowsL norm).length ≤ 2 ^ g) : outL (2 ^ g) (hasB (2 ^ g) (lowsL norm) (othersL norm) (freeN (2 ^ g) (2 ^ g - (lowsL norm).length) (2 ^ g))) = castL (placesL g norm) := by
  apply List.ext_getElem?
  intro p
  by_cases hp : p < 2 ^ g
  · rw [outL_get hp, hasB_end hg hp hl]
    simp [castL, placesL_get hp]
  · rw [List.getElem?_eq_none (by rw [outL_len]; omega), List.getElem?_eq_none (by rw [castL_len, placesL_len]; omega)]


end Go.Proofs.YtcmagccfagijlaaGreat
