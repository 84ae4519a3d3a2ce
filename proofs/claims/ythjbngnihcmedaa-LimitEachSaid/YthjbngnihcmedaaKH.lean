/-
  Walks over the references of package limit: Greatest, Many; how often each length occurs.
-/
import Derived.Test.YthjbngnihcmedaaKE
namespace Go.Proofs.Ythjbngnihcmedaa
set_option linter.unusedVariables false
set_option linter.unusedSimpArgs false
set_option linter.unusedSectionVars false
open Go.RowKit

/-- The greatest number, 0 at least. -/
def mxL (l : List Int) : Int := l.foldl max 0
theorem mxL_snoc (l : List Int) (x : Int) : mxL (l ++ [x]) = max (mxL l) x := by simp [mxL]
theorem foldl_max_ge (l : List Int) (a : Int) : a ≤ l.foldl max a ∧ (∀ x ∈ l, x ≤ l.foldl max a) ∧ (l.foldl max a = a ∨ l.foldl max a ∈ l) := by
  induction l generalizing a with
  | nil => simp
  | cons y l ih =>
    obtain ⟨h1, h2, h3⟩ := ih (max a y)
    simp only [List.foldl_cons]
    refine ⟨by omega, fun x hx => ?_, ?_⟩
    · rcases List.mem_cons.1 hx with rfl | hx
      · omega
      · exact h2 x hx
    · rcases h3 with h3 | h3
      · rcases Int.le_total a y with h | h
        · right; rw [h3, Int.max_eq_right h]; simp
        · left; rw [h3]; exact Int.max_eq_left h
      · right; simp [h3]
theorem mxL_nonneg (l : List Int) : 0 ≤ mxL l := (foldl_max_ge l 0).1
theorem mxL_ge {l : List Int} {x : Int} (h : x ∈ l) : x ≤ mxL l := (foldl_max_ge l 0).2.1 x h
theorem mxL_le {l : List Int} {m : Int} (h0 : 0 ≤ m) (h : ∀ x ∈ l, x ≤ m) : mxL l ≤ m := by
  rcases (foldl_max_ge l 0).2.2 with h1 | h1
  · unfold mxL; omega
  · exact h _ h1
theorem maxOf_eq {l : List Int} (h : ∀ x ∈ l, 0 ≤ x) : Go.Lib.maxOf l = mxL l := by
  cases l with
  | nil => rfl
  | cons a t =>
    have ha := h a (by simp)
    simp only [Go.Lib.maxOf, mxL, List.headD_cons, List.foldl_cons]
    congr 1; omega
theorem usedF_pos {l : List Int} (i : Nat) : 0 < (usedF i l).length ↔ ∃ x ∈ l, 0 < x := by
  induction l generalizing i with
  | nil => simp [usedF]
  | cons y l ih =>
    simp only [usedF]
    by_cases h : 0 < y
    · rw [if_pos h]; simp [h]
    · rw [if_neg h, ih (i + 1)]; simp [h]
theorem usedL_pos {l : List Int} : 0 < (usedL l).length ↔ ∃ x ∈ l, 0 < x := usedF_pos 0
theorem mxL_zero {l : List Int} : mxL l = 0 ↔ ¬ 0 < (usedL l).length := by
  rw [usedL_pos]
  constructor
  · rintro h ⟨x, hx, h0⟩
    have := mxL_ge hx
    omega
  · intro h
    rcases (foldl_max_ge l 0).2.2 with h1 | h1
    · exact h1
    · have h2 := mxL_nonneg l
      rcases Int.lt_or_eq_of_le h2 with h3 | h3
      · exact absurd ⟨_, h1, h3⟩ h
      · exact h3.symm
theorem within_nonneg {l : List Int} (h : withinL 60 l = true) : ∀ x ∈ l, 0 ≤ x := fun x hx => ((withinL_iff.1 h).2 x hx).1

set_option maxHeartbeats 1000000 in
theorem r_greatest (v : Value) (l : List Int) (w : World) (hv : RdI .i64 w v l) (hn : l.length ≤ 1000000) :
    Calls Try.prog 20 #[v] w fun e w' => e = .returned (.tuple #[.int .i64 (maxOut l), .int .i64 (maxErr l)]) ∧ w = w' := by
  have HR := Lib.hid (r_right13 v l w hv hn)
  cases h60 : withinL 60 l with
  | false =>
    have e1 : maxErr l = 2 := by rw [maxErr, h60]; rfl
    have e2 : maxOut l = 0 := by rw [maxOut, e1]; rfl
    rw [e1, e2]
    rw [h60] at HR
    obtain ⟨A0, n, cp0, rfl, hnl, -⟩ := hv.form
    clear hv hnl e1 e2 h60
    go_enter Try.func20, Try.ntmps20
    go_wp2_with (first | (go_at_call 41; refine HR.out.mono ?_; rintro e w' ⟨rfl, hw⟩; subst w'))
    go_ret2
    exact ⟨rfl, rfl⟩
  | true =>
    rw [h60] at HR
    obtain ⟨M, hM⟩ : ∃ M, M = maxOut l := ⟨_, rfl⟩
    obtain ⟨E, hE⟩ : ∃ E, E = maxErr l := ⟨_, rfl⟩
    have HME : Hid (mxL l = 0 → M = 0 ∧ E = 22) := fun h => by
      have h1 := mxL_zero.1 h
      have h2 : maxErr l = 22 := by rw [maxErr, h60, if_pos rfl, if_neg h1]
      exact ⟨by rw [hM, maxOut, h2]; rfl, by rw [hE, h2]⟩
    have HMF : Hid (mxL l ≠ 0 → M = mxL l ∧ E = 0) := fun h => by
      have h1 : 0 < (usedL l).length := by
        by_cases h2 : 0 < (usedL l).length
        · exact h2
        · exact absurd (mxL_zero.2 h2) h
      have h2 : maxErr l = 0 := by rw [maxErr, h60, if_pos rfl, if_pos h1]
      exact ⟨by rw [hM, maxOut, h2, if_pos rfl, maxOf_eq (within_nonneg h60)], by rw [hE, h2]⟩
    rw [← hM, ← hE]
    obtain ⟨A0, n, cp0, rfl, hnl, -⟩ := hv.form
    have HV := Lib.hid hv
    have HN := Lib.hid hnl
    have hn' : n ≤ 256 := by have := (withinL_iff.1 h60).1; omega
    have HB : Hid (∀ k, 0 ≤ mxL (l.take k) ∧ mxL (l.take k) ≤ 60) := fun k => ⟨mxL_nonneg _, mxL_le (by decide) (fun x hx => ((withinL_iff.1 h60).2 x (List.mem_of_mem_take hx)).2)⟩
    have H60 := Lib.hid h60
    clear hv hnl h60 hM hE
    go_enter Try.func20, Try.ntmps20
    go_wp2_with (first | (go_at_call 41; refine HR.out.mono ?_; rintro e w' ⟨rfl, hw⟩; subst w'))
    clear HR
    go_loop [4, 5] (fun s i => ∃ k : Nat, k ≤ n ∧ i = .int .i64 k ∧ s = .int .i64 (mxL (l.take k))) (fun _ i => n - (intOf i).toNat)
    case atStart => exact ⟨0, Nat.zero_le _, rfl, rfl⟩
    case round =>
      obtain ⟨k, hk, rfl, rfl⟩ := hrel
      by_cases hlt : k < n
      · obtain ⟨x, hx⟩ : ∃ x, l[k]? = some x := ⟨_, List.getElem?_eq_getElem (by have := HN.out; omega)⟩
        obtain ⟨b, o, rfl, hb, hc⟩ := HV.out.at hx
        have hcap := HV.out.cap
        have hkn : (k : Int) < (n : Int) := by omega
        have HST : Hid (mxL (l.take (k + 1)) = max (mxL (l.take k)) x) := by show _ = _; rw [take_next hx, mxL_snoc]
        have hb1 := HB.out k
        clear hx
        obtain ⟨S, hS⟩ : ∃ S, S = mxL (l.take k) := ⟨_, rfl⟩
        have HS := Lib.hid hS
        rw [← hS] at hb1 HST ⊢
        clear hS
        go_wp2_with fail
        go_round
        case rel => exact ⟨k + 1, by omega, by go_num, by rw [HST.out]⟩
        case measure => simp [intOf]; omega
      · have : k = n := by omega
        subst this
        have hL : Hid (mxL (l.take k) = mxL l) := by show _ = _; rw [List.take_of_length_le (by have := HN.out; omega)]
        rw [hL.out]
        by_cases h0 : mxL l = 0
        · obtain ⟨rfl, rfl⟩ := HME.out h0
          rw [h0]
          clear HME HMF h0
          go_wp2_with fail
          go_ret2
          exact ⟨rfl, rfl⟩
        · obtain ⟨rfl, rfl⟩ := HMF.out h0
          have hd : (mxL l == 0) = false := by simpa using h0
          clear HME HMF
          go_wp2_with fail
          go_ret2
          exact ⟨rfl, rfl⟩

end Go.Proofs.Ythjbngnihcmedaa
