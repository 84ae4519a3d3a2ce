/-
  The tree of weights is a tree. No program is in sight here.
  The tree that the weights of a tree give is that tree, without zeros at its end. (No walk is done here.)
  Walks over package weights: described at format 1, EncodeCoded, Encode.
  Walks over package weights: Encode. (Printed by mkYf.py.)
  A slice of bytes as a string; slices of slices that a call collects. No program is in sight here.
  The examples of package weights' chapter: works returns true. (Printed by mkVP.py.)
  The laws on the weights of a tree, the tree of weights, the implied weight, format 0: their walks. (Printed by mkVQ.py.)
  The law on descriptions in format 1: its walk. (Printed by mkYg.py.)
  The reference's Trim; the law on the shorter description: their walks. (Printed by mkYi.py.)
  The law on trees and their descriptions: its walk. (Printed by mkYj.py.)
  What an argument's reading as data says of the value: arrays and structs of three numbers.
  The law on trees and their descriptions: for every input it returns true and each argument reads as it read before.
-/
import Derived.Test.YtophgpnnjphnmaaGreatQ6
import Derived.Test.YtophgpnnjphnmaaGreatQ36
import Derived.Test.YtophgpnnjphnmaaGreatQ31
import Derived.Test.YtophgpnnjphnmaaGreatQ2
import Derived.Test.YtophgpnnjphnmaaGreatQ1
import Derived.Laws.BytesArg
import Derived.Test.YtophgpnnjphnmaaGreatQ10
import Derived.Lib.SmallJoins
import Derived.Deep.Slices
import Derived.OpenShut
namespace Go.Proofs.YtophgpnnjphnmaaGreat
section
set_option linter.unusedVariables false
set_option linter.unusedSimpArgs false
open Go.RowKit

theorem sumW_mem {l : List Int} {x : Int} (h : x ∈ l) (h0 : 0 < x) : 2 ^ (x.toNat - 1) ≤ sumW l := by
  induction l with
  | nil => cases h
  | cons y l ih =>
    rcases List.mem_cons.1 h with rfl | h
    · simp only [sumW, if_pos h0]; omega
    · have := ih h; simp only [sumW]; omega
theorem sumW_some {l : List Int} (h : 0 < sumW l) : ∃ x ∈ l, 0 < x := by
  induction l with
  | nil => simp [sumW] at h
  | cons y l ih =>
    by_cases hy : 0 < y
    · exact ⟨y, by simp, hy⟩
    · simp only [sumW, if_neg hy, Nat.zero_add] at h
      obtain ⟨x, hx, h0⟩ := ih h
      exact ⟨x, by simp [hx], h0⟩
theorem sum11_tr {k : Nat} (hk : k ≤ 11) : ∀ (m : List Int), (∀ x ∈ m, x ≤ k) → sum11 (trL k m) = 2 ^ (11 - k) * sumW m
  | [], _ => by simp [trL, sum11, sumW]
  | x :: m, h => by
    have ih := sum11_tr hk m (fun y hy => h y (by simp [hy]))
    have hx := h x (by simp)
    simp only [trL] at ih
    simp only [trL, List.map_cons, sum11, sumW, ih, Nat.mul_add]
    congr 1
    by_cases h0 : 0 < x
    · have e1 : wgt k x = k + 1 - x := if_pos h0
      rw [e1, if_pos (by omega), if_pos h0, ← Nat.pow_add]
      congr 1
      omega
    · have e1 : wgt k x = 0 := if_neg h0
      rw [e1, if_neg (by omega), if_neg h0, Nat.mul_zero]

theorem tOf_len (l : List Int) : (tOf l).length = l.length + 1 := by simp [tOf, trL]
theorem tree_of_ok {l : List Int} (h : okW l = true) : treeL (tOf l) = true := by
  simp only [okW, Bool.and_eq_true, decide_eq_true_eq] at h
  obtain ⟨⟨⟨h1, h2⟩, h3, h4, h5⟩, -⟩ := h
  obtain ⟨s1, s2, s3, s4, s5, s6, s7, s8, s9⟩ := sums h1 h2
  have hl : l.length < 256 := by simp [lenW] at h1; exact h1.2
  have hx : ∀ x ∈ l, 0 ≤ x ∧ x ≤ kW l := fun x hx => by
    have hb := finM_iff.1 (List.all_eq_true.1 h2 x hx)
    refine ⟨hb.1, ?_⟩
    by_cases h0 : 0 < x
    · have := sumW_mem hx h0
      have h7 : 2 ^ (x.toNat - 1) < 2 ^ kW l := by omega
      have := (Nat.pow_lt_pow_iff_right (by decide : 1 < 2)).1 h7
      omega
    · omega
  have hv : vW l ≤ kW l := by
    have h7 : 2 ^ (vW l - 1) < 2 ^ kW l := by omega
    have := (Nat.pow_lt_pow_iff_right (by decide : 1 < 2)).1 h7
    omega
  have hall : ∀ x ∈ l ++ [(vW l : Int)], 0 ≤ x ∧ x ≤ kW l := fun x hm => by
    rcases List.mem_append.1 hm with hm | hm
    · exact hx x hm
    · have := List.mem_singleton.1 hm; omega
  rw [treeL_iff]
  refine ⟨by rw [tOf_len]; omega, ?_, ?_, ?_⟩
  · intro y hy
    obtain ⟨x, hm, rfl⟩ := List.mem_map.1 hy
    have := hall x hm
    unfold wgt
    split <;> omega
  · obtain ⟨x, hm, h0⟩ := sumW_some h3
    have hp : 0 < (usedL (trL (kW l) l)).length := usedL_pos.2 ⟨wgt (kW l) x, List.mem_map.2 ⟨x, hm, rfl⟩, by
      have := hx x hm
      unfold wgt
      rw [if_pos h0]; omega⟩
    have e : tOf l = trL (kW l) l ++ [wgt (kW l) (vW l)] := by simp [tOf, trL]
    rw [e, usedL_snoc, if_pos (by unfold wgt; rw [if_pos (by omega)]; omega), List.length_append]
    simp only [List.length_singleton]
    omega
  · show sum11 (trL (kW l) (l ++ [(vW l : Int)])) = 2048
    rw [sum11_tr h4 _ (fun x hm => (hall x hm).2), sumW_snoc, if_pos (by omega)]
    have e : sumW l + 2 ^ ((vW l : Int).toNat - 1) = 2 ^ kW l := by
      rw [Int.toNat_natCast, ← h5]; omega
    rw [e, ← Nat.pow_add, show 11 - kW l + kW l = 11 by omega]
end

section
set_option linter.unusedVariables false
set_option linter.unusedSimpArgs false
open Go.RowKit

theorem lastU_spec (l : List Int) (h : ∃ x ∈ l, 0 < x) : (∃ x, l[lastU l]? = some x ∧ 0 < x) ∧ ∀ i x, lastU l < i → l[i]? = some x → ¬ 0 < x := by
  suffices H : ∀ k, k ≤ l.length → (∃ x ∈ l.take k, 0 < x) → (∃ x, l[lastU (l.take k)]? = some x ∧ 0 < x) ∧ lastU (l.take k) < k ∧ ∀ i x, lastU (l.take k) < i → i < k → l[i]? = some x → ¬ 0 < x by
    have := H l.length (Nat.le_refl _) (by rw [List.take_length]; exact h)
    rw [List.take_length] at this
    exact ⟨this.1, fun i x hi hx => this.2.2 i x hi (List.getElem?_eq_some_iff.1 hx).1 hx⟩
  intro k
  induction k with
  | zero => intro _ h; simp at h
  | succ k ih =>
    intro hk hex
    obtain ⟨x, hx⟩ : ∃ x, l[k]? = some x := ⟨_, List.getElem?_eq_getElem (by omega)⟩
    rw [lastU_take hx]
    by_cases h0 : 0 < x
    · rw [if_pos h0]
      exact ⟨⟨x, hx, h0⟩, by omega, fun i y hi hi2 _ => by omega⟩
    · rw [if_neg h0]
      have hex' : ∃ y ∈ l.take k, 0 < y := by
        obtain ⟨y, hy, hy0⟩ := hex
        rw [take_next hx] at hy
        rcases List.mem_append.1 hy with hy | hy
        · exact ⟨y, hy, hy0⟩
        · rw [List.mem_singleton.1 hy] at hy0; exact absurd hy0 h0
      obtain ⟨i1, i2, i3⟩ := ih (by omega) hex'
      refine ⟨i1, by omega, fun i y hi hi2 hy => ?_⟩
      by_cases hik : i = k
      · subst hik; rw [hx] at hy; injection hy with hy; rw [← hy]; exact h0
      · exact i3 i y hi (by omega) hy
theorem wgt_wgt {k x : Int} (h0 : 0 ≤ x) (h1 : x ≤ k) : wgt k (wgt k x) = x := by
  unfold wgt
  split
  · rw [if_pos (by omega)]; omega
  · rw [if_neg (by omega)]; omega
theorem sum11_zero {l : List Int} (h : ∀ x ∈ l, ¬ 0 < x) : sum11 l = 0 := by
  induction l with
  | nil => rfl
  | cons x l ih => simp only [sum11, if_neg (h x (by simp)), ih (fun y hy => h y (by simp [hy]))]
theorem usedF_none {l : List Int} (i : Nat) (h : ∀ x ∈ l, ¬ 0 < x) : usedF i l = [] := by
  induction l generalizing i with
  | nil => rfl
  | cons x l ih => simp only [usedF, if_neg (h x (by simp)), ih (i + 1) (fun y hy => h y (by simp [hy]))]
theorem bitLen_at {n k : Nat} (h1 : 2 ^ k ≤ n) (h2 : n < 2 ^ (k + 1)) (hk : k ≤ 20) : Go.Lib.bitLen n = k + 1 := by
  have h3 : 2 ^ (k + 1) ≤ 2 ^ 21 := Nat.pow_le_pow_right (by decide) (by omega)
  rw [show (2 : Nat) ^ 21 = 2097152 by decide] at h3
  have a := (bitLen_le (n := n) (k := k) (by omega)).2 h1
  have b := bitLen_top (n := n) (k := k + 1) (by omega) h2
  omega

/-- The weights of a tree are weights, and their tree is the tree without zeros at its end. -/
theorem back_of_tree {T : List Int} (h : treeL T = true) : okW (wOf T) = true ∧ tOf (wOf T) = T.take (lastU T + 1) ∧ lastU T < T.length ∧ (∀ i x, lastU T < i → T[i]? = some x → x = 0) ∧ 0 < T.getD (lastU T) 0 := by
  obtain ⟨h1, h2, h3, h4⟩ := treeL_iff.1 h
  have hex : ∃ x ∈ T, 0 < x := usedL_pos.1 (by omega)
  obtain ⟨⟨z, hz, hz0⟩, hzero⟩ := lastU_spec T hex
  obtain ⟨m, hm⟩ : ∃ m, lastU T = m := ⟨_, rfl⟩
  rw [hm] at hz hzero
  have hml := (List.getElem?_eq_some_iff.1 hz).1
  have hzT := List.mem_of_getElem? hz
  obtain ⟨K, hK⟩ := Int.eq_ofNat_of_zero_le (mxL_nonneg T)
  have hKge : ∀ x ∈ T, x ≤ (K : Int) := fun x hx => hK ▸ mxL_ge hx
  have hK11 : K ≤ 11 := by have := mxL_le (l := T) (m := 11) (by decide) (fun x hx => (h2 x hx).2); omega
  have hKin : (K : Int) ∈ T := by
    rcases (foldl_max_ge T 0).2.2 with e | e
    · have e' : mxL T = 0 := e
      have := hKge z hzT
      omega
    · have e' : mxL T ∈ T := e
      rw [hK] at e'; exact e'
  have hz11 := h2 z hzT
  have hzK := hKge z hzT
  have hW : wOf T = (T.take m).map (wgt K) := by rw [wOf, hm, hK, List.map_take]
  have hA : (T.take (m + 1)).map (wgt K) = wOf T ++ [wgt K z] := by rw [take_next hz, List.map_append, hW]; rfl
  have hwz : wgt K z = K + 1 - z := if_pos hz0
  -- the sum
  have hdrop : ∀ x ∈ T.drop (m + 1), ¬ 0 < x := fun x hx => by
    obtain ⟨j, hj⟩ := List.getElem?_of_mem hx
    rw [List.getElem?_drop] at hj
    exact hzero _ x (by omega) hj
  have hs11 : sum11 (T.take (m + 1)) = 2048 := by
    have e := sum11_append (T.take (m + 1)) (T.drop (m + 1))
    rw [List.take_append_drop, h4, sum11_zero hdrop] at e
    omega
  have hww : ∀ (L : List Int), (∀ x ∈ L, 0 ≤ x ∧ x ≤ (K : Int)) → trL K (L.map (wgt K)) = L := fun L hL => by
    unfold trL
    rw [List.map_map]
    conv => rhs; rw [← List.map_id L]
    exact List.map_congr_left (fun x hx => wgt_wgt (hL x hx).1 (hL x hx).2)
  have hbnd : ∀ x ∈ T, 0 ≤ x ∧ x ≤ (K : Int) := fun x hx => ⟨(h2 x hx).1, hKge x hx⟩
  have hwb : ∀ x ∈ T, 0 ≤ wgt K x ∧ wgt K x ≤ (K : Int) := fun x hx => by
    have := h2 x hx
    have := hKge x hx
    unfold wgt
    split <;> omega
  have hsA : 2 ^ (11 - K) * sumW ((T.take (m + 1)).map (wgt K)) = 2048 := by
    rw [← sum11_tr hK11 _ (fun x hx => by obtain ⟨y, hy, rfl⟩ := List.mem_map.1 hx; exact (hwb y (List.mem_of_mem_take hy)).2), hww _ (fun x hx => hbnd x (List.mem_of_mem_take hx)), hs11]
  have hsA2 : sumW ((T.take (m + 1)).map (wgt K)) = 2 ^ K := by
    have e : 2 ^ (11 - K) * 2 ^ K = 2048 := by rw [← Nat.pow_add, show 11 - K + K = 11 by omega]
    exact Nat.eq_of_mul_eq_mul_left (Nat.pow_pos (by decide) : 0 < 2 ^ (11 - K)) (hsA.trans e.symm)
  -- another one is used
  have hm0 : ∃ y ∈ T.take m, 0 < y := by
    have e : usedL T = usedF 0 (T.take m ++ ([z] ++ T.drop (m + 1))) := by
      rw [← List.append_assoc, ← take_next hz, List.take_append_drop]; rfl
    have e2 : ∀ (A B : List Int) (i : Nat), (usedF i (A ++ B)).length = (usedF i A).length + (usedF (i + A.length) B).length := by
      intro A B
      induction A with
      | nil => intro i; simp [usedF]
      | cons a A ih =>
        intro i
        simp only [List.cons_append, usedF, List.length_cons]
        have := ih (i + 1)
        rw [show i + 1 + A.length = i + (A.length + 1) by omega] at this
        split
        · simp only [List.length_cons, this]; omega
        · exact this
    have e3 := congrArg List.length e
    rw [e2, e2, usedF_none _ hdrop] at e3
    have e4 : (usedF (0 + (T.take m).length) [z]).length = 1 := by simp [usedF, hz0]
    rw [e4] at e3
    exact (usedF_pos 0).1 (by simp at e3; omega)
  have hmpos : 0 < m := by
    obtain ⟨y, hy, -⟩ := hm0
    by_cases h0 : 0 < m
    · exact h0
    · have : m = 0 := by omega
      rw [this] at hy; simp at hy
  -- the sum of the weights but the last
  have hzK1 : 1 ≤ K := by omega
  obtain ⟨e, he⟩ : ∃ e : Nat, z = (e : Int) := Int.eq_ofNat_of_zero_le (by omega)
  have hsW : sumW (wOf T) + 2 ^ (K - e) = 2 ^ K := by
    rw [hA, sumW_snoc, hwz, if_pos (by omega)] at hsA2
    rw [show ((K : Int) + 1 - z).toNat - 1 = K - e by omega] at hsA2
    exact hsA2
  have he1 : 1 ≤ e := by omega
  have heK : e ≤ K := by omega
  have hhalf : 2 ^ (K - e) ≤ 2 ^ (K - 1) := Nat.pow_le_pow_right (by decide) (by omega)
  have hdbl : 2 ^ K = 2 * 2 ^ (K - 1) := by rw [← Nat.pow_succ', show (K - 1).succ = K by omega]
  have hp1 : 1 ≤ 2 ^ (K - e) := Nat.one_le_two_pow
  have hkW : kW (wOf T) = K := by
    have := bitLen_at (n := sumW (wOf T)) (k := K - 1) (by omega) (by rw [show K - 1 + 1 = K by omega]; omega) (by omega)
    unfold kW
    omega
  have hrest : restW (wOf T) = 2 ^ (K - e) := by unfold restW; rw [hkW]; omega
  have hvW : vW (wOf T) = K - e + 1 := by
    unfold vW
    rw [hrest]
    exact bitLen_at (Nat.le_refl _) (by rw [Nat.pow_succ]; omega) (by omega)
  have hvz : ((vW (wOf T) : Nat) : Int) = wgt K z := by rw [hvW, hwz]; omega
  have hsplit : wOf T ++ [((vW (wOf T) : Nat) : Int)] = (T.take (m + 1)).map (wgt K) := by rw [hvz, hA]
  have hWlen : (wOf T).length = m := by rw [hW, List.length_map, List.length_take]; omega
  refine ⟨?_, ?_, by omega, fun i x hi hx => ?_, ?_⟩
  · simp only [okW, Bool.and_eq_true, decide_eq_true_eq]
    refine ⟨⟨⟨?_, ?_⟩, ?_, ?_, ?_⟩, ?_⟩
    · simp [lenW, hWlen]; omega
    · rw [List.all_eq_true]
      intro x hx
      rw [hW] at hx
      obtain ⟨y, hy, rfl⟩ := List.mem_map.1 hx
      have := hwb y (List.mem_of_mem_take hy)
      exact finM_iff.2 ⟨this.1, by omega⟩
    · have : 1 ≤ 2 ^ (K - 1) := Nat.one_le_two_pow
      omega
    · omega
    · rw [hrest, hvW, Nat.add_sub_cancel]
    · rw [hsplit]
      have : (1 : Int) ∈ (T.take (m + 1)).map (wgt K) := by
        refine List.mem_map.2 ⟨(K : Int), ?_, by unfold wgt; rw [if_pos (by omega)]; omega⟩
        have hkm : (K : Int) ∈ T.take (m + 1) ++ T.drop (m + 1) := by rw [List.take_append_drop]; exact hKin
        rcases List.mem_append.1 hkm with hh | hh
        · exact hh
        · exact absurd (show (0 : Int) < (K : Int) by omega) (hdrop _ hh)
      exact List.contains_iff_mem.2 this
  · rw [tOf, hkW, hsplit, hww _ (fun x hx => hbnd x (List.mem_of_mem_take hx)), hm]
  · have := hzero i x (by omega) hx
    have := h2 x (List.mem_of_getElem? hx)
    omega
  · rw [hm, List.getD_eq_getElem?_getD, hz]; exact hz0
end

section
set_option linter.unusedVariables false
set_option linter.unusedSimpArgs false
set_option linter.unusedSectionVars false
open Go.RowKit

set_option maxRecDepth 100000 in
set_option maxHeartbeats 2000000 in
theorem describedC_yes (v : Value) (l : List Int) (w : World) (hv : RdI .i64 w v l) (ht : okW l = true) : Calls Tryz.prog 43 #[v, .int .i64 1] w (BtEnd w (codedE l) 0) := by
  have hmf : ∀ (fn : Fn) (first cap : Array Value) (w : World), (Instr.makeFunc fn first cap).run Tryz.prog w = .ok (.func fn first cap) w := fun _ _ _ _ => rfl
  obtain ⟨hl0, hl255⟩ := okW_len ht
  have HO := Lib.hid (fun w' (k : Keeps w w' []) => (wtree_any v l w' (hv.keeps k) (by omega)).mono fun e w'' h => (⟨h.2.1 ht, h.1⟩ : (∃ v, e = .returned (.tuple #[v, .int .i64 (vW l)]) ∧ RdI .i64 w'' v (tOf l) ∧ Fresh w'.heap.size v) ∧ Keeps w' w'' []))
  have HH := Lib.hid (fun w' (k : Keeps w w' []) => coded_any v l w' (hv.keeps k) (okW_bound ht) hl0 hl255)
  have hix : ∀ w : World, (Instr.index 80 (.agg #[.func (.func 80) #[] #[], .func (.func 81) #[] #[]]) (.int .i64 1)).run Tryz.prog w = .ok (.func (.func 81) #[] #[]) w := fun w => by simp [Instr.index, go_sem]
  obtain ⟨A0, n, cp0, rfl, -, -⟩ := hv.form
  clear hv ht hl0 hl255
  generalize vW l = V at *
  go_enter_defers Tryz.func43, Tryz.ntmps43
  go_wp2_with fail
  have k0 : Keeps w ((w.alloc (.cells #[.slice none 0 0] 36)).alloc (.cells #[.int .i64 0] 24)) [] := ((Keeps.refl w []).alloc _).alloc _
  have bo := (Blk.new w #[.slice none 0 0] 36).alloc (.cells #[.int .i64 0] 24)
  have be := Blk.new (w.alloc (.cells #[.slice none 0 0] 36)) #[.int .i64 0] 24
  simp only [World.size_alloc] at be
  refine (HO.out _ k0).mono ?_
  rintro e w1 ⟨⟨v1, rfl, r1, f1⟩, k1⟩
  clear r1 f1
  replace bo := bo.keeps k1 (by simp)
  replace be := be.keeps k1 (by simp)
  replace k0 := k0.then k1
  clear k1
  go_wp2_with (go_at_call 60; refine (ways_any _).mono ?_; rintro e w2 ⟨rfl, k2⟩)
  have k2' := k0.then k2
  have hs12' : Hid (w.heap.size + 2 ≤ w2.heap.size) := by have := (be.keeps k2 (by simp)).lt; exact (by omega : w.heap.size + 2 ≤ w2.heap.size)
  replace bo := bo.keeps k2 (by simp)
  replace be := be.keeps k2 (by simp)
  go_wp2_with fail
  refine (HH.out _ k2').mono ?_
  rintro e w3 ⟨v3, rfl, own3, k3⟩
  obtain ⟨a3, c3, rfl⟩ := own_form own3
  replace bo := bo.keeps k3 (by simp)
  replace be := be.keeps k3 (by simp)
  have hs2 := k2'.size
  have lbe := be.lt
  have hs12 : w.heap.size + 2 ≤ w2.heap.size := hs12'.out
  replace k0 := k2'.then k3
  clear k2 k2' k3
  obtain ⟨e0, e1⟩ := be.one
  obtain ⟨o0, o1⟩ := bo.one
  have R1 := Lib.hid (own_reads own3)
  have F1 := Lib.hid (own_freshB own3)
  have hlen : (codedE l).length = (codedE l).length := rfl
  clear own3 hlen
  generalize (codedE l).length = N at *
  go_wp2_with fail
  refine leaves_cons (f := 35) (args := #[.pointer (some ⟨w.heap.size + 1, 0, none⟩), .func (.func 66) #[] #[.pointer (some ⟨w.heap.size, 0, none⟩)]]) (by simp) (by simp [go_sem]) ?_
  refine (wcaught_idle _ _ _).mono ?_
  rintro e u' w'' ⟨rfl, rfl, rfl⟩
  refine ⟨.tuple #[.slice a3 N c3, .int .i64 0], by simp only [results, Tryz.results43]; go_simp, ?_⟩
  refine ⟨_, rfl, R1.out.keepsS (S := [w.heap.size, w.heap.size + 1]) (by repeat (first | exact Keeps.refl _ _ | refine Keeps.setCell' (.inr (by simp)) ?_)) (fun ad m c he _ hm => ?_), F1.out.mono hs2, by repeat (first | exact k0 | refine Keeps.setCell' (.inl (by dsimp only; omega)) ?_)⟩
  have := F1.out ad m c he
  simp at hm
  omega

def codedOut (l : List Int) : List Int := if okW l then codedE l else []

set_option maxRecDepth 100000 in
theorem encoded_any (v : Value) (l : List Int) (w : World) (hv : RdI .i64 w v l) (hn : l.length ≤ 1000000) : Calls Tryz.prog 24 #[v] w (BtEnd w (codedOut l) (treeErr l)) := by
  have hd : Calls Tryz.prog 43 #[v, .int .i64 1] w (BtEnd w (codedOut l) (treeErr l)) := by
    cases ht : okW l with
    | true => simpa [codedOut, treeErr, ht] using describedC_yes v l w hv ht
    | false => simpa [codedOut, treeErr, ht] using described_no v l 1 w hv hn ht
  have HD := Lib.hid hd
  obtain ⟨A0, n, cp0, rfl, -, -⟩ := hv.form
  clear hv hd
  generalize treeErr l = E at *
  go_enter Tryz.func24, Tryz.ntmps24
  go_wp2_with (refine HD.out.mono ?_; rintro e w1 ⟨v1, rfl, r1, f1, k1⟩)
  exact bodyPost_ret (v := .tuple #[v1, .int .i64 E]) (by simp [results, Tryz.results24]) rfl ⟨v1, rfl, r1, f1, k1⟩
end

section
set_option linter.unusedVariables false
set_option linter.unusedSimpArgs false
set_option linter.unusedSectionVars false
open Go.RowKit

/-- A postcondition whose panics do not see the frame. -/
def CalmV (Q : Exit → Act → World → Prop) : Exit → Act → World → Prop
  | .panic _, _, _ => False
  | e, a, w => Q e a w
theorem wp_calmV {P : Program} {c : Code} {Q : Exit → Act → World → Prop} {a : Act} {w : World} (h : Code.wp P c (CalmV Q) a w) : Code.wp P c Q a w :=
  wp_mono h fun e _ _ hq => by cases e <;> first | exact hq | exact hq.elim
theorem calmV_normal {Q : Exit → Act → World → Prop} {a : Act} {w : World} (h : Q .normal a w) : CalmV Q .normal a w := h

set_option maxHeartbeats 600000 in
/-- The deferred function where an error was raised: the result is cleared, the error is laid. -/
theorem wcaught_enc (pe po : Nat) (n : Int) (x z : Value) (te tq : TypeId) (older : List PanicEntry) (w : World) (he : Blk w pe #[z] te) (ho : Blk w po #[x] tq) (h1 : pe ≠ po) :
    CallsD Tryz.prog 35 #[.pointer (some ⟨pe, 0, none⟩), .func (.func 59) #[] #[.pointer (some ⟨po, 0, none⟩)]] (.panicking (raisedBy n false :: older)) w fun e u' w' =>
      e = .returned (.tuple #[]) ∧ u' = .panicking (raisedBy n true :: older) ∧ w' = (w.setCell ⟨po, 0, none⟩ (.slice none 0 0)).setCell ⟨pe, 0, none⟩ (.int .i64 n) := by
  obtain ⟨c0, f0⟩ := he.one
  obtain ⟨c1, f1⟩ := ho.one
  have hta : ∀ w : World, (Instr.typeAssert (.iface 24 (.int .i64 n)) 20 24 true).run Tryz.prog w = .ok (.tuple #[.int .i64 n, .bool true]) w := fun _ => by kernel_rfl
  have h1' := h1.symm
  refine callsD_of_wpS Tryz.func35 rfl fun c₀ cs hu => ?_
  simp only [Tryz.ntmps35, List.size_toArray, List.length_cons, List.length_nil, Nat.reduceAdd, Nat.reduceSub, Array.replicate_succ, Array.replicate_zero, List.push_toArray, List.append_toArray, List.nil_append, List.cons_append]
  apply wpS_seq
  apply wpS_region
  simp [wpOpsS, go_sem, recoverD, hu, Exit.thenS, raisedBy]
  refine wpS_of_wp ?_
  have HU := Lib.hid hu
  clear hu
  go_wp2
  go_end0
  go_wp2
  refine ⟨rfl, .panicking (raisedBy n true :: older), ?_, .tuple #[], by simp [results, Tryz.results35], rfl, rfl, rfl⟩
  simp [raisedBy]


theorem encode_no (v : Value) (l : List Int) (w : World) (hv : RdI .i64 w v l) (hn : l.length ≤ 1000000) (ht : treeL l = false) : Calls Tryz.prog 31 #[v] w (BtEnd w [] 12) := by
  have hmf : ∀ (fn : Fn) (first cap : Array Value) (w : World), (Instr.makeFunc fn first cap).run Tryz.prog w = .ok (.func fn first cap) w := fun _ _ _ _ => rfl
  have HO := Lib.hid (fun w' (k : Keeps w w' []) => wof_no v l w' (hv.keeps k) hn ht)
  obtain ⟨A0, n, cp0, rfl, -, -⟩ := hv.form
  clear hv ht
  go_enter_defers Tryz.func31, Tryz.ntmps31
  go_wp2_with fail
  have k0 : Keeps w ((w.alloc (.cells #[.slice none 0 0] 36)).alloc (.cells #[.int .i64 0] 24)) [] := ((Keeps.refl w []).alloc _).alloc _
  have bo := (Blk.new w #[.slice none 0 0] 36).alloc (.cells #[.int .i64 0] 24)
  have be := Blk.new (w.alloc (.cells #[.slice none 0 0] 36)) #[.int .i64 0] 24
  simp only [World.size_alloc] at be
  refine (HO.out _ k0).mono ?_
  rintro e w1 ⟨rfl, k1⟩
  replace bo := bo.keeps k1 (by simp)
  replace be := be.keeps k1 (by simp)
  replace k0 := k0.then k1
  clear k1
  obtain ⟨e0, e1⟩ := be.one
  obtain ⟨o0, o1⟩ := bo.one
  go_wp2_with fail
  refine leaves_cons (f := 35) (args := #[.pointer (some ⟨w.heap.size + 1, 0, none⟩), .func (.func 59) #[] #[.pointer (some ⟨w.heap.size, 0, none⟩)]]) (by simp) (by simp [go_sem]) ?_
  refine (wcaught_enc _ _ 12 _ _ _ _ [] _ be bo (by omega)).mono ?_
  rintro e u' w'' ⟨rfl, rfl, rfl⟩
  refine ⟨.tuple #[.slice none 0 0, .int .i64 12], by simp only [results, Tryz.results31]; go_simp, ?_⟩
  refine ⟨_, rfl, .nil, .nil, ?_⟩
  exact Keeps.setCell' (.inl (by dsimp only; omega)) (Keeps.setCell' (.inl (by dsimp only; omega)) k0)

/-- The shorter description. -/
def encT (l : List Int) : List Int := if (codedE (wOf l)).length < (halvesL (wOf l)).length then codedE (wOf l) else halvesL (wOf l)

set_option maxRecDepth 100000 in
set_option maxHeartbeats 4000000 in
theorem encode_yes (v : Value) (l : List Int) (w : World) (hv : RdI .i64 w v l) (hn : l.length ≤ 1000000) (ht : treeL l = true) : Calls Tryz.prog 31 #[v] w (BtEnd w (encT l) 0) := by
  have hmf : ∀ (fn : Fn) (first cap : Array Value) (w : World), (Instr.makeFunc fn first cap).run Tryz.prog w = .ok (.func fn first cap) w := fun _ _ _ _ => rfl
  have hok := (back_of_tree ht).1
  obtain ⟨hl0, hl255⟩ := okW_len hok
  have HO := Lib.hid (fun w' (k : Keeps w w' []) => wof_yes v l w' (hv.keeps k) hn ht)
  have HFA := Lib.hid (fun u W (h : RdI .i64 W u (wOf l)) => halved_any u (wOf l) W h (by omega) (okW_bound hok))
  have HFB := Lib.hid (fun u W (h : RdI .i64 W u (wOf l)) => coded_any u (wOf l) W h (okW_bound hok) hl0 hl255)
  obtain ⟨A0, n, cp0, rfl, -, -⟩ := hv.form
  clear hv ht hok
  go_enter_defers Tryz.func31, Tryz.ntmps31
  go_wp2_with fail
  have k0 : Keeps w ((w.alloc (.cells #[.slice none 0 0] 36)).alloc (.cells #[.int .i64 0] 24)) [] := ((Keeps.refl w []).alloc _).alloc _
  have bo := (Blk.new w #[.slice none 0 0] 36).alloc (.cells #[.int .i64 0] 24)
  have be := Blk.new (w.alloc (.cells #[.slice none 0 0] 36)) #[.int .i64 0] 24
  simp only [World.size_alloc] at be
  refine (HO.out _ k0).mono ?_
  rintro e w1 ⟨v1, rfl, r1, -, k1⟩
  obtain ⟨a1, n1, c1, rfl, -, -⟩ := r1.form
  replace bo := bo.keeps k1 (by simp)
  replace be := be.keeps k1 (by simp)
  replace k0 := k0.then k1
  clear k1
  go_wp2_with (go_at_call 60; refine (ways_any _).mono ?_; rintro e w2 ⟨rfl, k2⟩)
  replace bo := (bo.keeps k2 (by simp)).alloc (.cells #[.func (.func 80) #[] #[], .func (.func 81) #[] #[]] 80)
  replace be := (be.keeps k2 (by simp)).alloc (.cells #[.func (.func 80) #[] #[], .func (.func 81) #[] #[]] 80)
  have k3 := (k0.then k2).alloc (.cells #[.func (.func 80) #[] #[], .func (.func 81) #[] #[]] 80)
  have r3 := (r1.keeps k2).keeps ((Keeps.refl w2 []).alloc (.cells #[.func (.func 80) #[] #[], .func (.func 81) #[] #[]] 80))
  have B5 := Lib.hid (Blk.new w2 #[.func (.func 80) #[] #[], .func (.func 81) #[] #[]] 80)
  clear r1 k0 k2
  obtain ⟨W3, hW3⟩ : ∃ W, W = w2.alloc (.cells #[.func (.func 80) #[] #[], .func (.func 81) #[] #[]] 80) := ⟨_, rfl⟩
  rw [← hW3] at bo be k3 r3 B5 ⊢
  have HA := Lib.hid (fun W (k : Keeps W3 W []) => HFA.out _ W (r3.keeps k))
  have HB := Lib.hid (fun W (k : Keeps W3 W []) => HFB.out _ W (r3.keeps k))
  have HS2 : Hid (w.heap.size + 2 ≤ W3.heap.size) := Lib.hid (by have := be.lt; omega)
  clear r3 hW3 HO HFA HFB
  refine wp_calmV ?_
  refine wp_region_held_drew (S := (fun w' => Keeps W3 w' [])) (by kernel_rfl) (Keeps.refl W3 []).drew (fun hHeld => ?_)
  refine takeL (i := 0) (v := ?_) rfl (by kernel_rfl) (by kernel_rfl) (by kernel_rfl) (fun _ _ _ h => h) (by rfl) ?_ (by assumption) ?_
  rotate_left
  · (intro w9 hSw; clear hSw; go_simp; (try with_reducible rfl))
  try simp only [Act.put, List.setIfInBounds_toArray, List.set_cons_zero, List.set_cons_succ]
  refine takeL (i := 1) (v := ?_) rfl (by kernel_rfl) (by kernel_rfl) (by kernel_rfl) (fun _ _ _ h => h) (by rfl) ?_ (by assumption) ?_
  rotate_left
  · (intro w9 hSw; have q := (B5.out.keeps hSw (by simp)).cell 0; simp at q; clear hSw; go_simp; (try with_reducible rfl))
  try simp only [Act.put, List.setIfInBounds_toArray, List.set_cons_zero, List.set_cons_succ]
  refine takeL (i := 2) (v := ?_) rfl (by kernel_rfl) (by kernel_rfl) (by kernel_rfl) (fun _ _ _ h => h) (by rfl) ?_ (by assumption) ?_
  rotate_left
  · (intro w9 hSw; clear hSw; go_simp; (try with_reducible rfl))
  try simp only [Act.put, List.setIfInBounds_toArray, List.set_cons_zero, List.set_cons_succ]
  refine takeL (i := 4) (v := ?_) rfl (by kernel_rfl) (by kernel_rfl) (by kernel_rfl) (fun _ _ _ h => h) (by rfl) ?_ (by assumption) ?_
  rotate_left
  · (intro w9 hSw; clear hSw; go_simp; (try with_reducible rfl))
  try simp only [Act.put, List.setIfInBounds_toArray, List.set_cons_zero, List.set_cons_succ]
  refine takeL (i := 5) (v := ?_) rfl (by kernel_rfl) (by kernel_rfl) (by kernel_rfl) (fun _ _ _ h => h) (by rfl) ?_ (by assumption) ?_
  rotate_left
  · (intro w9 hSw; have q := (B5.out.keeps hSw (by simp)).cell 1; simp at q; clear hSw; go_simp; (try with_reducible rfl))
  try simp only [Act.put, List.setIfInBounds_toArray, List.set_cons_zero, List.set_cons_succ]
  refine takeL (i := 6) (v := ?_) rfl (by kernel_rfl) (by kernel_rfl) (by kernel_rfl) (fun _ _ _ h => h) (by rfl) ?_ (by assumption) ?_
  rotate_left
  · (intro w9 hSw; clear hSw; go_simp; (try with_reducible rfl))
  try simp only [Act.put, List.setIfInBounds_toArray, List.set_cons_zero, List.set_cons_succ]
  refine callL (i := 3) rfl (by kernel_rfl) (fun Kont hK => ?_)
  go_simp
  refine (HA.out _ (Keeps.refl W3 []).drew).mono ?_
  rintro e w4 ⟨v4, rfl, own4, k4⟩
  obtain ⟨a4, c4, rfl⟩ := own_form own4
  have k4' := k3.drew.then k4
  have kk4 := (Keeps.refl W3 []).drew.then k4
  have s4 := own4.lt
  have OW4 := Lib.hid own4
  go_wp2_with fail
  refine hK.out _ _ ?_ (fun hHeld => ?_)
  · exact kk4
  clear hK Kont k4 own4
  refine callL (i := 7) rfl (by kernel_rfl) (fun Kont hK => ?_)
  go_simp
  refine (HB.out _ kk4).mono ?_
  rintro e w5 ⟨v5, rfl, own5, k5⟩
  obtain ⟨a5, c5, rfl⟩ := own_form own5
  have k5' := k4'.then k5
  have kk5 := kk4.then k5
  have OA5 := Lib.hid (own_keeps OW4.out k5)
  have OB5 := Lib.hid own5
  go_wp2_with fail
  refine hK.out _ _ ?_ (fun hHeld => ?_)
  · exact kk5
  clear hK Kont k5 own5
  refine takeL (i := 8) (v := ?_) rfl (by kernel_rfl) (by kernel_rfl) (by kernel_rfl) (fun _ _ _ h => h) (by rfl) ?_ (by assumption) ?_
  rotate_left
  · (intro w9 hSw; clear hSw; go_simp; (try with_reducible rfl))
  try simp only [Act.put, List.setIfInBounds_toArray, List.set_cons_zero, List.set_cons_succ]
  refine takeL (i := 9) (v := ?_) rfl (by kernel_rfl) (by kernel_rfl) (by kernel_rfl) (fun _ _ _ h => h) (by rfl) ?_ (by assumption) ?_
  rotate_left
  · (intro w9 hSw; clear hSw; go_simp; (try with_reducible rfl))
  try simp only [Act.put, List.setIfInBounds_toArray, List.set_cons_zero, List.set_cons_succ]
  refine wpAnyH_done (by kernel_rfl) ?_ _
  refine calmV_normal ?_
  by_cases hlt : (codedE (wOf l)).length < (halvesL (wOf l)).length
  · have hET : Hid (encT l = codedE (wOf l)) := Lib.hid (if_pos hlt)
    have hltI : ((codedE (wOf l)).length : Int) < ((halvesL (wOf l)).length : Int) := by omega
    replace bo := bo.keeps kk5 (by simp)
    replace be := be.keeps kk5 (by simp)
    have k0 := k5'
    have hs2 := HS2.out
    have lbe := be.lt
    obtain ⟨e0, e1⟩ := be.one
    obtain ⟨o0, o1⟩ := bo.one
    have R1 := Lib.hid (own_reads OB5.out)
    have F1 := Lib.hid (own_freshB OB5.out)
    have HSA : Hid (w.heap.size + 2 ≤ W3.drew.heap.size) := Lib.hid (by have h : W3.drew.heap.size = W3.heap.size := rfl; omega)
    have HSB : Hid (w.heap.size + 2 ≤ w4.heap.size) := Lib.hid (by have := kk4.size; omega)
    clear OA5 OB5 OW4 hHeld kk4 k4' kk5
    generalize (codedE (wOf l)).length = NB at *
    generalize (halvesL (wOf l)).length = NA at *
    go_wp2_with fail
    refine leaves_cons (f := 35) (args := #[.pointer (some ⟨w.heap.size + 1, 0, none⟩), .func (.func 59) #[] #[.pointer (some ⟨w.heap.size, 0, none⟩)]]) (by simp) (by simp [go_sem]) ?_
    refine (wcaught_idle _ _ _).mono ?_
    rintro e u' w'' ⟨rfl, rfl, rfl⟩
    refine ⟨.tuple #[.slice a5 NB c5, .int .i64 0], by simp only [results, Tryz.results31]; go_simp, ?_⟩
    refine ⟨_, rfl, hET.out ▸ R1.out.keepsS (S := [w.heap.size, w.heap.size + 1]) (by repeat (first | exact Keeps.refl _ _ | refine Keeps.setCell' (.inr (by simp)) ?_)) (fun ad m c he _ hm => ?_), F1.out.mono (Nat.le_trans (by omega) HSB.out), by repeat (first | exact k0 | refine Keeps.setCell' (.inl (by dsimp only; omega)) ?_)⟩
    have := F1.out ad m c he
    have := HSB.out
    simp at hm
    omega
  · have hET : Hid (encT l = halvesL (wOf l)) := Lib.hid (if_neg hlt)
    have hltI : decide (((codedE (wOf l)).length : Int) < ((halvesL (wOf l)).length : Int)) = false := decide_eq_false (by omega)
    have hltN : decide ((codedE (wOf l)).length < (halvesL (wOf l)).length) = false := decide_eq_false hlt
    replace bo := bo.keeps kk5 (by simp)
    replace be := be.keeps kk5 (by simp)
    have k0 := k5'
    have hs2 := HS2.out
    have lbe := be.lt
    obtain ⟨e0, e1⟩ := be.one
    obtain ⟨o0, o1⟩ := bo.one
    have R1 := Lib.hid (own_reads OA5.out)
    have F1 := Lib.hid (own_freshB OA5.out)
    have HSA : Hid (w.heap.size + 2 ≤ W3.drew.heap.size) := Lib.hid (by have h : W3.drew.heap.size = W3.heap.size := rfl; omega)
    have HSB : Hid (w.heap.size + 2 ≤ w4.heap.size) := Lib.hid (by have := kk4.size; omega)
    clear OA5 OB5 OW4 hHeld kk4 k4' kk5
    generalize (codedE (wOf l)).length = NB at *
    generalize (halvesL (wOf l)).length = NA at *
    go_wp2_with fail
    refine leaves_cons (f := 35) (args := #[.pointer (some ⟨w.heap.size + 1, 0, none⟩), .func (.func 59) #[] #[.pointer (some ⟨w.heap.size, 0, none⟩)]]) (by simp) (by simp [go_sem]) ?_
    refine (wcaught_idle _ _ _).mono ?_
    rintro e u' w'' ⟨rfl, rfl, rfl⟩
    refine ⟨.tuple #[.slice a4 NA c4, .int .i64 0], by simp only [results, Tryz.results31]; go_simp, ?_⟩
    refine ⟨_, rfl, hET.out ▸ R1.out.keepsS (S := [w.heap.size, w.heap.size + 1]) (by repeat (first | exact Keeps.refl _ _ | refine Keeps.setCell' (.inr (by simp)) ?_)) (fun ad m c he _ hm => ?_), F1.out.mono (Nat.le_trans (by omega) HSA.out), by repeat (first | exact k0 | refine Keeps.setCell' (.inl (by dsimp only; omega)) ?_)⟩
    have := F1.out ad m c he
    have := HSA.out
    simp at hm
    omega

def encOut (l : List Int) : List Int := if treeL l then encT l else []
theorem encode_any (v : Value) (l : List Int) (w : World) (hv : RdI .i64 w v l) (hn : l.length ≤ 1000000) : Calls Tryz.prog 31 #[v] w (BtEnd w (encOut l) (fromErr l)) := by
  cases ht : treeL l with
  | true => simpa [encOut, fromErr, ht] using encode_yes v l w hv hn ht
  | false => simpa [encOut, fromErr, ht] using encode_no v l w hv hn ht
end

section
set_option linter.unusedVariables false
set_option linter.unusedSimpArgs false
open Go.RowKit

theorem str_of {P : Program} {w : World} {v : Value} {l : List Int} (hv : RdI .u8 w v l) {src e dst : TypeId} (hs : P.underlying src = some (.slice e)) (he : P.underlying e = some (.int .u8)) (hd : P.underlying dst = some .string) :
    (convert src dst v).run P w = .ok (.string (strOfNums l)) w := by
  obtain ⟨a, n, cp, rfl, hn, h0, hc⟩ := hv.form
  by_cases hz : n = 0
  · subst hz
    have : l = [] := List.eq_nil_of_length_eq_zero hn.symm
    subst this
    cases a with
    | none => exact run_convert_bytes_nil w src e hs he 0 cp dst hd
    | some a =>
      rw [run_convert_bytes_string w src dst e _ 0 cp hs he hd, run_bytesToString w a 0 cp [] (by simp [loadCells, loadCellsFrom])]
      rfl
  · obtain ⟨-, b, o, rfl, hb, hcell⟩ := hc (by omega)
    refine run_convert_bytes_arg w src e hs he b o n cp l hn.symm (fun i hi => ?_) dst hd
    rw [hcell i _ (List.getElem?_eq_getElem (by omega))]
    simp [List.getD, List.getElem?_eq_getElem (show i < l.length by omega)]

theorem u8_bounds {n : Int} (h : (Lit.int .u8 n).wf = true) : 0 ≤ n ∧ n ≤ 255 := by
  simp [Lit.wf, IntKind.min, IntKind.max, IntKind.signed, IntKind.bits] at h
  omega

/-- The values vs read as the lists ls. -/
def RdV (k : IntKind) (w : World) (vs : List Value) (ls : List (List Int)) : Prop := vs.length = ls.length ∧ ∀ (j : Nat) (l : List Int), ls[j]? = some l → ∃ v, vs[j]? = some v ∧ RdI k w v l
theorem RdV.nil {k : IntKind} {w : World} : RdV k w [] [] := ⟨rfl, by simp⟩
theorem RdV.keeps {k : IntKind} {w w' : World} {vs : List Value} {ls : List (List Int)} (h : RdV k w vs ls) (kk : Keeps w w' []) : RdV k w' vs ls :=
  ⟨h.1, fun j l hl => by obtain ⟨v, h1, h2⟩ := h.2 j l hl; exact ⟨v, h1, h2.keeps kk⟩⟩
end

section
set_option linter.unusedVariables false
set_option linter.unusedSimpArgs false
set_option linter.unusedSectionVars false
open Go.RowKit

theorem ex_a (v : Value) (w : World) (hv : RdI .i64 w v [2, 1, 0, 2]) : Calls Tryz.prog 13 #[v] w (LsEnd w [1, 2, 0] 0) := by
  have h := fromTree_any v _ w hv (by decide)
  have e1 : fromOut [2, 1, 0, 2] = [1, 2, 0] := by kernel_rfl
  have e2 : fromErr [2, 1, 0, 2] = 0 := by kernel_rfl
  rw [e1, e2] at h
  exact h
theorem ex_b (v : Value) (w : World) (hv : RdI .i64 w v [1, 2, 0]) : Calls Tryz.prog 17 #[v] w (LsEnd w [2, 1, 0, 2] 0) := by
  have h := toTree_any v _ w hv (by decide)
  have e1 : treeOut [1, 2, 0] = [2, 1, 0, 2] := by kernel_rfl
  have e2 : treeErr [1, 2, 0] = 0 := by kernel_rfl
  rw [e1, e2] at h
  exact h
theorem ex_x (v : Value) (w : World) (hv : RdI .i64 w v [1, 1]) : Calls Tryz.prog 13 #[v] w (LsEnd w [1] 0) := by
  have h := fromTree_any v _ w hv (by decide)
  have e1 : fromOut [1, 1] = [1] := by kernel_rfl
  have e2 : fromErr [1, 1] = 0 := by kernel_rfl
  rw [e1, e2] at h
  exact h
theorem ex_y (v : Value) (w : World) (hv : RdI .i64 w v [1]) : Calls Tryz.prog 17 #[v] w (LsEnd w [1, 1] 0) := by
  have h := toTree_any v _ w hv (by decide)
  have e1 : treeOut [1] = [1, 1] := by kernel_rfl
  have e2 : treeErr [1] = 0 := by kernel_rfl
  rw [e1, e2] at h
  exact h
theorem ex_k (v : Value) (w : World) (hv : RdI .i64 w v [2]) : Calls Tryz.prog 17 #[v] w (LsEnd w [] 12) := by
  have h := toTree_any v _ w hv (by decide)
  have e1 : treeOut [2] = [] := by kernel_rfl
  have e2 : treeErr [2] = 12 := by kernel_rfl
  rw [e1, e2] at h
  exact h
theorem ex_l (v : Value) (w : World) (hv : RdI .i64 w v [0, 0]) : Calls Tryz.prog 17 #[v] w (LsEnd w [] 12) := by
  have h := toTree_any v _ w hv (by decide)
  have e1 : treeOut [0, 0] = [] := by kernel_rfl
  have e2 : treeErr [0, 0] = 12 := by kernel_rfl
  rw [e1, e2] at h
  exact h
theorem ex_m (v : Value) (w : World) (hv : RdI .i64 w v [3, 1]) : Calls Tryz.prog 17 #[v] w (LsEnd w [] 12) := by
  have h := toTree_any v _ w hv (by decide)
  have e1 : treeOut [3, 1] = [] := by kernel_rfl
  have e2 : treeErr [3, 1] = 12 := by kernel_rfl
  rw [e1, e2] at h
  exact h
theorem ex_c (v : Value) (w : World) (hv : RdI .i64 w v [1, 2, 0]) : Calls Tryz.prog 20 #[v] w (NumEnd w 1 0) := by
  have h := implied_any v _ w hv (by decide)
  have e1 : lastOut [1, 2, 0] = 1 := by kernel_rfl
  have e2 : treeErr [1, 2, 0] = 0 := by kernel_rfl
  rw [e1, e2] at h
  exact h
theorem ex_d (v : Value) (w : World) (hv : RdI .i64 w v [1, 2, 0]) : Calls Tryz.prog 22 #[v] w (BtEnd w [3, 0, 33, 0] 0) := by
  have h := packed_any v _ w hv (by decide)
  have e1 : halfOut [1, 2, 0] = [3, 0, 33, 0] := by kernel_rfl
  have e2 : treeErr [1, 2, 0] = 0 := by kernel_rfl
  rw [e1, e2] at h
  exact h
theorem ex_z (v : Value) (w : World) (hv : RdI .u8 w v [3, 0, 33, 0]) : Calls Tryz.prog 33 #[v] w (GetEnd w [2, 1, 0, 2] 0 0) := by
  have h := gets_of v [3, 0, 33, 0] [2, 1, 0, 2] 0 4 w hv (by decide) (by decide) (fun W p v' hc => by
    have h := decode_yes p 0 v' [3, 0, 33, 0] W hc (by kernel_rfl) (by decide) (by kernel_rfl) (by kernel_rfl) (by kernel_rfl) (by kernel_rfl)
    rw [show tOf (halvX [3, 0, 33, 0] (byteK [3, 0, 33, 0] (numK [3, 0, 33, 0] 0 255)) (numX [3, 0, 33, 0] 0 255)) = [2, 1, 0, 2] from by kernel_rfl] at h
    rw [show bytesK [3, 0, 33, 0] (byteK [3, 0, 33, 0] (numK [3, 0, 33, 0] 0 255)) (((numX [3, 0, 33, 0] 0 255 + 1) / 2 : Nat) : Int) = 4 from by kernel_rfl] at h
    exact h)
  exact h
theorem ex_o (v : Value) (w : World) (hv : RdI .u8 w v [3, 0, 33, 16]) : Calls Tryz.prog 33 #[v] w (GetEnd w [] 0 12) := by
  have h := gets_of v [3, 0, 33, 16] [] 12 4 w hv (by decide) (by decide) (fun W p v' hc => by
    have h := decode_halv p 0 v' [3, 0, 33, 16] W hc (by kernel_rfl) (by decide) (by kernel_rfl) (by kernel_rfl) (by decide)
    rw [show halvE [3, 0, 33, 16] (byteK [3, 0, 33, 16] (numK [3, 0, 33, 16] 0 255)) (numX [3, 0, 33, 16] 0 255) = 12 from by kernel_rfl] at h
    rw [show bytesK [3, 0, 33, 16] (byteK [3, 0, 33, 16] (numK [3, 0, 33, 16] 0 255)) (((numX [3, 0, 33, 16] 0 255 + 1) / 2 : Nat) : Int) = 4 from by kernel_rfl] at h
    exact h)
  exact h
theorem ex_p (v : Value) (w : World) (hv : RdI .u8 w v [0]) : Calls Tryz.prog 33 #[v] w (GetEnd w [] 0 12) := by
  have h := gets_of v [0] [] 12 1 w hv (by decide) (by decide) (fun W p v' hc => by
    have h := decode_zero p 0 v' [0] W hc (by kernel_rfl) (by kernel_rfl)
    rw [show numK [0] 0 255 = 1 from by kernel_rfl] at h
    exact h)
  exact h
theorem ex_q (v : Value) (w : World) (hv : RdI .u8 w v [1, 2]) : Calls Tryz.prog 33 #[v] w (GetEnd w [] 0 12) := by
  have h := gets_of v [1, 2] [] 12 2 w hv (by decide) (by decide) (fun W p v' hc => by
    have h := decode_way p 0 v' [1, 2] W hc (by kernel_rfl) (by decide) (by kernel_rfl) (by decide)
    rw [show byteK [1, 2] (numK [1, 2] 0 255) = 2 from by kernel_rfl] at h
    exact h)
  exact h
theorem ex_r (v : Value) (w : World) (hv : RdI .u8 w v [3, 0, 33]) : Calls Tryz.prog 33 #[v] w (GetEnd w [] 1 3) := by
  have h := gets_of v [3, 0, 33] [] 3 2 w hv (by decide) (by decide) (fun W p v' hc => by
    have h := decode_halv p 0 v' [3, 0, 33] W hc (by kernel_rfl) (by decide) (by kernel_rfl) (by kernel_rfl) (by decide)
    rw [show halvE [3, 0, 33] (byteK [3, 0, 33] (numK [3, 0, 33] 0 255)) (numX [3, 0, 33] 0 255) = 3 from by kernel_rfl] at h
    rw [show bytesK [3, 0, 33] (byteK [3, 0, 33] (numK [3, 0, 33] 0 255)) (((numX [3, 0, 33] 0 255 + 1) / 2 : Nat) : Int) = 2 from by kernel_rfl] at h
    exact h)
  exact h
theorem ex_s (v : Value) (w : World) (hv : RdI .u8 w v [1]) : Calls Tryz.prog 33 #[v] w (GetEnd w [] 0 3) := by
  have h := gets_of v [1] [] 3 1 w hv (by decide) (by decide) (fun W p v' hc => by
    have h := decode_byte p 0 v' [1] W hc (by kernel_rfl) (by decide) (by decide)
    rw [show byteE [1] (numK [1] 0 255) = 3 from by kernel_rfl] at h
    rw [show byteK [1] (numK [1] 0 255) = 1 from by kernel_rfl] at h
    exact h)
  exact h

theorem ex_str : strOfNums [3, 0, 33, 0] = { data := #[3, 0, 33, 0] } := by kernel_rfl

set_option maxRecDepth 100000 in
set_option maxHeartbeats 4000000 in
theorem works_true (w : World) : Calls Tryz.prog 12 #[] w fun e w' => e = .returned (.bool true) ∧ Keeps w w' [] := by
  go_enter Tryz.func12, Tryz.ntmps12
  have kw := Keeps.refl w []
  go_wp2_with fail
  have rt := blk_four (Blk.newAt (w := w) (cs := #[.int .i64 2, .int .i64 1, .int .i64 0, .int .i64 2]) (T := 3) rfl)
  replace kw := kw.alloc (.cells #[.int .i64 2, .int .i64 1, .int .i64 0, .int .i64 2] 3)
  generalize w.heap.size = bt at *
  generalize w.alloc (.cells #[.int .i64 2, .int .i64 1, .int .i64 0, .int .i64 2] 3) = wt at *
  go_wp2_with fail
  refine (ex_a _ _ rt).mono ?_
  rintro e w1 ⟨va, rfl, ra, -, kk⟩
  replace kw := kw.then kk
  replace rt := rt.keeps kk
  clear kk
  go_wp2_with fail
  refine (ex_b _ _ (blk_three (Blk.newAt rfl))).mono ?_
  rintro e w2 ⟨vb, rfl, rb, -, kk⟩
  replace kw := (kw.alloc _).then kk
  replace rt := (rt.keeps ((Keeps.refl _ []).alloc _)).keeps kk
  replace ra := (ra.keeps ((Keeps.refl _ []).alloc _)).keeps kk
  clear kk
  go_wp2_with fail
  refine (ex_c _ _ (blk_three (Blk.newAt rfl))).mono ?_
  rintro e w3 ⟨rfl, kk⟩
  replace kw := (kw.alloc _).then kk
  replace rt := (rt.keeps ((Keeps.refl _ []).alloc _)).keeps kk
  replace ra := (ra.keeps ((Keeps.refl _ []).alloc _)).keeps kk
  replace rb := (rb.keeps ((Keeps.refl _ []).alloc _)).keeps kk
  clear kk
  go_wp2_with fail
  refine (ex_d _ _ (blk_three (Blk.newAt rfl))).mono ?_
  rintro e w4 ⟨vd, rfl, rd, -, kk⟩
  replace kw := (kw.alloc _).then kk
  replace rt := (rt.keeps ((Keeps.refl _ []).alloc _)).keeps kk
  replace ra := (ra.keeps ((Keeps.refl _ []).alloc _)).keeps kk
  replace rb := (rb.keeps ((Keeps.refl _ []).alloc _)).keeps kk
  clear kk
  go_wp2_with fail
  refine (ex_x _ _ (blk_two (Blk.newAt rfl))).mono ?_
  rintro e w5 ⟨vx, rfl, rx, -, kk⟩
  replace kw := (kw.alloc _).then kk
  replace rt := (rt.keeps ((Keeps.refl _ []).alloc _)).keeps kk
  replace ra := (ra.keeps ((Keeps.refl _ []).alloc _)).keeps kk
  replace rb := (rb.keeps ((Keeps.refl _ []).alloc _)).keeps kk
  replace rd := (rd.keeps ((Keeps.refl _ []).alloc _)).keeps kk
  clear kk
  go_wp2_with fail
  refine (ex_y _ _ (blk_one (Blk.newAt rfl))).mono ?_
  rintro e w6 ⟨vy, rfl, ry, -, kk⟩
  replace kw := (kw.alloc _).then kk
  replace rt := (rt.keeps ((Keeps.refl _ []).alloc _)).keeps kk
  replace ra := (ra.keeps ((Keeps.refl _ []).alloc _)).keeps kk
  replace rb := (rb.keeps ((Keeps.refl _ []).alloc _)).keeps kk
  replace rd := (rd.keeps ((Keeps.refl _ []).alloc _)).keeps kk
  replace rx := (rx.keeps ((Keeps.refl _ []).alloc _)).keeps kk
  clear kk
  have kd : ∀ {W : World} (m : Nat), Keeps W (W.drewN m) [] := fun m => (Keeps.refl _ []).drewN m
  go_wp2_with (first | (go_at_call 16; refine (no_any _ _).mono ?_; rintro e w' ⟨rfl, rfl⟩))
  refine (same_yes _ _ [1, 2, 0] _ (ra.keeps ((Keeps.refl _ []).alloc _)) (blk_three (Blk.newAt rfl)) (by decide)).mono ?_
  rintro e w7 ⟨rfl, m7, rfl⟩
  replace kw := (kw.alloc (.cells #[.int .i64 1, .int .i64 2, .int .i64 0] 3)).drewN m7
  replace rt := (rt.keeps ((Keeps.refl _ []).alloc (.cells #[.int .i64 1, .int .i64 2, .int .i64 0] 3))).keeps (kd m7)
  replace rb := (rb.keeps ((Keeps.refl _ []).alloc (.cells #[.int .i64 1, .int .i64 2, .int .i64 0] 3))).keeps (kd m7)
  replace rd := (rd.keeps ((Keeps.refl _ []).alloc (.cells #[.int .i64 1, .int .i64 2, .int .i64 0] 3))).keeps (kd m7)
  replace rx := (rx.keeps ((Keeps.refl _ []).alloc (.cells #[.int .i64 1, .int .i64 2, .int .i64 0] 3))).keeps (kd m7)
  replace ry := (ry.keeps ((Keeps.refl _ []).alloc (.cells #[.int .i64 1, .int .i64 2, .int .i64 0] 3))).keeps (kd m7)
  clear ra
  generalize World.drewN _ m7 = w7 at *
  go_wp2_with fail
  refine (same_yes _ _ [2, 1, 0, 2] _ rb rt (by decide)).mono ?_
  rintro e w8 ⟨rfl, m8, rfl⟩
  replace kw := kw.drewN m8
  replace rt := rt.keeps (kd m8)
  replace rd := rd.keeps (kd m8)
  replace rx := rx.keeps (kd m8)
  replace ry := ry.keeps (kd m8)
  clear rb
  generalize World.drewN _ m8 = w8 at *
  have hs := str_of rd Tryz.underlying36 Tryz.underlying5 Tryz.underlying9
  rw [ex_str] at hs
  go_wp2_with fail
  refine (same_yes _ _ [1] _ (rx.keeps ((Keeps.refl _ []).alloc _)) (blk_one (Blk.newAt rfl)) (by decide)).mono ?_
  rintro e w9 ⟨rfl, m9, rfl⟩
  replace kw := (kw.alloc (.cells #[.int .i64 1] 3)).drewN m9
  replace rt := (rt.keeps ((Keeps.refl _ []).alloc (.cells #[.int .i64 1] 3))).keeps (kd m9)
  replace ry := (ry.keeps ((Keeps.refl _ []).alloc (.cells #[.int .i64 1] 3))).keeps (kd m9)
  clear rx rd hs
  generalize World.drewN _ m9 = w9 at *
  go_wp2_with fail
  refine (same_yes _ _ [1, 1] _ (ry.keeps ((Keeps.refl _ []).alloc _)) (blk_two (Blk.newAt rfl)) (by decide)).mono ?_
  rintro e w10 ⟨rfl, m10, rfl⟩
  replace kw := (kw.alloc (.cells #[.int .i64 1, .int .i64 1] 3)).drewN m10
  replace rt := (rt.keeps ((Keeps.refl _ []).alloc (.cells #[.int .i64 1, .int .i64 1] 3))).keeps (kd m10)
  clear ry
  generalize World.drewN _ m10 = w10 at *
  go_wp2_with fail
  refine (ex_k _ _ (blk_one (Blk.newAt rfl))).mono ?_
  rintro e w11 ⟨vk, rfl, -, -, kk⟩
  replace kw := (kw.alloc _).then kk
  replace rt := (rt.keeps ((Keeps.refl _ []).alloc _)).keeps kk
  clear kk
  go_wp2_with fail
  refine (ex_l _ _ (blk_two (Blk.newAt rfl))).mono ?_
  rintro e w12 ⟨vl, rfl, -, -, kk⟩
  replace kw := (kw.alloc _).then kk
  replace rt := (rt.keeps ((Keeps.refl _ []).alloc _)).keeps kk
  clear kk
  go_wp2_with fail
  refine (ex_m _ _ (blk_two (Blk.newAt rfl))).mono ?_
  rintro e w13 ⟨vm, rfl, -, -, kk⟩
  replace kw := (kw.alloc _).then kk
  replace rt := (rt.keeps ((Keeps.refl _ []).alloc _)).keeps kk
  clear kk
  go_wp2_with fail
  refine (ex_z _ _ (blk_four (Blk.newAt rfl))).mono ?_
  rintro e w14 ⟨vz, rfl, rz, kk⟩
  replace kw := (kw.alloc _).then kk
  replace rt := (rt.keeps ((Keeps.refl _ []).alloc _)).keeps kk
  clear kk
  go_wp2_with fail
  refine (ex_o _ _ (blk_four (Blk.newAt rfl))).mono ?_
  rintro e w15 ⟨vo, rfl, -, kk⟩
  replace kw := (kw.alloc _).then kk
  replace rt := (rt.keeps ((Keeps.refl _ []).alloc _)).keeps kk
  replace rz := (rz.keeps ((Keeps.refl _ []).alloc _)).keeps kk
  clear kk
  go_wp2_with fail
  refine (ex_p _ _ (blk_one (Blk.newAt rfl))).mono ?_
  rintro e w16 ⟨vp, rfl, -, kk⟩
  replace kw := (kw.alloc _).then kk
  replace rt := (rt.keeps ((Keeps.refl _ []).alloc _)).keeps kk
  replace rz := (rz.keeps ((Keeps.refl _ []).alloc _)).keeps kk
  clear kk
  go_wp2_with fail
  refine (ex_q _ _ (blk_two (Blk.newAt rfl))).mono ?_
  rintro e w17 ⟨vq, rfl, -, kk⟩
  replace kw := (kw.alloc _).then kk
  replace rt := (rt.keeps ((Keeps.refl _ []).alloc _)).keeps kk
  replace rz := (rz.keeps ((Keeps.refl _ []).alloc _)).keeps kk
  clear kk
  go_wp2_with fail
  refine (ex_r _ _ (blk_three (Blk.newAt rfl))).mono ?_
  rintro e w18 ⟨vr, rfl, -, kk⟩
  replace kw := (kw.alloc _).then kk
  replace rt := (rt.keeps ((Keeps.refl _ []).alloc _)).keeps kk
  replace rz := (rz.keeps ((Keeps.refl _ []).alloc _)).keeps kk
  clear kk
  go_wp2_with fail
  refine (ex_s _ _ (blk_one (Blk.newAt rfl))).mono ?_
  rintro e w19 ⟨vs, rfl, -, kk⟩
  replace kw := (kw.alloc _).then kk
  replace rt := (rt.keeps ((Keeps.refl _ []).alloc _)).keeps kk
  replace rz := (rz.keeps ((Keeps.refl _ []).alloc _)).keeps kk
  clear kk
  go_wp2_with (first | (go_at_call 16; refine (no_any _ _).mono ?_; rintro e w' ⟨rfl, rfl⟩))
  refine (same_yes _ _ [2, 1, 0, 2] _ rz rt (by decide)).mono ?_
  rintro e w20 ⟨rfl, m20, rfl⟩
  replace kw := kw.drewN m20
  clear rz rt
  generalize World.drewN _ m20 = w20 at *
  go_wp2_with (first | (go_at_call 16; refine (no_any _ _).mono ?_; rintro e w' ⟨rfl, rfl⟩))
  go_ret
  exact ⟨rfl, kw⟩
end

section
set_option linter.unusedVariables false
set_option linter.unusedSimpArgs false
set_option linter.unusedSectionVars false
open Go.RowKit
end

section
set_option linter.unusedVariables false
set_option linter.unusedSimpArgs false
set_option linter.unusedSectionVars false
open Go.RowKit

theorem packB_byte (L : List Bool) : ∀ x ∈ packB L, 0 ≤ x ∧ x ≤ 255 := by obtain ⟨k, -, -, -, h⟩ := packB_bits L; exact h
theorem codedE_byte (l : List Int) : ∀ x ∈ codedE l, 0 ≤ x ∧ x ≤ 255 := by
  intro x hx
  simp only [codedE, List.mem_append, List.mem_singleton] at hx
  rcases hx with (((hx | hx) | hx) | hx) | hx
  · exact varI_byte hx
  · omega
  · exact packB_byte _ x hx
  · exact varI_byte hx
  · exact packB_byte _ x hx
theorem codedE_len {l : List Int} (hw : okW l = true) : (codedE l).length ≤ 3000 ∧ (varI l.length).length < (codedE l).length := by
  obtain ⟨h0, h255⟩ := okW_len hw
  obtain ⟨t1, -, -, t4, -⟩ := nmW_ok (okW_bound hw) h0
  have h1 := descE_len t1 t4
  have h2 := flW_len (okW_bound hw) h0 h255
  have h3 := varI_len 9 l.length (by omega)
  have h4 := varI_len 9 (flW l).length (by omega)
  simp only [codedE, List.length_append, List.length_singleton]
  omega
theorem vary_len {n : Nat} (h : n ≤ 255) : (varI n).length = if 127 < n then 2 else 1 := by
  by_cases h1 : n < 128
  · rw [varI_small h1, if_neg (by omega)]; rfl
  · rw [varI_step (by omega), varI_small (by omega), if_pos (by omega)]; rfl
theorem vary_any (n : Nat) (h : n ≤ 255) (w : World) : Calls Tryz.prog 26 #[.int .i64 (n : Int)] w fun e w' => e = .returned (.int .i64 ((varI n).length : Nat)) ∧ w' = w := by
  have hv := vary_len h
  by_cases h1 : 127 < n
  · rw [if_pos h1] at hv
    rw [hv]
    have h1I : (127 : Int) < (n : Int) := by omega
    clear hv h h1
    go_enter Tryz.func26, Tryz.ntmps26
    go_wp2_with fail
    go_ret
    exact ⟨rfl, rfl⟩
  · rw [if_neg h1] at hv
    rw [hv]
    have h1I : decide ((127 : Int) < (n : Int)) = false := decide_eq_false (by omega)
    have h1N : decide (127 < n) = false := decide_eq_false h1
    clear hv h h1
    go_enter Tryz.func26, Tryz.ntmps26
    go_wp2_with fail
    go_ret
    exact ⟨rfl, rfl⟩
end

section
set_option linter.unusedVariables false
set_option linter.unusedSimpArgs false
set_option linter.unusedSectionVars false
open Go.RowKit

def lenV1 : Value → Nat
  | .slice _ n _ => n
  | _ => 0
theorem RdI.front {k : IntKind} {w : World} {a : Option Addr} {n cp m : Nat} {l : List Int} (h : RdI k w (.slice a n cp) l) (hm : m ≤ n) : RdI k w (.slice a m cp) (l.take m) := by
  obtain ⟨a', n', c', he, h1, h2, h3⟩ := h.form
  injection he with e1 e2 e3
  subst e1 e2 e3
  refine ⟨a, m, cp, rfl, by rw [List.length_take]; omega, fun e => ⟨by have := (h2 e).1; omega, (h2 e).2⟩, fun h0 => ?_⟩
  obtain ⟨g1, b, o, g2, g3, g4⟩ := h3 (by omega)
  refine ⟨by omega, b, o, g2, g3, fun i x hx => g4 i x ?_⟩
  rw [List.getElem?_take] at hx
  split at hx
  · exact hx
  · cases hx
set_option maxRecDepth 100000 in
set_option maxHeartbeats 2000000 in
theorem trim_any (p : Nat) (v : Value) (l : List Int) (w : World) (hv : RdI .i64 w v l) (hn : l.length ≤ 1000000) (hp : p < l.length) (hz : ∀ i x, p < i → l[i]? = some x → x = 0) (hx : 0 < l.getD p 0) :
    Calls Tryz.prog 32 #[v] w fun e w' => ∃ v', e = .returned v' ∧ RdI .i64 w v' (l.take (p + 1)) ∧ w' = w := by
  obtain ⟨A0, n, cp, rfl, hnl, -⟩ := hv.form
  have hcap := hv.cap
  obtain ⟨y, hy⟩ : ∃ y, l[p]? = some y := ⟨_, List.getElem?_eq_getElem hp⟩
  have hy0 : 0 < y := by rw [List.getD_eq_getElem?_getD, hy] at hx; exact hx
  obtain ⟨b, o, rfl, hb, hcy⟩ := hv.at hy
  have HC := Lib.hid (fun i x (h : l[i]? = some x) => show w.cell? ⟨b, o + i, none⟩ = some (.int .i64 x) by obtain ⟨b', o', he, -, hc⟩ := hv.at h; cases he; exact hc)
  have HV := Lib.hid hv
  have HZ := Lib.hid hz
  have HN := Lib.hid hnl
  have hpn : p < n := by omega
  have hn6 : n ≤ 1000000 := by omega
  have hynz : (y == 0) = false := by simp; omega
  clear hv hz hnl hx hy hn hp
  go_enter Tryz.func32, Tryz.ntmps32
  go_wp2_with fail
  go_loopw [0] (fun s0 wr => wr = w ∧ ∃ m, p ≤ m ∧ m + 1 ≤ n ∧ s0 = .slice (some ⟨b, o, none⟩) (m + 1) cp) (fun s0 _ => lenV1 s0)
  case atStart => exact ⟨rfl, n - 1, by omega, by omega, by congr 1; omega⟩
  case round =>
    obtain ⟨rfl, m, hm1, hm2, rfl⟩ := hrel
    have hmI : (0 : Int) < (m : Int) + 1 := by omega
    have hwm : wrap64 (m : Int) = (m : Int) := IntWalk.wrap64_in _ ⟨by omega, by omega⟩
    have hm3 : (m : Int) < (m : Int) + 1 := by omega
    by_cases hlt : p < m
    · obtain ⟨x, hx⟩ : ∃ x, l[m]? = some x := ⟨_, List.getElem?_eq_getElem (by have := HN.out; omega)⟩
      have hx0 := HZ.out m x hlt hx
      have hcx := HC.out m x hx
      rw [hx0] at hcx
      have hmc : (m : Int) ≤ (cp : Int) := by omega
      obtain ⟨q, rfl⟩ : ∃ q, m = q + 1 := ⟨m - 1, by omega⟩
      clear hx hcy hynz
      go_wp2_with fail
      go_roundw
      case rel => exact ⟨trivial, q, by omega, by omega, rfl⟩
      case measure => simp [lenV1]
    · obtain rfl : m = p := by omega
      clear hm1 hm2 hlt
      go_wp2_with fail
      go_ret
      exact ⟨_, rfl, HV.out.front hpn, rfl⟩
end

section
set_option linter.unusedVariables false
set_option linter.unusedSimpArgs false
set_option linter.unusedSectionVars false
open Go.RowKit

/-- The weights of the tree of weights are these weights. -/
theorem of_of_ok {l : List Int} (h : okW l = true) : wOf (tOf l) = l := by
  have ht := tree_of_ok h
  simp only [okW, Bool.and_eq_true, decide_eq_true_eq] at h
  obtain ⟨⟨⟨h1, h2⟩, h3, h4, h5⟩, h6⟩ := h
  obtain ⟨s1, s2, s3, s4, s5, s6, s7, s8, s9⟩ := sums h1 h2
  have hx : ∀ x ∈ l, 0 ≤ x ∧ x ≤ kW l := fun x hx => by
    have hb := finM_iff.1 (List.all_eq_true.1 h2 x hx)
    refine ⟨hb.1, ?_⟩
    by_cases h0 : 0 < x
    · have := sumW_mem hx h0
      have h7 : 2 ^ (x.toNat - 1) < 2 ^ kW l := by omega
      have := (Nat.pow_lt_pow_iff_right (by decide : 1 < 2)).1 h7
      omega
    · omega
  have hv : vW l ≤ kW l := by
    have h7 : 2 ^ (vW l - 1) < 2 ^ kW l := by omega
    have := (Nat.pow_lt_pow_iff_right (by decide : 1 < 2)).1 h7
    omega
  have hall : ∀ x ∈ l ++ [(vW l : Int)], 0 ≤ x ∧ x ≤ kW l := fun x hm => by
    rcases List.mem_append.1 hm with hm | hm
    · exact hx x hm
    · have := List.mem_singleton.1 hm; omega
  have hk0 : 0 < kW l := by
    obtain ⟨x, hm, h0⟩ := sumW_some h3
    have := hx x hm
    omega
  have hmx : mxL (tOf l) = kW l := by
    have e1 : mxL (tOf l) ≤ kW l := mxL_le (by omega) (fun y hy => by
      obtain ⟨x, hm, rfl⟩ := List.mem_map.1 hy
      have := hall x hm
      unfold wgt
      split <;> omega)
    have e2 : (kW l : Int) ∈ tOf l := by
      refine List.mem_map.2 ⟨1, List.contains_iff_mem.1 h6, ?_⟩
      unfold wgt
      rw [if_pos (by omega)]; omega
    have := mxL_ge e2
    omega
  have hlast : lastU (tOf l) = l.length := by
    have e : tOf l = trL (kW l) l ++ [wgt (kW l) (vW l)] := by simp [tOf, trL]
    rw [e, lastU_snoc, if_pos (by unfold wgt; rw [if_pos (by omega)]; omega)]
    simp [trL]
  rw [wOf, hmx, hlast, tOf, trL, List.map_map, ← List.map_take, List.take_left' rfl]
  conv => rhs; rw [← List.map_id l]
  exact List.map_congr_left (fun x hm => wgt_wgt (hx x hm).1 (hx x hm).2)

set_option maxRecDepth 100000 in
set_option maxHeartbeats 8000000 in
theorem law_hold (v u : Value) (l bh : List Int) (w : World) (hv : RdI .i64 w v l) (hu : RdI .u8 w u bh) (hbb : ∀ x ∈ bh, 0 ≤ x ∧ x ≤ 255) : Calls Tryz.prog 10 #[v, u] w (LawEnd w) := by
  obtain ⟨A0, n, cp0, rfl, hnl, -⟩ := hv.form
  obtain ⟨A1, nb, cp1, rfl, hnb, -⟩ := hu.form
  obtain ⟨i0, hi, hz0, hz1, hz2⟩ := info_parts Tryz.infoByte
  by_cases hbig : 256 < n
  · clear hv hnl hu hnb hbb
    have h1 : (256 : Int) < (n : Int) := by omega
    go_enter Tryz.func10, Tryz.ntmps10
    go_wp2_with (go_at_call 12; refine (works_true _).mono ?_; rintro e w9 ⟨rfl, kk⟩)
    go_ret
    exact ⟨rfl, kk.below⟩
  have hd : decide ((256 : Int) < (n : Int)) = false := decide_eq_false (by omega)
  have hdn : decide (256 < n) = false := decide_eq_false hbig
  by_cases hbig2 : 20 < nb
  · clear hv hnl hu hnb hbb
    have h1 : (20 : Int) < (nb : Int) := by omega
    go_enter Tryz.func10, Tryz.ntmps10
    go_wp2_with (go_at_call 12; refine (works_true _).mono ?_; rintro e w9 ⟨rfl, kk⟩)
    go_ret
    exact ⟨rfl, kk.below⟩
  have hd2 : decide ((20 : Int) < (nb : Int)) = false := decide_eq_false (by omega)
  have hd2n : decide (20 < nb) = false := decide_eq_false hbig2
  have HRT := Lib.hid (r_right14 _ l w hv (by omega))
  cases ht : treeL l with
  | false =>
    rw [ht] at HRT
    clear hv hnl hu hnb hbb
    go_enter Tryz.func10, Tryz.ntmps10
    go_wp2_with (first | (go_at_call 19; refine HRT.out.mono ?_; rintro e w1 ⟨rfl, rfl⟩) | (go_at_call 12; refine (works_true _).mono ?_; rintro e w9 ⟨rfl, kk⟩))
    go_ret
    exact ⟨rfl, kk.below⟩
  | true =>
    rw [ht] at HRT
    obtain ⟨b1, b2, b3, b4, b5⟩ := back_of_tree ht
    obtain ⟨hl0, hl255⟩ := okW_len b1
    obtain ⟨hc1, hc2⟩ := codedE_len b1
    have HF1 := Lib.hid (fromTree_any _ l w hv (by omega))
    simp only [fromOut, fromErr, ht, if_true] at HF1
    have HTT := Lib.hid (fun W u (h : RdI .i64 W u (wOf l)) => toTree_any u (wOf l) W h (by omega))
    have htl := tOf_len (wOf l)
    have HF2 := Lib.hid (fun W u (h : RdI .i64 W u (tOf (wOf l))) => fromTree_any u (tOf (wOf l)) W h (by omega))
    simp only [treeOut, treeErr, b1, if_true] at HTT
    simp only [fromOut, fromErr, tree_of_ok b1, if_true, of_of_ok b1] at HF2
    have HEP := Lib.hid (fun W u (h : RdI .i64 W u (wOf l)) => packed_any u (wOf l) W h (by omega))
    have HEC := Lib.hid (fun W u (h : RdI .i64 W u (wOf l)) => encoded_any u (wOf l) W h (by omega))
    simp only [halfOut, codedOut, treeErr, b1, if_true] at HEP HEC
    have HEN := Lib.hid (fun W (k : Keeps w W []) => encode_any _ l W (hv.keeps k) (by omega))
    simp only [encOut, fromErr, ht, if_true] at HEN
    have HTM := Lib.hid (fun W (k : Keeps w W []) => trim_any (lastU l) _ l W (hv.keeps k) (by omega) b3 b4 b5)
    rw [← b2] at HTM
    have gCE := fun Z => getW_coded (B := codedE (wOf l) ++ Z) (k := 0) (Z := Z) b1 (by simp)
    have gHE := fun Z => getW_halves (B := halvesL (wOf l) ++ Z) (k := 0) (Z := Z) b1 (by simp)
    simp only [Nat.zero_add] at gCE gHE
    have CEB := codedE_byte (wOf l)
    have HEB := halves_byte (l := wOf l) (fun x hx => by have := okW_bound b1 x hx; omega)
    have hhl := halves_len (wOf l)
    have hvl := vary_len (n := (wOf l).length) (by omega)
    have HVY := Lib.hid (fun W => vary_any (wOf l).length (by omega) W)
    have hencT : (encT l = codedE (wOf l) ∧ (codedE (wOf l)).length < (halvesL (wOf l)).length) ∨ (encT l = halvesL (wOf l) ∧ (halvesL (wOf l)).length ≤ (codedE (wOf l)).length) := by
      unfold encT
      split
      · exact .inl ⟨rfl, by omega⟩
      · exact .inr ⟨rfl, by omega⟩
    obtain ⟨WO, hWO⟩ : ∃ T, wOf l = T := ⟨_, rfl⟩
    rw [hWO] at HF1 HTT HF2 HEP HEC HTM gCE gHE CEB HEB hhl hvl HVY hencT htl hc1 hl0 hl255
    obtain ⟨T, hT⟩ : ∃ T, tOf WO = T := ⟨_, rfl⟩
    rw [hT] at HTT HF2 HTM gCE gHE htl
    have HTL := Lib.hid (show T.length ≤ 1000000 by omega)
    have HWL := Lib.hid (show WO.length ≤ 1000000 by omega)
    obtain ⟨CE, hCE⟩ : ∃ T, codedE WO = T := ⟨_, rfl⟩
    rw [hCE] at gCE HEC CEB hc1 hencT
    obtain ⟨HE, hHE⟩ : ∃ T, halvesL WO = T := ⟨_, rfl⟩
    rw [hHE] at gHE HEP HEB hhl hencT
    obtain ⟨EE, hEE⟩ : ∃ T, encT l = T := ⟨_, rfl⟩
    rw [hEE] at HEN hencT
    obtain ⟨NW, hNW⟩ : ∃ M, WO.length = M := ⟨_, rfl⟩
    rw [hNW] at hhl hvl HVY hl0 hl255
    have HNW := Lib.hid hNW
    obtain ⟨VY, hVY⟩ : ∃ M, (varI NW).length = M := ⟨_, rfl⟩
    rw [hVY] at hhl hvl HVY
    have HQ : Hid ((HE.length ≤ 3000 ∧ (∀ x ∈ HE, 0 ≤ x ∧ x ≤ 255) ∧ ∀ Z, getW (HE ++ Z) 0 = .ok (T, HE.length)) ∧ (CE.length ≤ 3000 ∧ (∀ x ∈ CE, 0 ≤ x ∧ x ≤ 255) ∧ ∀ Z, getW (CE ++ Z) 0 = .ok (T, CE.length)) ∧ (EE.length ≤ 3000 ∧ (∀ x ∈ EE, 0 ≤ x ∧ x ≤ 255) ∧ ∀ Z, getW (EE ++ Z) 0 = .ok (T, EE.length))) := Lib.hid (by
      have hvy2 : VY ≤ 2 := by rw [hvl]; split <;> omega
      have q1 : HE.length ≤ 3000 ∧ (∀ x ∈ HE, 0 ≤ x ∧ x ≤ 255) ∧ ∀ Z, getW (HE ++ Z) 0 = .ok (T, HE.length) := ⟨by omega, HEB, gHE⟩
      have q2 : CE.length ≤ 3000 ∧ (∀ x ∈ CE, 0 ≤ x ∧ x ≤ 255) ∧ ∀ Z, getW (CE ++ Z) 0 = .ok (T, CE.length) := ⟨by omega, CEB, gCE⟩
      refine ⟨q1, q2, ?_⟩
      rcases hencT with ⟨h, -⟩ | ⟨h, -⟩
      · rw [h]; exact q2
      · rw [h]; exact q1)
    obtain ⟨MC, hMC⟩ : ∃ M, CE.length = M := ⟨_, rfl⟩
    obtain ⟨MH, hMH⟩ : ∃ M, HE.length = M := ⟨_, rfl⟩
    obtain ⟨ME, hME⟩ : ∃ M, EE.length = M := ⟨_, rfl⟩
    have HMC := Lib.hid hMC
    have HMH := Lib.hid hMH
    have HME := Lib.hid hME
    have hle : ME ≤ MC ∧ ME ≤ MH := by
      rcases hencT with ⟨h, h'⟩ | ⟨h, h'⟩
      · rw [h] at hME; omega
      · rw [h] at hME; omega
    rw [hMH] at hhl
    have hd3 : decide ((MH : Int) < (ME : Int)) = false := decide_eq_false (by omega)
    have hd3n : decide (MH < ME) = false := decide_eq_false (by omega)
    have hd4 : decide ((MC : Int) < (ME : Int)) = false := decide_eq_false (by omega)
    have hd4n : decide (MC < ME) = false := decide_eq_false (by omega)
    have HBH := Lib.hid (fun W (k : Keeps w W []) => hu.keeps k)
    have HBL := Lib.hid (show bh.length = nb ∧ nb ≤ 20 from ⟨hnb.symm, by omega⟩)
    have HBB := Lib.hid hbb
    have hvy2 : VY ≤ 2 := by rw [hvl]; split <;> omega
    obtain ⟨N1, hN1⟩ : ∃ N : Int, (NW : Int) + 1 = N := ⟨_, rfl⟩
    have hw1 : wrap64 N1 = N1 := IntWalk.wrap64_in _ ⟨by omega, by omega⟩
    obtain ⟨N2, hN2⟩ : ∃ N : Int, N1.tdiv 2 = N := ⟨_, rfl⟩
    have hN2e : N2 = (((NW + 1) / 2 : Nat) : Int) := by rw [← hN2, Int.tdiv_eq_ediv_of_nonneg (by omega)]; omega
    have hw2 : wrap64 N2 = N2 := IntWalk.wrap64_in _ ⟨by omega, by omega⟩
    obtain ⟨V1, hV1⟩ : ∃ N : Int, (VY : Int) + 1 = N := ⟨_, rfl⟩
    have hw3 : wrap64 V1 = V1 := IntWalk.wrap64_in _ ⟨by omega, by omega⟩
    have hsum : V1 + N2 = (MH : Int) := by omega
    have hw4 : wrap64 (MH : Int) = (MH : Int) := IntWalk.wrap64_in _ ⟨by omega, by omega⟩
    clear hv hu hnl hnb hbb ht b1 b2 b3 b4 b5 hl0 hl255 hc1 hc2 htl gCE gHE CEB HEB hhl hvl hencT hWO hT hCE hHE hEE hNW hVY hMC hMH hME hle hvy2 hN2e
    go_enter Tryz.func10, Tryz.ntmps10
    go_wp2_with (first
      | (go_at_call 19; go_loud (refine HRT.out.mono ?_; rintro e w1 ⟨rfl, rfl⟩))
      | (go_at_call 13; go_loud (refine HF1.out.mono ?_; rintro e w2 ⟨v2, rfl, r2, -, k2⟩; have R2 := Lib.hid r2; have K2 := Lib.hid k2; obtain ⟨a2, n2, c2, rfl, hn2, -⟩ := r2.form; obtain rfl : NW = n2 := (hn2.trans HNW.out).symm; clear r2 hn2 k2 HF1))
      | (go_at_call 17; go_loud (refine (HTT.out _ _ R2.out).mono ?_; rintro e w3 ⟨v3, rfl, r3, -, k3⟩; have R3 := Lib.hid r3; have K3 := Lib.hid k3; have R23 := Lib.hid (R2.out.keeps k3); clear r3 k3))
      | (go_at_call 13; go_loud (refine (HF2.out _ _ R3.out).mono ?_; rintro e w4 ⟨v4, rfl, r4, -, k4⟩; have R4 := Lib.hid r4; have K4 := Lib.hid ((K2.out.then K3.out).then k4); have R34 := Lib.hid (R3.out.keeps k4); have R24 := Lib.hid (R23.out.keeps k4); clear r4 k4))
      | (go_at_call 32; go_loud (refine (HTM.out _ K4.out).mono ?_; rintro e w5 ⟨v5, rfl, r5, rfl⟩; have R5 := Lib.hid r5; clear r5))
      | (go_at_call 15; refine (same_yes _ _ T _ R34.out R5.out HTL.out).mono ?_; go_loud (rintro e w7 ⟨rfl, m7, rfl⟩; have k7 := (Keeps.refl w5 []).drewN m7; have R47 := Lib.hid (R4.out.keeps k7); have R27 := Lib.hid (R24.out.keeps k7); have R37 := Lib.hid (R34.out.keeps k7); have K7 := Lib.hid (K4.out.then k7); generalize World.drewN _ m7 = w7 at *; clear k7 R5))
      | (go_at_call 15; refine (same_yes _ _ WO _ R47.out R27.out HWL.out).mono ?_; go_loud (rintro e w8 ⟨rfl, m8, rfl⟩; have k8 := (Keeps.refl w7 []).drewN m8; have R28 := Lib.hid (R27.out.keeps k8); have R38 := Lib.hid (R37.out.keeps k8); have K8 := Lib.hid (K7.out.then k8); generalize World.drewN _ m8 = w8 at *; clear k8 R47))
      | (go_at_call 22; go_loud (refine (HEP.out _ _ R28.out).mono ?_; rintro e w9 ⟨v9, rfl, r9, -, k9⟩; obtain ⟨a9, n9, c9, rfl, hn9, -⟩ := r9.form; obtain rfl : MH = n9 := (hn9.trans HMH.out).symm; have R9 := Lib.hid r9; have R29 := Lib.hid (R28.out.keeps k9); have R39 := Lib.hid (R38.out.keeps k9); have K9 := Lib.hid (K8.out.then k9); clear r9 hn9 k9))
      | (go_at_call 24; go_loud (refine (HEC.out _ _ R29.out).mono ?_; rintro e w10 ⟨v10, rfl, r10, -, k10⟩; obtain ⟨a10, n10, c10, rfl, hn10, -⟩ := r10.form; obtain rfl : MC = n10 := (hn10.trans HMC.out).symm; have R10 := Lib.hid r10; have R910 := Lib.hid (R9.out.keeps k10); have R310 := Lib.hid (R39.out.keeps k10); have K10 := Lib.hid (K9.out.then k10); clear r10 hn10 k10))
      | (go_at_call 31; go_loud (refine (HEN.out _ K10.out).mono ?_; rintro e w11 ⟨v11, rfl, r11, -, k11⟩; obtain ⟨a11, n11, c11, rfl, hn11, -⟩ := r11.form; obtain rfl : ME = n11 := (hn11.trans HME.out).symm; have kb : Keeps w11 (w11.alloc (.cells #[.slice a9 MH c9, .slice a10 MC c10, .slice a11 ME c11] 36)) [] := (Keeps.refl w11 []).alloc _; have RA := Lib.hid ((R910.out.keeps k11).keeps kb); have RB := Lib.hid ((R10.out.keeps k11).keeps kb); have RC := Lib.hid (r11.keeps kb); have RT := Lib.hid ((R310.out.keeps k11).keeps kb); have K11 := Lib.hid ((K10.out.then k11).then kb); have B3 := Lib.hid (Blk.new w11 #[.slice a9 MH c9, .slice a10 MC c10, .slice a11 ME c11] 36); clear r11 hn11 k11 kb))
      | (go_at_call 26; go_loud (refine (HVY.out _).mono ?_; rintro e w12 ⟨rfl, rfl⟩))
      | (go_at_call 16; refine (no_any _ _).mono ?_; rintro e w' ⟨rfl, rfl⟩)
      | (go_at_call 12; refine (works_true _).mono ?_; rintro e w9 ⟨rfl, kk⟩))
    generalize (w12.alloc (.cells #[.slice a9 MH c9, .slice a10 MC c10, .slice a11 ME c11] 36)) = W0 at *
    obtain ⟨TB, hTB⟩ : ∃ x, w12.heap.size = x := ⟨_, rfl⟩
    rw [hTB] at B3 ⊢
    have H3 : Hid (∀ k : Nat, k < 3 → ∃ a m c Lk, W0.cell? ⟨TB, k, none⟩ = some (.slice a m c) ∧ RdI .u8 W0 (.slice a m c) Lk ∧ Lk.length ≤ 3000 ∧ (∀ x ∈ Lk, 0 ≤ x ∧ x ≤ 255) ∧ ∀ Z, getW (Lk ++ Z) 0 = .ok (T, Lk.length)) := Lib.hid (fun k hk => by
      have c0 := B3.out.cell 0
      have c1 := B3.out.cell 1
      have c2 := B3.out.cell 2
      simp at c0 c1 c2
      have h3 : k = 0 ∨ k = 1 ∨ k = 2 := by omega
      rcases h3 with rfl | rfl | rfl
      · exact ⟨_, _, _, HE, c0, RA.out, HQ.out.1⟩
      · exact ⟨_, _, _, CE, c1, RB.out, HQ.out.2.1⟩
      · exact ⟨_, _, _, EE, c2, RC.out, HQ.out.2.2⟩)
    have hTBl := B3.out.lt
    clear RA RB RC B3 hTB HQ hV1 hN1 hN2 hsum hw1 hw2 hw3 hw4 hd3 hd3n hd4 hd4n
    go_loopw [18] (fun s18 wr => ∃ k : Nat, k ≤ 3 ∧ s18 = .int .i64 (k : Int) ∧ Keeps W0 wr []) (fun s18 _ => 3 - (intOf s18).toNat)
    case atStart => exact ⟨0, by omega, rfl, Keeps.refl _ _⟩
    case round =>
      obtain ⟨k, hk, rfl, kk⟩ := hrel
      by_cases hlt : k < 3
      · have hkI : (k : Int) < 3 := by omega
        obtain ⟨ak, mk, ck, Lk, g1, g2, g3, g4, g5⟩ := H3.out k hlt
        have cell := (kk.cell (p := ⟨TB, k, none⟩) hTBl (by simp)).trans g1
        have RK := Lib.hid (g2.keeps kk)
        have RH := Lib.hid (HBH.out _ (K11.out.then kk))
        have hge := g5 bh
        have HGE := Lib.hid (fun W u (h : RdI .u8 W u (Lk ++ bh)) => gets_of u (Lk ++ bh) T 0 Lk.length W h (by have := HBL.out; simp; omega) (fun x hx => by
            rcases List.mem_append.1 hx with h | h
            · exact g4 x h
            · exact HBB.out x h) (fun W' p v' cu => by
              have := decode_any p 0 v' (Lk ++ bh) W' cu
              rw [hge] at this
              exact this))
        rw [show (((Lk ++ bh).length : Nat) : Int) - ((Lk.length : Nat) : Int) = (nb : Int) by have := HBL.out; simp; omega] at HGE
        have HLK := Lib.hid (show Lk.length ≤ 3000 ∧ bh.length ≤ 20 from ⟨g3, by have := HBL.out; omega⟩)
        have KK := Lib.hid kk
        have hnn : (((nb : Nat) : Int) != (nb : Int)) = false := by simp
        clear g1 g2 g3 g4 g5 hge kk
        go_wp2_with (first
          | (with_reducible refine wpList_build0 rfl 36 5 rfl i0 _ 1 Tryz.underlying36 hi hz0 ?_; intro v4 hown4 hv4 hne4; have HO4 := Lib.hid hown4; have HV4 := Lib.hid hv4; have HRK := Lib.hid (RK.out.keeps ((Keeps.refl wr []).alloc (.cells #[] 5))); have HRH := Lib.hid (RH.out.keeps ((Keeps.refl wr []).alloc (.cells #[] 5))); have hwl : TB < wr.heap.size := (by have := KK.out.size; omega); clear hown4 hv4)
          | (at_builtin; go_loud (refine wpList_appendI (w := wr.alloc (.cells #[] 5)) rfl _ _ 36 rfl wr.heap.size 5 i0 (.int .u8 0) 1 Tryz.underlying36 hi hz0 hz1 hz2 rfl v4 0 [] rfl HO4.out _ rfl .u8 Lk HRK.out (by have := HLK.out; unfold maxLen; omega) (by have := HLK.out; omega) (by simp) ?_; intro v5 w5 own5 g5 _; rw [Nat.zero_add, List.nil_append] at own5; have O5 := Lib.hid (show OwnB w5 wr.heap.size v5 Lk from own5); have K5 := Lib.hid (show Keeps wr w5 [] from ((Keeps.refl wr []).alloc (.cells #[] 5)).trans (Keeps.of_grown (S := [wr.heap.size]) g5 (fun j hj => by rw [HV4.out] at hj; injection hj with hj; simp [hj])) (fun x hx hlt => by have := List.mem_singleton.1 hx; omega)); clear own5 g5))
          | (at_builtin; go_loud (refine wpList_appendI (w := w5) rfl _ _ 36 rfl wr.heap.size 5 i0 (.int .u8 0) 1 Tryz.underlying36 hi hz0 hz1 hz2 rfl v5 Lk.length _ rfl O5.out _ rfl .u8 bh (RH.out.keeps K5.out) (by have := HLK.out; unfold maxLen; omega) (by have := HLK.out; omega) (K5.out.size) ?_; intro v6 w6 own6 g6 _; have O6 := Lib.hid (ownB_app own6); have K6 := Lib.hid (show Keeps wr w6 [] from K5.out.trans (Keeps.of_grown (S := match v5.ownBlock with | some g => [g] | none => []) g6 (fun k hk => by rw [hk]; simp)) (fun x hx hlt => by have := young O5.out x hx; omega)); clear own6 g6))
          | (go_at_call 33; go_loud (refine (HGE.out _ _ (own_reads O6.out)).mono ?_; rintro e w7 ⟨v7, rfl, r7, k7⟩; have R7 := Lib.hid r7; have RT7 := Lib.hid (RT.out.keeps ((KK.out.then K6.out).then k7)); have K7 := Lib.hid ((KK.out.then K6.out).then k7); clear r7 k7))
          | (go_at_call 15; go_loud (refine (same_yes _ _ T _ R7.out RT7.out HTL.out).mono ?_; rintro e w8 ⟨rfl, m8, rfl⟩; have K8 := Lib.hid (K7.out.drewN m8); generalize World.drewN _ m8 = w8 at *)))
        go_roundw
        case rel => exact ⟨k + 1, by omega, by go_num, K8.out⟩
        case measure => simp [intOf]; omega
      · obtain rfl : k = 3 := by omega
        have kk3 := K11.out.then kk
        go_wp2_with (first
          | (go_at_call 12; refine (works_true _).mono ?_; rintro e w9 ⟨rfl, kk9⟩))
        go_ret
        exact ⟨rfl, (kk3.then kk9).below⟩
end

section
set_option linter.unusedVariables false
set_option linter.unusedSimpArgs false
set_option linter.unusedSectionVars false
open Go.ChangeShapes Go.WideShapes Go.ChangeAt Go.RowKit Go.Joins

section
variable {H : Type} {enc : TypeId × Value → H} {P : Program} {w : World} {base : Nat} {spare : Nat → Bool} {held : Bool}

end
end

section
set_option linter.unusedVariables false
set_option linter.unusedSimpArgs false
open Go.ChangeShapes Go.WideShapes Go.ChangeAt Go.RowKit Go.Joins

set_option maxRecDepth 100000 in
theorem weightsHold_lifted (os : Os) (started : os.Started) (H : Type) (enc : TypeId × Value → H) :
    ReturnsInHanded {} Tryz.checked os 10 .any (Rows.weightsHoldSpec.pre6 enc Tryz.prog Tryz.f10 Rows.weightsHoldRow.domain false) (Rows.weightsHoldSpec.post enc Tryz.prog Tryz.f10 false true false false) :=
  returnsInHanded_of_change (C := Tryz.checked) Tryz.own started (by kernel_rfl) Tryz.func10
    (ChangeSpec.witness6 (enc := enc) (C := Tryz.checked) false ⟨#[], #[.slice none 0 0, .slice none 0 0], []⟩ 8 (by kernel_rfl) (by kernel_rfl) (by kernel_rfl) (by kernel_rfl))
    (law_contract (C := Tryz.checked) Tryz.laidOut rfl
      (fun ds hd => by
        match ds, hd with
        | [d1, d2], _ => rfl)
      (fun t ht => by
        have : t = 22 ∨ t = 36 := by first | (simpa [Tryz.params10] using ht) | (have h9 := ht; simp [Tryz.params10] at h9; (repeat' (rcases h9 with h9 | h9)) <;> simp)
        rcases this with rfl | rfl <;> exact ⟨by kernel_rfl, of_decide_eq_true (by kernel_rfl)⟩)
      (tb := 4) rfl Tryz.underlying4
      (fun W base args ds ps hval0 hA0 hlt hnf => by
        have hval : ∀ (j : Nat) t v, Tryz.f10.params[j]? = some t → args[j]? = some v → Value.okWide Tryz.prog W .any base t v := hval0
        have hA : DataW.TrodAll enc Tryz.prog W 0 (fun _ => true) true Tryz.f10.params.toList args.toList ds ps := hA0
        rw [Tryz.params10] at hA hval
        obtain ⟨v0, v1, d0, d1, p0, p1, rfl, rfl, rfl, h0, h1⟩ := trodAll_two hA
        obtain ⟨l, hl, hl'⟩ := open_nums Tryz.underlying22 Tryz.underlying3 (by kernel_rfl) (slice_cells Tryz.underlying22 (hval 0 22 v0 rfl rfl)) h0
        obtain ⟨b, hb, hb'⟩ := open_nums Tryz.underlying36 Tryz.underlying5 (by kernel_rfl) (slice_cells Tryz.underlying36 (hval 1 36 v1 rfl rfl)) h1
        exact law_hold v0 v1 l b W hl hb (fun x hx => u8_bounds (hb' x hx))))

theorem weightsHold_holds : Rows.WeightsHoldSaid :=
  OpenClaim.holds_of_wide 10 Tryz.f10 rfl rfl rfl rfl rfl rfl rfl ⟨rfl, rfl, rfl, rfl, rfl⟩ rfl rfl rfl rfl rfl (by kernel_rfl) Tryz.func10 (by kernel_rfl)
    (of_decide_eq_true (by kernel_rfl)) (by unfold Func.isWrapper; first | (rw [if_pos (by decide +kernel)]; kernel_rfl) | (rw [if_neg (by decide +kernel)]; exact ⟨rfl, rfl⟩))
    (fun os started H enc _ => weightsHold_lifted os started H enc)

#print axioms weightsHold_holds
end

end Go.Proofs.YtophgpnnjphnmaaGreat
