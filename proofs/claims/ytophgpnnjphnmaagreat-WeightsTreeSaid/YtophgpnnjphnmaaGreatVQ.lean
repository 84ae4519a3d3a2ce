/-
  The laws on the weights of a tree, the tree of weights, the implied weight, format 0: their walks. (Printed by mkVQ.py.)
-/
import Derived.Test.YtophgpnnjphnmaaGreatVP
import Derived.Test.YtophgpnnjphnmaaGreatNc
import Derived.Test.YtophgpnnjphnmaaGreatAp
import Derived.Test.YtophgpnnjphnmaaGreatLift
namespace Go.Proofs.YtophgpnnjphnmaaGreat
set_option linter.unusedVariables false
set_option linter.unusedSimpArgs false
set_option linter.unusedSectionVars false
open Go.RowKit

theorem wOf_len (l : List Int) : (wOf l).length ≤ l.length := by simp [wOf]; omega
theorem fromOut_len (l : List Int) : (fromOut l).length ≤ l.length := by unfold fromOut; split <;> simp [wOf_len]
theorem treeOut_len (l : List Int) : (treeOut l).length ≤ l.length + 1 := by unfold treeOut; split <;> simp [tOf_len]
theorem treeErr_ok {l : List Int} : (treeErr l = 0 ∧ treeL (treeOut l) = true) ∨ treeErr l = 12 := by
  unfold treeErr treeOut
  cases h : okW l with
  | true => simp [tree_of_ok h]
  | false => simp

set_option maxRecDepth 100000 in
set_option maxHeartbeats 2000000 in
theorem law_of (v : Value) (l : List Int) (w : World) (hv : RdI .i64 w v l) : Calls Tryz.prog 3 #[v] w (LawEnd w) := by
  obtain ⟨A0, n, cp0, rfl, hnl, -⟩ := hv.form
  by_cases hbig : 300 < n
  · clear hv hnl
    have h1 : (300 : Int) < (n : Int) := by omega
    go_enter Tryz.func3, Tryz.ntmps3
    go_wp2_with (go_at_call 12; refine (works_true _).mono ?_; rintro e w9 ⟨rfl, kk⟩)
    go_ret
    exact ⟨rfl, kk.below⟩
  have hd : decide ((300 : Int) < (n : Int)) = false := by simp; omega
  obtain ⟨i0, hi, hz0, hz1, hz2⟩ := info_parts Tryz.infoInt
  have HV := Lib.hid hv
  have HFN := Lib.hid (fun c w' (hc : RdI .i64 w' c l) => fromTree_any c l w' hc (by omega))
  have HRF := Lib.hid (fun w' (k : Keeps w w' []) => r_of _ l w' (hv.keeps k) (by omega))
  have hol := fromOut_len l
  have hln : l.length ≤ 300 := by omega
  clear hv hnl
  generalize fromOut l = O at *
  generalize fromErr l = E at *
  go_enter Tryz.func3, Tryz.ntmps3
  go_wp2_with (refine wpList_copyI rfl rfl rfl 22 3 _ _ _ rfl rfl rfl i0 (.int .i64 0) 8 Tryz.underlying22 hi hz0 hz1 hz2 rfl (.slice A0 n cp0) (fun _ => rfl) (fun _ => rfl) (fun _ => rfl) .i64 l HV.out (by unfold maxLen; omega) (by omega) ?_; intro v0 v1 w1 own1 k1 ne1; obtain ⟨a1, c1, rfl⟩ := own_form own1)
  have rc := own_reads own1
  refine (HFN.out _ _ rc).mono ?_
  rintro e w2 ⟨va, rfl, ra, -, k2⟩
  replace rc := rc.keeps k2
  replace k1 := k1.then k2
  clear k2 own1 HFN
  go_wp2_with fail
  refine (HRF.out _ k1).mono ?_
  rintro e w3 ⟨vb, rfl, rb, -, k3⟩
  replace rc := rc.keeps k3
  replace ra := ra.keeps k3
  replace k1 := k1.then k3
  clear k3 HRF
  go_wp2_with fail
  refine (same_yes _ _ O _ ra rb (by omega)).mono ?_
  rintro e w4 ⟨rfl, m4, rfl⟩
  replace k1 := k1.drewN m4
  replace rc := rc.drewN m4
  replace ra := ra.drewN m4
  clear rb
  generalize World.drewN _ m4 = w4 at *
  have hee : (E == E) = true := by simp
  go_wp2_with (go_at_call 16; refine (no_any _ _).mono ?_; rintro e w' ⟨rfl, rfl⟩)
  refine (same_yes _ _ l _ rc (HV.out.keeps k1) (by omega)).mono ?_
  rintro e w5 ⟨rfl, m5, rfl⟩
  replace k1 := k1.drewN m5
  replace ra := ra.drewN m5
  clear rc
  generalize World.drewN _ m5 = w5 at *
  go_wp2_with (go_at_call 12; refine (works_true _).mono ?_; rintro e w9 ⟨rfl, kk⟩)
  go_ret
  exact ⟨rfl, (k1.then kk).below⟩

set_option maxRecDepth 100000 in
set_option maxHeartbeats 2000000 in
theorem law_tree (v : Value) (l : List Int) (w : World) (hv : RdI .i64 w v l) : Calls Tryz.prog 4 #[v] w (LawEnd w) := by
  obtain ⟨A0, n, cp0, rfl, hnl, -⟩ := hv.form
  by_cases hbig : 300 < n
  · clear hv hnl
    have h1 : (300 : Int) < (n : Int) := by omega
    go_enter Tryz.func4, Tryz.ntmps4
    go_wp2_with (go_at_call 12; refine (works_true _).mono ?_; rintro e w9 ⟨rfl, kk⟩)
    go_ret
    exact ⟨rfl, kk.below⟩
  have hd : decide ((300 : Int) < (n : Int)) = false := by simp; omega
  obtain ⟨i0, hi, hz0, hz1, hz2⟩ := info_parts Tryz.infoInt
  have HV := Lib.hid hv
  have HFN := Lib.hid (fun c w' (hc : RdI .i64 w' c l) => toTree_any c l w' hc (by omega))
  have HRF := Lib.hid (fun w' (k : Keeps w w' []) => r_tree _ l w' (hv.keeps k) (by omega))
  have hol := treeOut_len l
  have HTE := Lib.hid (treeErr_ok (l := l))
  have hln : l.length ≤ 300 := by omega
  clear hv hnl
  generalize treeOut l = O at *
  generalize treeErr l = E at *
  go_enter Tryz.func4, Tryz.ntmps4
  go_wp2_with (refine wpList_copyI rfl rfl rfl 22 3 _ _ _ rfl rfl rfl i0 (.int .i64 0) 8 Tryz.underlying22 hi hz0 hz1 hz2 rfl (.slice A0 n cp0) (fun _ => rfl) (fun _ => rfl) (fun _ => rfl) .i64 l HV.out (by unfold maxLen; omega) (by omega) ?_; intro v0 v1 w1 own1 k1 ne1; obtain ⟨a1, c1, rfl⟩ := own_form own1)
  have rc := own_reads own1
  refine (HFN.out _ _ rc).mono ?_
  rintro e w2 ⟨va, rfl, ra, -, k2⟩
  replace rc := rc.keeps k2
  replace k1 := k1.then k2
  clear k2 own1 HFN
  go_wp2_with fail
  refine (HRF.out _ k1).mono ?_
  rintro e w3 ⟨vb, rfl, rb, -, k3⟩
  replace rc := rc.keeps k3
  replace ra := ra.keeps k3
  replace k1 := k1.then k3
  clear k3 HRF
  go_wp2_with fail
  refine (same_yes _ _ O _ ra rb (by omega)).mono ?_
  rintro e w4 ⟨rfl, m4, rfl⟩
  replace k1 := k1.drewN m4
  replace rc := rc.drewN m4
  replace ra := ra.drewN m4
  clear rb
  generalize World.drewN _ m4 = w4 at *
  have hee : (E == E) = true := by simp
  go_wp2_with (go_at_call 16; refine (no_any _ _).mono ?_; rintro e w' ⟨rfl, rfl⟩)
  refine (same_yes _ _ l _ rc (HV.out.keeps k1) (by omega)).mono ?_
  rintro e w5 ⟨rfl, m5, rfl⟩
  replace k1 := k1.drewN m5
  replace ra := ra.drewN m5
  clear rc
  generalize World.drewN _ m5 = w5 at *
  rcases HTE.out with ⟨rfl, ht⟩ | rfl
  · have HR := Lib.hid (r_right14 va O w5 ra (by omega))
    rw [ht] at HR
    clear HTE
    go_wp2_with (first | (go_at_call 19; refine HR.out.mono ?_; rintro e w6 ⟨rfl, hw6⟩; subst hw6) | (go_at_call 12; refine (works_true _).mono ?_; rintro e w9 ⟨rfl, kk⟩))
    go_ret
    exact ⟨rfl, (k1.then kk).below⟩
  · clear HTE
    go_wp2_with (go_at_call 12; refine (works_true _).mono ?_; rintro e w9 ⟨rfl, kk⟩)
    go_ret
    exact ⟨rfl, (k1.then kk).below⟩

set_option maxRecDepth 100000 in
set_option maxHeartbeats 2000000 in
theorem law_last (v : Value) (l : List Int) (w : World) (hv : RdI .i64 w v l) : Calls Tryz.prog 5 #[v] w (LawEnd w) := by
  obtain ⟨A0, n, cp0, rfl, hnl, -⟩ := hv.form
  by_cases hbig : 300 < n
  · clear hv hnl
    have h1 : (300 : Int) < (n : Int) := by omega
    go_enter Tryz.func5, Tryz.ntmps5
    go_wp2_with (go_at_call 12; refine (works_true _).mono ?_; rintro e w9 ⟨rfl, kk⟩)
    go_ret
    exact ⟨rfl, kk.below⟩
  have hd : decide ((300 : Int) < (n : Int)) = false := by simp; omega
  have HFN := Lib.hid (implied_any _ l w hv (by omega))
  have HRF := Lib.hid (fun w' (k : Keeps w w' []) => r_Last _ l w' (hv.keeps k) (by omega))
  clear hv hnl
  generalize lastOut l = O at *
  generalize treeErr l = E at *
  have hoo : (O == O) = true := by simp
  have hee : (E == E) = true := by simp
  go_enter Tryz.func5, Tryz.ntmps5
  go_wp2_with fail
  refine HFN.out.mono ?_
  rintro e w2 ⟨rfl, k1⟩
  go_wp2_with fail
  refine (HRF.out _ k1).mono ?_
  rintro e w3 ⟨rfl, k3⟩
  replace k1 := k1.then k3
  go_wp2_with (first | (go_at_call 16; refine (no_any _ _).mono ?_; rintro e w' ⟨rfl, rfl⟩) | (go_at_call 12; refine (works_true _).mono ?_; rintro e w9 ⟨rfl, kk⟩))
  go_ret
  exact ⟨rfl, (k1.then kk).below⟩

set_option maxRecDepth 100000 in
set_option maxHeartbeats 2000000 in
theorem law_halves (v : Value) (l : List Int) (w : World) (hv : RdI .i64 w v l) : Calls Tryz.prog 6 #[v] w (LawEnd w) := by
  obtain ⟨A0, n, cp0, rfl, hnl, -⟩ := hv.form
  by_cases hbig : 300 < n
  · clear hv hnl
    have h1 : (300 : Int) < (n : Int) := by omega
    go_enter Tryz.func6, Tryz.ntmps6
    go_wp2_with (go_at_call 12; refine (works_true _).mono ?_; rintro e w9 ⟨rfl, kk⟩)
    go_ret
    exact ⟨rfl, kk.below⟩
  have hd : decide ((300 : Int) < (n : Int)) = false := by simp; omega
  have HFN := Lib.hid (packed_any _ l w hv (by omega))
  have HRF := Lib.hid (fun w' (k : Keeps w w' []) => r_halves _ l w' (hv.keeps k) (by omega))
  clear hv hnl
  generalize halfOut l = O at *
  generalize treeErr l = E at *
  have hee : (E == E) = true := by simp
  go_enter Tryz.func6, Tryz.ntmps6
  go_wp2_with fail
  refine HFN.out.mono ?_
  rintro e w2 ⟨va, rfl, ra, -, k1⟩
  go_wp2_with fail
  refine (HRF.out _ k1).mono ?_
  rintro e w3 ⟨vb, rfl, rb, -, k3⟩
  replace ra := ra.keeps k3
  replace k1 := k1.then k3
  have s1 := str_of (P := Tryz.prog) ra Tryz.underlying36 Tryz.underlying5 Tryz.underlying9
  have s2 := str_of (P := Tryz.prog) rb Tryz.underlying36 Tryz.underlying5 Tryz.underlying9
  generalize strOfNums O = SO at *
  clear k3 ra rb
  go_wp2_with (first | (go_at_call 16; refine (no_any _ _).mono ?_; rintro e w' ⟨rfl, rfl⟩) | (go_at_call 12; refine (works_true _).mono ?_; rintro e w9 ⟨rfl, kk⟩))
  go_ret
  exact ⟨rfl, (k1.then kk).below⟩

end Go.Proofs.YtophgpnnjphnmaaGreat
