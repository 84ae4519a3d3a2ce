/-
  Walks over package limit: MinCost.
-/
import Derived.Test.YthjbngnihcmedaaJT
namespace Go.Proofs.Ythjbngnihcmedaa
set_option linter.unusedVariables false
set_option linter.unusedSimpArgs false
open Go.RowKit

def minErr (l : List Int) (m : Int) : Int := if limErr l m = 0 then costErr l (limOut l m) else limErr l m
def minOut (l : List Int) (m : Int) : Int := if limErr l m = 0 then (if costErr l (limOut l m) = 0 then costOut l (limOut l m) else 0) else 0
theorem limOut_len (l : List Int) (m : Int) : (limOut l m).length = l.length := by unfold limOut; rw [bumpP_len]; exact List.length_replicate ..

set_option maxHeartbeats 2000000 in
theorem minCost_any (v : Value) (l : List Int) (m : Int) (w : World) (hv : RdI .i64 w v l) (hn : l.length ≤ 1000000) :
    Calls Try.prog 22 #[v, .int .i64 m] w (CostEnd w (minOut l m) (minErr l m)) := by
  have HL := Lib.hid (lengths_any v l m w hv hn)
  have HV := Lib.hid hv
  obtain ⟨A0, n, cp0, rfl, hnl, -⟩ := hv.form
  have hll := limOut_len l m
  obtain ⟨C, hC⟩ : ∃ C, C = minOut l m := ⟨_, rfl⟩
  obtain ⟨E, hE⟩ : ∃ E, E = minErr l m := ⟨_, rfl⟩
  have HC := Lib.hid hC
  have HE := Lib.hid hE
  rw [← hC, ← hE]
  clear hv hnl hC hE
  go_enter Try.func22, Try.ntmps22
  go_wp2_with fail
  refine HL.out.mono ?_
  rintro e w1 ⟨v1, rfl, r1, f1, k1⟩
  by_cases h0 : limErr l m = 0
  · rw [if_pos h0] at r1
    rw [h0]
    have hE2 : E = costErr l (limOut l m) := by rw [HE.out, minErr, if_pos h0]
    have hC2 : C = if costErr l (limOut l m) = 0 then costOut l (limOut l m) else 0 := by rw [HC.out, minOut, if_pos h0]
    have CO := Lib.hid (cost_any _ _ l (limOut l m) w1 (HV.out.keeps k1) r1 hn (by omega))
    rw [← hC2, ← hE2] at CO
    clear r1 f1 hE2 hC2 HC HE HL
    go_wp2_with fail
    refine CO.out.mono ?_
    rintro e w2 ⟨rfl, k2⟩
    go_wp2_with fail
    go_ret2
    exact ⟨rfl, k1.then k2⟩
  · have hE2 : E = limErr l m := by rw [HE.out, minErr, if_neg h0]
    have hC2 : C = 0 := by rw [HC.out, minOut, if_neg h0]
    rw [← hE2] at h0 ⊢
    subst hC2
    clear r1 f1 HC HE HL hE2
    have h0b : (E == 0) = false := by simpa using h0
    go_wp2_with fail
    go_ret2
    exact ⟨rfl, k1⟩

end Go.Proofs.Ythjbngnihcmedaa
