/-
  The law on the worth of bytes: its walk.
-/
import Derived.Test.YtogengangfohfaaGreatQ24
import Derived.Test.YtogengangfohfaaGreatQ13
import Derived.Test.YtogengangfohfaaGreatQ1
namespace Go.Proofs.YtogengangfohfaaGreat
set_option linter.unusedVariables false
set_option linter.unusedSimpArgs false
set_option linter.unusedSectionVars false
open Go.RowKit

theorem LawEnd.of_keeps {w w' : World} (h : Keeps w w' []) : LawEnd w (.returned (.bool true)) w' :=
  ⟨rfl, h.os, h.tape, h.output, h.size, fun k hk => h.block k hk (by simp)⟩
theorem scoreN_R (b : List Int) (l : List (List Int)) : scoreN b l = scoreR b l := rfl

set_option maxRecDepth 100000 in
set_option maxHeartbeats 4000000 in
theorem law_worth (vb v : Value) (b : List Int) (l : List (List Int)) (w : World) (hvb : RdI .u8 w vb b) (hb : ∀ x ∈ b, 0 ≤ x ∧ x ≤ 255) (hv : RdL .u8 w v l) (hl : ∀ b ∈ l, ∀ x ∈ b, 0 ≤ x ∧ x ≤ 255) :
    Calls Tryz.prog 4 #[vb, v] w (LawEnd w) := by
  have HF : ∀ r : Bool, (fewL l ↔ r = true) → Hid (Calls Tryz.prog 10 #[v] w fun e w' => e = .returned (.bool r) ∧ w = w') := fun r h => few_any v l w hv h
  by_cases hf : fewL l
  · have HF1 := HF true (by simp [hf])
    clear HF
    obtain ⟨A0, n0, cp0, rfl, hn0, -⟩ := hvb.form
    by_cases hn : 200 < n0
    · obtain ⟨A1, n1, cp1, rfl, hn1, -⟩ := hv.form
      have hn' : (200 : Int) < (n0 : Int) := by omega
      clear hvb hv hf hn0 hn1 hb hl
      go_enter Tryz.func4, Tryz.ntmps4
      go_wp2_with (first
        | (go_at_call 10; refine HF1.out.mono ?_; rintro e w5 ⟨rfl, rfl⟩)
        | (go_at_call 11; refine (works_true _).mono ?_; rintro e w5 ⟨rfl, kk⟩))
      go_ret
      exact LawEnd.of_keeps kk
    · have hn' : decide ((200 : Int) < (n0 : Int)) = false := decide_eq_false (by omega)
      have HV := Lib.hid hv
      have H1 := Lib.hid (score_any _ v b l w hvb hb (by omega) hv hl (by have := hf.1; omega))
      have H2 := Lib.hid (fun w' (k : Keeps w w' []) => rWorth_any _ v b l w' (hvb.keeps k) hb (by omega) (hv.keeps k) hl (by have := hf.1; omega))
      have hbd : badN l = (if mayL l then 0 else 2) := rfl
      rw [scoreN_R, hbd] at H1
      obtain ⟨A1, n1, cp1, rfl, hn1, -⟩ := hv.form
      generalize scoreR b l = SC at *
      generalize (if mayL l then (0 : Int) else 2) = BD at *
      clear hvb hv hf hn0 hn1 hb hl hbd
      go_enter Tryz.func4, Tryz.ntmps4
      go_wp2_with (go_at_call 10; refine HF1.out.mono ?_; rintro e w5 ⟨rfl, rfl⟩)
      refine H1.out.mono ?_
      rintro e w1 ⟨rfl, k1⟩
      go_wp2_with fail
      refine (H2.out w1 k1).mono ?_
      rintro e w2 ⟨rfl, k2⟩
      go_wp2_with (first
        | (go_at_call 16; refine (num_any _ _).mono ?_; rintro e w5 ⟨rfl, rfl⟩)
        | (go_at_call 11; refine (works_true _).mono ?_; rintro e w5 ⟨rfl, kk⟩))
      go_ret
      exact LawEnd.of_keeps ((k1.then k2).then kk)
  · have HF1 := HF false (by simp [hf])
    obtain ⟨A0, n0, cp0, rfl, hn0, -⟩ := hvb.form
    obtain ⟨A1, n1, cp1, rfl, hn1, -⟩ := hv.form
    clear HF hvb hv hf hn0 hn1 hb hl
    go_enter Tryz.func4, Tryz.ntmps4
    go_wp2_with (first
      | (go_at_call 10; refine HF1.out.mono ?_; rintro e w5 ⟨rfl, rfl⟩)
      | (go_at_call 11; refine (works_true _).mono ?_; rintro e w5 ⟨rfl, kk⟩))
    go_ret
    exact LawEnd.of_keeps kk


end Go.Proofs.YtogengangfohfaaGreat
