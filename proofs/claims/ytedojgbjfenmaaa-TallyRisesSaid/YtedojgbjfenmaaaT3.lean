/-
  Walks over package tally: told, Total, Distinct.
-/
import Derived.Test.YtedojgbjfenmaaaT2
import Derived.Shelf.Abstract
namespace Go.Proofs.Ytedojgbjfenmaaa
set_option linter.unusedVariables false
set_option linter.unusedSimpArgs false
set_option linter.unusedSectionVars false
open Go.RowKit

set_option maxHeartbeats 400000 in
theorem told_int (f : Nat) (r : Int) (v : Value) (l : List Int) (w : World) (hv : RdI .i64 w v l) (hn : l.length ≤ 1000000)
    (eg : ∀ args w, (callFunc f args).run Try.prog w = .ok (.enter f args) w)
    (hf : rightL l = true → Calls Try.prog f #[.agg #[v]] w fun e w'' => e = .returned (.int .i64 r) ∧ Keeps w w'' []) :
    Calls Try.prog 39 #[v, .func (.func f) #[] #[]] w fun e w' =>
      e = .returned (.tuple #[.int .i64 (if rightL l then r else 0), .int .i64 (if rightL l then 0 else 2)]) ∧ Keeps w w' [] := by
  have HG := Lib.hid (check_any v l w hv hn)
  obtain ⟨A0, n, cp0, rfl, -⟩ := hv.form
  have HF := Lib.hid hf
  clear hv hf
  cases hr : rightL l with
  | true =>
    have HF2 := Lib.hid (HF.out hr)
    rw [hr] at HG
    clear hr HF
    go_enter Try.func39, Try.ntmps39
    go_wp2_with (go_at_call 20; refine HG.out.mono ?_; rintro e w' ⟨rfl, rfl⟩)
    refine HF2.out.mono ?_
    rintro e w1 ⟨rfl, kk⟩
    go_wp2_with fail
    go_ret2
    exact ⟨rfl, kk⟩
  | false =>
    rw [hr] at HG
    clear hr HF
    go_enter Try.func39, Try.ntmps39
    go_wp2_with (go_at_call 20; refine HG.out.mono ?_; rintro e w' ⟨rfl, rfl⟩)
    go_ret2
    exact ⟨rfl, Keeps.refl _ _⟩

theorem total1_any (v : Value) (l : List Int) (w : World) (hv : RdI .i64 w v l) (hr : rightL l = true) :
    Calls Try.prog 40 #[.agg #[v]] w fun e w' => e = .returned (.int .i64 (sumL l)) ∧ Keeps w w' [] := by
  have HG : Hid (∀ w', Keeps w w' [] → Calls Try.prog 41 #[v] w' fun e w'' => e = .returned (.int .i64 (sumL l)) ∧ w'' = w') := fun w' k => total_any v l w' (hv.keeps k) hr
  obtain ⟨A0, n, cp0, rfl, -⟩ := hv.form
  clear hv hr
  generalize sumL l = s at *
  go_enter Try.func40, Try.ntmps40
  go_wp2_with fail
  refine (HG.out _ ((Keeps.refl w []).alloc _)).mono ?_
  rintro e w1 ⟨rfl, rfl⟩
  go_wp2_with fail
  go_ret
  exact ⟨rfl, (Keeps.refl w []).alloc _⟩

theorem distinct1_any (v : Value) (l : List Int) (w : World) (hv : RdI .i64 w v l) (hn : l.length ≤ 1000000) :
    Calls Try.prog 42 #[.agg #[v]] w fun e w' => e = .returned (.int .i64 (usedL l).length) ∧ Keeps w w' [] := by
  have HG : Hid (∀ w', Keeps w w' [] → Calls Try.prog 43 #[v] w' (OwnEnd w' 3 .i64 (usedL l))) := fun w' k => used_any v l w' (hv.keeps k) hn
  obtain ⟨A0, n, cp0, rfl, -⟩ := hv.form
  clear hv hn
  generalize usedL l = U at *
  go_enter Try.func42, Try.ntmps42
  go_wp2_with fail
  refine (HG.out _ ((Keeps.refl w []).alloc _)).mono ?_
  rintro e w1 ⟨v1, rfl, own, kk⟩
  obtain ⟨ad1, cp1, rfl⟩ := own_form own
  go_wp2_with fail
  go_ret
  exact ⟨rfl, ((Keeps.refl w []).alloc _).then kk⟩

set_option maxHeartbeats 400000 in
theorem total_call (v : Value) (l : List Int) (w : World) (hv : RdI .i64 w v l) (hn : l.length ≤ 1000000) :
    Calls Try.prog 21 #[v] w fun e w' =>
      e = .returned (.tuple #[.int .i64 (if rightL l then sumL l else 0), .int .i64 (if rightL l then 0 else 2)]) ∧ Keeps w w' [] := by
  have HG := Lib.hid (told_int 40 (sumL l) v l w hv hn (enters_of Try.func40 (by kernel_rfl) rfl) (fun hr => total1_any v l w hv hr))
  obtain ⟨A0, n, cp0, rfl, -⟩ := hv.form
  clear hv hn
  generalize (if rightL l then sumL l else 0) = s at *
  generalize (if rightL l then (0 : Int) else 2) = e0 at *
  go_enter Try.func21, Try.ntmps21
  go_wp2_with fail
  refine HG.out.mono ?_
  rintro e w1 ⟨rfl, kk⟩
  go_wp2_with fail
  go_ret2
  exact ⟨rfl, kk⟩

set_option maxHeartbeats 400000 in
theorem distinct_call (v : Value) (l : List Int) (w : World) (hv : RdI .i64 w v l) (hn : l.length ≤ 1000000) :
    Calls Try.prog 22 #[v] w fun e w' =>
      e = .returned (.tuple #[.int .i64 (if rightL l then (usedL l).length else 0), .int .i64 (if rightL l then 0 else 2)]) ∧ Keeps w w' [] := by
  have HG := Lib.hid (told_int 42 (usedL l).length v l w hv hn (enters_of Try.func42 (by kernel_rfl) rfl) (fun hr => distinct1_any v l w hv hn))
  obtain ⟨A0, n, cp0, rfl, -⟩ := hv.form
  clear hv hn
  generalize (if rightL l then ((usedL l).length : Int) else 0) = s at *
  generalize (if rightL l then (0 : Int) else 2) = e0 at *
  go_enter Try.func22, Try.ntmps22
  go_wp2_with fail
  refine HG.out.mono ?_
  rintro e w1 ⟨rfl, kk⟩
  go_wp2_with fail
  go_ret2
  exact ⟨rfl, kk⟩

end Go.Proofs.Ytedojgbjfenmaaa
