/-
  Walks over package repeat: goes where it raises an error; the deferred function that catches it.
-/
import Derived.Test.YtldbiohahkcpnaaW2
namespace Go.Proofs.Ytldbiohahkcpnaa
set_option linter.unusedVariables false
set_option linter.unusedSimpArgs false
set_option linter.unusedSectionVars false
open Go.RowKit

/-- The chain of a raised error. -/
def raisedBy (n : Int) (b : Bool) : PanicEntry := { v := .iface 25 (.int .i64 n), recovered := b }

set_option maxHeartbeats 600000 in
theorem goes_arg (s : Nat) (a b c lit len v : Int) (w : World) (hs : Blk w s #[.int .i64 a, .int .i64 b, .int .i64 c] 62)
    (hr : rightB a b c = false ∨ lit < 0) :
    Calls Try.prog 28 #[.pointer (some ⟨s, 0, none⟩), .agg #[.int .i64 lit, .int .i64 len, .int .i64 v]] w fun e w' =>
      e = .panicked [raisedBy 2 false] ∧ Keeps w w' [] := by
  have hlt := hs.lt
  obtain ⟨c0, c1, c2, f0, f1, f2⟩ := hs.three
  cases hb : rightB a b c with
  | false =>
    have HR := Lib.hid hb
    clear hr hb
    go_enter Try.func28, Try.ntmps28
    go_wp2_with (first | (go_at_call 37; refine (right_any a b c _).mono ?_; rw [HR.out]; rintro e w' ⟨rfl, rfl⟩) | (go_at_call 36; refine (must_no _ _).mono ?_; rintro e w' ⟨rfl, rfl⟩))
    refine ⟨rfl, rfl, ?_⟩
    repeat' first | with_reducible exact Keeps.refl _ _ | with_reducible refine Keeps.alloc ?_ _
  | true =>
    have hl : lit < 0 := by simpa [hb] using hr
    have hd : decide (0 ≤ lit) = false := by simpa using hl
    have HR := Lib.hid hb
    clear hr hb
    go_enter Try.func28, Try.ntmps28
    go_wp2_with (first | (go_at_call 37; refine (right_any a b c _).mono ?_; rw [HR.out]; rintro e w' ⟨rfl, rfl⟩) | (go_at_call 36; refine (must_no _ _).mono ?_; rintro e w' ⟨rfl, rfl⟩))
    refine ⟨rfl, rfl, ?_⟩
    repeat' first | with_reducible exact Keeps.refl _ _ | with_reducible refine Keeps.alloc ?_ _

set_option maxHeartbeats 600000 in
theorem goes_seq (s : Nat) (a b c lit len v : Int) (w : World) (hs : Blk w s #[.int .i64 a, .int .i64 b, .int .i64 c] 62)
    (ha : 1 ≤ a) (ha' : a ≤ 134217728) (hr : rightB a b c = true) (hl : 0 ≤ lit) (hv' : v ≤ 9223372036854775807) (hv : v < 1 ∨ inW (toldO a b c lit v) = false) :
    Calls Try.prog 28 #[.pointer (some ⟨s, 0, none⟩), .agg #[.int .i64 lit, .int .i64 len, .int .i64 v]] w fun e w' =>
      e = .panicked [raisedBy 15 false] ∧ Keeps w w' [] := by
  have hlt := hs.lt
  obtain ⟨c0, c1, c2, f0, f1, f2⟩ := hs.three
  have HR := Lib.hid hr
  clear hr
  by_cases h1 : v < 1
  · clear hv
    have hd : decide (1 ≤ v) = false := by simpa using h1
    go_enter Try.func28, Try.ntmps28
    go_wp2_with fail
    refine (right_any a b c _).mono ?_
    rintro e w' ⟨rfl, rfl⟩
    rw [HR.out]
    go_wp2_with fail
    refine (must_yes _ _).mono ?_
    rintro e w' ⟨rfl, rfl⟩
    go_wp2_with fail
    refine (must_no _ _).mono ?_
    rintro e w' ⟨rfl, rfl⟩
    go_wp2_with fail
    refine ⟨rfl, rfl, ?_⟩
    repeat' first | with_reducible exact Keeps.refl _ _ | with_reducible refine Keeps.alloc ?_ _
  · have hv1 : 1 ≤ v := by omega
    have ho : toldO a b c lit v < 1 ∨ 134217728 < toldO a b c lit v := by
      rcases hv with hv | hv
      · omega
      · simp [inW] at hv; omega
    clear hv h1
    generalize hO : toldO a b c lit v = O at *
    have HO := Lib.hid hO
    clear hO
    go_enter Try.func28, Try.ntmps28
    go_wp2_with fail
    refine (right_any a b c _).mono ?_
    rintro e w' ⟨rfl, rfl⟩
    rw [HR.out]
    go_wp2_with (first | (go_at_call 36; refine (must_yes _ _).mono ?_; rintro e w' ⟨rfl, rfl⟩))
    refine (told_any s a b c lit v _ (((hs.alloc _).alloc _).alloc _) ha ha' hv1 hv').mono ?_
    rw [HO.out]
    rintro e w1 ⟨rfl, hk⟩
    have kw : Keeps w w1 [] := ((((Keeps.refl w _).alloc _).alloc _).alloc _).then hk
    clear c0 c1 c2 f0 f1 f2 hk
    rcases ho with ho | ho
    · have hd : decide (1 ≤ O) = false := by simpa using ho
      go_wp2_with (first | (go_at_call 36; refine (must_no _ _).mono ?_; rintro e w' ⟨rfl, rfl⟩))
      exact ⟨rfl, rfl, kw⟩
    · have ho1 : 1 ≤ O := by omega
      have hd : decide (O ≤ 134217728) = false := by simpa using ho
      go_wp2_with (first | (go_at_call 36; refine (must_no _ _).mono ?_; rintro e w' ⟨rfl, rfl⟩))
      exact ⟨rfl, rfl, kw⟩

end Go.Proofs.Ytldbiohahkcpnaa
