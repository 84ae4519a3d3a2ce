/-
  Walks over package limit: what is asked of a histogram; the deferred function.
-/
import Derived.Test.YthjbngnihcmedaaJF
import Derived.Defers
import Derived.Recover
namespace Go.Proofs.Ythjbngnihcmedaa
set_option linter.unusedVariables false
set_option linter.unusedSimpArgs false
open Go.RowKit

def raisedBy (n : Int) (b : Bool) : PanicEntry := { v := .iface 26 (.int .i64 n), recovered := b }

theorem index1_any (bf : Nat) (b : Bool) (w : World) (h : Blk w bf #[.bool b] 4) :
    Calls Try.prog 64 #[.slice (some ⟨bf, 0, none⟩) 1 1, .bool false] w fun e w' => e = .returned (.int .i64 (if b then -1 else 0)) ∧ w = w' := by
  obtain ⟨c0, -⟩ := h.one
  cases b with
  | false =>
    go_enter Try.func64, Try.ntmps64
    go_wp2_with fail
    refine wp_loop_rounds 1 ?_
    rw [rounds_succ]
    go_wp2_with fail
    go_ret
    exact ⟨rfl, rfl⟩
  | true =>
    go_enter Try.func64, Try.ntmps64
    go_wp2_with fail
    refine wp_loop_rounds 2 ?_
    rw [rounds_succ]
    go_wp2_with fail
    rw [rounds_succ]
    go_wp2_with fail
    go_ret
    exact ⟨rfl, rfl⟩
theorem index0_any (w : World) : Calls Try.prog 64 #[.slice none 0 0, .bool false] w fun e w' => e = .returned (.int .i64 (-1)) ∧ w = w' := by
  go_enter Try.func64, Try.ntmps64
  go_wp2_with fail
  refine wp_loop_rounds 1 ?_
  rw [rounds_succ]
  go_wp2_with fail
  go_ret
  exact ⟨rfl, rfl⟩
/-- Does a slice of conditions hold false? -/
def ConOk (vf : Value) (ok : Bool) (w : World) : Prop := ∀ w', Keeps w w' [] → Calls Try.prog 56 #[vf, .bool false] w' fun e w'' => e = .returned (.bool (!ok)) ∧ w' = w''
theorem contains1_any (bf : Nat) (b : Bool) (w : World) (h : Blk w bf #[.bool b] 4) : ConOk (.slice (some ⟨bf, 0, none⟩) 1 1) b w := fun w' k => by
  have G := Lib.hid (index1_any bf b w' (h.keeps k (by simp)))
  clear h k
  cases b
  all_goals
    simp only [Bool.false_eq_true, if_false, if_true] at G
    go_enter Try.func56, Try.ntmps56
    go_wp2_with (go_at_call 64; refine G.out.mono ?_; rintro e w5 ⟨rfl, rfl⟩)
    go_ret
    exact ⟨rfl, rfl⟩
theorem contains0_any (w : World) : ConOk (.slice none 0 0) true w := fun w' k => by
  have G := Lib.hid (index0_any w')
  clear k
  go_enter Try.func56, Try.ntmps56
  go_wp2_with (go_at_call 64; refine G.out.mono ?_; rintro e w5 ⟨rfl, rfl⟩)
  go_ret
  exact ⟨rfl, rfl⟩

/-- The error of asked. -/
def askE (l : List Int) (ok : Bool) : Int := if rightL l && ok then (if 1 < (usedL l).length then 0 else 22) else 2

set_option maxHeartbeats 2000000 in
theorem asked_any (ok : Bool) (vf v : Value) (l : List Int) (w : World) (hv : RdI .i64 w v l) (hcon : ConOk vf ok w) (hn : l.length ≤ 1000000) :
    Calls Try.prog 35 #[v, vf] w fun e w' => (askE l ok = 0 → e = .returned (.agg #[v])) ∧ (askE l ok ≠ 0 → e = .panicked [raisedBy (askE l ok) false]) ∧ Keeps w w' [] := by
  have HW := Lib.hid (fun w' (k : Keeps w w' []) => withinL_right l ▸ within_any 2147483648 v l w' (hv.keeps k) hn)
  have HU := Lib.hid (fun w' (k : Keeps w w' []) => used_any v l w' (hv.keeps k) hn)
  have HC := Lib.hid hcon
  obtain ⟨A0, n, cp0, rfl, hnl, -⟩ := hv.form
  have k0 : Keeps w ((w.alloc (.cells #[.slice none 0 0] 59)).alloc (.cells #[.slice A0 n cp0] 59)) [] := ((Keeps.refl w []).alloc _).alloc _
  have b0 := (Blk.new w #[.slice none 0 0] 59).alloc (.cells #[.slice A0 n cp0] 59)
  have b1 := Blk.new (w.alloc (.cells #[.slice none 0 0] 59)) #[.slice A0 n cp0] 59
  rw [World.size_alloc] at b1
  have hul := usedL_len l
  clear hv hcon hnl
  cases hr : rightL l with
  | false =>
    rw [hr] at HW
    have he : Hid (askE l ok = 2) := by show _ = _; simp [askE, hr]
    clear hr
    go_enter Try.func35, Try.ntmps35
    go_wp2_with fail
    refine (HW.out _ k0).mono ?_
    rintro e w1 ⟨rfl, k1⟩
    go_wp2_with (go_at_call 37; refine (must_no _ _).mono ?_; rintro e w' ⟨rfl, rfl⟩)
    rw [he.out]
    exact ⟨rfl, (fun h => absurd h (by decide)), fun _ => rfl, k0.then k1⟩
  | true =>
    rw [hr] at HW
    cases hok : ok with
    | false =>
      subst hok
      have he : Hid (askE l false = 2) := by show _ = _; simp [askE]
      clear hr
      go_enter Try.func35, Try.ntmps35
      go_wp2_with fail
      refine (HW.out _ k0).mono ?_
      rintro e w1 ⟨rfl, k1⟩
      go_wp2_with fail
      refine (HC.out _ (k0.then k1)).mono ?_
      rintro e w' ⟨rfl, rfl⟩
      go_wp2_with (go_at_call 37; refine (must_no _ _).mono ?_; rintro e w' ⟨rfl, rfl⟩)
      rw [he.out]
      exact ⟨rfl, (fun h => absurd h (by decide)), fun _ => rfl, k0.then k1⟩
    | true =>
      subst hok
      by_cases hu : 1 < (usedL l).length
      · have he : Hid (askE l true = 0) := by show _ = _; simp [askE, hr, hu]
        have huI : (1 : Int) < ((usedL l).length : Int) := by omega
        clear hr
        generalize hU : usedL l = U at *
        clear hU
        go_enter Try.func35, Try.ntmps35
        go_wp2_with fail
        refine (HW.out _ k0).mono ?_
        rintro e w1 ⟨rfl, k1⟩
        go_wp2_with fail
        refine (HC.out _ (k0.then k1)).mono ?_
        rintro e w' ⟨rfl, rfl⟩
        obtain ⟨c1, -⟩ := (b1.keeps k1 (by simp)).one
        go_wp2_with (go_at_call 37; refine (must_yes _ _).mono ?_; rintro e w' ⟨rfl, rfl⟩)
        refine (HU.out _ (k0.then k1)).mono ?_
        rintro e w2 ⟨vu, rfl, own, k2⟩
        obtain ⟨ad2, cp2, rfl⟩ := own_form own
        have k12 := k1.then k2
        clear c1 own
        obtain ⟨c1, -⟩ := (b1.keeps k12 (by simp)).one
        obtain ⟨c0, f0⟩ := (b0.keeps k12 (by simp)).one
        go_wp2_with (go_at_call 37; refine (must_yes _ _).mono ?_; rintro e w' ⟨rfl, rfl⟩)
        refine bodyPost_ret (v := .agg #[.slice A0 n cp0]) (by simp only [results, Try.results35]; go_simp) rfl ⟨fun _ => rfl, fun h => absurd he.out h, ?_⟩
        exact (k0.then k12).setCell (.inl (by simp)) _
      · have he : Hid (askE l true = 22) := by show _ = _; simp [askE, hr, hu]
        have huI : ¬ ((1 : Int) < ((usedL l).length : Int)) := by omega
        have huD : decide ((1 : Int) < ((usedL l).length : Int)) = false := decide_eq_false huI
        clear hr
        generalize hU : usedL l = U at *
        clear hU
        go_enter Try.func35, Try.ntmps35
        go_wp2_with fail
        refine (HW.out _ k0).mono ?_
        rintro e w1 ⟨rfl, k1⟩
        go_wp2_with fail
        refine (HC.out _ (k0.then k1)).mono ?_
        rintro e w' ⟨rfl, rfl⟩
        obtain ⟨c1, -⟩ := (b1.keeps k1 (by simp)).one
        go_wp2_with (go_at_call 37; refine (must_yes _ _).mono ?_; rintro e w' ⟨rfl, rfl⟩)
        refine (HU.out _ (k0.then k1)).mono ?_
        rintro e w2 ⟨vu, rfl, own, k2⟩
        obtain ⟨ad2, cp2, rfl⟩ := own_form own
        have k12 := k1.then k2
        clear own
        go_wp2_with (go_at_call 37; refine (must_no _ _).mono ?_; rintro e w' ⟨rfl, rfl⟩)
        rw [he.out]
        exact ⟨rfl, (fun h => absurd h (by decide)), fun _ => rfl, k0.then k12⟩

/-- The deferred function of a call that returns: it does nothing. -/
theorem caught_idle (p : Addr) (f : Value) (w : World) :
    CallsD Try.prog 33 #[.pointer (some p), f] .returning w fun e u' w' => e = .returned (.tuple #[]) ∧ u' = .returning ∧ w' = w := by
  refine callsD_of_wpS Try.func33 rfl fun c₀ cs hu => ?_
  simp only [Try.ntmps33, List.size_toArray, List.length_cons, List.length_nil, Nat.reduceAdd, Nat.reduceSub, Array.replicate_succ, Array.replicate_zero, List.push_toArray, List.append_toArray, List.nil_append, List.cons_append]
  apply wpS_seq
  apply wpS_region
  simp [wpOpsS, go_sem, recoverD, hu, Exit.thenS]
  refine wpS_of_wp ?_
  have HU := Lib.hid hu
  clear hu
  go_wp2
  refine ⟨rfl, .returning, ?_, .tuple #[], by simp [results, Try.results33], rfl, rfl, rfl⟩
  have hu := HU.out
  cases c₀
  simp_all

end Go.Proofs.Ythjbngnihcmedaa
