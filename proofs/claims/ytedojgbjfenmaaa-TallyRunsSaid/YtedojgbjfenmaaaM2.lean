/-
  The law on runs: its walk.
-/
import Derived.Test.YtedojgbjfenmaaaU5
namespace Go.Proofs.Ytedojgbjfenmaaa
set_option linter.unusedVariables false
set_option linter.unusedSimpArgs false
set_option linter.unusedSectionVars false
open Go.RowKit

set_option maxHeartbeats 2000000 in
theorem law_runs (v : Value) (l : List Int) (w : World) (hv : RdI .u8 w v l) :
    Calls Try.prog 4 #[v] w (LawEnd w) := by
  obtain ⟨A0, n, cp0, rfl, hnl, -⟩ := hv.form
  by_cases hbig : 700 < n
  · clear hv hnl
    have h1 : (700 : Int) < (n : Int) := by omega
    go_enter Try.func4, Try.ntmps4
    go_wp2_with (go_at_call 13; refine (works_true _).mono ?_; rintro e w5 ⟨rfl, kk⟩)
    go_ret
    exact ⟨rfl, kk.below⟩
  · have hd : decide ((700 : Int) < (n : Int)) = false := by simp; omega
    have H := Lib.hid (isrun_call _ l w hv (by omega))
    cases l with
    | nil =>
      have hn0 : n = 0 := hnl
      subst hn0
      clear hv hnl hd hbig
      go_enter Try.func4, Try.ntmps4
      go_wp2_with fail
      refine H.out.mono ?_
      rintro e w1 ⟨rfl, k1⟩
      rw [show runX [] = 0 from rfl, show runB [] = false from rfl]
      go_wp2_with fail
      refine wp_loop_rounds 1 ?_
      rw [rounds_succ]
      go_wp2_with (go_at_call 13; refine (works_true _).mono ?_; rintro e w5 ⟨rfl, kk⟩)
      go_ret
      exact ⟨rfl, (k1.then kk).below⟩
    | cons x0 r =>
      have hn1 : 1 ≤ n := by simp at hnl; omega
      have hnp : (0 : Int) < (n : Int) := by omega
      have hn7 : n ≤ 700 := by omega
      have hnp2 : decide (0 < n) = true := by simp; omega
      obtain ⟨b, o, rfl, hb, hc0⟩ := hv.at (i := 0) (x := x0) rfl
      have hcap := hv.cap
      have HV := Lib.hid hv
      have HN := Lib.hid hnl
      obtain ⟨L, hL⟩ : ∃ L, L = x0 :: r := ⟨_, rfl⟩
      rw [← hL] at H HV HN
      have HLL := Lib.hid hL
      clear hv hnl hL hbig
      go_enter Try.func4, Try.ntmps4
      go_wp2_with fail
      refine H.out.mono ?_
      rintro e w1 ⟨rfl, k1⟩
      have hc1 := (k1.cell (p := ⟨b, o + 0, none⟩) hb (by simp)).trans hc0
      rw [Nat.add_zero] at hc1
      have HV1 := Lib.hid (HV.out.keeps k1)
      clear hc0 H hb
      have hX : Hid (runX L = if runB L then x0 else 0) := by
        show _ = _
        rw [HLL.out]; rfl
      have hB : Hid (runB L = L.all (fun y => y == x0)) := by
        show _ = _
        rw [HLL.out]; simp [runB]
      generalize runX L = X at *
      generalize runB L = RB at *
      go_wp2_with fail
      go_loopw [5, 6] (fun s i wr => ∃ (k nd : Nat) (wk : Bool), k ≤ n ∧ i = .int .i64 k ∧ s = .bool wk ∧ Hid (wk = (L.take k).all (fun y => y == x0)) ∧ wr = w1.drewN nd) (fun _ i _ => n - (intOf i).toNat)
      case atStart => exact ⟨0, 0, true, Nat.zero_le _, rfl, rfl, by simp [Hid], rfl⟩
      case round =>
        obtain ⟨k, nd, wk, hk, rfl, rfl, hwk, rfl⟩ := hrel
        by_cases hlt : k < n
        · obtain ⟨y, hy⟩ : ∃ y, L[k]? = some y := ⟨_, List.getElem?_eq_getElem (by have := HN.out; omega)⟩
          obtain ⟨b2, o2, he, hb2, hc2⟩ := HV1.out.at hy
          cases he
          have hst : Hid ((L.take (k + 1)).all (fun y => y == x0) = (wk && (y == x0))) := by
            show _ = _
            rw [take_next hy, List.all_append, ← hwk.out]; simp
          have hkn : (k : Int) < (n : Int) := by omega
          have hk0 : (0 : Int) ≤ (k : Int) := Int.natCast_nonneg _
          clear hy
          cases wk with
          | true =>
            go_wp2_with fail
            go_quiet (fail)
            go_wp2_with fail
            go_roundw
            case rel => exact ⟨k + 1, nd + nq, (y == x0), by omega, by go_num, rfl, by show _ = _; rw [hst.out, Bool.true_and], rfl⟩
            case measure => simp [intOf]; omega
          | false =>
            go_wp2_with fail
            go_quiet (fail)
            go_wp2_with fail
            go_roundw
            case rel => exact ⟨k + 1, nd + nq, false, by omega, by go_num, rfl, by show _ = _; rw [hst.out, Bool.false_and], rfl⟩
            case measure => simp [intOf]; omega
        · have : k = n := by omega
          subst this
          have hwB : wk = RB := by rw [hB.out, hwk.out, HN.out, List.take_length]
          subst hwB
          have hX2 := hX.out
          clear hwk hB hX
          cases wk
          all_goals
            simp only [if_true, Bool.false_eq_true, if_false] at hX2
            subst hX2
            go_wp2_with (go_at_call 13; refine (works_true _).mono ?_; rintro e w5 ⟨rfl, kk⟩)
            go_ret
            exact ⟨rfl, ((k1.drewN nd).then kk).below⟩

end Go.Proofs.Ytedojgbjfenmaaa
