/-
  Walks over the reference of tables: States, Size, May.
-/
import Derived.Test.YtcmagccfagijlaaGreatQ4
namespace Go.Proofs.YtcmagccfagijlaaGreat
set_option linter.unusedVariables false
set_option linter.unusedSimpArgs false
set_option linter.unusedSectionVars false
open Go.RowKit

theorem rstates_any (x : Int) (w : World) : Calls Tryz.prog 76 #[.int .i64 x] w fun e w' => e = .returned (.int .i64 (stN x)) ∧ w = w' := by
  by_cases h : x = -1
  · subst h
    go_enter Tryz.func76, Tryz.ntmps76
    go_wp2
    go_ret
    exact ⟨rfl, rfl⟩
  · have h1 : (x == -1) = false := by simpa using h
    have h2 : stN x = x := if_neg h
    rw [h2]
    go_enter Tryz.func76, Tryz.ntmps76
    go_wp2
    go_ret
    exact ⟨rfl, rfl⟩

theorem rsize_any (g : Int) (w : World) (h0 : 0 ≤ g) (h9 : g ≤ 9) : Calls Tryz.prog 77 #[.int .i64 g] w fun e w' => e = .returned (.int .i64 (2 ^ g.toNat)) ∧ w = w' := by
  obtain ⟨n, rfl⟩ := Int.eq_ofNat_of_zero_le h0
  have hn : n ≤ 9 := by omega
  have h1 : decide ((n : Int) < 0) = false := by simp
  have h2 : decide ((20 : Int) < (n : Int)) = false := by simp; omega
  have hE : (2 : Int) ^ ((n : Int).toNat) = 2 ^ n := by simp
  rw [hE]
  clear h0 h9 hE
  go_enter Tryz.func77, Tryz.ntmps77
  go_wp2_with fail
  go_loop [3, 4] (fun s i => ∃ k : Nat, k ≤ n ∧ s = .int .i64 (2 ^ k) ∧ i = .int .i64 k) (fun _ i => n - (intOf i).toNat)
  case atStart => exact ⟨0, Nat.zero_le _, rfl, rfl⟩
  case round =>
    obtain ⟨k, hk, rfl, rfl⟩ := hrel
    by_cases hlt : k < n
    · have hkn : (k : Int) < (n : Int) := by omega
      have hp : wrap64 (2 * 2 ^ k) = 2 ^ (k + 1) := by
        have h9 := pow9 (g := (k : Int)) (by omega)
        simp only [Int.toNat_natCast] at h9
        rw [IntWalk.wrap64_in _ ⟨by omega, by omega⟩, Int.pow_succ]
        omega
      go_wp2_with fail
      go_round
      case rel => exact ⟨k + 1, by omega, (by first | rfl | trivial | exact hp | simp [hp]), by go_num⟩
      case measure => simp [intOf]; omega
    · have : k = n := by omega
      subst this
      go_wp2_with fail
      go_ret
      exact ⟨rfl, rfl⟩

set_option maxRecDepth 100000 in
set_option maxHeartbeats 4000000 in
theorem rmay_any (g sy lg : Int) (v : Value) (l : List Int) (w : World) (hv : RdI .i64 w v l) (hn : l.length ≤ 1000000) (hg9 : lg ≤ 9) :
    Calls Tryz.prog 46 #[.agg #[.int .i64 g, v], .int .i64 sy, .int .i64 lg] w fun e w' => e = .returned (.int .i64 (if okN g l sy lg then 0 else 13)) ∧ Keeps w w' [] := by
  obtain ⟨A0, n, cp0, rfl, hnl, -⟩ := hv.form
  have k0 := (Keeps.refl w []).alloc (.cells #[.int .i64 g, .slice A0 n cp0] 27)
  have HV := Lib.hid (hv.keeps k0)
  have bt := Blk.new w #[.int .i64 g, .slice A0 n cp0] 27
  have HN := Lib.hid hnl
  have hn' : n ≤ 1000000 := by omega
  obtain ⟨E, hE⟩ : ∃ E : Int, (if okN g l sy lg then 0 else 13) = E := ⟨_, rfl⟩
  have HE := Lib.hid hE
  have HE0 : Hid (okN g l sy lg = false → E = 13) := fun h => by rw [← HE.out, h]; rfl
  rw [hE]
  clear hv hnl hn hE
  obtain ⟨R1, e1⟩ : ∃ R, decide (g < 0) = R := ⟨_, rfl⟩
  obtain ⟨R2, e2⟩ : ∃ R, decide (lg < g) = R := ⟨_, rfl⟩
  obtain ⟨R3, e3⟩ : ∃ R, decide (9 < g) = R := ⟨_, rfl⟩
  by_cases hn0 : n = 0
  · subst hn0
    clear bt
    have hno : Hid (E = 13) := HE0.out (okN_false (fun h => by have := HN.out; omega))
    go_enter Tryz.func46, Tryz.ntmps46
    go_wp2_with fail
    all_goals
      go_ret
      exact ⟨by rw [hno.out]; rfl, k0⟩
  obtain ⟨m, rfl⟩ : ∃ m, n = m + 1 := ⟨n - 1, by omega⟩
  obtain ⟨y, hy⟩ : ∃ y, l[m]? = some y := ⟨_, List.getElem?_eq_getElem (by have := HN.out; omega)⟩
  have HY : Hid (l.getD (l.length - 1) 0 = y) := by
    show _ = _
    rw [← HN.out, Nat.add_sub_cancel, List.getD_eq_getElem?_getD, hy]; rfl
  obtain ⟨bb, o, rfl, hbb, hc⟩ := HV.out.at hy
  have hcap := HV.out.cap
  obtain ⟨R4, e4⟩ : ∃ R, decide (sy < ((m : Int) + 1)) = R := ⟨_, rfl⟩
  obtain ⟨R5, e5⟩ : ∃ R, (y == 0) = R := ⟨_, rfl⟩
  have HX : Hid (R1 = true ∨ R2 = true ∨ R3 = true ∨ R4 = true ∨ R5 = true → E = 13) := fun h => HE0.out (okN_false (fun q => by
    have hl := HN.out
    obtain ⟨q1, q2, q3, q4, q5, -, -⟩ := q
    rw [HY.out] at q5
    rcases h with h | h | h | h | h
    · rw [h] at e1; simp at e1; omega
    · rw [h] at e2; simp at e2; omega
    · rw [h] at e3; simp at e3; omega
    · rw [h] at e4; simp at e4; omega
    · rw [h] at e5; simp at e5; exact q5 e5))
  have HG : Hid (R1 = false → R2 = false → R4 = false → R5 = false → 0 ≤ g ∧ g ≤ lg ∧ (∀ (h6 : ∀ n ∈ l, -1 ≤ n), E = if sumN l = 2 ^ g.toNat then 0 else 13)) := fun h1 h2 h4 h5 => by
    have a1 : 0 ≤ g := by rw [← e1] at h1; simp at h1; omega
    have a2 : g ≤ lg := by rw [← e2] at h2; simp at h2; omega
    have a4 : (l.length : Int) ≤ sy := by rw [← e4] at h4; simp at h4; have := HN.out; omega
    have a5 : y ≠ 0 := by rw [← e5] at h5; simpa using h5
    refine ⟨a1, a2, fun h6 => ?_⟩
    rw [← HE.out, okN_sum a1 a2 (by have := HN.out; omega) a4 (by rw [HY.out]; exact a5) h6]
    simp
  clear hy
  have hz0 : decide ((m : Int) + 1 < 1) = false := by simp; omega
  go_enter Tryz.func46, Tryz.ntmps46
  go_wp2_with fail
  all_goals first
    | (go_ret; exact ⟨by rw [HX.out (by simp [*])]; rfl, k0⟩)
    | skip
  have hg3 := HG.out (by simp_all) (by simp_all) (by simp_all) (by simp_all)
  obtain ⟨g0, glg, HEE0⟩ := hg3
  have HEE := Lib.hid HEE0
  have HS := Lib.hid (fun w1 => rsize_any g w1 g0 (by omega))
  have HP2 := Lib.hid (pow9 (g := g) (by omega))
  clear HX HG e1 e2 e3 e4 e5 HY hc hz0 HEE0
  obtain rfl : R4 = false := by simp_all
  obtain rfl : R5 = false := by simp_all
  generalize hP : (2 : Int) ^ g.toNat = P2 at *
  have HPE := Lib.hid hP
  generalize hW0 : (w.alloc (.cells #[.int .i64 g, .slice (some ⟨bb, o, none⟩) (m + 1) cp0] 27)) = W0 at *
  clear hW0 hP
  have c0 := bt.cell 0
  have c1 := bt.cell 1
  simp at c0 c1
  go_loopw [7, 8] (fun s7 s8 wr => ∃ k : Nat, k ≤ m + 1 ∧ s7 = .int .i64 (sumN (l.take k)) ∧ s8 = .int .i64 k ∧ wr = W0 ∧ Hid (∀ x ∈ l.take k, -1 ≤ x) ∧ Hid (sumN (l.take k) ≤ 1024)) (fun _ s8 _ => m + 1 - (intOf s8).toNat)
  case atStart => exact ⟨0, Nat.zero_le _, by simp [sumN], rfl, rfl, by show ∀ x ∈ _, _; simp, by show _ ≤ _; simp [sumN]⟩
  case round =>
    obtain ⟨k, hk, rfl, rfl, rfl, hge, hle⟩ := hrel
    by_cases hlt : k < m + 1
    · obtain ⟨x, hx⟩ : ∃ x, l[k]? = some x := ⟨_, List.getElem?_eq_getElem (by have := HN.out; omega)⟩
      obtain ⟨bb', o', e', hbb', hcx⟩ := HV.out.at hx
      cases e'
      have hkn : (k : Int) < (m : Int) + 1 := by omega
      have hk0 : (0 : Int) ≤ (k : Int) := Int.natCast_nonneg _
      have HXg := Lib.hid hx
      clear hx
      have hle' := hle.out
      have hs0 := sumN_nonneg hge.out
      have hP2 := HP2.out.2
      have HBIG : Hid ((x < -1 ∨ 512 < x ∨ 512 < sumN (l.take k)) → E = 13) := fun h => HE0.out (by
        rcases (by omega : x < -1 ∨ -1 ≤ x) with h1 | h1
        · exact okN_low HXg.out h1
        · refine okN_big HXg.out ?_
          rw [HPE.out]
          have h2 := stN_nonneg h1
          have h3 := stN_max h1
          omega)
      by_cases hbad : x < -1 ∨ 512 < x ∨ 512 < sumN (l.take k)
      · have F13 : Hid (E = 13) := HBIG.out hbad
        obtain ⟨Q1, f1⟩ : ∃ R, decide (x < -1) = R := ⟨_, rfl⟩
        obtain ⟨Q2, f2⟩ : ∃ R, decide (512 < x) = R := ⟨_, rfl⟩
        obtain ⟨Q3, f3⟩ : ∃ R, decide (512 < sumN (l.take k)) = R := ⟨_, rfl⟩
        have hq : (Q1 || (Q2 || Q3)) = true := by rw [← f1, ← f2, ← f3]; simpa using hbad
        have HQ := Lib.hid hq
        clear hbad hs0 hle' hP2 hq
        go_wp2_with fail
        all_goals first
          | (go_ret; exact ⟨by rw [F13.out]; rfl, k0⟩)
          | (exfalso; have := HQ.out; simp_all)
      · have f1 : decide (x < -1) = false := by simp; omega
        have f2 : decide (512 < x) = false := by simp; omega
        have f3 : decide (512 < sumN (l.take k)) = false := by simp; omega
        have hge1 : -1 ≤ x := by omega
        have hst := stN_nonneg hge1
        have hst2 := stN_max hge1
        have NS := Lib.hid (sumN_take HXg.out)
        have hw2 : wrap64 (sumN (l.take k) + stN x) = sumN (l.take k) + stN x := IntWalk.wrap64_in _ ⟨by omega, by omega⟩
        have NG : Hid (∀ y ∈ l.take (k + 1), -1 ≤ y) := by
          show ∀ y ∈ _, _
          rw [take_next HXg.out]
          intro y hy
          rcases List.mem_append.1 hy with hy | hy
          · exact hge.out y hy
          · rw [List.mem_singleton.1 hy]; omega
        have NL : Hid (sumN (l.take (k + 1)) ≤ 1024) := by show _ ≤ _; rw [NS.out]; omega
        clear hbad hs0 hle' hP2 hst hst2 hge1
        generalize sumN (l.take k) = SK at *
        go_wp2_with (go_at_call 76; refine (rstates_any x _).mono ?_; rintro e w5 ⟨rfl, rfl⟩)
        go_roundw
        case rel => exact ⟨k + 1, by omega, (by first | rw [NS.out, hw2] | rw [NS.out]), by go_num, (by first | rfl | trivial), NG, NL⟩
        case measure => simp [intOf]; omega
    · have : k = m + 1 := by omega
      subst this
      have hT : l.take (m + 1) = l := List.take_of_length_le (by have := HN.out; omega)
      rw [hT] at hge hle ⊢
      have F := Lib.hid (HEE.out hge.out)
      have hkn : ¬ ((m : Int) + 1 < (m : Int) + 1) := by omega
      by_cases hq : sumN l = P2
      · have gq : (sumN l != P2) = false := by simpa using hq
        rw [if_pos hq] at F
        clear hq hT
        generalize sumN l = SL at *
        go_wp2_with (go_at_call 77; refine (HS.out _).mono ?_; rintro e w5 ⟨rfl, rfl⟩)
        go_ret
        exact ⟨by rw [F.out]; rfl, k0⟩
      · have gq : (sumN l != P2) = true := by simpa using hq
        rw [if_neg hq] at F
        clear hq hT
        generalize sumN l = SL at *
        go_wp2_with (go_at_call 77; refine (HS.out _).mono ?_; rintro e w5 ⟨rfl, rfl⟩)
        go_ret
        exact ⟨by rw [F.out]; rfl, k0⟩


end Go.Proofs.YtcmagccfagijlaaGreat
