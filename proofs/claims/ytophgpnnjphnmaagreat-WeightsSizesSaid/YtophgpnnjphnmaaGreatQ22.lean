/-
  The states and bits of a flow, taken from the last symbol to the first, in plain words. (No walk is done here.)
  Walks over the reference of tables: States, Size, May.
  The reference of spread tables: Step; what lies at the places, in plain words.
-/
import Derived.Test.YtophgpnnjphnmaaGreatQ17
import Derived.Test.YtophgpnnjphnmaaGreatQ1
import Derived.Test.YtophgpnnjphnmaaGreatQ10
namespace Go.Proofs.YtophgpnnjphnmaaGreat
section
set_option linter.unusedVariables false
set_option linter.unusedSimpArgs false

/-- The two states ahead of symbol i: of the even symbols, and of the odd ones. -/
def twoE (g : Nat) (norm : List Int) (l : List Nat) (i : Nat) : Nat := if i % 2 = 0 then (encG g norm (l.drop i)).1 else (encG g norm (l.drop i)).2.1
def twoO (g : Nat) (norm : List Int) (l : List Nat) (i : Nat) : Nat := if i % 2 = 0 then (encG g norm (l.drop i)).2.1 else (encG g norm (l.drop i)).1
def bitE (g : Nat) (norm : List Int) (l : List Nat) (i : Nat) : List Bool := (encG g norm (l.drop i)).2.2
theorem enc_last {g i s : Nat} {norm : List Int} {l : List Nat} (hs : l[i]? = some s) (h2 : l.length ≤ i + 2) :
    encG g norm (l.drop i) = (lowN g norm s, (encG g norm (l.drop (i + 1))).1, (encG g norm (l.drop (i + 1))).2.2) := by
  obtain ⟨hi, he⟩ := List.getElem?_eq_some_iff.1 hs
  rw [List.drop_eq_getElem_cons hi, he, encG, if_pos (by rw [List.length_drop]; omega)]
theorem enc_more {g i s : Nat} {norm : List Int} {l : List Nat} (hs : l[i]? = some s) (h2 : i + 2 < l.length) :
    encG g norm (l.drop i) = (predS g norm (encG g norm (l.drop (i + 1))).2.1 s, (encG g norm (l.drop (i + 1))).1, (encG g norm (l.drop (i + 1))).2.2 ++ bitsN (predV g norm (encG g norm (l.drop (i + 1))).2.1 s) (predB g norm (encG g norm (l.drop (i + 1))).2.1 s)) := by
  obtain ⟨hi, he⟩ := List.getElem?_eq_some_iff.1 hs
  rw [List.drop_eq_getElem_cons hi, he, encG, if_neg (by rw [List.length_drop]; omega)]
theorem two_fin (g : Nat) (norm : List Int) (l : List Nat) : twoE g norm l l.length = 0 ∧ twoO g norm l l.length = 0 ∧ bitE g norm l l.length = [] := by
  simp [twoE, twoO, bitE, encG]
theorem two_zero (g : Nat) (norm : List Int) (l : List Nat) : twoE g norm l 0 = (encG g norm l).1 ∧ twoO g norm l 0 = (encG g norm l).2.1 ∧ bitE g norm l 0 = (encG g norm l).2.2 := by
  simp [twoE, twoO, bitE]
theorem two_last_even {g i s : Nat} {norm : List Int} {l : List Nat} (hs : l[i]? = some s) (h2 : l.length ≤ i + 2) (hp : i % 2 = 0) :
    twoE g norm l i = lowN g norm s ∧ twoO g norm l i = twoO g norm l (i + 1) ∧ bitE g norm l i = bitE g norm l (i + 1) := by
  have h := enc_last (g := g) (norm := norm) hs h2
  have hq : ¬ (i + 1) % 2 = 0 := by omega
  simp only [twoE, twoO, bitE, h, if_pos hp, if_neg hq]
  exact ⟨trivial, trivial, trivial⟩
theorem two_last_odd {g i s : Nat} {norm : List Int} {l : List Nat} (hs : l[i]? = some s) (h2 : l.length ≤ i + 2) (hp : i % 2 = 1) :
    twoO g norm l i = lowN g norm s ∧ twoE g norm l i = twoE g norm l (i + 1) ∧ bitE g norm l i = bitE g norm l (i + 1) := by
  have h := enc_last (g := g) (norm := norm) hs h2
  have hp' : ¬ i % 2 = 0 := by omega
  have hq : (i + 1) % 2 = 0 := by omega
  simp only [twoE, twoO, bitE, h, if_neg hp', if_pos hq]
  exact ⟨trivial, trivial, trivial⟩
theorem two_more_even {g i s : Nat} {norm : List Int} {l : List Nat} (hs : l[i]? = some s) (h2 : i + 2 < l.length) (hp : i % 2 = 0) :
    twoE g norm l i = predS g norm (twoE g norm l (i + 1)) s ∧ twoO g norm l i = twoO g norm l (i + 1) ∧
      bitE g norm l i = bitE g norm l (i + 1) ++ bitsN (predV g norm (twoE g norm l (i + 1)) s) (predB g norm (twoE g norm l (i + 1)) s) := by
  have h := enc_more (g := g) (norm := norm) hs h2
  have hq : ¬ (i + 1) % 2 = 0 := by omega
  simp only [twoE, twoO, bitE, h, if_pos hp, if_neg hq]
  exact ⟨trivial, trivial, trivial⟩
theorem two_more_odd {g i s : Nat} {norm : List Int} {l : List Nat} (hs : l[i]? = some s) (h2 : i + 2 < l.length) (hp : i % 2 = 1) :
    twoO g norm l i = predS g norm (twoO g norm l (i + 1)) s ∧ twoE g norm l i = twoE g norm l (i + 1) ∧
      bitE g norm l i = bitE g norm l (i + 1) ++ bitsN (predV g norm (twoO g norm l (i + 1)) s) (predB g norm (twoO g norm l (i + 1)) s) := by
  have h := enc_more (g := g) (norm := norm) hs h2
  have hp' : ¬ i % 2 = 0 := by omega
  have hq : (i + 1) % 2 = 0 := by omega
  simp only [twoE, twoO, bitE, h, if_neg hp', if_pos hq]
  exact ⟨trivial, trivial, trivial⟩
theorem symsOk_drop {norm : List Int} {l : List Nat} (h : symsOk norm l) (i : Nat) : symsOk norm (l.drop i) := fun s hs => h s (List.mem_of_mem_drop hs)
theorem two_lt {g : Nat} {norm : List Int} {l : List Nat} (h : TblOk g norm) (hl : symsOk norm l) (i : Nat) : twoE g norm l i < 2 ^ g ∧ twoO g norm l i < 2 ^ g := by
  obtain ⟨h1, h2⟩ := encG_lt h (symsOk_drop hl i)
  unfold twoE twoO
  split
  · exact ⟨h1, h2⟩
  · exact ⟨h2, h1⟩
theorem encG_bits {g : Nat} {norm : List Int} (h : TblOk g norm) : ∀ {l : List Nat}, symsOk norm l → (encG g norm l).2.2.length ≤ 9 * l.length
  | [], _ => by simp [encG]
  | s :: rest, hl => by
    have hr : symsOk norm rest := fun x hx => hl x (List.mem_cons_of_mem _ hx)
    have ih := encG_bits h hr
    obtain ⟨h1, h2⟩ := hl s (by simp)
    have h3 := (predB_ok h h1 h2 (encG_lt h hr).2).2.2.2
    have h4 := h.g9
    rw [encG]
    split
    · simp only [List.length_cons]; omega
    · simp only [List.length_append, bitsN_len, List.length_cons]; omega
end

section
set_option linter.unusedVariables false
set_option linter.unusedSimpArgs false
set_option linter.unusedSectionVars false
open Go.RowKit

theorem rstates_any (x : Int) (w : World) : Calls Tryz.prog 124 #[.int .i64 x] w fun e w' => e = .returned (.int .i64 (stN x)) ∧ w = w' := by
  by_cases h : x = -1
  · subst h
    go_enter Tryz.func124, Tryz.ntmps124
    go_wp2
    go_ret
    exact ⟨rfl, rfl⟩
  · have h1 : (x == -1) = false := by simpa using h
    have h2 : stN x = x := if_neg h
    rw [h2]
    go_enter Tryz.func124, Tryz.ntmps124
    go_wp2
    go_ret
    exact ⟨rfl, rfl⟩

theorem rsize_any (g : Int) (w : World) (h0 : 0 ≤ g) (h9 : g ≤ 9) : Calls Tryz.prog 92 #[.int .i64 g] w fun e w' => e = .returned (.int .i64 (2 ^ g.toNat)) ∧ w = w' := by
  obtain ⟨n, rfl⟩ := Int.eq_ofNat_of_zero_le h0
  have hn : n ≤ 9 := by omega
  have h1 : decide ((n : Int) < 0) = false := by simp
  have h2 : decide ((20 : Int) < (n : Int)) = false := by simp; omega
  have hE : (2 : Int) ^ ((n : Int).toNat) = 2 ^ n := by simp
  rw [hE]
  clear h0 h9 hE
  go_enter Tryz.func92, Tryz.ntmps92
  go_wp2_with fail
  go_loop [3, 4] (fun s i => ∃ k : Nat, k ≤ n ∧ s = .int .i64 (2 ^ k) ∧ i = .int .i64 k) (fun _ i => n - (intOf i).toNat)
  case atStart => exact ⟨0, Nat.zero_le _, rfl, rfl⟩
  case round =>
    obtain ⟨k, hk, rfl, rfl⟩ := hrel
    by_cases hlt : k < n
    · have hkn : (k : Int) < (n : Int) := by omega
      have hp : wrap64 (2 * 2 ^ k) = 2 ^ (k + 1) := by
        have h9 := pow9 (g := (k : Int)) (by omega)
        simp only [Int.toNat_natCast] at h9
        rw [IntWalk.wrap64_in _ ⟨by omega, by omega⟩, Int.pow_succ]
        omega
      go_wp2_with fail
      go_round
      case rel => exact ⟨k + 1, by omega, (by first | rfl | trivial | exact hp | simp [hp]), by go_num⟩
      case measure => simp [intOf]; omega
    · have : k = n := by omega
      subst this
      go_wp2_with fail
      go_ret
      exact ⟨rfl, rfl⟩

set_option maxRecDepth 100000 in
set_option maxHeartbeats 4000000 in
theorem rmay_any (g sy lg : Int) (v : Value) (l : List Int) (w : World) (hv : RdI .i64 w v l) (hn : l.length ≤ 1000000) (hg9 : lg ≤ 9) :
    Calls Tryz.prog 159 #[.agg #[.int .i64 g, v], .int .i64 sy, .int .i64 lg] w fun e w' => e = .returned (.int .i64 (if okN g l sy lg then 0 else 13)) ∧ Keeps w w' [] := by
  obtain ⟨A0, n, cp0, rfl, hnl, -⟩ := hv.form
  have k0 := (Keeps.refl w []).alloc (.cells #[.int .i64 g, .slice A0 n cp0] 92)
  have HV := Lib.hid (hv.keeps k0)
  have bt := Blk.new w #[.int .i64 g, .slice A0 n cp0] 92
  have HN := Lib.hid hnl
  have hn' : n ≤ 1000000 := by omega
  obtain ⟨E, hE⟩ : ∃ E : Int, (if okN g l sy lg then 0 else 13) = E := ⟨_, rfl⟩
  have HE := Lib.hid hE
  have HE0 : Hid (okN g l sy lg = false → E = 13) := fun h => by rw [← HE.out, h]; rfl
  rw [hE]
  clear hv hnl hn hE
  obtain ⟨R1, e1⟩ : ∃ R, decide (g < 0) = R := ⟨_, rfl⟩
  obtain ⟨R2, e2⟩ : ∃ R, decide (lg < g) = R := ⟨_, rfl⟩
  obtain ⟨R3, e3⟩ : ∃ R, decide (9 < g) = R := ⟨_, rfl⟩
  by_cases hn0 : n = 0
  · subst hn0
    clear bt
    have hno : Hid (E = 13) := HE0.out (okN_false (fun h => by have := HN.out; omega))
    go_enter Tryz.func159, Tryz.ntmps159
    go_wp2_with fail
    all_goals
      go_ret
      exact ⟨by rw [hno.out]; rfl, k0⟩
  obtain ⟨m, rfl⟩ : ∃ m, n = m + 1 := ⟨n - 1, by omega⟩
  obtain ⟨y, hy⟩ : ∃ y, l[m]? = some y := ⟨_, List.getElem?_eq_getElem (by have := HN.out; omega)⟩
  have HY : Hid (l.getD (l.length - 1) 0 = y) := by
    show _ = _
    rw [← HN.out, Nat.add_sub_cancel, List.getD_eq_getElem?_getD, hy]; rfl
  obtain ⟨bb, o, rfl, hbb, hc⟩ := HV.out.at hy
  have hcap := HV.out.cap
  obtain ⟨R4, e4⟩ : ∃ R, decide (sy < ((m : Int) + 1)) = R := ⟨_, rfl⟩
  obtain ⟨R5, e5⟩ : ∃ R, (y == 0) = R := ⟨_, rfl⟩
  have HX : Hid (R1 = true ∨ R2 = true ∨ R3 = true ∨ R4 = true ∨ R5 = true → E = 13) := fun h => HE0.out (okN_false (fun q => by
    have hl := HN.out
    obtain ⟨q1, q2, q3, q4, q5, -, -⟩ := q
    rw [HY.out] at q5
    rcases h with h | h | h | h | h
    · rw [h] at e1; simp at e1; omega
    · rw [h] at e2; simp at e2; omega
    · rw [h] at e3; simp at e3; omega
    · rw [h] at e4; simp at e4; omega
    · rw [h] at e5; simp at e5; exact q5 e5))
  have HG : Hid (R1 = false → R2 = false → R4 = false → R5 = false → 0 ≤ g ∧ g ≤ lg ∧ (∀ (h6 : ∀ n ∈ l, -1 ≤ n), E = if sumN l = 2 ^ g.toNat then 0 else 13)) := fun h1 h2 h4 h5 => by
    have a1 : 0 ≤ g := by rw [← e1] at h1; simp at h1; omega
    have a2 : g ≤ lg := by rw [← e2] at h2; simp at h2; omega
    have a4 : (l.length : Int) ≤ sy := by rw [← e4] at h4; simp at h4; have := HN.out; omega
    have a5 : y ≠ 0 := by rw [← e5] at h5; simpa using h5
    refine ⟨a1, a2, fun h6 => ?_⟩
    rw [← HE.out, okN_sum a1 a2 (by have := HN.out; omega) a4 (by rw [HY.out]; exact a5) h6]
    simp
  clear hy
  have hz0 : decide ((m : Int) + 1 < 1) = false := by simp; omega
  go_enter Tryz.func159, Tryz.ntmps159
  go_wp2_with fail
  all_goals first
    | (go_ret; exact ⟨by rw [HX.out (by simp [*])]; rfl, k0⟩)
    | skip
  have hg3 := HG.out (by simp_all) (by simp_all) (by simp_all) (by simp_all)
  obtain ⟨g0, glg, HEE0⟩ := hg3
  have HEE := Lib.hid HEE0
  have HS := Lib.hid (fun w1 => rsize_any g w1 g0 (by omega))
  have HP2 := Lib.hid (pow9 (g := g) (by omega))
  clear HX HG e1 e2 e3 e4 e5 HY hc hz0 HEE0
  obtain rfl : R4 = false := by simp_all
  obtain rfl : R5 = false := by simp_all
  generalize hP : (2 : Int) ^ g.toNat = P2 at *
  have HPE := Lib.hid hP
  generalize hW0 : (w.alloc (.cells #[.int .i64 g, .slice (some ⟨bb, o, none⟩) (m + 1) cp0] 92)) = W0 at *
  clear hW0 hP
  have c0 := bt.cell 0
  have c1 := bt.cell 1
  simp at c0 c1
  go_loopw [7, 8] (fun s7 s8 wr => ∃ k : Nat, k ≤ m + 1 ∧ s7 = .int .i64 (sumN (l.take k)) ∧ s8 = .int .i64 k ∧ wr = W0 ∧ Hid (∀ x ∈ l.take k, -1 ≤ x) ∧ Hid (sumN (l.take k) ≤ 1024)) (fun _ s8 _ => m + 1 - (intOf s8).toNat)
  case atStart => exact ⟨0, Nat.zero_le _, by simp [sumN], rfl, rfl, by show ∀ x ∈ _, _; simp, by show _ ≤ _; simp [sumN]⟩
  case round =>
    obtain ⟨k, hk, rfl, rfl, rfl, hge, hle⟩ := hrel
    by_cases hlt : k < m + 1
    · obtain ⟨x, hx⟩ : ∃ x, l[k]? = some x := ⟨_, List.getElem?_eq_getElem (by have := HN.out; omega)⟩
      obtain ⟨bb', o', e', hbb', hcx⟩ := HV.out.at hx
      cases e'
      have hkn : (k : Int) < (m : Int) + 1 := by omega
      have hk0 : (0 : Int) ≤ (k : Int) := Int.natCast_nonneg _
      have HXg := Lib.hid hx
      clear hx
      have hle' := hle.out
      have hs0 := sumN_nonneg hge.out
      have hP2 := HP2.out.2
      have HBIG : Hid ((x < -1 ∨ 512 < x ∨ 512 < sumN (l.take k)) → E = 13) := fun h => HE0.out (by
        rcases (by omega : x < -1 ∨ -1 ≤ x) with h1 | h1
        · exact okN_low HXg.out h1
        · refine okN_big HXg.out ?_
          rw [HPE.out]
          have h2 := stN_nonneg h1
          have h3 := stN_max h1
          omega)
      by_cases hbad : x < -1 ∨ 512 < x ∨ 512 < sumN (l.take k)
      · have F13 : Hid (E = 13) := HBIG.out hbad
        obtain ⟨Q1, f1⟩ : ∃ R, decide (x < -1) = R := ⟨_, rfl⟩
        obtain ⟨Q2, f2⟩ : ∃ R, decide (512 < x) = R := ⟨_, rfl⟩
        obtain ⟨Q3, f3⟩ : ∃ R, decide (512 < sumN (l.take k)) = R := ⟨_, rfl⟩
        have hq : (Q1 || (Q2 || Q3)) = true := by rw [← f1, ← f2, ← f3]; simpa using hbad
        have HQ := Lib.hid hq
        clear hbad hs0 hle' hP2 hq
        go_wp2_with fail
        all_goals first
          | (go_ret; exact ⟨by rw [F13.out]; rfl, k0⟩)
          | (exfalso; have := HQ.out; simp_all)
      · have f1 : decide (x < -1) = false := by simp; omega
        have f2 : decide (512 < x) = false := by simp; omega
        have f3 : decide (512 < sumN (l.take k)) = false := by simp; omega
        have hge1 : -1 ≤ x := by omega
        have hst := stN_nonneg hge1
        have hst2 := stN_max hge1
        have NS := Lib.hid (sumN_take HXg.out)
        have hw2 : wrap64 (sumN (l.take k) + stN x) = sumN (l.take k) + stN x := IntWalk.wrap64_in _ ⟨by omega, by omega⟩
        have NG : Hid (∀ y ∈ l.take (k + 1), -1 ≤ y) := by
          show ∀ y ∈ _, _
          rw [take_next HXg.out]
          intro y hy
          rcases List.mem_append.1 hy with hy | hy
          · exact hge.out y hy
          · rw [List.mem_singleton.1 hy]; omega
        have NL : Hid (sumN (l.take (k + 1)) ≤ 1024) := by show _ ≤ _; rw [NS.out]; omega
        clear hbad hs0 hle' hP2 hst hst2 hge1
        generalize sumN (l.take k) = SK at *
        go_wp2_with (go_at_call 124; refine (rstates_any x _).mono ?_; rintro e w5 ⟨rfl, rfl⟩)
        go_roundw
        case rel => exact ⟨k + 1, by omega, (by first | rw [NS.out, hw2] | rw [NS.out]), by go_num, (by first | rfl | trivial), NG, NL⟩
        case measure => simp [intOf]; omega
    · have : k = m + 1 := by omega
      subst this
      have hT : l.take (m + 1) = l := List.take_of_length_le (by have := HN.out; omega)
      rw [hT] at hge hle ⊢
      have F := Lib.hid (HEE.out hge.out)
      have hkn : ¬ ((m : Int) + 1 < (m : Int) + 1) := by omega
      by_cases hq : sumN l = P2
      · have gq : (sumN l != P2) = false := by simpa using hq
        rw [if_pos hq] at F
        clear hq hT
        generalize sumN l = SL at *
        go_wp2_with (go_at_call 92; refine (HS.out _).mono ?_; rintro e w5 ⟨rfl, rfl⟩)
        go_ret
        exact ⟨by rw [F.out]; rfl, k0⟩
      · have gq : (sumN l != P2) = true := by simpa using hq
        rw [if_neg hq] at F
        clear hq hT
        generalize sumN l = SL at *
        go_wp2_with (go_at_call 92; refine (HS.out _).mono ?_; rintro e w5 ⟨rfl, rfl⟩)
        go_ret
        exact ⟨by rw [F.out]; rfl, k0⟩
end

section
set_option linter.unusedVariables false
set_option linter.unusedSimpArgs false
set_option linter.unusedSectionVars false
open Go.RowKit

set_option maxRecDepth 100000 in
theorem rstep_any (s : Nat) (w : World) (hs : s ≤ 512) :
    Calls Tryz.prog 160 #[.int .i64 (s : Int)] w fun e w' => e = .returned (.int .i64 ((stepN s : Nat) : Int)) ∧ w' = w := by
  have h1 : ¬ (512 : Int) < (s : Int) := by omega
  by_cases h : s < 16
  · have h2 : (s : Int) < 16 := by omega
    have e : stepN s = 1 := if_pos h
    rw [e]
    go_enter Tryz.func160, Tryz.ntmps160
    go_wp2_with fail
    go_ret
    exact ⟨rfl, rfl⟩
  · have h2 : ¬ (s : Int) < 16 := by omega
    have e : ((stepN s : Nat) : Int) = (s : Int) / 2 + (s : Int) / 8 + 3 := by unfold stepN; rw [if_neg h]; omega
    rw [e]
    have h3 : (s : Int) ≤ 512 := by omega
    obtain ⟨A, hA⟩ : ∃ A : Int, (s : Int) / 2 = A := ⟨_, rfl⟩
    obtain ⟨B, hB⟩ : ∃ B : Int, (s : Int) / 8 = B := ⟨_, rfl⟩
    rw [hA, hB]
    have a1 : 0 ≤ A := by omega
    have a2 : A ≤ 256 := by omega
    have b1 : 0 ≤ B := by omega
    have b2 : B ≤ 64 := by omega
    go_enter Tryz.func160, Tryz.ntmps160
    go_wp2_with fail
    go_ret
    exact ⟨rfl, rfl⟩

/-- The places as numbers, -1 where nothing lies. -/
def outL (S : Nat) (f : Int → Option Int) : List Int := (List.range S).map fun p => (f ((p : Nat) : Int)).getD (-1)
theorem outL_len (S : Nat) (f : Int → Option Int) : (outL S f).length = S := by simp [outL]
theorem outL_get {S p : Nat} {f : Int → Option Int} (h : p < S) : (outL S f)[p]? = some ((f ((p : Nat) : Int)).getD (-1)) := by simp [outL, h]
theorem outL_set {S p : Nat} {f : Int → Option Int} {x : Int} (h : p < S) : (outL S f).set p x = outL S (updI f (p : Int) x) := by
  apply List.ext_getElem?
  intro i
  rw [List.getElem?_set]
  by_cases hi : i < S
  · rw [outL_get (f := updI f (p : Int) x) hi]
    by_cases hp : p = i
    · subst hp
      rw [if_pos rfl, if_pos (by rw [outL_len]; exact h)]
      simp only [updI, if_true]
      rfl
    · rw [if_neg hp, outL_get hi]
      have : ¬ ((i : Int) = (p : Int)) := by omega
      simp only [updI, if_neg this]
  · rw [List.getElem?_eq_none (l := outL S (updI f (p : Int) x)) (by rw [outL_len]; omega), if_neg (by omega)]
    exact List.getElem?_eq_none (by rw [outL_len]; omega)
theorem outL_none (S : Nat) : outL S (fun _ => none) = List.replicate S (-1) := by
  unfold outL
  apply List.ext_getElem?
  intro i
  by_cases hi : i < S
  · simp [hi]
  · simp [hi]
theorem neg_set (k m : Nat) : (List.replicate k (-1 : Int) ++ List.replicate (m + 1) 0).set k (-1) = List.replicate (k + 1) (-1) ++ List.replicate m 0 := by
  rw [List.set_append_right _ _ (by simp), List.length_replicate, Nat.sub_self, List.replicate_succ (n := m), List.set_cons_zero, List.replicate_succ' (n := k), List.append_assoc]
  rfl

/-- The symbol that is laid next. -/
theorem others_at {norm : List Int} {i k m : Nat} {x : Int} (hx : norm[i]? = some x) (hk : k < x.toNat) (hm : i < m) : (othersK norm m).getD ((othersK norm i).length + k) 0 = i := by
  induction m with
  | zero => omega
  | succ m ih =>
    by_cases him : i < m
    · have := ih him
      have hl : (othersK norm i).length + k < (othersK norm m).length := by
        clear ih this hm
        induction m with
        | zero => omega
        | succ m ih2 =>
          have e : othersK norm (m + 1) = othersK norm m ++ List.replicate (norm.getD m 0).toNat m := by
            simp only [othersK, List.range_succ, List.flatMap_append, List.flatMap_cons, List.flatMap_nil, List.append_nil]
          rw [e, List.length_append, List.length_replicate]
          by_cases h2 : i < m
          · have := ih2 h2
            omega
          · obtain rfl : i = m := by omega
            rw [getD_some hx]
            omega
      have e : othersK norm (m + 1) = othersK norm m ++ List.replicate (norm.getD m 0).toNat m := by
        simp only [othersK, List.range_succ, List.flatMap_append, List.flatMap_cons, List.flatMap_nil, List.append_nil]
      rw [e, List.getD_eq_getElem?_getD, List.getElem?_append_left hl, ← List.getD_eq_getElem?_getD]
      exact this
    · obtain rfl : i = m := by omega
      rw [othersK_next hx, List.getD_eq_getElem?_getD, List.getElem?_append_right (by omega), Nat.add_sub_cancel_left, List.getElem?_replicate, if_pos hk]
      rfl

theorem hasB_pos {S : Nat} {lows others fr : List Nat} {p z : Int} (h : hasB S lows others fr p = some z) : 0 ≤ z := by
  unfold hasB hasA at h
  split at h
  · injection h with h; omega
  · split at h
    · injection h with h; omega
    · cases h
/-- A filled place: all free places up to it are filled. -/
theorem vis_fill {g v : Nat} {lows others fr : List Nat} (hg : g ≤ 9) (hv : v < 2 ^ g) (hl : lows.length ≤ 2 ^ g) (hf : fr = freeN (2 ^ g) (2 ^ g - lows.length) v ∨ fr = freeN (2 ^ g) (2 ^ g - lows.length) (v + 1))
    (h : hasB (2 ^ g) lows others fr ((visitN (2 ^ g) v : Nat) : Int) ≠ none) : fr = freeN (2 ^ g) (2 ^ g - lows.length) (v + 1) := by
  rcases hf with rfl | h1
  · by_cases hp : visitN (2 ^ g) v < 2 ^ g - lows.length
    · exact absurd (hasB_none hp (visit_fresh hg hv)) h
    · exact (free_succ_no hp).symm
  · exact h1
/-- A free place. -/
theorem vis_free {g v : Nat} {lows others fr : List Nat} (hg : g ≤ 9) (hv : v < 2 ^ g) (hl : lows.length ≤ 2 ^ g) (hf : fr = freeN (2 ^ g) (2 ^ g - lows.length) v ∨ fr = freeN (2 ^ g) (2 ^ g - lows.length) (v + 1))
    (h : hasB (2 ^ g) lows others fr ((visitN (2 ^ g) v : Nat) : Int) = none) : freeN (2 ^ g) (2 ^ g - lows.length) (v + 1) = fr ++ [visitN (2 ^ g) v] ∧ visitN (2 ^ g) v ∉ fr := by
  have hvl := visit_lt (s := 2 ^ g) (k := v) (Nat.two_pow_pos g)
  have hp : visitN (2 ^ g) v < 2 ^ g - lows.length := by
    refine Decidable.byContradiction fun hp => ?_
    have := hasB_some_low (S := 2 ^ g) (lows := lows) (others := others) (fr := fr) (p := visitN (2 ^ g) v) (by omega) hvl hl
    rw [h] at this
    cases this
  rcases hf with rfl | h1
  · exact ⟨free_succ_yes hp, visit_fresh hg hv⟩
  · exfalso
    have hm : visitN (2 ^ g) v ∈ fr := by rw [h1, free_succ_yes hp]; simp
    have := hasB_some_mem (S := 2 ^ g) (lows := lows) (others := others) hm
    rw [h] at this
    cases this
/-- As long as something is to be laid, the visits do not end. -/
theorem vis_more {g v : Nat} {lows fr : List Nat} (hg : g ≤ 9) (hv : v < 2 ^ g) (hf : fr = freeN (2 ^ g) (2 ^ g - lows.length) (v + 1)) (hn : fr.length < 2 ^ g - lows.length) : v + 1 < 2 ^ g := by
  refine Decidable.byContradiction fun h => ?_
  have e : v + 1 = 2 ^ g := by omega
  have := free_len (g := g) (top := 2 ^ g - lows.length) hg (by omega)
  rw [hf, e] at hn
  omega
/-- In the end all free places are filled. -/
theorem vis_end {g v : Nat} {lows fr : List Nat} (hg : g ≤ 9) (hv : v < 2 ^ g) (hf : fr = freeN (2 ^ g) (2 ^ g - lows.length) v ∨ fr = freeN (2 ^ g) (2 ^ g - lows.length) (v + 1)) (hn : fr.length = 2 ^ g - lows.length) : fr = freeN (2 ^ g) (2 ^ g - lows.length) (2 ^ g) := by
  have hl := free_len (g := g) (top := 2 ^ g - lows.length) hg (by omega)
  rcases hf with h | h
  · have hp := free_prefix (s := 2 ^ g) (top := 2 ^ g - lows.length) (k := v) (m := 2 ^ g) (by omega)
    rw [h]
    exact hp.eq_of_length (by rw [← h, hn, hl])
  · have hp := free_prefix (s := 2 ^ g) (top := 2 ^ g - lows.length) (k := v + 1) (m := 2 ^ g) (by omega)
    rw [h]
    exact hp.eq_of_length (by rw [← h, hn, hl])
theorem out_end {g : Nat} {norm : List Int} (hg : g ≤ 9) (hl : (lowsL norm).length ≤ 2 ^ g) : outL (2 ^ g) (hasB (2 ^ g) (lowsL norm) (othersL norm) (freeN (2 ^ g) (2 ^ g - (lowsL norm).length) (2 ^ g))) = castL (placesL g norm) := by
  apply List.ext_getElem?
  intro p
  by_cases hp : p < 2 ^ g
  · rw [outL_get hp, hasB_end hg hp hl]
    simp [castL, placesL_get hp]
  · rw [List.getElem?_eq_none (by rw [outL_len]; omega), List.getElem?_eq_none (by rw [castL_len, placesL_len]; omega)]
end

end Go.Proofs.YtophgpnnjphnmaaGreat
