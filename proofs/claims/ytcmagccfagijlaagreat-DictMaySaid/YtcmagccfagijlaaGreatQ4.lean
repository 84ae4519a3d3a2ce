/-
  Valid tables in plain words; walks over package norm: Check.
-/
import Derived.Test.YtcmagccfagijlaaGreatQ1
namespace Go.Proofs.YtcmagccfagijlaaGreat
set_option linter.unusedVariables false
set_option linter.unusedSimpArgs false
set_option linter.unusedSectionVars false
open Go.RowKit

/-- The states of a norm. -/
def stN (n : Int) : Int := if n = -1 then 1 else n
def sumN : List Int → Int
  | [] => 0
  | n :: l => stN n + sumN l
/-- A table is valid for bounds on its symbols and its logarithm. -/
def okN (g : Int) (l : List Int) (sy lg : Int) : Bool := decide (0 ≤ g ∧ g ≤ lg ∧ 0 < l.length ∧ (l.length : Int) ≤ sy ∧ l.getD (l.length - 1) 0 ≠ 0 ∧ (∀ n ∈ l, -1 ≤ n) ∧ sumN l = 2 ^ g.toNat)

theorem stN_nonneg {n : Int} (h : -1 ≤ n) : 0 ≤ stN n := by unfold stN; split <;> omega
theorem stN_max {n : Int} (h : -1 ≤ n) : max n (-n) = stN n := by unfold stN; split <;> omega
theorem sumN_append (l m : List Int) : sumN (l ++ m) = sumN l + sumN m := by
  induction l with
  | nil => simp [sumN]
  | cons x l ih => simp only [List.cons_append, sumN, ih]; omega
theorem sumN_nonneg {l : List Int} (h : ∀ n ∈ l, -1 ≤ n) : 0 ≤ sumN l := by
  induction l with
  | nil => simp [sumN]
  | cons x l ih =>
    have h1 := stN_nonneg (h x (by simp))
    have h2 := ih (fun n hn => h n (by simp [hn]))
    simp only [sumN]; omega
theorem sumN_take {l : List Int} {k : Nat} {x : Int} (h : l[k]? = some x) : sumN (l.take (k + 1)) = sumN (l.take k) + stN x := by
  rw [take_next h, sumN_append]; simp [sumN]
theorem okN_false {g : Int} {l : List Int} {sy lg : Int} (h : ¬(0 ≤ g ∧ g ≤ lg ∧ 0 < l.length ∧ (l.length : Int) ≤ sy ∧ l.getD (l.length - 1) 0 ≠ 0 ∧ (∀ n ∈ l, -1 ≤ n) ∧ sumN l = 2 ^ g.toNat)) : okN g l sy lg = false := decide_eq_false h
theorem okN_low {g : Int} {l : List Int} {sy lg : Int} {k : Nat} {x : Int} (h : l[k]? = some x) (hx : x < -1) : okN g l sy lg = false :=
  okN_false (fun ⟨_, _, _, _, _, h6, _⟩ => by have := h6 x (List.mem_of_getElem? h); omega)
theorem sumN_prefix {l : List Int} {k : Nat} (h : ∀ n ∈ l, -1 ≤ n) : sumN (l.take k) ≤ sumN l := by
  have e := sumN_append (l.take k) (l.drop k)
  rw [List.take_append_drop] at e
  have := sumN_nonneg (l := l.drop k) (fun n hn => h n (List.mem_of_mem_drop hn))
  omega
theorem okN_big {g : Int} {l : List Int} {sy lg : Int} {k : Nat} {x : Int} (h : l[k]? = some x) (hx : (2 : Int) ^ g.toNat < sumN (l.take k) + stN x) : okN g l sy lg = false :=
  okN_false (fun ⟨_, _, _, _, _, h6, h7⟩ => by
    have h1 := sumN_prefix (k := k + 1) h6
    rw [sumN_take h] at h1
    omega)
theorem okN_sum {g : Int} {l : List Int} {sy lg : Int} (h1 : 0 ≤ g) (h2 : g ≤ lg) (h3 : 0 < l.length) (h4 : (l.length : Int) ≤ sy) (h5 : l.getD (l.length - 1) 0 ≠ 0) (h6 : ∀ n ∈ l, -1 ≤ n) : okN g l sy lg = decide (sumN l = 2 ^ g.toNat) :=
  decide_eq_decide.2 ⟨fun h => h.2.2.2.2.2.2, fun h => ⟨h1, h2, h3, h4, h5, h6, h⟩⟩
theorem pow9 {g : Int} (h : g ≤ 9) : (1 : Int) ≤ 2 ^ g.toNat ∧ (2 : Int) ^ g.toNat ≤ 512 := by
  obtain ⟨m, hm⟩ : ∃ m, g.toNat = m := ⟨_, rfl⟩
  have hm9 : m ≤ 9 := by omega
  rw [hm]
  match m, hm9 with
  | 0, _ => decide
  | 1, _ => decide
  | 2, _ => decide
  | 3, _ => decide
  | 4, _ => decide
  | 5, _ => decide
  | 6, _ => decide
  | 7, _ => decide
  | 8, _ => decide
  | 9, _ => decide

set_option maxRecDepth 100000 in
set_option maxHeartbeats 4000000 in
theorem ncheck_any (g sy lg : Int) (v : Value) (l : List Int) (w : World) (hv : RdI .i64 w v l) (hn : l.length ≤ 1000000) (hb : ∀ x ∈ l, -9223372036854775808 ≤ x ∧ x ≤ 9223372036854775807) (hg0 : 0 ≤ lg) (hg9 : lg ≤ 9) :
    Calls Tryz.prog 73 #[.agg #[.int .i64 g, v], .int .i64 sy, .int .i64 lg] w fun e w' => e = .returned (.int .i64 (if okN g l sy lg then 0 else 13)) ∧ Keeps w w' [] := by
  obtain ⟨A0, n, cp0, rfl, hnl, -⟩ := hv.form
  have k0 := (Keeps.refl w []).alloc (.cells #[.int .i64 g, .slice A0 n cp0] 27)
  have HV := Lib.hid (hv.keeps k0)
  have HN := Lib.hid hnl
  have HB := Lib.hid hb
  have hn' : n ≤ 1000000 := by omega
  obtain ⟨E, hE⟩ : ∃ E : Int, (if okN g l sy lg then 0 else 13) = E := ⟨_, rfl⟩
  have HE := Lib.hid hE
  have HE0 : Hid (okN g l sy lg = false → E = 13) := fun h => by rw [← HE.out, h]; rfl
  rw [hE]
  clear hv hnl hb hn hE
  obtain ⟨R1, e1⟩ : ∃ R, decide (g < 0) = R := ⟨_, rfl⟩
  obtain ⟨R2, e2⟩ : ∃ R, decide (lg < g) = R := ⟨_, rfl⟩
  have hmin : ¬ (9 < lg) := by omega
  by_cases hn0 : n = 0
  · subst hn0
    have hno : Hid (E = 13) := HE0.out (okN_false (fun h => by have := HN.out; omega))
    go_enter Tryz.func73, Tryz.ntmps73
    go_wp2_with fail
    all_goals
      go_ret
      exact ⟨by rw [hno.out]; rfl, k0⟩
  obtain ⟨m, rfl⟩ : ∃ m, n = m + 1 := ⟨n - 1, by omega⟩
  obtain ⟨y, hy⟩ : ∃ y, l[m]? = some y := ⟨_, List.getElem?_eq_getElem (by have := HN.out; omega)⟩
  have HY : Hid (l.getD (l.length - 1) 0 = y) := by
    show _ = _
    rw [← HN.out, Nat.add_sub_cancel, List.getD_eq_getElem?_getD, hy]; rfl
  obtain ⟨bb, o, rfl, hbb, hc⟩ := HV.out.at hy
  have hcap := HV.out.cap
  obtain ⟨R4, e4⟩ : ∃ R, decide (sy < ((m : Int) + 1)) = R := ⟨_, rfl⟩
  obtain ⟨R5, e5⟩ : ∃ R, (y == 0) = R := ⟨_, rfl⟩
  have HX : Hid (R1 = true ∨ R2 = true ∨ R4 = true ∨ R5 = true → E = 13) := fun h => HE0.out (okN_false (fun q => by
    have hl := HN.out
    obtain ⟨q1, q2, q3, q4, q5, -, -⟩ := q
    rw [HY.out] at q5
    rcases h with h | h | h | h
    · rw [h] at e1; simp at e1; omega
    · rw [h] at e2; simp at e2; omega
    · rw [h] at e4; simp at e4; omega
    · rw [h] at e5; simp at e5; exact q5 e5))
  have HG : Hid (¬ R1 = true → ¬ R2 = true → ¬ R4 = true → ¬ R5 = true → 0 ≤ g ∧ g ≤ lg ∧ (∀ (h6 : ∀ n ∈ l, -1 ≤ n), E = if sumN l = 2 ^ g.toNat then 0 else 13)) := fun h1 h2 h4 h5 => by
    have a1 : 0 ≤ g := by rw [← e1] at h1; simp at h1; omega
    have a2 : g ≤ lg := by rw [← e2] at h2; simp at h2; omega
    have a4 : (l.length : Int) ≤ sy := by rw [← e4] at h4; simp at h4; have := HN.out; omega
    have a5 : y ≠ 0 := by rw [← e5] at h5; simpa using h5
    refine ⟨a1, a2, fun h6 => ?_⟩
    rw [← HE.out, okN_sum a1 a2 (by have := HN.out; omega) a4 (by rw [HY.out]; exact a5) h6]
    simp
  clear hy
  have hz0 : ((m : Int) + 1 == 0) = false := by simp; omega
  by_cases hgr : ¬ (0 ≤ g ∧ g ≤ lg)
  · go_enter Tryz.func73, Tryz.ntmps73
    go_wp2_with fail
    all_goals first
      | (go_ret; exact ⟨by rw [HX.out (by simp [*])]; rfl, k0⟩)
      | (exfalso; obtain ⟨q1, q2, -⟩ := HG.out (by simp_all) (by simp_all) (by simp_all) (by simp_all); exact hgr ⟨q1, q2⟩)
  replace hgr := Classical.not_not.1 hgr
  have hR1 : R1 = false := by rw [← e1]; simp; omega
  have hR2 : R2 = false := by rw [← e2]; simp; omega
  have hsh : ∀ w1 : World, (Op.shift .shl .i64 1 .i64 g).run Tryz.prog w1 = .ok (.int .i64 (2 ^ g.toNat)) w1 := by
    obtain ⟨q1, q2⟩ := hgr
    rcases (by omega : g = 0 ∨ g = 1 ∨ g = 2 ∨ g = 3 ∨ g = 4 ∨ g = 5 ∨ g = 6 ∨ g = 7 ∨ g = 8 ∨ g = 9) with rfl | rfl | rfl | rfl | rfl | rfl | rfl | rfl | rfl | rfl
    all_goals (intro w1; rfl)
  obtain ⟨p1, p2⟩ := pow9 (g := g) (by omega)
  obtain ⟨P2, hP2⟩ : ∃ P : Int, P = 2 ^ g.toNat := ⟨_, rfl⟩
  have HP := Lib.hid hP2
  rw [← hP2] at hsh p1 p2
  subst hR1 hR2
  clear hP2 hgr
  go_enter Tryz.func73, Tryz.ntmps73
  go_wp2_with fail
  all_goals first
    | (go_ret; exact ⟨by rw [HX.out (by simp [*])]; rfl, k0⟩)
    | skip
  have HEE : Hid (∀ (h6 : ∀ n ∈ l, -1 ≤ n), E = if sumN l = P2 then 0 else 13) := fun h6 => by
    rw [HP.out]; exact (HG.out (by simp) (by simp) ‹_› (by simp_all)).2.2 h6
  clear HX HG e1 e2 e4 e5 HY hc hz0
  generalize hW0 : (w.alloc (.cells #[.int .i64 g, .slice (some ⟨bb, o, none⟩) (m + 1) cp0] 27)) = W0 at *
  clear hW0
  go_loopw [7, 50] (fun s7 s50 wr => ∃ k : Nat, k ≤ m + 1 ∧ s7 = .int .i64 (P2 - sumN (l.take k)) ∧ s50 = .int .i64 k ∧ wr = W0 ∧ Hid (∀ x ∈ l.take k, -1 ≤ x) ∧ Hid (sumN (l.take k) ≤ P2)) (fun _ s50 _ => m + 1 - (intOf s50).toNat)
  case atStart => exact ⟨0, Nat.zero_le _, by simp [sumN], rfl, rfl, by show ∀ x ∈ _, _; simp, by show _ ≤ _; simp [sumN]; omega⟩
  case round =>
    obtain ⟨k, hk, rfl, rfl, rfl, hge, hle⟩ := hrel
    by_cases hlt : k < m + 1
    · obtain ⟨x, hx⟩ : ∃ x, l[k]? = some x := ⟨_, List.getElem?_eq_getElem (by have := HN.out; omega)⟩
      obtain ⟨bb', o', e', hbb', hcx⟩ := HV.out.at hx
      cases e'
      have hkn : (k : Int) < (m : Int) + 1 := by omega
      have hk0 : (0 : Int) ≤ (k : Int) := Int.natCast_nonneg _
      obtain ⟨b1, b2⟩ := HB.out x (List.mem_of_getElem? hx)
      have HXg := Lib.hid hx
      clear hx
      have hle' := hle.out
      rcases (by omega : x < -1 ∨ x = -1 ∨ 0 ≤ x) with h3 | h3 | h3
      · have gl : decide (x < -1) = true := by simpa using h3
        have F13 : Hid (E = 13) := HE0.out (okN_low HXg.out h3)
        clear h3
        go_wp2_with fail
        go_ret
        exact ⟨by rw [F13.out]; rfl, k0⟩
      · subst h3
        have gl : decide ((-1) < -1) = false := by simp; try omega
        have hmx : (-1 : Int) ≤ 1 := by omega
        have hst : stN (-1) = 1 := by unfold stN; split <;> omega
        by_cases hbig : P2 - sumN (l.take k) < 1
        · have gb : decide (P2 - sumN (l.take k) < 1) = true := by simpa using hbig
          have F13 : Hid (E = 13) := HE0.out (okN_big HXg.out (by rw [hst, ← HP.out]; omega))
          clear hst hbig
          go_wp2_with fail
          go_ret
          exact ⟨by rw [F13.out]; rfl, k0⟩
        · have gb : decide (P2 - sumN (l.take k) < 1) = false := by simpa using hbig
          have NS := sumN_take HXg.out
          rw [hst] at NS
          have hs0 := sumN_nonneg hge.out
          have hw2 : wrap64 (P2 - sumN (l.take k) - 1) = P2 - sumN (l.take k) - 1 := IntWalk.wrap64_in _ ⟨by omega, by omega⟩
          have NG : Hid (∀ y ∈ l.take (k + 1), -1 ≤ y) := by
            show ∀ y ∈ _, _
            rw [take_next HXg.out]
            intro y hy
            rcases List.mem_append.1 hy with hy | hy
            · exact hge.out y hy
            · rw [List.mem_singleton.1 hy]; omega
          have NS' := Lib.hid NS
          have NL : Hid (sumN (l.take (k + 1)) ≤ P2) := by show _ ≤ _; rw [NS]; omega
          clear hst hs0 NS hbig
          generalize sumN (l.take k) = SK at *
          go_wp2_with fail
          go_roundw
          case rel => exact ⟨k + 1, by omega, by rw [NS'.out]; (congr 1; omega), by go_num, (by first | rfl | trivial), NG, NL⟩
          case measure => simp [intOf]; omega
      · skip
        have gl : decide (x < -1) = false := by simp; try omega
        have hw1 : wrap64 (-x) = -x := IntWalk.wrap64_in _ ⟨by omega, by omega⟩
        have hmx : ¬ (x < -x) := by omega
        have hst : stN x = x := by unfold stN; split <;> omega
        by_cases hbig : P2 - sumN (l.take k) < x
        · have gb : decide (P2 - sumN (l.take k) < x) = true := by simpa using hbig
          have F13 : Hid (E = 13) := HE0.out (okN_big HXg.out (by rw [hst, ← HP.out]; omega))
          clear hst hbig
          go_wp2_with fail
          go_ret
          exact ⟨by rw [F13.out]; rfl, k0⟩
        · have gb : decide (P2 - sumN (l.take k) < x) = false := by simpa using hbig
          have NS := sumN_take HXg.out
          rw [hst] at NS
          have hs0 := sumN_nonneg hge.out
          have hw2 : wrap64 (P2 - sumN (l.take k) - x) = P2 - sumN (l.take k) - x := IntWalk.wrap64_in _ ⟨by omega, by omega⟩
          have NG : Hid (∀ y ∈ l.take (k + 1), -1 ≤ y) := by
            show ∀ y ∈ _, _
            rw [take_next HXg.out]
            intro y hy
            rcases List.mem_append.1 hy with hy | hy
            · exact hge.out y hy
            · rw [List.mem_singleton.1 hy]; omega
          have NS' := Lib.hid NS
          have NL : Hid (sumN (l.take (k + 1)) ≤ P2) := by show _ ≤ _; rw [NS]; omega
          clear hst hs0 NS hbig
          generalize sumN (l.take k) = SK at *
          go_wp2_with fail
          go_roundw
          case rel => exact ⟨k + 1, by omega, by rw [NS'.out]; (congr 1; omega), by go_num, (by first | rfl | trivial), NG, NL⟩
          case measure => simp [intOf]; omega
    · have : k = m + 1 := by omega
      subst this
      have hT : l.take (m + 1) = l := List.take_of_length_le (by have := HN.out; omega)
      rw [hT] at hge hle ⊢
      have F := Lib.hid (HEE.out hge.out)
      have hkn : ¬ ((m : Int) + 1 < (m : Int) + 1) := by omega
      by_cases hq : sumN l = P2
      · have gq : (P2 - sumN l != 0) = false := by simp; omega
        rw [if_pos hq] at F
        clear hq hT
        generalize sumN l = SL at *
        go_wp2_with fail
        go_ret
        exact ⟨by rw [F.out]; rfl, k0⟩
      · have gq : (P2 - sumN l != 0) = true := by simp; omega
        rw [if_neg hq] at F
        clear hq hT
        generalize sumN l = SL at *
        go_wp2_with fail
        go_ret
        exact ⟨by rw [F.out]; rfl, k0⟩


end Go.Proofs.YtcmagccfagijlaaGreat
