/-
  The laws on flat lengths, costs, Kraft's inequality: their walks.
-/
import Derived.Test.YthjbngnihcmedaaKE
import Derived.Test.YthjbngnihcmedaaAp
import Derived.Test.YthjbngnihcmedaaLift
namespace Go.Proofs.Ythjbngnihcmedaa
set_option linter.unusedVariables false
set_option linter.unusedSimpArgs false
set_option linter.unusedSectionVars false
open Go.RowKit

theorem flatL_len {n : Nat} (h : 1 ≤ n) : (flatL n).length = n := by
  unfold flatL
  have := Nat.log2_self_le (n := n) (by omega)
  have := Nat.lt_log2_self (n := n)
  rw [Nat.pow_succ] at this
  simp; omega
theorem flatOut_len (n m : Int) : (flatOut n m).length ≤ 256 := by
  unfold flatOut
  split
  · rename_i h
    unfold flatErr at h
    split at h
    · rename_i h2
      split at h
      · rename_i h3
        simp at h2
        rw [flatL_len (by omega)]
        omega
      · omega
    · omega
  · simp

set_option maxHeartbeats 1000000 in
theorem law_flats (n m : Int) (w : World) : Calls Try.prog 6 #[.int .i64 n, .int .i64 m] w (LawEnd w) := by
  have hlen := flatOut_len n m
  have HU := Lib.hid (uniform_any n m w)
  have HR := Lib.hid (fun w => r_flat n m w)
  generalize flatOut n m = L at *
  generalize flatErr n m = E at *
  go_enter Try.func6, Try.ntmps6
  go_wp2_with fail
  refine HU.out.mono ?_
  rintro e w1 ⟨v1, rfl, r1, -, k1⟩
  go_wp2_with fail
  refine (HR.out w1).mono ?_
  rintro e w2 ⟨v2, rfl, r2, -, k2⟩
  go_wp2_with fail
  refine (same_yes _ _ L _ (r1.keeps k2) r2 (by omega)).mono ?_
  rintro e w3 ⟨rfl, m3, rfl⟩
  have kw := (k1.then k2).drewN m3
  clear r1 r2 k1 k2
  generalize World.drewN _ m3 = w3 at *
  have hee : (E == E) = true := by simp
  go_wp2_with (first | (go_at_call 16; refine (num_any _ _).mono ?_; rintro e w' ⟨rfl, rfl⟩) | (go_at_call 13; refine (works_true _).mono ?_; rintro e w5 ⟨rfl, kk⟩))
  go_ret
  exact ⟨rfl, (kw.then kk).below⟩

set_option maxHeartbeats 1000000 in
theorem law_fits (v : Value) (l : List Int) (w : World) (hv : RdI .i64 w v l) : Calls Try.prog 8 #[v] w (LawEnd w) := by
  obtain ⟨A0, n, cp0, rfl, hnl, -⟩ := hv.form
  by_cases hbig : 300 < n
  · clear hv hnl
    have h1 : (300 : Int) < (n : Int) := by omega
    go_enter Try.func8, Try.ntmps8
    go_wp2_with (go_at_call 13; refine (works_true _).mono ?_; rintro e w5 ⟨rfl, kk⟩)
    go_ret
    exact ⟨rfl, kk.below⟩
  · have hd : decide ((300 : Int) < (n : Int)) = false := by simp; omega
    have HK := Lib.hid (kraft_any _ l w hv (by omega))
    have HF := Lib.hid (fun w' (k : Keeps w w' []) => r_fits _ l w' (hv.keeps k) (by omega))
    clear hv hnl
    generalize fitsL l = A at *
    generalize fullL l = B at *
    have hA : (A == A) = true := by simp
    have hB : (B == B) = true := by simp
    go_enter Try.func8, Try.ntmps8
    go_wp2_with fail
    refine HK.out.mono ?_
    rintro e w1 ⟨rfl, k1⟩
    go_wp2_with fail
    refine (HF.out w1 k1).mono ?_
    rintro e w2 ⟨rfl, hw⟩
    subst w2
    go_wp2_with (go_at_call 13; refine (works_true _).mono ?_; rintro e w5 ⟨rfl, kk⟩)
    all_goals
      go_ret
      exact ⟨rfl, (k1.then kk).below⟩

set_option maxHeartbeats 2000000 in
theorem law_costs (v1 v2 : Value) (a b : List Int) (w : World) (h1 : RdI .i64 w v1 a) (h2 : RdI .i64 w v2 b) : Calls Try.prog 7 #[v1, v2] w (LawEnd w) := by
  obtain ⟨A1, n1, c1, rfl, hn1, -⟩ := h1.form
  obtain ⟨A2, n2, c2, rfl, hn2, -⟩ := h2.form
  by_cases hb1 : 300 < n1
  · clear h1 h2 hn1 hn2
    have h1 : (300 : Int) < (n1 : Int) := by omega
    go_enter Try.func7, Try.ntmps7
    go_wp2_with (go_at_call 13; refine (works_true _).mono ?_; rintro e w5 ⟨rfl, kk⟩)
    go_ret
    exact ⟨rfl, kk.below⟩
  by_cases hb2 : 300 < n2
  · clear h1 h2 hn1 hn2
    have h1 : (300 : Int) < (n2 : Int) := by omega
    have hd : decide ((300 : Int) < (n1 : Int)) = false := by simp; omega
    go_enter Try.func7, Try.ntmps7
    go_wp2_with (go_at_call 13; refine (works_true _).mono ?_; rintro e w5 ⟨rfl, kk⟩)
    go_ret
    exact ⟨rfl, kk.below⟩
  have hd1 : decide ((300 : Int) < (n1 : Int)) = false := by simp; omega
  have hd2 : decide ((300 : Int) < (n2 : Int)) = false := by simp; omega
  have hla : a.length ≤ 300 := by omega
  have hlb : b.length ≤ 300 := by omega
  have H1 := Lib.hid h1
  have H2 := Lib.hid h2
  obtain ⟨i0, hi, hz0, hz1, hz2⟩ := info_parts Try.infoInt
  obtain ⟨C, hC⟩ : ∃ C, C = if costErr a b = 0 then costOut a b else 0 := ⟨_, rfl⟩
  obtain ⟨E, hE⟩ : ∃ E, E = costErr a b := ⟨_, rfl⟩
  have HCO := Lib.hid (fun v1 v2 w (h1 : RdI .i64 w v1 a) (h2 : RdI .i64 w v2 b) => cost_any v1 v2 a b w h1 h2 (by omega) (by omega))
  have HRC := Lib.hid (fun w' (k : Keeps w w' []) => r_cost _ _ a b w' (h1.keeps k) (h2.keeps k) (by omega) (by omega))
  rw [← hC, ← hE] at HCO HRC
  have hCC : (C == C) = true := by simp
  have hEE : (E == E) = true := by simp
  clear h1 h2 hn1 hn2 hb1 hb2 hC hE
  go_enter Try.func7, Try.ntmps7
  go_wp2_with (first
    | (refine wpList_copyI rfl rfl rfl 22 3 _ _ _ rfl rfl rfl i0 (.int .i64 0) 8 Try.underlying22 hi hz0 hz1 hz2 rfl (.slice A1 n1 c1) (fun _ => rfl) (fun _ => rfl) (fun _ => rfl) .i64 a H1.out (by unfold maxLen; omega) (by omega) ?_; intro v0 vc wa owna ka nea; obtain ⟨ac, cc, rfl⟩ := own_form owna)
    | (refine wpList_copyI rfl rfl rfl 22 3 _ _ _ rfl rfl rfl i0 (.int .i64 0) 8 Try.underlying22 hi hz0 hz1 hz2 rfl (.slice A2 n2 c2) (fun _ => rfl) (fun _ => rfl) (fun _ => rfl) .i64 b (H2.out.keeps ka) (by unfold maxLen; omega) (by omega) ?_; intro v0' vd wb ownb kb neb; obtain ⟨ad, cd, rfl⟩ := own_form ownb))
  have k1 := ka.then kb
  have rc := (own_reads owna).keeps kb
  have rd := own_reads ownb
  clear owna ownb ka kb nea neb
  refine (HCO.out _ _ _ rc rd).mono ?_
  rintro e w1 ⟨rfl, k2⟩
  replace k1 := k1.then k2
  replace rc := rc.keeps k2
  replace rd := rd.keeps k2
  clear k2 HCO
  go_wp2_with fail
  refine (HRC.out _ k1).mono ?_
  rintro e w2 ⟨rfl, m2, rfl⟩
  replace k1 := k1.drewN m2
  replace rc := rc.drewN m2
  replace rd := rd.drewN m2
  clear HRC
  generalize World.drewN _ m2 = w2 at *
  go_wp2_with (first | (go_at_call 16; refine (num_any _ _).mono ?_; rintro e w' ⟨rfl, rfl⟩))
  refine (same_yes _ _ a _ rc (H1.out.keeps k1) (by omega)).mono ?_
  rintro e w3 ⟨rfl, m3, rfl⟩
  replace k1 := k1.drewN m3
  replace rd := rd.drewN m3
  clear rc
  generalize World.drewN _ m3 = w3 at *
  go_wp2_with fail
  refine (same_yes _ _ b _ rd (H2.out.keeps k1) (by omega)).mono ?_
  rintro e w4 ⟨rfl, m4, rfl⟩
  replace k1 := k1.drewN m4
  clear rd
  generalize World.drewN _ m4 = w4 at *
  go_wp2_with (first | (go_at_call 13; refine (works_true _).mono ?_; rintro e w5 ⟨rfl, kk⟩))
  go_ret
  exact ⟨rfl, (k1.then kk).below⟩

end Go.Proofs.Ythjbngnihcmedaa
