/-
  The stage's theorem on limited code lengths: its walk.
-/
import Derived.Test.YthjbngnihcmedaaKT
import Derived.Test.YthjbngnihcmedaaO6
import Derived.Deep.DeepCutAuto
import Derived.Deep.CutRange
namespace Go.Proofs.Ythjbngnihcmedaa
set_option linter.unusedVariables false
set_option linter.unusedSimpArgs false
set_option linter.unusedSectionVars false
open Go.RowKit

set_option maxRecDepth 100000 in
theorem law_holds_out (v : Value) (l : List Int) (m t : Int) (w : World) (hv : RdI .i64 w v l) (h : 200 < l.length ∨ m < 1 ∨ 11 < m) : Calls Try.prog 9 #[v, .int .i64 m, .int .u8 t] w (LawEnd w) := by
  obtain ⟨A0, n, cp0, rfl, hnl, -⟩ := hv.form
  rw [← hnl] at h
  clear hv hnl
  by_cases h1 : 200 < n
  · have h1 : (200 : Int) < (n : Int) := by omega
    clear h
    go_enter Try.func9, Try.ntmps9
    go_wp2_with (go_at_call 13; refine (works_true _).mono ?_; rintro e w5 ⟨rfl, kk⟩)
    go_ret
    exact ⟨rfl, kk.below⟩
  · have d1 : decide ((200 : Int) < (n : Int)) = false := decide_eq_false (by omega)
    by_cases h2 : m < 1
    · clear h
      go_enter Try.func9, Try.ntmps9
      go_wp2_with (go_at_call 13; refine (works_true _).mono ?_; rintro e w5 ⟨rfl, kk⟩)
      go_ret
      exact ⟨rfl, kk.below⟩
    · have d2 : decide (m < 1) = false := decide_eq_false h2
      have h3 : 11 < m := by omega
      clear h
      go_enter Try.func9, Try.ntmps9
      go_wp2_with (go_at_call 13; refine (works_true _).mono ?_; rintro e w5 ⟨rfl, kk⟩)
      go_ret
      exact ⟨rfl, kk.below⟩

set_option maxRecDepth 100000 in
set_option maxHeartbeats 1000000 in
theorem law_holds_err (v : Value) (l : List Int) (m t : Int) (w : World) (hv : RdI .i64 w v l) (h1 : l.length ≤ 200) (h2 : 1 ≤ m) (h3 : m ≤ 11) (hE : limErr l m ≠ 0) : Calls Try.prog 9 #[v, .int .i64 m, .int .u8 t] w (LawEnd w) := by
  have HLE := Lib.hid (lengths_any v l m w hv (by omega))
  rw [if_neg hE] at HLE
  obtain ⟨A0, n, cp0, rfl, hnl, -⟩ := hv.form
  have d1 : decide ((200 : Int) < (n : Int)) = false := decide_eq_false (by omega)
  have d2 : decide (m < 1) = false := decide_eq_false (by omega)
  have d3 : decide (11 < m) = false := decide_eq_false (by omega)
  generalize limErr l m = E at *
  have hne : (E == 0) = false := by simpa using hE
  clear hv hnl
  go_enter Try.func9, Try.ntmps9
  go_wp2_with fail
  refine HLE.out.mono ?_
  rintro e w1 ⟨v1, rfl, -, -, k1⟩
  go_wp2_with (first | (go_at_call 16; refine (num_any _ _).mono ?_; rintro e w' ⟨rfl, rfl⟩) | (go_at_call 13; refine (works_true _).mono ?_; rintro e w5 ⟨rfl, kk⟩))
  go_ret
  exact ⟨rfl, (k1.then kk).below⟩

theorem turn_mod {t n : Nat} (h : 0 < n) : ((t : Int) % (n : Int)) = ((t % n : Nat) : Int) ∧ t % n < n := ⟨by simp, Nat.mod_lt _ h⟩

set_option maxRecDepth 100000 in
set_option maxHeartbeats 8000000 in
theorem law_holds_fine (v : Value) (l : List Int) (m t : Nat) (w : World) (hv : RdI .i64 w v l) (hl200 : l.length ≤ 200) (ht : t ≤ 255) (hE : limErr l (m : Int) = 0) : Calls Try.prog 9 #[v, .int .i64 (m : Int), .int .u8 (t : Int)] w (LawEnd w) := by
  obtain ⟨hr, hm1, hm2, hu, hle⟩ := limErr_iff hE
  rw [Int.toNat_natCast] at hle
  have hm1' : 1 ≤ m := by omega
  have hm2' : m ≤ 11 := by omega
  obtain ⟨b1, b2⟩ := min_best hr hm1' hm2' hu hle
  obtain ⟨hL, hO⟩ := limOut_best hr hm1' hu hle
  obtain ⟨hF, -, -⟩ := freeOut_best hr hu
  obtain ⟨f1, f2⟩ := free_le hr hm1' hm2' hu hle
  obtain ⟨x1, x2⟩ := free_max hr hu
  have hul := usedL_len l
  have hFE : freeErr l = 0 := by rw [freeErr, hr, if_pos rfl, if_pos hu]
  obtain ⟨OUT, hOUT⟩ : ∃ O, O = limOut l (m : Int) := ⟨_, rfl⟩
  obtain ⟨FR, hFR⟩ : ∃ O, O = freeOut l := ⟨_, rfl⟩
  obtain ⟨c, hc⟩ : ∃ c, c = minOut l (m : Int) := ⟨_, rfl⟩
  obtain ⟨f, hf⟩ : ∃ f, f = costOut l (freeOut l) := ⟨_, rfl⟩
  obtain ⟨M, hM⟩ : ∃ M, M = mxL (freeOut l) := ⟨_, rfl⟩
  have HMO : Hid (∀ (a b : Nat) (x y : Int), l[a]? = some x → l[b]? = some y → y < x → 0 < y → atL OUT a ≤ atL OUT b ∧ atL FR a ≤ atL FR b) := fun a b x y p q r s => by rw [hOUT, hFR]; exact lim_mono hr hm1' hu hle p q r s
  have HLE := Lib.hid (lengths_any v l (m : Int) w hv (by omega))
  rw [hE, if_pos rfl, ← hOUT] at HLE
  have HMI : Hid (∀ w', Keeps w w' [] → Calls Try.prog 22 #[v, .int .i64 (m : Int)] w' (CostEnd w' c 0)) := fun w' k => by
    have h := minCost_any v l (m : Int) w' (hv.keeps k) (by omega)
    rw [b1, ← hc] at h; exact h
  have HCO : Hid (∀ vo w', RdI .i64 w' vo OUT → Keeps w w' [] → Calls Try.prog 28 #[v, vo] w' (CostEnd w' c 0)) := fun vo w' h k => by
    have h := cost_any v vo l OUT w' (hv.keeps k) h (by omega) (by rw [hOUT, hL.len]; omega)
    rw [hOUT, hL.costErr hr (by omega), if_pos rfl, ← b2, ← hc] at h; exact h
  have HUN : Hid (∀ w', Keeps w w' [] → Calls Try.prog 26 #[v] w' (ListEnd w' FR 0)) := fun w' k => by
    have h := unlimited_any v l w' (hv.keeps k) (by omega)
    rw [hFE, if_pos rfl, ← hFR] at h; exact h
  have HCF : Hid (∀ vo w', RdI .i64 w' vo FR → Keeps w w' [] → Calls Try.prog 28 #[v, vo] w' (CostEnd w' f 0)) := fun vo w' h k => by
    have h := cost_any v vo l FR w' (hv.keeps k) h (by omega) (by rw [hFR, hF.len]; omega)
    rw [hFR, hF.costErr hr (by omega), if_pos rfl, ← hf] at h; exact h
  have HMX : Hid (∀ vo w', RdI .i64 w' vo FR → Calls Try.prog 30 #[vo] w' (CostEnd w' M 0)) := fun vo w' h => by
    have h := maxLen_any vo FR w' h (by rw [hFR, hF.len]; omega)
    rw [hFR, x1, x2, ← hM] at h; exact h
  have HM1 : Hid (∀ w', Keeps w w' [] → ∃ c1 e1 : Int, Calls Try.prog 22 #[v, .int .i64 ((m : Int) + 1)] w' (CostEnd w' c1 e1) ∧ (m < 11 → e1 = 0 ∧ c1 ≤ c)) := fun w' k => by
    have h := minCost_any v l ((m : Int) + 1) w' (hv.keeps k) (by omega)
    refine ⟨_, _, h, fun h11 => ?_⟩
    have h2 := min_more hr hm1' h11 hu hle
    rw [hc]
    exact h2
  have HTU : Hid (∀ k vt w', RdI .i64 w' vt (l.drop k ++ l.take k) → Calls Try.prog 22 #[vt, .int .i64 (m : Int)] w' (CostEnd w' c 0)) := fun k vt w' h => by
    have hp : l.Perm (l.drop k ++ l.take k) := by
      have h3 : (l.take k ++ l.drop k).Perm (l.drop k ++ l.take k) := List.perm_append_comm
      rwa [List.take_append_drop] at h3
    have h2 := min_turn hp hr hm1' hm2' hu hle
    have h := minCost_any vt _ (m : Int) w' h (by rw [← hp.length_eq]; omega)
    rw [h2.1, h2.2, ← hc] at h; exact h
  have hlo := hL.len
  have hlf := hF.len
  rw [← hOUT] at hlo
  rw [← hFR] at hlf
  rw [← hf, ← hc, ← hM] at f2
  rw [← hf, ← hc] at f1
  have F2 := Lib.hid f2
  have HLO := Lib.hid hlo
  have HLF := Lib.hid hlf
  have hl0 : 0 < l.length := by omega
  obtain ⟨A0, n, cp0, rfl, hnl, -⟩ := hv.form
  have HN := Lib.hid hnl
  have HV := Lib.hid hv
  obtain ⟨i0, hi, hz0, hz1, hz2⟩ := info_parts Try.infoInt
  have hn0 : 0 < n := by omega
  have hn200 : n ≤ 200 := by omega
  have d1 : decide ((200 : Int) < (n : Int)) = false := decide_eq_false (by omega)
  have d2 : decide ((m : Int) < 1) = false := decide_eq_false (by omega)
  have d3 : decide (11 < (m : Int)) = false := decide_eq_false (by omega)
  obtain ⟨hmod, hmodl⟩ := turn_mod (t := t) hn0
  have HMOD := Lib.hid hmod
  clear hv hnl hr hu hle b1 b2 hL hO hF f2 x1 x2 hul hFE hOUT hFR hc hf hM hE hlo hlf hmod hl0
  go_enter Try.func9, Try.ntmps9
  go_wp2_with fail
  refine HLE.out.mono ?_
  rintro e w1 ⟨v1, rfl, r1, -, k1⟩
  obtain ⟨a1, n1, c1, rfl, hn1, -⟩ := r1.form
  obtain rfl : n1 = n := by rw [hn1, HLO.out, ← HN.out]
  have R1 := Lib.hid r1
  clear r1 hn1 HLE
  go_wp2_with (first | (go_at_call 16; refine (num_any _ _).mono ?_; rintro e w' ⟨rfl, rfl⟩))
  refine (HMI.out _ k1).mono ?_
  rintro e w2 ⟨rfl, k2⟩
  replace k1 := k1.then k2
  replace R1 := Lib.hid (R1.out.keeps k2)
  clear k2 HMI
  go_wp2_with fail
  refine (HCO.out _ _ R1.out k1).mono ?_
  rintro e w3 ⟨rfl, k2⟩
  replace k1 := k1.then k2
  replace R1 := Lib.hid (R1.out.keeps k2)
  clear k2 HCO
  go_wp2_with fail
  refine (HUN.out _ k1).mono ?_
  rintro e w4 ⟨v2, rfl, r2, -, k2⟩
  replace k1 := k1.then k2
  replace R1 := Lib.hid (R1.out.keeps k2)
  obtain ⟨a2, n2, c2, rfl, hn2, -⟩ := r2.form
  obtain rfl : n2 = n1 := by rw [hn2, HLF.out, ← HN.out]
  have R2 := Lib.hid r2
  clear k2 HUN r2 hn2
  go_wp2_with fail
  refine (HCF.out _ _ R2.out k1).mono ?_
  rintro e w5 ⟨rfl, k2⟩
  replace k1 := k1.then k2
  replace R1 := Lib.hid (R1.out.keeps k2)
  replace R2 := Lib.hid (R2.out.keeps k2)
  clear k2 HCF
  go_wp2_with fail
  refine (HMX.out _ _ R2.out).mono ?_
  rintro e w6 ⟨rfl, k2⟩
  replace k1 := k1.then k2
  replace R1 := Lib.hid (R1.out.keeps k2)
  replace R2 := Lib.hid (R2.out.keeps k2)
  clear k2 HMX
  have hcc : (c == c) = true := by simp
  have hnn : (n2 == n2) = true := by simp
  have hcf : decide (c < f) = false := decide_eq_false (by omega)
  have hn00 : ((n2 : Int) == 0) = false := by simp; omega
  obtain ⟨c1', e1', G1, G2⟩ := HM1.out _ k1
  have HG1 := Lib.hid G1
  have HG2 := Lib.hid G2
  clear G1 G2 HM1
  obtain ⟨kt, hkt⟩ : ∃ kt, kt = t % n2 := ⟨_, rfl⟩
  rw [← hkt] at hmodl HMOD
  clear hkt
  go_upto_region 11 with fail
  go_cut [130] from 77 to 130 (fun s130 wx => s130 = .bool false ∧ wx = w6)
  case first =>
    by_cases hMm : M ≤ (m : Int)
    · obtain rfl := F2.out hMm
      clear F2 HG1 HG2
      go_wp2_with (first | (go_at_call 16; refine (num_any _ _).mono ?_; rintro e w' ⟨rfl, hw⟩; subst w'))
      all_goals
        go_meet
        exact ⟨rfl, rfl⟩
    · have dM : decide (M ≤ (m : Int)) = false := decide_eq_false hMm
      clear F2 HG1 HG2
      go_wp2_with (first | (go_at_call 16; refine (num_any _ _).mono ?_; rintro e w' ⟨rfl, hw⟩; subst w'))
      all_goals
        go_meet
        exact ⟨rfl, rfl⟩
  obtain ⟨rfl, hw⟩ := hcut
  subst hw
  clear F2 hcf hn00
  go_wp2_with fail
  refine HG1.out.mono ?_
  rintro e w7 ⟨rfl, k2⟩
  replace k1 := k1.then k2
  replace R1 := Lib.hid (R1.out.keeps k2)
  replace R2 := Lib.hid (R2.out.keeps k2)
  clear k2 HG1
  go_upto_region 14 with fail
  go_cut [149] from 138 to 149 (fun s149 wx => s149 = .bool false ∧ wx = w7)
  case first =>
    by_cases h11 : m < 11
    · obtain ⟨rfl, h12⟩ := HG2.out h11
      have d11 : decide ((m : Int) < 11) = true := decide_eq_true (by omega)
      have dc1 : decide (c < c1') = false := decide_eq_false (by omega)
      clear HG2
      go_wp2_with (first | (go_at_call 16; refine (num_any _ _).mono ?_; rintro e w' ⟨rfl, hw⟩; subst w'))
      all_goals
        go_meet
        exact ⟨rfl, rfl⟩
    · have d11 : decide ((m : Int) < 11) = false := decide_eq_false (by omega)
      clear HG2
      go_wp2_with fail
      all_goals
        go_meet
        exact ⟨rfl, rfl⟩
  obtain ⟨rfl, hw⟩ := hcut
  subst hw
  clear HG2
  have hmod := HMOD.out
  have hkt0 : (0 : Int) ≤ (kt : Int) := Int.natCast_nonneg _
  obtain ⟨aT, cT, hpre, rT⟩ := slice_preI (P := Try.prog) Try.underlying22 hi hz1 (HV.out.keeps k1) (m := kt) (by omega)
  obtain ⟨aD, cD, hpost, rD⟩ := slice_postI (P := Try.prog) Try.underlying22 hi hz1 (HV.out.keeps k1) (m := kt) (by omega)
  have RT := Lib.hid rT
  have RD := Lib.hid rD
  have lT : (l.take kt).length = kt := by have := HN.out; simp; omega
  have lD : (l.drop kt).length = n2 - kt := by have := HN.out; simp; omega
  have LT := Lib.hid lT
  have LD := Lib.hid lD
  clear rT rD lT lD
  obtain ⟨TL, hTL⟩ : ∃ TL, TL = l.take kt := ⟨_, rfl⟩
  obtain ⟨DL, hDL⟩ : ∃ DL, DL = l.drop kt := ⟨_, rfl⟩
  have HTU2 := Lib.hid (HTU.out kt)
  rw [← hTL, ← hDL] at HTU2
  rw [← hTL] at RT LT
  rw [← hDL] at RD LD
  clear HTU hTL hDL
  go_wp2_with fail
  rw [hmod]
  clear hmod HMOD
  obtain ⟨W1, rfl⟩ : ∃ W1 : World, W1 = wc := ⟨_, rfl⟩
  refine wp_region_held_drew (S := (fun w' => Keeps W1 w' [])) (by kernel_rfl) (Keeps.refl W1 []).drew (fun hHeld => ?_)
  refine takeL (i := 1) (v := ?_) rfl (by kernel_rfl) (by kernel_rfl) (by kernel_rfl) (fun _ _ _ h => h) (by rfl) ?_ (by assumption) ?_
  rotate_left
  · (intro w hSw; (try dsimp only at hSw); go_simp; (try with_reducible rfl))
  try simp only [Act.put, List.setIfInBounds_toArray, List.set_cons_zero, List.set_cons_succ]
  refine takeL (i := 2) (v := ?_) rfl (by kernel_rfl) (by kernel_rfl) (by kernel_rfl) (fun _ _ _ h => h) (by rfl) ?_ (by assumption) ?_
  rotate_left
  · (intro w hSw; (try dsimp only at hSw); go_simp; (try with_reducible rfl))
  try simp only [Act.put, List.setIfInBounds_toArray, List.set_cons_zero, List.set_cons_succ]
  refine takeL (i := 3) (v := ?_) rfl (by kernel_rfl) (by kernel_rfl) (by kernel_rfl) (fun _ _ _ h => h) (by rfl) ?_ (by assumption) ?_
  rotate_left
  · (intro w hSw; (try dsimp only at hSw); go_simp; (try with_reducible rfl))
  try simp only [Act.put, List.setIfInBounds_toArray, List.set_cons_zero, List.set_cons_succ]
  refine takeL (i := 5) (v := ?_) rfl (by kernel_rfl) (by kernel_rfl) (by kernel_rfl) (fun _ _ _ h => h) (by rfl) ?_ (by assumption) ?_
  rotate_left
  · (intro w hSw; (try dsimp only at hSw); go_simp; (try with_reducible rfl))
  try simp only [Act.put, List.setIfInBounds_toArray, List.set_cons_zero, List.set_cons_succ]
  refine takeL (i := 6) (v := ?_) rfl (by kernel_rfl) (by kernel_rfl) (by kernel_rfl) (fun _ _ _ h => h) (by rfl) ?_ (by assumption) ?_
  rotate_left
  · (intro w hSw; (try dsimp only at hSw); go_simp; (try with_reducible rfl))
  try simp only [Act.put, List.setIfInBounds_toArray, List.set_cons_zero, List.set_cons_succ]
  refine takeL (i := 7) (v := ?_) rfl (by kernel_rfl) (by kernel_rfl) (by kernel_rfl) (fun _ _ _ h => h) (by rfl) ?_ (by assumption) ?_
  rotate_left
  · (intro w hSw; (try dsimp only at hSw); go_simp; (try with_reducible rfl))
  try simp only [Act.put, List.setIfInBounds_toArray, List.set_cons_zero, List.set_cons_succ]
  refine callL (i := 0) rfl (by kernel_rfl) (fun Kont hK => ?_)
  go_simp
  refine hK.out _ _ ?_ (fun hHeld => ?_)
  · (exact hHeld.alloc _)
  clear hK Kont
  have OB : Hid ((W1.drew.alloc (.cells #[] 3)).ownsRow W1.heap.size 3 1 (.slice (some ⟨W1.heap.size, 0, none⟩) 0 0) 0 []) := by have h := own_build0 (W1.drew) 3 1; (try simp only [World.size_alloc] at h); exact own_base h (by simp)
  refine callL (i := 4) rfl (by kernel_rfl) (fun Kont hK => ?_)
  refine step_appendI rfl (.tmp 155) (.tmp 158) 22 rfl W1.heap.size 3 i0 (.int .i64 0) 8 Try.underlying22 hi hz0 hz1 hz2 rfl (.slice (some ⟨W1.heap.size, 0, none⟩) 0 0) (0) ([]) rfl (OB.out) (.slice aD (n2 - kt) cD) rfl .i64 (DL) (RD.out.keeps hHeld) (by unfold maxLen; have := LT.out; have := LD.out; omega) (by have := LT.out; have := LD.out; omega) (by have := hHeld.size; omega) ?_
  intro va wa owna ga
  obtain ⟨qa, ka⟩ := grown_lowI (OB.out) ga hHeld (Nat.le_refl _)
  rw [Nat.zero_add, List.nil_append] at owna
  obtain ⟨Aa, ca, rfl⟩ := own_form owna
  refine hK.out _ _ ?_ (fun hHeld => ?_)
  · exact qa
  clear hK Kont
  try simp only [Act.put, List.setIfInBounds_toArray, List.set_cons_zero, List.set_cons_succ]
  refine callL (i := 8) rfl (by kernel_rfl) (fun Kont hK => ?_)
  refine step_appendI rfl (.tmp 159) (.tmp 162) 22 rfl W1.heap.size 3 i0 (.int .i64 0) 8 Try.underlying22 hi hz0 hz1 hz2 rfl (.slice Aa DL.length ca) (DL.length) (DL.map (Value.int .i64)) rfl (owna) (.slice aT kt cT) rfl .i64 (TL) (RT.out.keeps hHeld) (by unfold maxLen; have := LT.out; have := LD.out; omega) (by have := LT.out; have := LD.out; omega) (by have := hHeld.size; omega) ?_
  intro vb wb ownb gb
  obtain ⟨qb, kb⟩ := grown_lowI (owna) gb hHeld (Nat.le_refl _)
  obtain ⟨Ab, cb, rfl⟩ := own_form ownb
  refine hK.out _ _ ?_ (fun hHeld => ?_)
  · exact qb
  clear hK Kont
  try simp only [Act.put, List.setIfInBounds_toArray, List.set_cons_zero, List.set_cons_succ]
  refine takeL (i := 9) (v := ?_) rfl (by kernel_rfl) (by kernel_rfl) (by kernel_rfl) (fun _ _ _ h => h) (by rfl) ?_ (by assumption) ?_
  rotate_left
  · (intro w hSw; (try dsimp only at hSw); go_simp; (try with_reducible rfl))
  try simp only [Act.put, List.setIfInBounds_toArray, List.set_cons_zero, List.set_cons_succ]
  refine wpAnyH_done (by kernel_rfl) ?_ _
  have RTU : Hid (RdI .i64 wb (.slice Ab (DL.length + TL.length) cb) (DL ++ TL)) := by
    have h := ownb
    rw [← List.map_append, ← List.length_append] at h
    have h2 := own_reads h
    rw [List.length_append] at h2
    exact h2
  replace k1 := k1.then hHeld
  replace R1 := Lib.hid (R1.out.keeps hHeld)
  replace R2 := Lib.hid (R2.out.keeps hHeld)
  clear ownb owna OB RT RD hpre hpost hHeld qa qb ka kb
  go_wp2_with fail
  refine (HTU2.out _ _ RTU.out).mono ?_
  rintro e w8 ⟨rfl, k2⟩
  replace k1 := k1.then k2
  replace R1 := Lib.hid (R1.out.keeps k2)
  replace R2 := Lib.hid (R2.out.keeps k2)
  have RL := Lib.hid (HV.out.keeps k1)
  clear k2 HTU2 RTU HV
  go_wp2_with (first | (go_at_call 16; refine (num_any _ _).mono ?_; rintro e w' ⟨rfl, hw⟩; subst w'))
  go_loopw [25] (fun s25 wr => ∃ a : Nat, a ≤ n2 ∧ s25 = .int .i64 a ∧ Hid (∃ q, wr = w8.drewN q)) (fun s25 _ => n2 - (intOf s25).toNat)
  case atStart => exact ⟨0, Nat.zero_le _, rfl, ⟨0, rfl⟩⟩
  case round =>
    obtain ⟨a, ha, rfl, hw0⟩ := hrel
    obtain ⟨wo, rfl⟩ : ∃ wo : World, wo = wr := ⟨_, rfl⟩
    by_cases hlt : a < n2
    · obtain ⟨x, hx⟩ : ∃ x, l[a]? = some x := ⟨_, List.getElem?_eq_getElem (by have := HN.out; omega)⟩
      obtain ⟨oa, hoa⟩ : ∃ x, OUT[a]? = some x := ⟨_, List.getElem?_eq_getElem (by have := HN.out; have := HLO.out; omega)⟩
      obtain ⟨fa, hfa⟩ : ∃ x, FR[a]? = some x := ⟨_, List.getElem?_eq_getElem (by have := HN.out; have := HLF.out; omega)⟩
      have HX := Lib.hid hx
      have HOA := Lib.hid hoa
      have HFA := Lib.hid hfa
      have hcapL := RL.out.cap
      have hcap1 := R1.out.cap
      have hcap2 := R2.out.cap
      have han : (a : Int) < (n2 : Int) := by omega
      have ha0 : (0 : Int) ≤ (a : Int) := Int.natCast_nonneg _
      clear hx hoa hfa
      go_wp2_with fail
      go_loopw [26] (fun s26 wr => ∃ b : Nat, b ≤ n2 ∧ s26 = .int .i64 b ∧ Hid (∃ q, wr = w8.drewN q)) (fun s26 _ => n2 - (intOf s26).toNat)
      case atStart => exact ⟨0, Nat.zero_le _, rfl, hw0⟩
      case round =>
        obtain ⟨b, hb, rfl, hwq⟩ := hrel
        by_cases hltb : b < n2
        · obtain ⟨y, hy⟩ : ∃ x, l[b]? = some x := ⟨_, List.getElem?_eq_getElem (by have := HN.out; omega)⟩
          obtain ⟨ob, hob⟩ : ∃ x, OUT[b]? = some x := ⟨_, List.getElem?_eq_getElem (by have := HN.out; have := HLO.out; omega)⟩
          obtain ⟨fb, hfb⟩ : ∃ x, FR[b]? = some x := ⟨_, List.getElem?_eq_getElem (by have := HN.out; have := HLF.out; omega)⟩
          have kq : Keeps w8 wr [] := by obtain ⟨q, rfl⟩ := hwq.out; exact (Keeps.refl w8 []).drewN q
          have HNX : Hid (∀ z, ∃ q, wr.drewN z = w8.drewN q) := by obtain ⟨q, rfl⟩ := hwq.out; exact fun z => ⟨q + z, by simp⟩
          have MON := Lib.hid (HMO.out a b x y HX.out hy)
          obtain ⟨p1, o1, e1, q1, g1⟩ := (RL.out.keeps kq).at HX.out
          obtain ⟨p1', o1', e1', q1', g2⟩ := (RL.out.keeps kq).at hy
          rw [e1] at e1'
          obtain ⟨rfl, rfl⟩ : p1 = p1' ∧ o1 = o1' := by cases e1'; exact ⟨rfl, rfl⟩
          obtain ⟨p2, o2, e2, q2, g3⟩ := (R1.out.keeps kq).at HOA.out
          obtain ⟨p2', o2', e2', q2', g4⟩ := (R1.out.keeps kq).at hob
          rw [e2] at e2'
          obtain ⟨rfl, rfl⟩ : p2 = p2' ∧ o2 = o2' := by cases e2'; exact ⟨rfl, rfl⟩
          obtain ⟨p3, o3, e3, q3, g5⟩ := (R2.out.keeps kq).at HFA.out
          obtain ⟨p3', o3', e3', q3', g6⟩ := (R2.out.keeps kq).at hfb
          rw [e3] at e3'
          obtain ⟨rfl, rfl⟩ : p3 = p3' ∧ o3 = o3' := by cases e3'; exact ⟨rfl, rfl⟩
          subst e1 e2 e3
          have eoa : atL OUT a = oa := by simp [atL, HOA.out]
          have eob : atL OUT b = ob := by simp [atL, hob]
          have efa : atL FR a = fa := by simp [atL, HFA.out]
          have efb : atL FR b = fb := by simp [atL, hfb]
          rw [eoa, eob, efa, efb] at MON
          have hbn : (b : Int) < (n2 : Int) := by omega
          have hb0 : (0 : Int) ≤ (b : Int) := Int.natCast_nonneg _
          clear hy hob hfb e1' e2' e3' eoa eob efa efb kq
          by_cases hxy : y < x
          · have dxy : decide (y < x) = true := decide_eq_true hxy
            by_cases h0 : 0 < y
            · have d0 : decide (0 < y) = true := decide_eq_true h0
              obtain ⟨m1, m2⟩ := MON.out hxy h0
              have do1 : decide (ob < oa) = false := decide_eq_false (by omega)
              have df1 : decide (fb < fa) = false := decide_eq_false (by omega)
              clear MON
              go_wp2_with fail
              go_quiet (fail)
              go_wp2_with fail
              go_roundw
              case rel => exact ⟨b + 1, by omega, by go_num, HNX.out _⟩
              case measure => simp [intOf]; omega
            · have d0 : decide (0 < y) = false := decide_eq_false h0
              clear MON
              go_wp2_with fail
              go_quiet (fail)
              go_wp2_with fail
              go_roundw
              case rel => exact ⟨b + 1, by omega, by go_num, HNX.out _⟩
              case measure => simp [intOf]; omega
          · have dxy : decide (y < x) = false := decide_eq_false hxy
            clear MON
            go_wp2_with fail
            go_quiet (fail)
            go_wp2_with fail
            go_roundw
            case rel => exact ⟨b + 1, by omega, by go_num, HNX.out _⟩
            case measure => simp [intOf]; omega
        · obtain rfl : b = n2 := by omega
          go_wp2_with fail
          go_roundw
          case rel => exact ⟨a + 1, by omega, by go_num, hwq⟩
          case measure => simp [intOf]; omega
    · obtain rfl : a = n2 := by omega
      have kq : Keeps w8 wo [] := by obtain ⟨q, rfl⟩ := hw0.out; exact (Keeps.refl w8 []).drewN q
      replace k1 := k1.then kq
      clear hw0
      go_wp2_with (go_at_call 13; refine (works_true _).mono ?_; rintro e w5 ⟨rfl, kk⟩)
      go_ret
      exact ⟨rfl, (k1.then kk).below⟩

theorem law_holds (v : Value) (l : List Int) (m t : Int) (w : World) (hv : RdI .i64 w v l) (ht0 : 0 ≤ t) (ht : t ≤ 255) : Calls Try.prog 9 #[v, .int .i64 m, .int .u8 t] w (LawEnd w) := by
  by_cases h : 200 < l.length ∨ m < 1 ∨ 11 < m
  · exact law_holds_out v l m t w hv h
  · by_cases hE : limErr l m = 0
    · obtain ⟨M, rfl⟩ := Int.eq_ofNat_of_zero_le (show 0 ≤ m by omega)
      obtain ⟨T, rfl⟩ := Int.eq_ofNat_of_zero_le ht0
      exact law_holds_fine v l M T w hv (by omega) (by omega) hE
    · exact law_holds_err v l m t w hv (by omega) (by omega) (by omega) hE

end Go.Proofs.Ythjbngnihcmedaa
