/-
  Walks over the reference of package dict: none, May, whether valid or not. (Printed by mkEg.py.)
-/
import Derived.Test.YtcmagccfagijlaaGreatQ26
namespace Go.Proofs.YtcmagccfagijlaaGreat
set_option linter.unusedVariables false
set_option linter.unusedSimpArgs false
set_option linter.unusedSectionVars false
open Go.RowKit

set_option maxRecDepth 100000 in
theorem rnone_any (g : Int) (v : Value) (l : List Int) (w : World) (hv : RdI .i64 w v l) :
    Calls Tryz.prog 44 #[.agg #[.int .i64 g, v]] w fun e w' => e = .returned (.bool (decide (g = 0 ∧ l = []))) ∧ Keeps w w' [] := by
  obtain ⟨A0, n, c, rfl, hn, -⟩ := hv.form
  have e1 : decide (l = []) = ((n : Int) == 0) := by
    rw [← len_nil, ← hn, Bool.eq_iff_iff]; simp
  rw [Bool.decide_and, e1]
  clear hv hn e1
  obtain ⟨R0, f0⟩ : ∃ R, (g == 0) = R := ⟨_, rfl⟩
  obtain ⟨R1, f1⟩ : ∃ R, ((n : Int) == 0) = R := ⟨_, rfl⟩
  have f0' : decide (g = 0) = R0 := f0
  rw [f0', f1]
  clear f0'
  go_enter Tryz.func44, Tryz.ntmps44
  go_wp2_with fail
  all_goals
    clear f0 f1
    go_ret
    refine ⟨?_, (Keeps.refl w []).alloc _⟩
    simp_all

set_option maxRecDepth 100000 in
set_option maxHeartbeats 8000000 in
theorem rMay_raw (g1 g2 g3 a b c : Int) (t n1 n2 n3 x : Value) (T L1 L2 L3 X : List Int) (w : World) (ht : RdI .i64 w t T) (h1 : RdI .i64 w n1 L1) (h2 : RdI .i64 w n2 L2) (h3 : RdI .i64 w n3 L3) (hx : RdI .u8 w x X) (hX : X.length ≤ 1000000) (hxb : ∀ y ∈ X, 0 ≤ y ∧ y ≤ 255) :
    Calls Tryz.prog 21 #[.agg (dictC 0 t g1 n1 g2 n2 g3 n3 a b c x)] w fun e w' => e = .returned (.bool (rawB T L1 L2 L3 g1 g2 g3 a b c X)) ∧ Keeps w w' [] := by
  have HM := Lib.hid (fun w1 (k : Keeps w w1 []) => r_marked x X w1 (hx.keeps k) hxb)
  have HT1 := Lib.hid (fun w1 (k : Keeps w w1 []) => rnone_any g1 n1 L1 w1 (h1.keeps k))
  have HT2 := Lib.hid (fun w1 (k : Keeps w w1 []) => rnone_any g2 n2 L2 w1 (h2.keeps k))
  have HT3 := Lib.hid (fun w1 (k : Keeps w w1 []) => rnone_any g3 n3 L3 w1 (h3.keeps k))
  have h3q := fun w1 => eq_three a b c 1 4 8 w1
  have e3 : (a == 1 && (b == 4 && c == 8)) = decide (a = 1 ∧ b = 4 ∧ c = 8) := by
    simp only [Bool.decide_and]
    rfl
  simp only [e3] at h3q
  clear e3
  obtain ⟨pa, pm, pc, rfl, htn, -⟩ := ht.form
  obtain ⟨p1a, p1m, p1c, rfl, h1n, -⟩ := h1.form
  obtain ⟨p2a, p2m, p2c, rfl, h2n, -⟩ := h2.form
  obtain ⟨p3a, p3m, p3c, rfl, h3n, -⟩ := h3.form
  obtain ⟨pxa, pxm, pxc, rfl, hxn, -⟩ := hx.form
  have e0 : ((pm : Int) == 0) = decide (T.length = 0) := by rw [← htn, Bool.eq_iff_iff]; simp
  have hlen : decide ((134217728 : Int) < (pxm : Int)) = false := by simp; omega
  rw [rawB]
  clear ht h1 h2 h3 hx htn h1n h2n h3n hxn hX hxb
  generalize decide (T.length = 0) = R0 at *
  generalize decide (g1 = 0 ∧ L1 = []) = R1 at *
  generalize decide (g2 = 0 ∧ L2 = []) = R2 at *
  generalize decide (g3 = 0 ∧ L3 = []) = R3 at *
  generalize decide (a = 1 ∧ b = 4 ∧ c = 8) = R4 at *
  generalize markB X = R5 at *
  have z0 := (Blk.new w (dictC 0 (.slice pa pm pc) g1 (.slice p1a p1m p1c) g2 (.slice p2a p2m p2c) g3 (.slice p3a p3m p3c) a b c (.slice pxa pxm pxc)) 32).alloc (.cells #[.slice pa pm pc, .int .i64 g1, .slice p1a p1m p1c, .int .i64 g2, .slice p2a p2m p2c, .int .i64 g3, .slice p3a p3m p3c, .int .i64 a, .int .i64 b, .int .i64 c] 30)
  have zc := Blk.new (w.alloc (.cells (dictC 0 (.slice pa pm pc) g1 (.slice p1a p1m p1c) g2 (.slice p2a p2m p2c) g3 (.slice p3a p3m p3c) a b c (.slice pxa pxm pxc)) 32)) #[.slice pa pm pc, .int .i64 g1, .slice p1a p1m p1c, .int .i64 g2, .slice p2a p2m p2c, .int .i64 g3, .slice p3a p3m p3c, .int .i64 a, .int .i64 b, .int .i64 c] 30
  have zk : Keeps w ((w.alloc (.cells (dictC 0 (.slice pa pm pc) g1 (.slice p1a p1m p1c) g2 (.slice p2a p2m p2c) g3 (.slice p3a p3m p3c) a b c (.slice pxa pxm pxc)) 32)).alloc (.cells #[.slice pa pm pc, .int .i64 g1, .slice p1a p1m p1c, .int .i64 g2, .slice p2a p2m p2c, .int .i64 g3, .slice p3a p3m p3c, .int .i64 a, .int .i64 b, .int .i64 c] 30)) [] := ((Keeps.refl w []).alloc _).alloc _
  simp only [World.size_alloc] at zc
  go_enter Tryz.func21, Tryz.ntmps21
  cases R0
  · go_wp2_with fail
    go_ret
    exact ⟨by simp, zk⟩
  go_wp2_with fail
  generalize ((w.alloc (.cells (dictC 0 (.slice pa pm pc) g1 (.slice p1a p1m p1c) g2 (.slice p2a p2m p2c) g3 (.slice p3a p3m p3c) a b c (.slice pxa pxm pxc)) 32)).alloc (.cells #[.slice pa pm pc, .int .i64 g1, .slice p1a p1m p1c, .int .i64 g2, .slice p2a p2m p2c, .int .i64 g3, .slice p3a p3m p3c, .int .i64 a, .int .i64 b, .int .i64 c] 30)) = w0 at *
  have f1 := ctx_cell0 zc
  obtain ⟨a1, a2, a3, a4, a5, a6, a7, a8, a9⟩ := ctx_cells zc
  have d1 := dict_cell11 z0
  have o1 := dict_cell0 z0
  refine (HT1.out _ zk).mono ?_
  rintro e w1 ⟨rfl, kk⟩
  replace zc := zc.keeps kk (by simp)
  replace z0 := z0.keeps kk (by simp)
  replace zk := zk.then kk
  clear kk a1 a2 a3 a4 a5 a6 a7 a8 a9 d1 f1 o1
  have f1 := ctx_cell0 zc
  obtain ⟨a1, a2, a3, a4, a5, a6, a7, a8, a9⟩ := ctx_cells zc
  have d1 := dict_cell11 z0
  have o1 := dict_cell0 z0
  cases R1
  · go_wp2_with fail
    go_ret
    exact ⟨by simp, zk⟩
  go_wp2_with fail
  refine (HT2.out _ zk).mono ?_
  rintro e w2 ⟨rfl, kk⟩
  replace zc := zc.keeps kk (by simp)
  replace z0 := z0.keeps kk (by simp)
  replace zk := zk.then kk
  clear kk a1 a2 a3 a4 a5 a6 a7 a8 a9 d1 f1 o1
  have f1 := ctx_cell0 zc
  obtain ⟨a1, a2, a3, a4, a5, a6, a7, a8, a9⟩ := ctx_cells zc
  have d1 := dict_cell11 z0
  have o1 := dict_cell0 z0
  cases R2
  · go_wp2_with fail
    go_ret
    exact ⟨by simp, zk⟩
  go_wp2_with fail
  refine (HT3.out _ zk).mono ?_
  rintro e w3 ⟨rfl, kk⟩
  replace zc := zc.keeps kk (by simp)
  replace z0 := z0.keeps kk (by simp)
  replace zk := zk.then kk
  clear kk a1 a2 a3 a4 a5 a6 a7 a8 a9 d1 f1 o1
  have f1 := ctx_cell0 zc
  obtain ⟨a1, a2, a3, a4, a5, a6, a7, a8, a9⟩ := ctx_cells zc
  have d1 := dict_cell11 z0
  have o1 := dict_cell0 z0
  cases R3
  · go_wp2_with fail
    go_ret
    exact ⟨by simp, zk⟩
  cases R4
  · go_wp2_with fail
    go_ret
    exact ⟨by simp, zk⟩
  go_wp2_with fail
  refine (HM.out _ (by first | exact zk | exact zk.alloc _)).mono ?_
  rintro e w5 ⟨rfl, rfl⟩
  cases R5
  · go_wp2_with fail
    go_ret
    exact ⟨by simp, by first | exact zk | exact zk.alloc _⟩
  · go_wp2_with fail
    go_ret
    exact ⟨by simp, by first | exact zk | exact zk.alloc _⟩

set_option maxRecDepth 100000 in
set_option maxHeartbeats 8000000 in
theorem rMay_full (id g1 g2 g3 a b c : Int) (t n1 n2 n3 x : Value) (T L1 L2 L3 X : List Int) (w : World) (hid : id ≠ 0) (ht : RdI .i64 w t T) (h1 : RdI .i64 w n1 L1) (h2 : RdI .i64 w n2 L2) (h3 : RdI .i64 w n3 L3) (hx : RdI .u8 w x X) (hT : T.length ≤ 1000000) (hL1 : L1.length ≤ 1000000) (hL2 : L2.length ≤ 1000000) (hL3 : L3.length ≤ 1000000) (hX : X.length ≤ 1000000) (hxb : ∀ y ∈ X, 0 ≤ y ∧ y ≤ 255) :
    Calls Tryz.prog 21 #[.agg (dictC id t g1 n1 g2 n2 g3 n3 a b c x)] w fun e w' => e = .returned (.bool (fullB T L1 L2 L3 g1 g2 g3 a b c X)) ∧ Keeps w w' [] := by
  rw [fullB, tblB, tblB, tblB]
  have hid0 : (id == 0) = false := by simpa using hid
  have HC := Lib.hid (fun w1 (k : Keeps w w1 []) => r_right14 t T w1 (ht.keeps k) hT)
  have HT1 := Lib.hid (fun w1 (k : Keeps w w1 []) => rmay_any g1 44 9 n1 L1 w1 (h1.keeps k) hL1 (by omega))
  have HT2 := Lib.hid (fun w1 (k : Keeps w w1 []) => rmay_any g2 28 8 n2 L2 w1 (h2.keeps k) hL2 (by omega))
  have HT3 := Lib.hid (fun w1 (k : Keeps w w1 []) => rmay_any g3 44 9 n3 L3 w1 (h3.keeps k) hL3 (by omega))
  have HTR := Lib.hid (fun w1 (k : Keeps w w1 []) => ht.keeps k)
  obtain ⟨pa, pm, pc, rfl, htn, -⟩ := ht.form
  obtain ⟨p1a, p1m, p1c, rfl, h1n, -⟩ := h1.form
  obtain ⟨p2a, p2m, p2c, rfl, h2n, -⟩ := h2.form
  obtain ⟨p3a, p3m, p3c, rfl, h3n, -⟩ := h3.form
  obtain ⟨pxa, pxm, pxc, rfl, hxn, -⟩ := hx.form
  have hxl : (X.length : Int) = (pxm : Int) := by omega
  have hlen : decide ((134217728 : Int) < (pxm : Int)) = false := by simp; omega
  have HN := Lib.hid htn
  have hpm : pm ≤ 1000000 := by omega
  rw [hxl]
  clear ht h1 h2 h3 hx h1n h2n h3n hxn hT hL1 hL2 hL3 hX hxb htn hxl
  obtain ⟨G1, d1'⟩ : ∃ R, decide (0 < g1) = R := ⟨_, rfl⟩
  obtain ⟨G2, d2'⟩ : ∃ R, decide (0 < g2) = R := ⟨_, rfl⟩
  obtain ⟨G3, d3'⟩ : ∃ R, decide (0 < g3) = R := ⟨_, rfl⟩
  have x1 : decide (g1 < 1) = !G1 := by rw [← d1', Bool.eq_iff_iff]; simp; try omega
  have x2 : decide (g2 < 1) = !G2 := by rw [← d2', Bool.eq_iff_iff]; simp; try omega
  have x3 : decide (g3 < 1) = !G3 := by rw [← d3', Bool.eq_iff_iff]; simp; try omega
  obtain ⟨R5, e5⟩ : ∃ R, decide (8 ≤ (pxm : Int)) = R := ⟨_, rfl⟩
  have x5 : decide ((pxm : Int) < 8) = !R5 := by rw [← e5, Bool.eq_iff_iff]; simp; try omega
  obtain ⟨R6, e6⟩ : ∃ R, [a, b, c].any (badR (pxm : Int)) = R := ⟨_, rfl⟩
  rw [d1', d2', d3', e5, e6]
  have E6 := Lib.hid e6
  clear d1' d2' d3' e5 e6
  generalize okN g1 L1 44 9 = K1 at *
  generalize okN g2 L2 28 8 = K2 at *
  generalize okN g3 L3 44 9 = K3 at *
  have HTL : Hid (treeL T = true → 1 < T.length) := fun h => by
    have := (treeL_iff.1 h).2.2.1
    have := usedL_len T
    omega
  obtain ⟨RY, hRY⟩ : ∃ R, decide (T.getD (T.length - 1) 0 = 0) = R := ⟨_, rfl⟩
  rw [hRY]
  have HRY := Lib.hid hRY
  clear hRY
  obtain ⟨RT, hRT⟩ : ∃ R, treeL T = R := ⟨_, rfl⟩
  rw [hRT] at HC HTL ⊢
  clear hRT hid
  have z0 := (Blk.new w (dictC id (.slice pa pm pc) g1 (.slice p1a p1m p1c) g2 (.slice p2a p2m p2c) g3 (.slice p3a p3m p3c) a b c (.slice pxa pxm pxc)) 32).alloc (.cells #[.slice pa pm pc, .int .i64 g1, .slice p1a p1m p1c, .int .i64 g2, .slice p2a p2m p2c, .int .i64 g3, .slice p3a p3m p3c, .int .i64 a, .int .i64 b, .int .i64 c] 30)
  have zc := Blk.new (w.alloc (.cells (dictC id (.slice pa pm pc) g1 (.slice p1a p1m p1c) g2 (.slice p2a p2m p2c) g3 (.slice p3a p3m p3c) a b c (.slice pxa pxm pxc)) 32)) #[.slice pa pm pc, .int .i64 g1, .slice p1a p1m p1c, .int .i64 g2, .slice p2a p2m p2c, .int .i64 g3, .slice p3a p3m p3c, .int .i64 a, .int .i64 b, .int .i64 c] 30
  have zk : Keeps w ((w.alloc (.cells (dictC id (.slice pa pm pc) g1 (.slice p1a p1m p1c) g2 (.slice p2a p2m p2c) g3 (.slice p3a p3m p3c) a b c (.slice pxa pxm pxc)) 32)).alloc (.cells #[.slice pa pm pc, .int .i64 g1, .slice p1a p1m p1c, .int .i64 g2, .slice p2a p2m p2c, .int .i64 g3, .slice p3a p3m p3c, .int .i64 a, .int .i64 b, .int .i64 c] 30)) [] := ((Keeps.refl w []).alloc _).alloc _
  simp only [World.size_alloc] at zc
  go_enter Tryz.func21, Tryz.ntmps21
  go_wp2_with fail
  generalize ((w.alloc (.cells (dictC id (.slice pa pm pc) g1 (.slice p1a p1m p1c) g2 (.slice p2a p2m p2c) g3 (.slice p3a p3m p3c) a b c (.slice pxa pxm pxc)) 32)).alloc (.cells #[.slice pa pm pc, .int .i64 g1, .slice p1a p1m p1c, .int .i64 g2, .slice p2a p2m p2c, .int .i64 g3, .slice p3a p3m p3c, .int .i64 a, .int .i64 b, .int .i64 c] 30)) = w0 at *
  have f1 := ctx_cell0 zc
  obtain ⟨a1, a2, a3, a4, a5, a6, a7, a8, a9⟩ := ctx_cells zc
  have d1 := dict_cell11 z0
  have o1 := dict_cell0 z0
  refine (HC.out _ zk).mono ?_
  rintro e w1 ⟨rfl, rfl⟩
  cases RT
  · go_wp2_with fail
    go_ret
    exact ⟨by simp, zk⟩
  obtain ⟨m, rfl⟩ : ∃ m, pm = m + 1 := ⟨pm - 1, by have := HN.out; have := HTL.out rfl; omega⟩
  obtain ⟨y, hy⟩ : ∃ y, T[m]? = some y := ⟨_, List.getElem?_eq_getElem (by have := HN.out; omega)⟩
  obtain ⟨bb, o, rfl, hbb, hc⟩ := (HTR.out _ zk).at hy
  have hcap := (HTR.out _ zk).cap
  have HY : T.getD (T.length - 1) 0 = y := by
    rw [← HN.out, Nat.add_sub_cancel, List.getD_eq_getElem?_getD, hy]; rfl
  have ey : (y == 0) = RY := by rw [← HRY.out, HY]; rfl
  clear hy HY
  rcases Bool.eq_false_or_eq_true RY with rfl | rfl
  · go_wp2_with fail
    go_ret
    exact ⟨by simp, zk⟩
  cases G2
  · go_wp2_with fail
    go_ret
    exact ⟨by simp, zk⟩
  cases G3
  · go_wp2_with fail
    go_ret
    exact ⟨by simp, zk⟩
  cases G1
  · go_wp2_with fail
    go_ret
    exact ⟨by simp, zk⟩
  go_wp2_with fail
  refine (HT2.out _ zk).mono ?_
  rintro e w2 ⟨rfl, kk⟩
  replace zc := zc.keeps kk (by simp)
  replace z0 := z0.keeps kk (by simp)
  replace zk := zk.then kk
  clear kk hc hbb a1 a2 a3 a4 a5 a6 a7 a8 a9 d1 f1 o1
  have f1 := ctx_cell0 zc
  obtain ⟨a1, a2, a3, a4, a5, a6, a7, a8, a9⟩ := ctx_cells zc
  have d1 := dict_cell11 z0
  have o1 := dict_cell0 z0
  cases K2
  · go_wp2_with fail
    go_ret
    exact ⟨by simp, zk⟩
  go_wp2_with fail
  refine (HT3.out _ zk).mono ?_
  rintro e w3 ⟨rfl, kk⟩
  replace zc := zc.keeps kk (by simp)
  replace z0 := z0.keeps kk (by simp)
  replace zk := zk.then kk
  clear kk a1 a2 a3 a4 a5 a6 a7 a8 a9 d1 f1 o1
  have f1 := ctx_cell0 zc
  obtain ⟨a1, a2, a3, a4, a5, a6, a7, a8, a9⟩ := ctx_cells zc
  have d1 := dict_cell11 z0
  have o1 := dict_cell0 z0
  cases K3
  · go_wp2_with fail
    go_ret
    exact ⟨by simp, zk⟩
  go_wp2_with fail
  refine (HT1.out _ zk).mono ?_
  rintro e w4 ⟨rfl, kk⟩
  replace zc := zc.keeps kk (by simp)
  replace z0 := z0.keeps kk (by simp)
  replace zk := zk.then kk
  clear kk a1 a2 a3 a4 a5 a6 a7 a8 a9 d1 f1 o1
  have f1 := ctx_cell0 zc
  obtain ⟨a1, a2, a3, a4, a5, a6, a7, a8, a9⟩ := ctx_cells zc
  have d1 := dict_cell11 z0
  have o1 := dict_cell0 z0
  cases K1
  · go_wp2_with fail
    go_ret
    exact ⟨by simp, zk⟩
  cases R5
  · go_wp2_with fail
    go_ret
    exact ⟨by simp, zk⟩
  have hrow : ∀ k (y : Int), [a, b, c][k]? = some y → w4.cell? ⟨w.heap.size + 1, 7 + k, none⟩ = some (.int .i64 y) := fun i z hz => by
    match i, hz with
    | 0, hz => simp at hz; subst hz; exact zc.cell 7
    | 1, hz => simp at hz; subst hz; exact zc.cell 8
    | 2, hz => simp at hz; subst hz; exact zc.cell 9
  have HROW := Lib.hid hrow
  clear hrow a1 a2 a3 a4 a5 a6 a7 a8 a9 f1 o1 z0 HRY HTL HTR HC HT1 HT2 HT3 x1 x2 x3
  go_wp2_with fail
  go_loopw [4] (fun s4 wr => ∃ k nd : Nat, k ≤ 3 ∧ s4 = .int .i64 k ∧ wr = w4.drewN nd ∧ Hid (∀ y ∈ [a, b, c].take k, badR pxm y = false)) (fun s4 _ => 3 - (intOf s4).toNat)
  case atStart => exact ⟨0, 0, by omega, rfl, rfl, by show ∀ y ∈ _, _; simp⟩
  case round =>
    obtain ⟨k, nd, hk, rfl, rfl, hno⟩ := hrel
    by_cases hlt : k < 3
    · obtain ⟨y, hy⟩ : ∃ y, [a, b, c][k]? = some y := ⟨_, List.getElem?_eq_getElem (by simp; omega)⟩
      have hcy := HROW.out k y hy
      have hkn : (k : Int) < 3 := by omega
      have hk0 : (0 : Int) ≤ (k : Int) := Int.natCast_nonneg _
      have HXg := Lib.hid hy
      clear hy
      obtain ⟨Q1, q1⟩ : ∃ R, decide (y < 1) = R := ⟨_, rfl⟩
      obtain ⟨Q2, q2⟩ : ∃ R, decide ((pxm : Int) < y) = R := ⟨_, rfl⟩
      have hbv : badR pxm y = (Q1 || Q2) := by rw [badR, q1, q2]
      have HBV := Lib.hid hbv
      clear hbv
      rcases Bool.eq_false_or_eq_true Q1 with rfl | rfl
      · skip
        have FR : Hid (R6 = true) := by
          show _ = _
          rw [← E6.out]
          exact List.any_eq_true.2 ⟨y, List.mem_of_getElem? HXg.out, by rw [HBV.out]; rfl⟩
        go_wp2_with fail
        go_quiet (fail)
        go_wp2_with fail
        go_ret
        exact ⟨by rw [FR.out]; rfl, (zk.drewN nd).drewN _⟩
      rcases Bool.eq_false_or_eq_true Q2 with rfl | rfl
      · skip
        have FR : Hid (R6 = true) := by
          show _ = _
          rw [← E6.out]
          exact List.any_eq_true.2 ⟨y, List.mem_of_getElem? HXg.out, by rw [HBV.out]; rfl⟩
        go_wp2_with fail
        go_quiet (fail)
        go_wp2_with fail
        go_ret
        exact ⟨by rw [FR.out]; rfl, (zk.drewN nd).drewN _⟩
      · have NX : Hid (∀ z ∈ [a, b, c].take (k + 1), badR pxm z = false) := by
          show ∀ z ∈ _, _
          rw [take_next HXg.out]
          intro z hz
          rcases List.mem_append.1 hz with hz | hz
          · exact hno.out z hz
          · rw [List.mem_singleton.1 hz]; exact HBV.out
        go_wp2_with fail
        go_quiet (fail)
        go_wp2_with fail
        go_roundw
        case rel => exact ⟨k + 1, nd + nq, by omega, by go_num, (by first | rfl | trivial | rw [World.drewN_drewN]), NX⟩
        case measure => simp [intOf]; omega
    · have : k = 3 := by omega
      subst this
      have FR : Hid (R6 = false) := by
        show _ = _
        rw [← E6.out]
        refine List.any_eq_false.2 (fun z hz => ?_)
        rw [hno.out z (by simpa using hz)]
        simp
      go_wp2_with fail
      go_ret
      exact ⟨by rw [FR.out]; rfl, zk.drewN nd⟩

theorem rMay_any (id g1 g2 g3 a b c : Int) (t n1 n2 n3 x : Value) (T L1 L2 L3 X : List Int) (w : World) (ht : RdI .i64 w t T) (h1 : RdI .i64 w n1 L1) (h2 : RdI .i64 w n2 L2) (h3 : RdI .i64 w n3 L3) (hx : RdI .u8 w x X) (hT : T.length ≤ 1000000) (hL1 : L1.length ≤ 1000000) (hL2 : L2.length ≤ 1000000) (hL3 : L3.length ≤ 1000000) (hX : X.length ≤ 1000000) (hxb : ∀ y ∈ X, 0 ≤ y ∧ y ≤ 255) :
    Calls Tryz.prog 21 #[.agg (dictC id t g1 n1 g2 n2 g3 n3 a b c x)] w fun e w' => e = .returned (.bool (validB id T L1 L2 L3 g1 g2 g3 a b c X)) ∧ Keeps w w' [] := by
  by_cases hid : id = 0
  · subst hid
    rw [validB, if_pos rfl]
    exact rMay_raw g1 g2 g3 a b c t n1 n2 n3 x T L1 L2 L3 X w ht h1 h2 h3 hx hX hxb
  · rw [validB, if_neg hid]
    exact rMay_full id g1 g2 g3 a b c t n1 n2 n3 x T L1 L2 L3 X w hid ht h1 h2 h3 hx hT hL1 hL2 hL3 hX hxb


end Go.Proofs.YtcmagccfagijlaaGreat
