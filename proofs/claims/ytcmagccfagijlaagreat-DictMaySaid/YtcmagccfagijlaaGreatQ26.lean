/-
  Walks over package dict: Valid, whether valid or not. (Printed by mkEe.py.)
  Walk over the reference of package canon: Right.
-/
import Derived.Test.YtcmagccfagijlaaGreatQ25
import Derived.Test.YtcmagccfagijlaaGreatQ1
namespace Go.Proofs.YtcmagccfagijlaaGreat
section
set_option linter.unusedVariables false
set_option linter.unusedSimpArgs false
set_option linter.unusedSectionVars false
open Go.RowKit

set_option maxRecDepth 100000 in
set_option maxHeartbeats 8000000 in
theorem valid_any (id g1 g2 g3 a b c : Int) (t n1 n2 n3 x : Value) (T L1 L2 L3 X : List Int) (w : World) (ht : RdI .i64 w t T) (h1 : RdI .i64 w n1 L1) (h2 : RdI .i64 w n2 L2) (h3 : RdI .i64 w n3 L3) (hx : RdI .u8 w x X) (hT : T.length ≤ 1000000) (hL1 : L1.length ≤ 1000000) (hL2 : L2.length ≤ 1000000) (hL3 : L3.length ≤ 1000000) (hX : X.length ≤ 1000000) (hxb : ∀ y ∈ X, 0 ≤ y ∧ y ≤ 255) (hb1 : ∀ x ∈ L1, -9223372036854775808 ≤ x ∧ x ≤ 9223372036854775807) (hb2 : ∀ x ∈ L2, -9223372036854775808 ≤ x ∧ x ≤ 9223372036854775807) (hb3 : ∀ x ∈ L3, -9223372036854775808 ≤ x ∧ x ≤ 9223372036854775807) :
    Calls Tryz.prog 17 #[.agg (dictC id t g1 n1 g2 n2 g3 n3 a b c x)] w fun e w' => e = .returned (.bool (validB id T L1 L2 L3 g1 g2 g3 a b c X)) ∧ Keeps w w' [] := by
  by_cases hid : id = 0
  · subst hid
    rw [validB, if_pos rfl]
    have HP := Lib.hid (fun w1 (k : Keeps w w1 []) => plain_any 0 g1 g2 g3 a b c t n1 n2 n3 x T L1 L2 L3 X w1 (ht.keeps k) (h1.keeps k) (h2.keeps k) (h3.keeps k) (hx.keeps k) hX hxb)
    obtain ⟨pa, pm, pc, rfl, htn, -⟩ := ht.form
    obtain ⟨p1a, p1m, p1c, rfl, h1n, -⟩ := h1.form
    obtain ⟨p2a, p2m, p2c, rfl, h2n, -⟩ := h2.form
    obtain ⟨p3a, p3m, p3c, rfl, h3n, -⟩ := h3.form
    obtain ⟨pxa, pxm, pxc, rfl, hxn, -⟩ := hx.form
    clear ht h1 h2 h3 hx htn h1n h2n h3n hxn hT hL1 hL2 hL3 hX hxb hb1 hb2 hb3
    go_enter Tryz.func17, Tryz.ntmps17
    go_wp2_with (go_at_call 36; go_loud (refine (HP.out _ ((Keeps.refl _ _).alloc _)).mono ?_; rintro e w2 ⟨rfl, kk⟩))
    go_ret
    exact ⟨rfl, ((Keeps.refl _ _).alloc _).then kk⟩
  rw [validB, if_neg hid, fullB]
  have hid0 : (id == 0) = false := by simpa using hid
  have HC := Lib.hid (fun w1 (k : Keeps w w1 []) => ccheck_any t T w1 (ht.keeps k) hT)
  have HT1 := Lib.hid (fun w1 (k : Keeps w w1 []) => table_any g1 44 9 n1 L1 w1 (h1.keeps k) hL1 hb1 (by omega) (by omega))
  have HT2 := Lib.hid (fun w1 (k : Keeps w w1 []) => table_any g2 28 8 n2 L2 w1 (h2.keeps k) hL2 hb2 (by omega) (by omega))
  have HT3 := Lib.hid (fun w1 (k : Keeps w w1 []) => table_any g3 44 9 n3 L3 w1 (h3.keeps k) hL3 hb3 (by omega) (by omega))
  have HTR := Lib.hid (fun w1 (k : Keeps w w1 []) => ht.keeps k)
  obtain ⟨pa, pm, pc, rfl, htn, -⟩ := ht.form
  obtain ⟨p1a, p1m, p1c, rfl, h1n, -⟩ := h1.form
  obtain ⟨p2a, p2m, p2c, rfl, h2n, -⟩ := h2.form
  obtain ⟨p3a, p3m, p3c, rfl, h3n, -⟩ := h3.form
  obtain ⟨pxa, pxm, pxc, rfl, hxn, -⟩ := hx.form
  have hxl : (X.length : Int) = (pxm : Int) := by omega
  have hlen : (pxm : Int) ≤ 134217728 := by omega
  have HN := Lib.hid htn
  have hpm : pm ≤ 1000000 := by omega
  rw [hxl]
  clear ht h1 h2 h3 hx h1n h2n h3n hxn hT hL1 hL2 hL3 hX hxb hb1 hb2 hb3 htn hxl
  obtain ⟨R5, e5⟩ : ∃ R, decide (8 ≤ (pxm : Int)) = R := ⟨_, rfl⟩
  obtain ⟨R6, e6⟩ : ∃ R, [a, b, c].any (badR (pxm : Int)) = R := ⟨_, rfl⟩
  rw [e5, e6]
  have E6 := Lib.hid e6
  clear e6
  generalize tblB g1 L1 44 9 = R1 at *
  generalize tblB g2 L2 28 8 = R2 at *
  generalize tblB g3 L3 44 9 = R3 at *
  have HTL : Hid (treeL T = true → 1 < T.length) := fun h => by
    have := (treeL_iff.1 h).2.2.1
    have := usedL_len T
    omega
  obtain ⟨RY, hRY⟩ : ∃ R, decide (T.getD (T.length - 1) 0 = 0) = R := ⟨_, rfl⟩
  rw [hRY]
  have HRY := Lib.hid hRY
  clear hRY
  obtain ⟨RT, hRT⟩ : ∃ R, treeL T = R := ⟨_, rfl⟩
  rw [hRT] at HC HTL ⊢
  clear hRT
  have z0 := (Blk.new w (dictC id (.slice pa pm pc) g1 (.slice p1a p1m p1c) g2 (.slice p2a p2m p2c) g3 (.slice p3a p3m p3c) a b c (.slice pxa pxm pxc)) 32).alloc (.cells #[.slice pa pm pc, .int .i64 g1, .slice p1a p1m p1c, .int .i64 g2, .slice p2a p2m p2c, .int .i64 g3, .slice p3a p3m p3c, .int .i64 a, .int .i64 b, .int .i64 c] 30)
  have zc := Blk.new (w.alloc (.cells (dictC id (.slice pa pm pc) g1 (.slice p1a p1m p1c) g2 (.slice p2a p2m p2c) g3 (.slice p3a p3m p3c) a b c (.slice pxa pxm pxc)) 32)) #[.slice pa pm pc, .int .i64 g1, .slice p1a p1m p1c, .int .i64 g2, .slice p2a p2m p2c, .int .i64 g3, .slice p3a p3m p3c, .int .i64 a, .int .i64 b, .int .i64 c] 30
  have zk : Keeps w ((w.alloc (.cells (dictC id (.slice pa pm pc) g1 (.slice p1a p1m p1c) g2 (.slice p2a p2m p2c) g3 (.slice p3a p3m p3c) a b c (.slice pxa pxm pxc)) 32)).alloc (.cells #[.slice pa pm pc, .int .i64 g1, .slice p1a p1m p1c, .int .i64 g2, .slice p2a p2m p2c, .int .i64 g3, .slice p3a p3m p3c, .int .i64 a, .int .i64 b, .int .i64 c] 30)) [] := ((Keeps.refl w []).alloc _).alloc _
  simp only [World.size_alloc] at zc
  go_enter Tryz.func17, Tryz.ntmps17
  go_wp2_with fail
  generalize ((w.alloc (.cells (dictC id (.slice pa pm pc) g1 (.slice p1a p1m p1c) g2 (.slice p2a p2m p2c) g3 (.slice p3a p3m p3c) a b c (.slice pxa pxm pxc)) 32)).alloc (.cells #[.slice pa pm pc, .int .i64 g1, .slice p1a p1m p1c, .int .i64 g2, .slice p2a p2m p2c, .int .i64 g3, .slice p3a p3m p3c, .int .i64 a, .int .i64 b, .int .i64 c] 30)) = w0 at *
  have f1 := ctx_cell0 zc
  obtain ⟨a1, a2, a3, a4, a5, a6, a7, a8, a9⟩ := ctx_cells zc
  have d1 := dict_cell11 z0
  have o1 := dict_cell0 z0
  refine (HC.out _ zk).mono ?_
  rintro e w1 ⟨rfl, kk⟩
  replace zc := zc.keeps kk (by simp)
  replace z0 := z0.keeps kk (by simp)
  replace zk := zk.then kk
  clear kk a1 a2 a3 a4 a5 a6 a7 a8 a9 d1 f1 o1
  have f1 := ctx_cell0 zc
  obtain ⟨a1, a2, a3, a4, a5, a6, a7, a8, a9⟩ := ctx_cells zc
  have d1 := dict_cell11 z0
  have o1 := dict_cell0 z0
  cases RT
  · go_wp2_with fail
    go_ret
    exact ⟨by simp, zk⟩
  obtain ⟨m, rfl⟩ : ∃ m, pm = m + 1 := ⟨pm - 1, by have := HN.out; have := HTL.out rfl; omega⟩
  obtain ⟨y, hy⟩ : ∃ y, T[m]? = some y := ⟨_, List.getElem?_eq_getElem (by have := HN.out; omega)⟩
  obtain ⟨bb, o, rfl, hbb, hc⟩ := (HTR.out _ zk).at hy
  have hcap := (HTR.out _ zk).cap
  have HY : T.getD (T.length - 1) 0 = y := by
    rw [← HN.out, Nat.add_sub_cancel, List.getD_eq_getElem?_getD, hy]; rfl
  have ey : (y == 0) = RY := by rw [← HRY.out, HY]; rfl
  clear hy HY
  rcases Bool.eq_false_or_eq_true RY with rfl | rfl
  · go_wp2_with fail
    go_ret
    exact ⟨by simp, zk⟩
  go_wp2_with fail
  refine (HT2.out _ zk).mono ?_
  rintro e w2 ⟨rfl, kk⟩
  replace zc := zc.keeps kk (by simp)
  replace z0 := z0.keeps kk (by simp)
  replace zk := zk.then kk
  clear kk hc hbb a1 a2 a3 a4 a5 a6 a7 a8 a9 d1 f1 o1
  have f1 := ctx_cell0 zc
  obtain ⟨a1, a2, a3, a4, a5, a6, a7, a8, a9⟩ := ctx_cells zc
  have d1 := dict_cell11 z0
  have o1 := dict_cell0 z0
  cases R2
  · go_wp2_with fail
    go_ret
    exact ⟨by simp, zk⟩
  go_wp2_with fail
  refine (HT3.out _ zk).mono ?_
  rintro e w3' ⟨rfl, kk⟩
  replace zc := zc.keeps kk (by simp)
  replace z0 := z0.keeps kk (by simp)
  replace zk := zk.then kk
  clear kk a1 a2 a3 a4 a5 a6 a7 a8 a9 d1 f1 o1
  have f1 := ctx_cell0 zc
  obtain ⟨a1, a2, a3, a4, a5, a6, a7, a8, a9⟩ := ctx_cells zc
  have d1 := dict_cell11 z0
  have o1 := dict_cell0 z0
  cases R3
  · go_wp2_with fail
    go_ret
    exact ⟨by simp, zk⟩
  go_wp2_with fail
  refine (HT1.out _ zk).mono ?_
  rintro e w1' ⟨rfl, kk⟩
  replace zc := zc.keeps kk (by simp)
  replace z0 := z0.keeps kk (by simp)
  replace zk := zk.then kk
  clear kk a1 a2 a3 a4 a5 a6 a7 a8 a9 d1 f1 o1
  have f1 := ctx_cell0 zc
  obtain ⟨a1, a2, a3, a4, a5, a6, a7, a8, a9⟩ := ctx_cells zc
  have d1 := dict_cell11 z0
  have o1 := dict_cell0 z0
  cases R1
  · go_wp2_with fail
    go_ret
    exact ⟨by simp, zk⟩
  have zn := Blk.new w1' #[.int .i64 pxm] 3
  have zc' := zc.alloc (.cells #[.int .i64 pxm] 3)
  have zk' := zk.alloc (.cells #[.int .i64 pxm] 3)
  have hrd : RdI .i64 (w1'.alloc (.cells #[.int .i64 pxm] 3)) (.slice (some ⟨w.heap.size + 1, 7, none⟩) 3 3) [a, b, c] :=
    ⟨_, _, _, rfl, rfl, (fun h => by cases h), fun _ => ⟨Nat.le_refl _, _, _, rfl, zc'.lt, fun i z hz => by
      match i, hz with
      | 0, hz => simp at hz; subst hz; exact zc'.cell 7
      | 1, hz => simp at hz; subst hz; exact zc'.cell 8
      | 2, hz => simp at hz; subst hz; exact zc'.cell 9⟩⟩
  have HHB := Lib.hid (hasBad_any pxm w1'.heap.size _ [a, b, c] _ zn hrd (by simp))
  clear hrd
  rw [E6.out] at HHB
  cases R5
  · go_wp2_with fail
    go_ret
    exact ⟨by simp, zk'⟩
  go_wp2_with fail
  refine HHB.out.mono ?_
  rintro e w6 ⟨rfl, rfl⟩
  go_wp2_with fail
  go_ret
  exact ⟨by simp, zk'⟩
end

section
set_option linter.unusedVariables false
set_option linter.unusedSimpArgs false
set_option linter.unusedSectionVars false
open Go.RowKit

theorem shr_sum {S X : Nat} (h1 : 1 ≤ X) (hX : X ≤ 11) (hS : S ≤ 1024000000) : wrap64 ((S : Int) + 2048 / (2 : Int) ^ X) = ((S + (if 0 < (X : Int) then 2 ^ (11 - X) else 0) : Nat) : Int) := by
  have h : X = 1 ∨ X = 2 ∨ X = 3 ∨ X = 4 ∨ X = 5 ∨ X = 6 ∨ X = 7 ∨ X = 8 ∨ X = 9 ∨ X = 10 ∨ X = 11 := by omega
  rcases h with rfl | rfl | rfl | rfl | rfl | rfl | rfl | rfl | rfl | rfl | rfl <;> simp [wrap64] <;> omega

set_option maxHeartbeats 2000000 in
theorem r_right14 (v : Value) (l : List Int) (w : World) (hv : RdI .i64 w v l) (hn : l.length ≤ 1000000) :
    Calls Tryz.prog 45 #[v] w fun e w' => e = .returned (.bool (treeL l)) ∧ w = w' := by
  obtain ⟨A0, n, cp0, rfl, hnl, -⟩ := hv.form
  have HV := Lib.hid hv
  have HN := Lib.hid hnl
  have hn' : n ≤ 1000000 := by omega
  obtain ⟨R, hR⟩ : ∃ R, R = treeL l := ⟨_, rfl⟩
  have HR := Lib.hid hR
  rw [← hR]
  clear hv hnl hn hR
  by_cases h256 : 256 < n
  · have NO : R = false := by rw [HR.out, Bool.eq_false_iff]; intro h; have := (treeL_iff.1 h).1; have := HN.out; omega
    subst NO
    have h256' : (256 : Int) < (n : Int) := by omega
    clear HR
    go_enter Tryz.func45, Tryz.ntmps45
    go_wp2_with fail
    go_ret
    exact ⟨rfl, rfl⟩
  · have d256 : decide ((256 : Int) < (n : Int)) = false := decide_eq_false (by omega)
    have hn2 : n ≤ 256 := by omega
    go_enter Tryz.func45, Tryz.ntmps45
    go_wp2_with fail
    clear d256
    go_loop [3, 4, 5] (fun s c i => ∃ k : Nat, k ≤ n ∧ i = .int .i64 k ∧ s = .int .i64 (sum11 (l.take k) : Nat) ∧ c = .int .i64 (usedL (l.take k)).length ∧ Hid ((l.take k).all (finM 11) = true)) (fun _ _ i => n - (intOf i).toNat)
    case atStart => exact ⟨0, Nat.zero_le _, rfl, rfl, rfl, by simp [Hid]⟩
    case round =>
      obtain ⟨k, hk, rfl, rfl, rfl, hall⟩ := hrel
      by_cases hlt : k < n
      · obtain ⟨x, hx⟩ : ∃ x, l[k]? = some x := ⟨_, List.getElem?_eq_getElem (by have := HN.out; omega)⟩
        obtain ⟨b, o, rfl, hb, hc⟩ := HV.out.at hx
        have hcap := HV.out.cap
        have hkn : (k : Int) < (n : Int) := by omega
        have hs1 := sum11_le (l.take k)
        have hs2 : (l.take k).length ≤ k := List.length_take_le _ _
        have hu1 : (usedL (l.take k)).length ≤ k := by have := usedL_len (l.take k); simp at this; omega
        have HST : Hid (sum11 (l.take (k + 1)) = sum11 (l.take k) + if 0 < x then 2 ^ (11 - x.toNat) else 0) := by show _ = _; rw [take_next hx, sum11_snoc]
        have HUC := Lib.hid (usedL_count hx)
        have HAL : Hid (finM 11 x = true → (l.take (k + 1)).all (finM 11) = true) := fun h => by rw [take_next hx, List.all_append, hall.out]; simp [h]
        have HBAD : Hid (finM 11 x = false → R = false) := fun h => by
          rw [HR.out, Bool.eq_false_iff]
          intro ht
          have := (treeL_iff.1 ht).2.1 x (List.mem_of_getElem? hx)
          rw [← Bool.not_eq_true, finM_iff] at h
          exact h this
        obtain ⟨S, hS⟩ : ∃ S, S = sum11 (l.take k) := ⟨_, rfl⟩
        obtain ⟨U, hU⟩ : ∃ U, U = (usedL (l.take k)).length := ⟨_, rfl⟩
        rw [← hS] at hs1 HST ⊢
        rw [← hU] at hu1 HUC ⊢
        have hS9 : S ≤ 1024000000 := by omega
        have hU9 : (U : Int) ≤ 1000000 := by omega
        clear hx hS hU hs1 hs2
        by_cases hx0 : x < 0
        · obtain rfl := HBAD.out (by simp [finM]; omega)
          clear HR
          go_wp2_with fail
          go_ret
          exact ⟨rfl, rfl⟩
        · have d0 : decide (x < 0) = false := decide_eq_false hx0
          by_cases hx11 : 11 < x
          · obtain rfl := HBAD.out (by simp [finM]; omega)
            clear HR
            go_wp2_with fail
            go_ret
            exact ⟨rfl, rfl⟩
          · have d1 : decide (11 < x) = false := decide_eq_false hx11
            have NAL := Lib.hid (HAL.out (finM_iff.2 ⟨by omega, by omega⟩))
            by_cases hp : 0 < x
            · obtain ⟨X, rfl⟩ : ∃ X : Nat, x = (X : Int) := ⟨x.toNat, by omega⟩
              have hX1 : 1 ≤ X := by omega
              have hX2 : X ≤ 11 := by omega
              have hsum : Hid (wrap64 ((S : Int) + 2048 / (2 : Int) ^ X) = ((sum11 (l.take (k + 1)) : Nat) : Int)) := by
                show _ = _
                rw [shr_sum hX1 hX2 hS9, HST.out, Int.toNat_natCast]
              clear HBAD HAL HST
              go_wp2_with fail
              go_round
              case rel => exact ⟨k + 1, by omega, by go_num, by rw [hsum.out], by rw [HUC.out, if_pos hp]; go_num, NAL⟩
              case measure => simp [intOf]; omega
            · have d2 : decide (0 < x) = false := decide_eq_false hp
              clear HBAD HAL
              go_wp2_with fail
              go_round
              case rel => exact ⟨k + 1, by omega, by go_num, by rw [HST.out, if_neg hp, Nat.add_zero], by rw [HUC.out, if_neg hp, Nat.add_zero], NAL⟩
              case measure => simp [intOf]; omega
      · obtain rfl : k = n := by omega
        have hR2 : Hid (R = (decide (2 ≤ ((usedL (l.take k)).length : Int)) && ((sum11 (l.take k) : Nat) : Int) == 2048)) := by
          have e : l.take k = l := List.take_of_length_le (by have := HN.out; omega)
          have h1 := hall.out
          rw [e] at h1
          show _ = _
          rw [HR.out, e, Bool.eq_iff_iff]
          have h2 := HN.out
          simp [treeL, h1, ← h2]
          omega
        have HR2 := Lib.hid hR2.out
        clear hR2 HR
        generalize sum11 (l.take k) = S at *
        generalize (usedL (l.take k)).length = U at *
        go_wp2_with fail
        all_goals
          go_ret
          refine ⟨ret_bool ?_, rfl⟩
          rw [HR2.out]
          first | (simp [*]; done) | (simp [*]; omega)
end

end Go.Proofs.YtcmagccfagijlaaGreat
