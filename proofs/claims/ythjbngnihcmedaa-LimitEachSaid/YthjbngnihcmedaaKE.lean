/-
  The examples of package limit's chapter: works returns true.
-/
import Derived.Test.YthjbngnihcmedaaKD
namespace Go.Proofs.Ythjbngnihcmedaa
set_option linter.unusedVariables false
set_option linter.unusedSimpArgs false
set_option linter.unusedSectionVars false
open Go.RowKit

theorem blk_five {w : World} {b : Nat} {x y z u t : Int} {k : IntKind} {T : TypeId} (h : Blk w b #[.int k x, .int k y, .int k z, .int k u, .int k t] T) : RdI k w (.slice (some ⟨b, 0, none⟩) 5 5) [x, y, z, u, t] := blk_nums (l := [x, y, z, u, t]) h
theorem lim_a (v : Value) (w : World) (hv : RdI .i64 w v [5, 2, 1, 1]) : Calls Try.prog 14 #[v, .int .i64 3] w (ListEnd w [1, 2, 3, 3] 0) := by
  have h := lengths_any v _ 3 w hv (by decide)
  have e1 : limErr [5, 2, 1, 1] 3 = 0 := by kernel_rfl
  have e2 : limOut [5, 2, 1, 1] 3 = [1, 2, 3, 3] := by kernel_rfl
  rw [e1, if_pos rfl, e2] at h
  exact h
theorem lim_h (v : Value) (w : World) (hv : RdI .i64 w v [1]) : Calls Try.prog 14 #[v, .int .i64 3] w (ListEnd w [] 22) := by
  have h := lengths_any v _ 3 w hv (by decide)
  have e1 : limErr [1] 3 = 22 := by kernel_rfl
  rw [e1, if_neg (by decide)] at h
  exact h
theorem lim_i (v : Value) (w : World) (hv : RdI .i64 w v [1, 1, 1, 1, 1]) : Calls Try.prog 14 #[v, .int .i64 2] w (ListEnd w [] 18) := by
  have h := lengths_any v _ 2 w hv (by decide)
  have e1 : limErr [1, 1, 1, 1, 1] 2 = 18 := by kernel_rfl
  rw [e1, if_neg (by decide)] at h
  exact h
theorem cost_c (v u : Value) (w : World) (hv : RdI .i64 w v [5, 2, 1, 1]) (hu : RdI .i64 w u [1, 2, 3, 3]) : Calls Try.prog 28 #[v, u] w (CostEnd w 15 0) := by
  have h := cost_any v u _ _ w hv hu (by decide) (by decide)
  have e1 : costErr [5, 2, 1, 1] [1, 2, 3, 3] = 0 := by kernel_rfl
  have e2 : (if (0 : Int) = 0 then costOut [5, 2, 1, 1] [1, 2, 3, 3] else 0) = 15 := by kernel_rfl
  rw [e1, e2] at h
  exact h
theorem cost_m (v u : Value) (w : World) (hv : RdI .i64 w v [5, 0, 2]) (hu : RdI .i64 w u [1, 1]) : Calls Try.prog 28 #[v, u] w (CostEnd w 0 18) := by
  have h := cost_any v u _ _ w hv hu (by decide) (by decide)
  have e1 : costErr [5, 0, 2] [1, 1] = 18 := by kernel_rfl
  have e2 : (if (18 : Int) = 0 then costOut [5, 0, 2] [1, 1] else 0) = 0 := by kernel_rfl
  rw [e1, e2] at h
  exact h
theorem cost_d (v u : Value) (w : World) (hv : RdI .i64 w v [5, 0, 2]) (hu : RdI .i64 w u [1, 2, 3]) : Calls Try.prog 28 #[v, u] w (CostEnd w 11 0) := by
  have h := cost_any v u _ _ w hv hu (by decide) (by decide)
  have e1 : costErr [5, 0, 2] [1, 2, 3] = 0 := by kernel_rfl
  have e2 : (if (0 : Int) = 0 then costOut [5, 0, 2] [1, 2, 3] else 0) = 11 := by kernel_rfl
  rw [e1, e2] at h
  exact h
theorem min_b (v : Value) (w : World) (hv : RdI .i64 w v [5, 2, 1, 1]) : Calls Try.prog 22 #[v, .int .i64 2] w (CostEnd w 18 0) := by
  have h := minCost_any v _ 2 w hv (by decide)
  have e1 : minErr [5, 2, 1, 1] 2 = 0 := by kernel_rfl
  have e2 : minOut [5, 2, 1, 1] 2 = 18 := by kernel_rfl
  rw [e1, e2] at h
  exact h
theorem free_x (v : Value) (w : World) (hv : RdI .i64 w v [8, 4, 2, 1, 1]) : Calls Try.prog 26 #[v] w (ListEnd w [1, 2, 3, 4, 4] 0) := by
  have h := unlimited_any v _ w hv (by decide)
  have e1 : freeErr [8, 4, 2, 1, 1] = 0 := by kernel_rfl
  have e2 : freeOut [8, 4, 2, 1, 1] = [1, 2, 3, 4, 4] := by kernel_rfl
  rw [e1, if_pos rfl, e2] at h
  exact h
theorem flat_y (w : World) : Calls Try.prog 27 #[.int .i64 5, .int .i64 3] w (ListEnd w [2, 2, 2, 3, 3] 0) := by
  have h := uniform_any 5 3 w
  have e1 : flatErr 5 3 = 0 := by kernel_rfl
  have e2 : flatOut 5 3 = [2, 2, 2, 3, 3] := by kernel_rfl
  rw [e1, e2] at h
  exact h
theorem flat_z (w : World) : Calls Try.prog 27 #[.int .i64 2, .int .i64 1] w (ListEnd w [1, 1] 0) := by
  have h := uniform_any 2 1 w
  have e1 : flatErr 2 1 = 0 := by kernel_rfl
  have e2 : flatOut 2 1 = [1, 1] := by kernel_rfl
  rw [e1, e2] at h
  exact h
theorem kraft_p (v : Value) (w : World) (hv : RdI .i64 w v [1, 2]) : Calls Try.prog 29 #[v] w (KraftEnd w true false) := by
  have h := kraft_any v _ w hv (by decide)
  have e1 : fitsL [1, 2] = true := by kernel_rfl
  have e2 : fullL [1, 2] = false := by kernel_rfl
  rw [e1, e2] at h
  exact h
theorem kraft_r (v : Value) (w : World) (hv : RdI .i64 w v [1, 2, 2]) : Calls Try.prog 29 #[v] w (KraftEnd w true true) := by
  have h := kraft_any v _ w hv (by decide)
  have e1 : fitsL [1, 2, 2] = true := by kernel_rfl
  have e2 : fullL [1, 2, 2] = true := by kernel_rfl
  rw [e1, e2] at h
  exact h
theorem max_o (v : Value) (w : World) (hv : RdI .i64 w v [0, 0]) : Calls Try.prog 30 #[v] w (CostEnd w 0 22) := by
  have h := maxLen_any v _ w hv (by decide)
  have e1 : maxErr [0, 0] = 22 := by kernel_rfl
  have e2 : maxOut [0, 0] = 0 := by kernel_rfl
  rw [e1, e2] at h
  exact h

set_option maxRecDepth 100000 in
set_option maxHeartbeats 4000000 in
theorem works_true (w : World) : Calls Try.prog 13 #[] w fun e w' => e = .returned (.bool true) ∧ Keeps w w' [] := by
  go_enter Try.func13, Try.ntmps13
  have kw := Keeps.refl w []
  go_wp2_with fail
  refine (lim_a _ _ (blk_four (Blk.newAt rfl))).mono ?_
  rintro e w1 ⟨va, rfl, ra, -, kk⟩
  replace kw := (kw.alloc _).then kk
  clear kk
  go_wp2_with fail
  refine (cost_c _ _ _ (blk_four (Blk.newAt rfl)) (ra.keeps ((Keeps.refl _ []).alloc _))).mono ?_
  rintro e w2 ⟨rfl, kk⟩
  replace kw := (kw.alloc _).then kk
  clear kk
  clear ra
  go_wp2_with fail
  refine (min_b _ _ (blk_four (Blk.newAt rfl))).mono ?_
  rintro e w3 ⟨rfl, kk⟩
  replace kw := (kw.alloc _).then kk
  clear kk
  go_wp2_with fail
  refine (lim_h _ _ (blk_one (Blk.newAt rfl))).mono ?_
  rintro e w4 ⟨vh, rfl, rh, -, kk⟩
  replace kw := (kw.alloc _).then kk
  clear kk
  clear rh
  go_wp2_with fail
  refine (lim_i _ _ (blk_five (Blk.newAt rfl))).mono ?_
  rintro e w5 ⟨vi, rfl, ri, -, kk⟩
  replace kw := (kw.alloc _).then kk
  clear kk
  clear ri
  go_wp2_with (first | (go_at_call 16; refine (num_any _ _).mono ?_; rintro e w' ⟨rfl, rfl⟩))
  refine (free_x _ _ (blk_five (Blk.newAt rfl))).mono ?_
  rintro e w6 ⟨vx, rfl, rx, -, kk⟩
  replace kw := (kw.alloc _).then kk
  clear kk
  go_wp2_with fail
  refine (flat_y _).mono ?_
  rintro e w7 ⟨vy, rfl, ry, -, kk⟩
  replace kw := kw.then kk
  replace rx := rx.keeps kk
  clear kk
  go_wp2_with fail
  refine (flat_z _).mono ?_
  rintro e w8 ⟨vz, rfl, rz, -, kk⟩
  replace kw := kw.then kk
  replace rx := rx.keeps kk
  replace ry := ry.keeps kk
  clear kk
  have kd : ∀ {W : World} (m : Nat), Keeps W (W.drewN m) [] := fun m => (Keeps.refl _ []).drewN m
  go_wp2_with (first | (go_at_call 16; refine (num_any _ _).mono ?_; rintro e w' ⟨rfl, rfl⟩))
  refine (same_yes _ _ [1, 2, 3, 4, 4] _ (rx.keeps ((Keeps.refl _ []).alloc _)) (blk_five (Blk.newAt rfl)) (by decide)).mono ?_
  rintro e w9 ⟨rfl, m9, rfl⟩
  replace kw := (kw.alloc (.cells #[.int .i64 1, .int .i64 2, .int .i64 3, .int .i64 4, .int .i64 4] 3)).drewN m9
  replace ry := (ry.keeps ((Keeps.refl _ []).alloc (.cells #[.int .i64 1, .int .i64 2, .int .i64 3, .int .i64 4, .int .i64 4] 3))).keeps (kd m9)
  replace rz := (rz.keeps ((Keeps.refl _ []).alloc (.cells #[.int .i64 1, .int .i64 2, .int .i64 3, .int .i64 4, .int .i64 4] 3))).keeps (kd m9)
  clear rx
  generalize World.drewN _ m9 = w9 at *
  go_wp2_with fail
  refine (same_yes _ _ [2, 2, 2, 3, 3] _ (ry.keeps ((Keeps.refl _ []).alloc _)) (blk_five (Blk.newAt rfl)) (by decide)).mono ?_
  rintro e w10 ⟨rfl, m10, rfl⟩
  replace kw := (kw.alloc (.cells #[.int .i64 2, .int .i64 2, .int .i64 2, .int .i64 3, .int .i64 3] 3)).drewN m10
  replace rz := (rz.keeps ((Keeps.refl _ []).alloc (.cells #[.int .i64 2, .int .i64 2, .int .i64 2, .int .i64 3, .int .i64 3] 3))).keeps (kd m10)
  clear ry
  generalize World.drewN _ m10 = w10 at *
  go_wp2_with fail
  refine (same_yes _ _ [1, 1] _ (rz.keeps ((Keeps.refl _ []).alloc _)) (blk_two (Blk.newAt rfl)) (by decide)).mono ?_
  rintro e w11 ⟨rfl, m11, rfl⟩
  replace kw := (kw.alloc (.cells #[.int .i64 1, .int .i64 1] 3)).drewN m11
  clear rz
  generalize World.drewN _ m11 = w11 at *
  go_wp2_with fail
  refine (cost_m _ _ _ (blk_three ((Blk.newAt rfl).alloc _)) (blk_two (Blk.newAt (by simp)))).mono ?_
  rintro e w12 ⟨rfl, kk⟩
  replace kw := ((kw.alloc _).alloc _).then kk
  clear kk
  go_wp2_with fail
  refine (cost_d _ _ _ (blk_three ((Blk.newAt rfl).alloc _)) (blk_three (Blk.newAt (by simp)))).mono ?_
  rintro e w13 ⟨rfl, kk⟩
  replace kw := ((kw.alloc _).alloc _).then kk
  clear kk
  go_wp2_with fail
  refine (kraft_p _ _ (blk_two (Blk.newAt rfl))).mono ?_
  rintro e w14 ⟨rfl, kk⟩
  replace kw := (kw.alloc _).then kk
  clear kk
  go_wp2_with fail
  refine (kraft_r _ _ (blk_three (Blk.newAt rfl))).mono ?_
  rintro e w15 ⟨rfl, kk⟩
  replace kw := (kw.alloc _).then kk
  clear kk
  go_wp2_with fail
  refine (max_o _ _ (blk_two (Blk.newAt rfl))).mono ?_
  rintro e w16 ⟨rfl, kk⟩
  replace kw := (kw.alloc _).then kk
  clear kk
  go_wp2_with (first | (go_at_call 16; refine (num_any _ _).mono ?_; rintro e w' ⟨rfl, rfl⟩))
  go_ret
  exact ⟨rfl, kw⟩

end Go.Proofs.Ythjbngnihcmedaa
