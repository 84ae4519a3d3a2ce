/-
  The examples of package weights' chapter: works returns true. (Printed by mkVP.py.)
-/
import Derived.Test.YtophgpnnjphnmaaGreatVO
import Derived.Test.YtophgpnnjphnmaaGreatStr
namespace Go.Proofs.YtophgpnnjphnmaaGreat
set_option linter.unusedVariables false
set_option linter.unusedSimpArgs false
set_option linter.unusedSectionVars false
open Go.RowKit

theorem ex_a (v : Value) (w : World) (hv : RdI .i64 w v [2, 1, 0, 2]) : Calls Tryz.prog 13 #[v] w (LsEnd w [1, 2, 0] 0) := by
  have h := fromTree_any v _ w hv (by decide)
  have e1 : fromOut [2, 1, 0, 2] = [1, 2, 0] := by kernel_rfl
  have e2 : fromErr [2, 1, 0, 2] = 0 := by kernel_rfl
  rw [e1, e2] at h
  exact h
theorem ex_b (v : Value) (w : World) (hv : RdI .i64 w v [1, 2, 0]) : Calls Tryz.prog 17 #[v] w (LsEnd w [2, 1, 0, 2] 0) := by
  have h := toTree_any v _ w hv (by decide)
  have e1 : treeOut [1, 2, 0] = [2, 1, 0, 2] := by kernel_rfl
  have e2 : treeErr [1, 2, 0] = 0 := by kernel_rfl
  rw [e1, e2] at h
  exact h
theorem ex_x (v : Value) (w : World) (hv : RdI .i64 w v [1, 1]) : Calls Tryz.prog 13 #[v] w (LsEnd w [1] 0) := by
  have h := fromTree_any v _ w hv (by decide)
  have e1 : fromOut [1, 1] = [1] := by kernel_rfl
  have e2 : fromErr [1, 1] = 0 := by kernel_rfl
  rw [e1, e2] at h
  exact h
theorem ex_y (v : Value) (w : World) (hv : RdI .i64 w v [1]) : Calls Tryz.prog 17 #[v] w (LsEnd w [1, 1] 0) := by
  have h := toTree_any v _ w hv (by decide)
  have e1 : treeOut [1] = [1, 1] := by kernel_rfl
  have e2 : treeErr [1] = 0 := by kernel_rfl
  rw [e1, e2] at h
  exact h
theorem ex_k (v : Value) (w : World) (hv : RdI .i64 w v [2]) : Calls Tryz.prog 17 #[v] w (LsEnd w [] 12) := by
  have h := toTree_any v _ w hv (by decide)
  have e1 : treeOut [2] = [] := by kernel_rfl
  have e2 : treeErr [2] = 12 := by kernel_rfl
  rw [e1, e2] at h
  exact h
theorem ex_l (v : Value) (w : World) (hv : RdI .i64 w v [0, 0]) : Calls Tryz.prog 17 #[v] w (LsEnd w [] 12) := by
  have h := toTree_any v _ w hv (by decide)
  have e1 : treeOut [0, 0] = [] := by kernel_rfl
  have e2 : treeErr [0, 0] = 12 := by kernel_rfl
  rw [e1, e2] at h
  exact h
theorem ex_m (v : Value) (w : World) (hv : RdI .i64 w v [3, 1]) : Calls Tryz.prog 17 #[v] w (LsEnd w [] 12) := by
  have h := toTree_any v _ w hv (by decide)
  have e1 : treeOut [3, 1] = [] := by kernel_rfl
  have e2 : treeErr [3, 1] = 12 := by kernel_rfl
  rw [e1, e2] at h
  exact h
theorem ex_c (v : Value) (w : World) (hv : RdI .i64 w v [1, 2, 0]) : Calls Tryz.prog 20 #[v] w (NumEnd w 1 0) := by
  have h := implied_any v _ w hv (by decide)
  have e1 : lastOut [1, 2, 0] = 1 := by kernel_rfl
  have e2 : treeErr [1, 2, 0] = 0 := by kernel_rfl
  rw [e1, e2] at h
  exact h
theorem ex_d (v : Value) (w : World) (hv : RdI .i64 w v [1, 2, 0]) : Calls Tryz.prog 22 #[v] w (BtEnd w [3, 0, 33, 0] 0) := by
  have h := packed_any v _ w hv (by decide)
  have e1 : halfOut [1, 2, 0] = [3, 0, 33, 0] := by kernel_rfl
  have e2 : treeErr [1, 2, 0] = 0 := by kernel_rfl
  rw [e1, e2] at h
  exact h
theorem ex_z (v : Value) (w : World) (hv : RdI .u8 w v [3, 0, 33, 0]) : Calls Tryz.prog 33 #[v] w (GetEnd w [2, 1, 0, 2] 0 0) := by
  have h := gets_of v [3, 0, 33, 0] [2, 1, 0, 2] 0 4 w hv (by decide) (by decide) (fun W p v' hc => by
    have h := decode_yes p 0 v' [3, 0, 33, 0] W hc (by kernel_rfl) (by decide) (by kernel_rfl) (by kernel_rfl) (by kernel_rfl) (by kernel_rfl)
    rw [show tOf (halvX [3, 0, 33, 0] (byteK [3, 0, 33, 0] (numK [3, 0, 33, 0] 0 255)) (numX [3, 0, 33, 0] 0 255)) = [2, 1, 0, 2] from by kernel_rfl] at h
    rw [show bytesK [3, 0, 33, 0] (byteK [3, 0, 33, 0] (numK [3, 0, 33, 0] 0 255)) (((numX [3, 0, 33, 0] 0 255 + 1) / 2 : Nat) : Int) = 4 from by kernel_rfl] at h
    exact h)
  exact h
theorem ex_o (v : Value) (w : World) (hv : RdI .u8 w v [3, 0, 33, 16]) : Calls Tryz.prog 33 #[v] w (GetEnd w [] 0 12) := by
  have h := gets_of v [3, 0, 33, 16] [] 12 4 w hv (by decide) (by decide) (fun W p v' hc => by
    have h := decode_halv p 0 v' [3, 0, 33, 16] W hc (by kernel_rfl) (by decide) (by kernel_rfl) (by kernel_rfl) (by decide)
    rw [show halvE [3, 0, 33, 16] (byteK [3, 0, 33, 16] (numK [3, 0, 33, 16] 0 255)) (numX [3, 0, 33, 16] 0 255) = 12 from by kernel_rfl] at h
    rw [show bytesK [3, 0, 33, 16] (byteK [3, 0, 33, 16] (numK [3, 0, 33, 16] 0 255)) (((numX [3, 0, 33, 16] 0 255 + 1) / 2 : Nat) : Int) = 4 from by kernel_rfl] at h
    exact h)
  exact h
theorem ex_p (v : Value) (w : World) (hv : RdI .u8 w v [0]) : Calls Tryz.prog 33 #[v] w (GetEnd w [] 0 12) := by
  have h := gets_of v [0] [] 12 1 w hv (by decide) (by decide) (fun W p v' hc => by
    have h := decode_zero p 0 v' [0] W hc (by kernel_rfl) (by kernel_rfl)
    rw [show numK [0] 0 255 = 1 from by kernel_rfl] at h
    exact h)
  exact h
theorem ex_q (v : Value) (w : World) (hv : RdI .u8 w v [1, 2]) : Calls Tryz.prog 33 #[v] w (GetEnd w [] 0 12) := by
  have h := gets_of v [1, 2] [] 12 2 w hv (by decide) (by decide) (fun W p v' hc => by
    have h := decode_way p 0 v' [1, 2] W hc (by kernel_rfl) (by decide) (by kernel_rfl) (by decide)
    rw [show byteK [1, 2] (numK [1, 2] 0 255) = 2 from by kernel_rfl] at h
    exact h)
  exact h
theorem ex_r (v : Value) (w : World) (hv : RdI .u8 w v [3, 0, 33]) : Calls Tryz.prog 33 #[v] w (GetEnd w [] 1 3) := by
  have h := gets_of v [3, 0, 33] [] 3 2 w hv (by decide) (by decide) (fun W p v' hc => by
    have h := decode_halv p 0 v' [3, 0, 33] W hc (by kernel_rfl) (by decide) (by kernel_rfl) (by kernel_rfl) (by decide)
    rw [show halvE [3, 0, 33] (byteK [3, 0, 33] (numK [3, 0, 33] 0 255)) (numX [3, 0, 33] 0 255) = 3 from by kernel_rfl] at h
    rw [show bytesK [3, 0, 33] (byteK [3, 0, 33] (numK [3, 0, 33] 0 255)) (((numX [3, 0, 33] 0 255 + 1) / 2 : Nat) : Int) = 2 from by kernel_rfl] at h
    exact h)
  exact h
theorem ex_s (v : Value) (w : World) (hv : RdI .u8 w v [1]) : Calls Tryz.prog 33 #[v] w (GetEnd w [] 0 3) := by
  have h := gets_of v [1] [] 3 1 w hv (by decide) (by decide) (fun W p v' hc => by
    have h := decode_byte p 0 v' [1] W hc (by kernel_rfl) (by decide) (by decide)
    rw [show byteE [1] (numK [1] 0 255) = 3 from by kernel_rfl] at h
    rw [show byteK [1] (numK [1] 0 255) = 1 from by kernel_rfl] at h
    exact h)
  exact h

theorem ex_str : strOfNums [3, 0, 33, 0] = { data := #[3, 0, 33, 0] } := by kernel_rfl

set_option maxRecDepth 100000 in
set_option maxHeartbeats 4000000 in
theorem works_true (w : World) : Calls Tryz.prog 12 #[] w fun e w' => e = .returned (.bool true) ∧ Keeps w w' [] := by
  go_enter Tryz.func12, Tryz.ntmps12
  have kw := Keeps.refl w []
  go_wp2_with fail
  have rt := blk_four (Blk.newAt (w := w) (cs := #[.int .i64 2, .int .i64 1, .int .i64 0, .int .i64 2]) (T := 3) rfl)
  replace kw := kw.alloc (.cells #[.int .i64 2, .int .i64 1, .int .i64 0, .int .i64 2] 3)
  generalize w.heap.size = bt at *
  generalize w.alloc (.cells #[.int .i64 2, .int .i64 1, .int .i64 0, .int .i64 2] 3) = wt at *
  go_wp2_with fail
  refine (ex_a _ _ rt).mono ?_
  rintro e w1 ⟨va, rfl, ra, -, kk⟩
  replace kw := kw.then kk
  replace rt := rt.keeps kk
  clear kk
  go_wp2_with fail
  refine (ex_b _ _ (blk_three (Blk.newAt rfl))).mono ?_
  rintro e w2 ⟨vb, rfl, rb, -, kk⟩
  replace kw := (kw.alloc _).then kk
  replace rt := (rt.keeps ((Keeps.refl _ []).alloc _)).keeps kk
  replace ra := (ra.keeps ((Keeps.refl _ []).alloc _)).keeps kk
  clear kk
  go_wp2_with fail
  refine (ex_c _ _ (blk_three (Blk.newAt rfl))).mono ?_
  rintro e w3 ⟨rfl, kk⟩
  replace kw := (kw.alloc _).then kk
  replace rt := (rt.keeps ((Keeps.refl _ []).alloc _)).keeps kk
  replace ra := (ra.keeps ((Keeps.refl _ []).alloc _)).keeps kk
  replace rb := (rb.keeps ((Keeps.refl _ []).alloc _)).keeps kk
  clear kk
  go_wp2_with fail
  refine (ex_d _ _ (blk_three (Blk.newAt rfl))).mono ?_
  rintro e w4 ⟨vd, rfl, rd, -, kk⟩
  replace kw := (kw.alloc _).then kk
  replace rt := (rt.keeps ((Keeps.refl _ []).alloc _)).keeps kk
  replace ra := (ra.keeps ((Keeps.refl _ []).alloc _)).keeps kk
  replace rb := (rb.keeps ((Keeps.refl _ []).alloc _)).keeps kk
  clear kk
  go_wp2_with fail
  refine (ex_x _ _ (blk_two (Blk.newAt rfl))).mono ?_
  rintro e w5 ⟨vx, rfl, rx, -, kk⟩
  replace kw := (kw.alloc _).then kk
  replace rt := (rt.keeps ((Keeps.refl _ []).alloc _)).keeps kk
  replace ra := (ra.keeps ((Keeps.refl _ []).alloc _)).keeps kk
  replace rb := (rb.keeps ((Keeps.refl _ []).alloc _)).keeps kk
  replace rd := (rd.keeps ((Keeps.refl _ []).alloc _)).keeps kk
  clear kk
  go_wp2_with fail
  refine (ex_y _ _ (blk_one (Blk.newAt rfl))).mono ?_
  rintro e w6 ⟨vy, rfl, ry, -, kk⟩
  replace kw := (kw.alloc _).then kk
  replace rt := (rt.keeps ((Keeps.refl _ []).alloc _)).keeps kk
  replace ra := (ra.keeps ((Keeps.refl _ []).alloc _)).keeps kk
  replace rb := (rb.keeps ((Keeps.refl _ []).alloc _)).keeps kk
  replace rd := (rd.keeps ((Keeps.refl _ []).alloc _)).keeps kk
  replace rx := (rx.keeps ((Keeps.refl _ []).alloc _)).keeps kk
  clear kk
  have kd : ∀ {W : World} (m : Nat), Keeps W (W.drewN m) [] := fun m => (Keeps.refl _ []).drewN m
  go_wp2_with (first | (go_at_call 16; refine (no_any _ _).mono ?_; rintro e w' ⟨rfl, rfl⟩))
  refine (same_yes _ _ [1, 2, 0] _ (ra.keeps ((Keeps.refl _ []).alloc _)) (blk_three (Blk.newAt rfl)) (by decide)).mono ?_
  rintro e w7 ⟨rfl, m7, rfl⟩
  replace kw := (kw.alloc (.cells #[.int .i64 1, .int .i64 2, .int .i64 0] 3)).drewN m7
  replace rt := (rt.keeps ((Keeps.refl _ []).alloc (.cells #[.int .i64 1, .int .i64 2, .int .i64 0] 3))).keeps (kd m7)
  replace rb := (rb.keeps ((Keeps.refl _ []).alloc (.cells #[.int .i64 1, .int .i64 2, .int .i64 0] 3))).keeps (kd m7)
  replace rd := (rd.keeps ((Keeps.refl _ []).alloc (.cells #[.int .i64 1, .int .i64 2, .int .i64 0] 3))).keeps (kd m7)
  replace rx := (rx.keeps ((Keeps.refl _ []).alloc (.cells #[.int .i64 1, .int .i64 2, .int .i64 0] 3))).keeps (kd m7)
  replace ry := (ry.keeps ((Keeps.refl _ []).alloc (.cells #[.int .i64 1, .int .i64 2, .int .i64 0] 3))).keeps (kd m7)
  clear ra
  generalize World.drewN _ m7 = w7 at *
  go_wp2_with fail
  refine (same_yes _ _ [2, 1, 0, 2] _ rb rt (by decide)).mono ?_
  rintro e w8 ⟨rfl, m8, rfl⟩
  replace kw := kw.drewN m8
  replace rt := rt.keeps (kd m8)
  replace rd := rd.keeps (kd m8)
  replace rx := rx.keeps (kd m8)
  replace ry := ry.keeps (kd m8)
  clear rb
  generalize World.drewN _ m8 = w8 at *
  have hs := str_of rd Tryz.underlying36 Tryz.underlying5 Tryz.underlying9
  rw [ex_str] at hs
  go_wp2_with fail
  refine (same_yes _ _ [1] _ (rx.keeps ((Keeps.refl _ []).alloc _)) (blk_one (Blk.newAt rfl)) (by decide)).mono ?_
  rintro e w9 ⟨rfl, m9, rfl⟩
  replace kw := (kw.alloc (.cells #[.int .i64 1] 3)).drewN m9
  replace rt := (rt.keeps ((Keeps.refl _ []).alloc (.cells #[.int .i64 1] 3))).keeps (kd m9)
  replace ry := (ry.keeps ((Keeps.refl _ []).alloc (.cells #[.int .i64 1] 3))).keeps (kd m9)
  clear rx rd hs
  generalize World.drewN _ m9 = w9 at *
  go_wp2_with fail
  refine (same_yes _ _ [1, 1] _ (ry.keeps ((Keeps.refl _ []).alloc _)) (blk_two (Blk.newAt rfl)) (by decide)).mono ?_
  rintro e w10 ⟨rfl, m10, rfl⟩
  replace kw := (kw.alloc (.cells #[.int .i64 1, .int .i64 1] 3)).drewN m10
  replace rt := (rt.keeps ((Keeps.refl _ []).alloc (.cells #[.int .i64 1, .int .i64 1] 3))).keeps (kd m10)
  clear ry
  generalize World.drewN _ m10 = w10 at *
  go_wp2_with fail
  refine (ex_k _ _ (blk_one (Blk.newAt rfl))).mono ?_
  rintro e w11 ⟨vk, rfl, -, -, kk⟩
  replace kw := (kw.alloc _).then kk
  replace rt := (rt.keeps ((Keeps.refl _ []).alloc _)).keeps kk
  clear kk
  go_wp2_with fail
  refine (ex_l _ _ (blk_two (Blk.newAt rfl))).mono ?_
  rintro e w12 ⟨vl, rfl, -, -, kk⟩
  replace kw := (kw.alloc _).then kk
  replace rt := (rt.keeps ((Keeps.refl _ []).alloc _)).keeps kk
  clear kk
  go_wp2_with fail
  refine (ex_m _ _ (blk_two (Blk.newAt rfl))).mono ?_
  rintro e w13 ⟨vm, rfl, -, -, kk⟩
  replace kw := (kw.alloc _).then kk
  replace rt := (rt.keeps ((Keeps.refl _ []).alloc _)).keeps kk
  clear kk
  go_wp2_with fail
  refine (ex_z _ _ (blk_four (Blk.newAt rfl))).mono ?_
  rintro e w14 ⟨vz, rfl, rz, kk⟩
  replace kw := (kw.alloc _).then kk
  replace rt := (rt.keeps ((Keeps.refl _ []).alloc _)).keeps kk
  clear kk
  go_wp2_with fail
  refine (ex_o _ _ (blk_four (Blk.newAt rfl))).mono ?_
  rintro e w15 ⟨vo, rfl, -, kk⟩
  replace kw := (kw.alloc _).then kk
  replace rt := (rt.keeps ((Keeps.refl _ []).alloc _)).keeps kk
  replace rz := (rz.keeps ((Keeps.refl _ []).alloc _)).keeps kk
  clear kk
  go_wp2_with fail
  refine (ex_p _ _ (blk_one (Blk.newAt rfl))).mono ?_
  rintro e w16 ⟨vp, rfl, -, kk⟩
  replace kw := (kw.alloc _).then kk
  replace rt := (rt.keeps ((Keeps.refl _ []).alloc _)).keeps kk
  replace rz := (rz.keeps ((Keeps.refl _ []).alloc _)).keeps kk
  clear kk
  go_wp2_with fail
  refine (ex_q _ _ (blk_two (Blk.newAt rfl))).mono ?_
  rintro e w17 ⟨vq, rfl, -, kk⟩
  replace kw := (kw.alloc _).then kk
  replace rt := (rt.keeps ((Keeps.refl _ []).alloc _)).keeps kk
  replace rz := (rz.keeps ((Keeps.refl _ []).alloc _)).keeps kk
  clear kk
  go_wp2_with fail
  refine (ex_r _ _ (blk_three (Blk.newAt rfl))).mono ?_
  rintro e w18 ⟨vr, rfl, -, kk⟩
  replace kw := (kw.alloc _).then kk
  replace rt := (rt.keeps ((Keeps.refl _ []).alloc _)).keeps kk
  replace rz := (rz.keeps ((Keeps.refl _ []).alloc _)).keeps kk
  clear kk
  go_wp2_with fail
  refine (ex_s _ _ (blk_one (Blk.newAt rfl))).mono ?_
  rintro e w19 ⟨vs, rfl, -, kk⟩
  replace kw := (kw.alloc _).then kk
  replace rt := (rt.keeps ((Keeps.refl _ []).alloc _)).keeps kk
  replace rz := (rz.keeps ((Keeps.refl _ []).alloc _)).keeps kk
  clear kk
  go_wp2_with (first | (go_at_call 16; refine (no_any _ _).mono ?_; rintro e w' ⟨rfl, rfl⟩))
  refine (same_yes _ _ [2, 1, 0, 2] _ rz rt (by decide)).mono ?_
  rintro e w20 ⟨rfl, m20, rfl⟩
  replace kw := kw.drewN m20
  clear rz rt
  generalize World.drewN _ m20 = w20 at *
  go_wp2_with (first | (go_at_call 16; refine (no_any _ _).mono ?_; rintro e w' ⟨rfl, rfl⟩))
  go_ret
  exact ⟨rfl, kw⟩

end Go.Proofs.YtophgpnnjphnmaaGreat
