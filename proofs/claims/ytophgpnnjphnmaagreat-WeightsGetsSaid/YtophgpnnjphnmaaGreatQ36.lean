/-
  A slice of bytes as a string; slices of slices that a call collects. No program is in sight here.
  The examples of package weights' chapter: works returns true. (Printed by mkVP.py.)
  The tree of weights is a tree. No program is in sight here.
  The laws on the weights of a tree, the tree of weights, the implied weight, format 0: their walks. (Printed by mkVQ.py.)
  Walk over the law on reading descriptions of trees. (Printed by mkWv.py.)
  What an argument's reading as data says of the value: arrays and structs of three numbers.
  The law on reading descriptions of trees: for every input it returns true and each argument reads as it read before.
-/
import Derived.Test.YtophgpnnjphnmaaGreatQ1
import Derived.Test.YtophgpnnjphnmaaGreatQ2
import Derived.Laws.BytesArg
import Derived.Test.YtophgpnnjphnmaaGreatQ11
import Derived.Test.YtophgpnnjphnmaaGreatQ34
import Derived.Test.YtophgpnnjphnmaaGreatQ7
import Derived.Test.YtophgpnnjphnmaaGreatQ3
import Derived.Test.YtophgpnnjphnmaaGreatQ35
import Derived.Lib.SmallJoins
import Derived.Deep.Slices
import Derived.OpenShut
namespace Go.Proofs.YtophgpnnjphnmaaGreat
section
set_option linter.unusedVariables false
set_option linter.unusedSimpArgs false
open Go.RowKit

theorem str_of {P : Program} {w : World} {v : Value} {l : List Int} (hv : RdI .u8 w v l) {src e dst : TypeId} (hs : P.underlying src = some (.slice e)) (he : P.underlying e = some (.int .u8)) (hd : P.underlying dst = some .string) :
    (convert src dst v).run P w = .ok (.string (strOfNums l)) w := by
  obtain ⟨a, n, cp, rfl, hn, h0, hc⟩ := hv.form
  by_cases hz : n = 0
  · subst hz
    have : l = [] := List.eq_nil_of_length_eq_zero hn.symm
    subst this
    cases a with
    | none => exact run_convert_bytes_nil w src e hs he 0 cp dst hd
    | some a =>
      rw [run_convert_bytes_string w src dst e _ 0 cp hs he hd, run_bytesToString w a 0 cp [] (by simp [loadCells, loadCellsFrom])]
      rfl
  · obtain ⟨-, b, o, rfl, hb, hcell⟩ := hc (by omega)
    refine run_convert_bytes_arg w src e hs he b o n cp l hn.symm (fun i hi => ?_) dst hd
    rw [hcell i _ (List.getElem?_eq_getElem (by omega))]
    simp [List.getD, List.getElem?_eq_getElem (show i < l.length by omega)]

theorem u8_bounds {n : Int} (h : (Lit.int .u8 n).wf = true) : 0 ≤ n ∧ n ≤ 255 := by
  simp [Lit.wf, IntKind.min, IntKind.max, IntKind.signed, IntKind.bits] at h
  omega

/-- The values vs read as the lists ls. -/
def RdV (k : IntKind) (w : World) (vs : List Value) (ls : List (List Int)) : Prop := vs.length = ls.length ∧ ∀ (j : Nat) (l : List Int), ls[j]? = some l → ∃ v, vs[j]? = some v ∧ RdI k w v l
theorem RdV.nil {k : IntKind} {w : World} : RdV k w [] [] := ⟨rfl, by simp⟩
theorem RdV.keeps {k : IntKind} {w w' : World} {vs : List Value} {ls : List (List Int)} (h : RdV k w vs ls) (kk : Keeps w w' []) : RdV k w' vs ls :=
  ⟨h.1, fun j l hl => by obtain ⟨v, h1, h2⟩ := h.2 j l hl; exact ⟨v, h1, h2.keeps kk⟩⟩
theorem RdV.snoc {k : IntKind} {w : World} {vs : List Value} {ls : List (List Int)} {v : Value} {l : List Int} (h : RdV k w vs ls) (hv : RdI k w v l) : RdV k w (vs ++ [v]) (ls ++ [l]) := by
  refine ⟨by simp [h.1], fun j m hm => ?_⟩
  by_cases hj : j < ls.length
  · rw [List.getElem?_append_left hj] at hm
    obtain ⟨u, h1, h2⟩ := h.2 j m hm
    exact ⟨u, by rw [List.getElem?_append_left (by rw [h.1]; exact hj)]; exact h1, h2⟩
  · have hlt := (List.getElem?_eq_some_iff.1 hm).1
    simp at hlt
    have : j = ls.length := by omega
    subst this
    rw [List.getElem?_append_right (Nat.le_refl _)] at hm
    simp at hm
    subst hm
    exact ⟨v, by rw [List.getElem?_append_right (by rw [h.1]; exact Nat.le_refl _), h.1]; simp, hv⟩
/-- An owned row of slices reads as the list of lists. -/
theorem own_readsL {k : IntKind} {w : World} {base : Nat} {e : TypeId} {v : Value} {vs : List Value} {ls : List (List Int)} (h : w.ownsRow base e 1 v vs.length vs) (hv : RdV k w vs ls) : RdL k w v ls := by
  rcases h.2 with ⟨rfl, h0⟩ | ⟨g, cp, cur, rfl, hb, hg, hn, hm, hs, ht⟩
  · exact ⟨_, _, _, rfl, by have := hv.1; omega, fun h => absurd h (by omega)⟩
  · refine ⟨_, _, _, rfl, hv.1, fun h0 => ⟨hn, g, 0, rfl, (Array.getElem?_eq_some_iff.1 hg).1, fun i l hl => ?_⟩⟩
    obtain ⟨u, h1, h2⟩ := hv.2 i l hl
    refine ⟨u, ?_, h2⟩
    have hlt : i < vs.length := (List.getElem?_eq_some_iff.1 h1).1
    rw [Nat.zero_add, cell_of_row w g i cur e (0, 0) hg]
    have h3 : (cur.toList.take (vs.length * 1))[i]? = vs[i]? := by rw [ht]
    rw [List.getElem?_take, if_pos (by omega), h1] at h3
    simpa using h3
end

section
set_option linter.unusedVariables false
set_option linter.unusedSimpArgs false
set_option linter.unusedSectionVars false
open Go.RowKit

theorem ex_a (v : Value) (w : World) (hv : RdI .i64 w v [2, 1, 0, 2]) : Calls Tryz.prog 13 #[v] w (LsEnd w [1, 2, 0] 0) := by
  have h := fromTree_any v _ w hv (by decide)
  have e1 : fromOut [2, 1, 0, 2] = [1, 2, 0] := by kernel_rfl
  have e2 : fromErr [2, 1, 0, 2] = 0 := by kernel_rfl
  rw [e1, e2] at h
  exact h
theorem ex_b (v : Value) (w : World) (hv : RdI .i64 w v [1, 2, 0]) : Calls Tryz.prog 17 #[v] w (LsEnd w [2, 1, 0, 2] 0) := by
  have h := toTree_any v _ w hv (by decide)
  have e1 : treeOut [1, 2, 0] = [2, 1, 0, 2] := by kernel_rfl
  have e2 : treeErr [1, 2, 0] = 0 := by kernel_rfl
  rw [e1, e2] at h
  exact h
theorem ex_x (v : Value) (w : World) (hv : RdI .i64 w v [1, 1]) : Calls Tryz.prog 13 #[v] w (LsEnd w [1] 0) := by
  have h := fromTree_any v _ w hv (by decide)
  have e1 : fromOut [1, 1] = [1] := by kernel_rfl
  have e2 : fromErr [1, 1] = 0 := by kernel_rfl
  rw [e1, e2] at h
  exact h
theorem ex_y (v : Value) (w : World) (hv : RdI .i64 w v [1]) : Calls Tryz.prog 17 #[v] w (LsEnd w [1, 1] 0) := by
  have h := toTree_any v _ w hv (by decide)
  have e1 : treeOut [1] = [1, 1] := by kernel_rfl
  have e2 : treeErr [1] = 0 := by kernel_rfl
  rw [e1, e2] at h
  exact h
theorem ex_k (v : Value) (w : World) (hv : RdI .i64 w v [2]) : Calls Tryz.prog 17 #[v] w (LsEnd w [] 12) := by
  have h := toTree_any v _ w hv (by decide)
  have e1 : treeOut [2] = [] := by kernel_rfl
  have e2 : treeErr [2] = 12 := by kernel_rfl
  rw [e1, e2] at h
  exact h
theorem ex_l (v : Value) (w : World) (hv : RdI .i64 w v [0, 0]) : Calls Tryz.prog 17 #[v] w (LsEnd w [] 12) := by
  have h := toTree_any v _ w hv (by decide)
  have e1 : treeOut [0, 0] = [] := by kernel_rfl
  have e2 : treeErr [0, 0] = 12 := by kernel_rfl
  rw [e1, e2] at h
  exact h
theorem ex_m (v : Value) (w : World) (hv : RdI .i64 w v [3, 1]) : Calls Tryz.prog 17 #[v] w (LsEnd w [] 12) := by
  have h := toTree_any v _ w hv (by decide)
  have e1 : treeOut [3, 1] = [] := by kernel_rfl
  have e2 : treeErr [3, 1] = 12 := by kernel_rfl
  rw [e1, e2] at h
  exact h
theorem ex_c (v : Value) (w : World) (hv : RdI .i64 w v [1, 2, 0]) : Calls Tryz.prog 20 #[v] w (NumEnd w 1 0) := by
  have h := implied_any v _ w hv (by decide)
  have e1 : lastOut [1, 2, 0] = 1 := by kernel_rfl
  have e2 : treeErr [1, 2, 0] = 0 := by kernel_rfl
  rw [e1, e2] at h
  exact h
theorem ex_d (v : Value) (w : World) (hv : RdI .i64 w v [1, 2, 0]) : Calls Tryz.prog 22 #[v] w (BtEnd w [3, 0, 33, 0] 0) := by
  have h := packed_any v _ w hv (by decide)
  have e1 : halfOut [1, 2, 0] = [3, 0, 33, 0] := by kernel_rfl
  have e2 : treeErr [1, 2, 0] = 0 := by kernel_rfl
  rw [e1, e2] at h
  exact h
theorem ex_z (v : Value) (w : World) (hv : RdI .u8 w v [3, 0, 33, 0]) : Calls Tryz.prog 33 #[v] w (GetEnd w [2, 1, 0, 2] 0 0) := by
  have h := gets_of v [3, 0, 33, 0] [2, 1, 0, 2] 0 4 w hv (by decide) (by decide) (fun W p v' hc => by
    have h := decode_yes p 0 v' [3, 0, 33, 0] W hc (by kernel_rfl) (by decide) (by kernel_rfl) (by kernel_rfl) (by kernel_rfl) (by kernel_rfl)
    rw [show tOf (halvX [3, 0, 33, 0] (byteK [3, 0, 33, 0] (numK [3, 0, 33, 0] 0 255)) (numX [3, 0, 33, 0] 0 255)) = [2, 1, 0, 2] from by kernel_rfl] at h
    rw [show bytesK [3, 0, 33, 0] (byteK [3, 0, 33, 0] (numK [3, 0, 33, 0] 0 255)) (((numX [3, 0, 33, 0] 0 255 + 1) / 2 : Nat) : Int) = 4 from by kernel_rfl] at h
    exact h)
  exact h
theorem ex_o (v : Value) (w : World) (hv : RdI .u8 w v [3, 0, 33, 16]) : Calls Tryz.prog 33 #[v] w (GetEnd w [] 0 12) := by
  have h := gets_of v [3, 0, 33, 16] [] 12 4 w hv (by decide) (by decide) (fun W p v' hc => by
    have h := decode_halv p 0 v' [3, 0, 33, 16] W hc (by kernel_rfl) (by decide) (by kernel_rfl) (by kernel_rfl) (by decide)
    rw [show halvE [3, 0, 33, 16] (byteK [3, 0, 33, 16] (numK [3, 0, 33, 16] 0 255)) (numX [3, 0, 33, 16] 0 255) = 12 from by kernel_rfl] at h
    rw [show bytesK [3, 0, 33, 16] (byteK [3, 0, 33, 16] (numK [3, 0, 33, 16] 0 255)) (((numX [3, 0, 33, 16] 0 255 + 1) / 2 : Nat) : Int) = 4 from by kernel_rfl] at h
    exact h)
  exact h
theorem ex_p (v : Value) (w : World) (hv : RdI .u8 w v [0]) : Calls Tryz.prog 33 #[v] w (GetEnd w [] 0 12) := by
  have h := gets_of v [0] [] 12 1 w hv (by decide) (by decide) (fun W p v' hc => by
    have h := decode_zero p 0 v' [0] W hc (by kernel_rfl) (by kernel_rfl)
    rw [show numK [0] 0 255 = 1 from by kernel_rfl] at h
    exact h)
  exact h
theorem ex_q (v : Value) (w : World) (hv : RdI .u8 w v [1, 2]) : Calls Tryz.prog 33 #[v] w (GetEnd w [] 0 12) := by
  have h := gets_of v [1, 2] [] 12 2 w hv (by decide) (by decide) (fun W p v' hc => by
    have h := decode_way p 0 v' [1, 2] W hc (by kernel_rfl) (by decide) (by kernel_rfl) (by decide)
    rw [show byteK [1, 2] (numK [1, 2] 0 255) = 2 from by kernel_rfl] at h
    exact h)
  exact h
theorem ex_r (v : Value) (w : World) (hv : RdI .u8 w v [3, 0, 33]) : Calls Tryz.prog 33 #[v] w (GetEnd w [] 1 3) := by
  have h := gets_of v [3, 0, 33] [] 3 2 w hv (by decide) (by decide) (fun W p v' hc => by
    have h := decode_halv p 0 v' [3, 0, 33] W hc (by kernel_rfl) (by decide) (by kernel_rfl) (by kernel_rfl) (by decide)
    rw [show halvE [3, 0, 33] (byteK [3, 0, 33] (numK [3, 0, 33] 0 255)) (numX [3, 0, 33] 0 255) = 3 from by kernel_rfl] at h
    rw [show bytesK [3, 0, 33] (byteK [3, 0, 33] (numK [3, 0, 33] 0 255)) (((numX [3, 0, 33] 0 255 + 1) / 2 : Nat) : Int) = 2 from by kernel_rfl] at h
    exact h)
  exact h
theorem ex_s (v : Value) (w : World) (hv : RdI .u8 w v [1]) : Calls Tryz.prog 33 #[v] w (GetEnd w [] 0 3) := by
  have h := gets_of v [1] [] 3 1 w hv (by decide) (by decide) (fun W p v' hc => by
    have h := decode_byte p 0 v' [1] W hc (by kernel_rfl) (by decide) (by decide)
    rw [show byteE [1] (numK [1] 0 255) = 3 from by kernel_rfl] at h
    rw [show byteK [1] (numK [1] 0 255) = 1 from by kernel_rfl] at h
    exact h)
  exact h

theorem ex_str : strOfNums [3, 0, 33, 0] = { data := #[3, 0, 33, 0] } := by kernel_rfl

set_option maxRecDepth 100000 in
set_option maxHeartbeats 4000000 in
theorem works_true (w : World) : Calls Tryz.prog 12 #[] w fun e w' => e = .returned (.bool true) ∧ Keeps w w' [] := by
  go_enter Tryz.func12, Tryz.ntmps12
  have kw := Keeps.refl w []
  go_wp2_with fail
  have rt := blk_four (Blk.newAt (w := w) (cs := #[.int .i64 2, .int .i64 1, .int .i64 0, .int .i64 2]) (T := 3) rfl)
  replace kw := kw.alloc (.cells #[.int .i64 2, .int .i64 1, .int .i64 0, .int .i64 2] 3)
  generalize w.heap.size = bt at *
  generalize w.alloc (.cells #[.int .i64 2, .int .i64 1, .int .i64 0, .int .i64 2] 3) = wt at *
  go_wp2_with fail
  refine (ex_a _ _ rt).mono ?_
  rintro e w1 ⟨va, rfl, ra, -, kk⟩
  replace kw := kw.then kk
  replace rt := rt.keeps kk
  clear kk
  go_wp2_with fail
  refine (ex_b _ _ (blk_three (Blk.newAt rfl))).mono ?_
  rintro e w2 ⟨vb, rfl, rb, -, kk⟩
  replace kw := (kw.alloc _).then kk
  replace rt := (rt.keeps ((Keeps.refl _ []).alloc _)).keeps kk
  replace ra := (ra.keeps ((Keeps.refl _ []).alloc _)).keeps kk
  clear kk
  go_wp2_with fail
  refine (ex_c _ _ (blk_three (Blk.newAt rfl))).mono ?_
  rintro e w3 ⟨rfl, kk⟩
  replace kw := (kw.alloc _).then kk
  replace rt := (rt.keeps ((Keeps.refl _ []).alloc _)).keeps kk
  replace ra := (ra.keeps ((Keeps.refl _ []).alloc _)).keeps kk
  replace rb := (rb.keeps ((Keeps.refl _ []).alloc _)).keeps kk
  clear kk
  go_wp2_with fail
  refine (ex_d _ _ (blk_three (Blk.newAt rfl))).mono ?_
  rintro e w4 ⟨vd, rfl, rd, -, kk⟩
  replace kw := (kw.alloc _).then kk
  replace rt := (rt.keeps ((Keeps.refl _ []).alloc _)).keeps kk
  replace ra := (ra.keeps ((Keeps.refl _ []).alloc _)).keeps kk
  replace rb := (rb.keeps ((Keeps.refl _ []).alloc _)).keeps kk
  clear kk
  go_wp2_with fail
  refine (ex_x _ _ (blk_two (Blk.newAt rfl))).mono ?_
  rintro e w5 ⟨vx, rfl, rx, -, kk⟩
  replace kw := (kw.alloc _).then kk
  replace rt := (rt.keeps ((Keeps.refl _ []).alloc _)).keeps kk
  replace ra := (ra.keeps ((Keeps.refl _ []).alloc _)).keeps kk
  replace rb := (rb.keeps ((Keeps.refl _ []).alloc _)).keeps kk
  replace rd := (rd.keeps ((Keeps.refl _ []).alloc _)).keeps kk
  clear kk
  go_wp2_with fail
  refine (ex_y _ _ (blk_one (Blk.newAt rfl))).mono ?_
  rintro e w6 ⟨vy, rfl, ry, -, kk⟩
  replace kw := (kw.alloc _).then kk
  replace rt := (rt.keeps ((Keeps.refl _ []).alloc _)).keeps kk
  replace ra := (ra.keeps ((Keeps.refl _ []).alloc _)).keeps kk
  replace rb := (rb.keeps ((Keeps.refl _ []).alloc _)).keeps kk
  replace rd := (rd.keeps ((Keeps.refl _ []).alloc _)).keeps kk
  replace rx := (rx.keeps ((Keeps.refl _ []).alloc _)).keeps kk
  clear kk
  have kd : ∀ {W : World} (m : Nat), Keeps W (W.drewN m) [] := fun m => (Keeps.refl _ []).drewN m
  go_wp2_with (first | (go_at_call 16; refine (no_any _ _).mono ?_; rintro e w' ⟨rfl, rfl⟩))
  refine (same_yes _ _ [1, 2, 0] _ (ra.keeps ((Keeps.refl _ []).alloc _)) (blk_three (Blk.newAt rfl)) (by decide)).mono ?_
  rintro e w7 ⟨rfl, m7, rfl⟩
  replace kw := (kw.alloc (.cells #[.int .i64 1, .int .i64 2, .int .i64 0] 3)).drewN m7
  replace rt := (rt.keeps ((Keeps.refl _ []).alloc (.cells #[.int .i64 1, .int .i64 2, .int .i64 0] 3))).keeps (kd m7)
  replace rb := (rb.keeps ((Keeps.refl _ []).alloc (.cells #[.int .i64 1, .int .i64 2, .int .i64 0] 3))).keeps (kd m7)
  replace rd := (rd.keeps ((Keeps.refl _ []).alloc (.cells #[.int .i64 1, .int .i64 2, .int .i64 0] 3))).keeps (kd m7)
  replace rx := (rx.keeps ((Keeps.refl _ []).alloc (.cells #[.int .i64 1, .int .i64 2, .int .i64 0] 3))).keeps (kd m7)
  replace ry := (ry.keeps ((Keeps.refl _ []).alloc (.cells #[.int .i64 1, .int .i64 2, .int .i64 0] 3))).keeps (kd m7)
  clear ra
  generalize World.drewN _ m7 = w7 at *
  go_wp2_with fail
  refine (same_yes _ _ [2, 1, 0, 2] _ rb rt (by decide)).mono ?_
  rintro e w8 ⟨rfl, m8, rfl⟩
  replace kw := kw.drewN m8
  replace rt := rt.keeps (kd m8)
  replace rd := rd.keeps (kd m8)
  replace rx := rx.keeps (kd m8)
  replace ry := ry.keeps (kd m8)
  clear rb
  generalize World.drewN _ m8 = w8 at *
  have hs := str_of rd Tryz.underlying36 Tryz.underlying5 Tryz.underlying9
  rw [ex_str] at hs
  go_wp2_with fail
  refine (same_yes _ _ [1] _ (rx.keeps ((Keeps.refl _ []).alloc _)) (blk_one (Blk.newAt rfl)) (by decide)).mono ?_
  rintro e w9 ⟨rfl, m9, rfl⟩
  replace kw := (kw.alloc (.cells #[.int .i64 1] 3)).drewN m9
  replace rt := (rt.keeps ((Keeps.refl _ []).alloc (.cells #[.int .i64 1] 3))).keeps (kd m9)
  replace ry := (ry.keeps ((Keeps.refl _ []).alloc (.cells #[.int .i64 1] 3))).keeps (kd m9)
  clear rx rd hs
  generalize World.drewN _ m9 = w9 at *
  go_wp2_with fail
  refine (same_yes _ _ [1, 1] _ (ry.keeps ((Keeps.refl _ []).alloc _)) (blk_two (Blk.newAt rfl)) (by decide)).mono ?_
  rintro e w10 ⟨rfl, m10, rfl⟩
  replace kw := (kw.alloc (.cells #[.int .i64 1, .int .i64 1] 3)).drewN m10
  replace rt := (rt.keeps ((Keeps.refl _ []).alloc (.cells #[.int .i64 1, .int .i64 1] 3))).keeps (kd m10)
  clear ry
  generalize World.drewN _ m10 = w10 at *
  go_wp2_with fail
  refine (ex_k _ _ (blk_one (Blk.newAt rfl))).mono ?_
  rintro e w11 ⟨vk, rfl, -, -, kk⟩
  replace kw := (kw.alloc _).then kk
  replace rt := (rt.keeps ((Keeps.refl _ []).alloc _)).keeps kk
  clear kk
  go_wp2_with fail
  refine (ex_l _ _ (blk_two (Blk.newAt rfl))).mono ?_
  rintro e w12 ⟨vl, rfl, -, -, kk⟩
  replace kw := (kw.alloc _).then kk
  replace rt := (rt.keeps ((Keeps.refl _ []).alloc _)).keeps kk
  clear kk
  go_wp2_with fail
  refine (ex_m _ _ (blk_two (Blk.newAt rfl))).mono ?_
  rintro e w13 ⟨vm, rfl, -, -, kk⟩
  replace kw := (kw.alloc _).then kk
  replace rt := (rt.keeps ((Keeps.refl _ []).alloc _)).keeps kk
  clear kk
  go_wp2_with fail
  refine (ex_z _ _ (blk_four (Blk.newAt rfl))).mono ?_
  rintro e w14 ⟨vz, rfl, rz, kk⟩
  replace kw := (kw.alloc _).then kk
  replace rt := (rt.keeps ((Keeps.refl _ []).alloc _)).keeps kk
  clear kk
  go_wp2_with fail
  refine (ex_o _ _ (blk_four (Blk.newAt rfl))).mono ?_
  rintro e w15 ⟨vo, rfl, -, kk⟩
  replace kw := (kw.alloc _).then kk
  replace rt := (rt.keeps ((Keeps.refl _ []).alloc _)).keeps kk
  replace rz := (rz.keeps ((Keeps.refl _ []).alloc _)).keeps kk
  clear kk
  go_wp2_with fail
  refine (ex_p _ _ (blk_one (Blk.newAt rfl))).mono ?_
  rintro e w16 ⟨vp, rfl, -, kk⟩
  replace kw := (kw.alloc _).then kk
  replace rt := (rt.keeps ((Keeps.refl _ []).alloc _)).keeps kk
  replace rz := (rz.keeps ((Keeps.refl _ []).alloc _)).keeps kk
  clear kk
  go_wp2_with fail
  refine (ex_q _ _ (blk_two (Blk.newAt rfl))).mono ?_
  rintro e w17 ⟨vq, rfl, -, kk⟩
  replace kw := (kw.alloc _).then kk
  replace rt := (rt.keeps ((Keeps.refl _ []).alloc _)).keeps kk
  replace rz := (rz.keeps ((Keeps.refl _ []).alloc _)).keeps kk
  clear kk
  go_wp2_with fail
  refine (ex_r _ _ (blk_three (Blk.newAt rfl))).mono ?_
  rintro e w18 ⟨vr, rfl, -, kk⟩
  replace kw := (kw.alloc _).then kk
  replace rt := (rt.keeps ((Keeps.refl _ []).alloc _)).keeps kk
  replace rz := (rz.keeps ((Keeps.refl _ []).alloc _)).keeps kk
  clear kk
  go_wp2_with fail
  refine (ex_s _ _ (blk_one (Blk.newAt rfl))).mono ?_
  rintro e w19 ⟨vs, rfl, -, kk⟩
  replace kw := (kw.alloc _).then kk
  replace rt := (rt.keeps ((Keeps.refl _ []).alloc _)).keeps kk
  replace rz := (rz.keeps ((Keeps.refl _ []).alloc _)).keeps kk
  clear kk
  go_wp2_with (first | (go_at_call 16; refine (no_any _ _).mono ?_; rintro e w' ⟨rfl, rfl⟩))
  refine (same_yes _ _ [2, 1, 0, 2] _ rz rt (by decide)).mono ?_
  rintro e w20 ⟨rfl, m20, rfl⟩
  replace kw := kw.drewN m20
  clear rz rt
  generalize World.drewN _ m20 = w20 at *
  go_wp2_with (first | (go_at_call 16; refine (no_any _ _).mono ?_; rintro e w' ⟨rfl, rfl⟩))
  go_ret
  exact ⟨rfl, kw⟩
end

section
set_option linter.unusedVariables false
set_option linter.unusedSimpArgs false
open Go.RowKit

theorem sumW_mem {l : List Int} {x : Int} (h : x ∈ l) (h0 : 0 < x) : 2 ^ (x.toNat - 1) ≤ sumW l := by
  induction l with
  | nil => cases h
  | cons y l ih =>
    rcases List.mem_cons.1 h with rfl | h
    · simp only [sumW, if_pos h0]; omega
    · have := ih h; simp only [sumW]; omega
theorem sumW_some {l : List Int} (h : 0 < sumW l) : ∃ x ∈ l, 0 < x := by
  induction l with
  | nil => simp [sumW] at h
  | cons y l ih =>
    by_cases hy : 0 < y
    · exact ⟨y, by simp, hy⟩
    · simp only [sumW, if_neg hy, Nat.zero_add] at h
      obtain ⟨x, hx, h0⟩ := ih h
      exact ⟨x, by simp [hx], h0⟩
theorem sum11_tr {k : Nat} (hk : k ≤ 11) : ∀ (m : List Int), (∀ x ∈ m, x ≤ k) → sum11 (trL k m) = 2 ^ (11 - k) * sumW m
  | [], _ => by simp [trL, sum11, sumW]
  | x :: m, h => by
    have ih := sum11_tr hk m (fun y hy => h y (by simp [hy]))
    have hx := h x (by simp)
    simp only [trL] at ih
    simp only [trL, List.map_cons, sum11, sumW, ih, Nat.mul_add]
    congr 1
    by_cases h0 : 0 < x
    · have e1 : wgt k x = k + 1 - x := if_pos h0
      rw [e1, if_pos (by omega), if_pos h0, ← Nat.pow_add]
      congr 1
      omega
    · have e1 : wgt k x = 0 := if_neg h0
      rw [e1, if_neg (by omega), if_neg h0, Nat.mul_zero]

theorem tOf_len (l : List Int) : (tOf l).length = l.length + 1 := by simp [tOf, trL]
theorem tree_of_ok {l : List Int} (h : okW l = true) : treeL (tOf l) = true := by
  simp only [okW, Bool.and_eq_true, decide_eq_true_eq] at h
  obtain ⟨⟨⟨h1, h2⟩, h3, h4, h5⟩, -⟩ := h
  obtain ⟨s1, s2, s3, s4, s5, s6, s7, s8, s9⟩ := sums h1 h2
  have hl : l.length < 256 := by simp [lenW] at h1; exact h1.2
  have hx : ∀ x ∈ l, 0 ≤ x ∧ x ≤ kW l := fun x hx => by
    have hb := finM_iff.1 (List.all_eq_true.1 h2 x hx)
    refine ⟨hb.1, ?_⟩
    by_cases h0 : 0 < x
    · have := sumW_mem hx h0
      have h7 : 2 ^ (x.toNat - 1) < 2 ^ kW l := by omega
      have := (Nat.pow_lt_pow_iff_right (by decide : 1 < 2)).1 h7
      omega
    · omega
  have hv : vW l ≤ kW l := by
    have h7 : 2 ^ (vW l - 1) < 2 ^ kW l := by omega
    have := (Nat.pow_lt_pow_iff_right (by decide : 1 < 2)).1 h7
    omega
  have hall : ∀ x ∈ l ++ [(vW l : Int)], 0 ≤ x ∧ x ≤ kW l := fun x hm => by
    rcases List.mem_append.1 hm with hm | hm
    · exact hx x hm
    · have := List.mem_singleton.1 hm; omega
  rw [treeL_iff]
  refine ⟨by rw [tOf_len]; omega, ?_, ?_, ?_⟩
  · intro y hy
    obtain ⟨x, hm, rfl⟩ := List.mem_map.1 hy
    have := hall x hm
    unfold wgt
    split <;> omega
  · obtain ⟨x, hm, h0⟩ := sumW_some h3
    have hp : 0 < (usedL (trL (kW l) l)).length := usedL_pos.2 ⟨wgt (kW l) x, List.mem_map.2 ⟨x, hm, rfl⟩, by
      have := hx x hm
      unfold wgt
      rw [if_pos h0]; omega⟩
    have e : tOf l = trL (kW l) l ++ [wgt (kW l) (vW l)] := by simp [tOf, trL]
    rw [e, usedL_snoc, if_pos (by unfold wgt; rw [if_pos (by omega)]; omega), List.length_append]
    simp only [List.length_singleton]
    omega
  · show sum11 (trL (kW l) (l ++ [(vW l : Int)])) = 2048
    rw [sum11_tr h4 _ (fun x hm => (hall x hm).2), sumW_snoc, if_pos (by omega)]
    have e : sumW l + 2 ^ ((vW l : Int).toNat - 1) = 2 ^ kW l := by
      rw [Int.toNat_natCast, ← h5]; omega
    rw [e, ← Nat.pow_add, show 11 - kW l + kW l = 11 by omega]
end

section
set_option linter.unusedVariables false
set_option linter.unusedSimpArgs false
set_option linter.unusedSectionVars false
open Go.RowKit

theorem wOf_len (l : List Int) : (wOf l).length ≤ l.length := by simp [wOf]; omega
theorem fromOut_len (l : List Int) : (fromOut l).length ≤ l.length := by unfold fromOut; split <;> simp [wOf_len]
theorem treeOut_len (l : List Int) : (treeOut l).length ≤ l.length + 1 := by unfold treeOut; split <;> simp [tOf_len]
theorem treeErr_ok {l : List Int} : (treeErr l = 0 ∧ treeL (treeOut l) = true) ∨ treeErr l = 12 := by
  unfold treeErr treeOut
  cases h : okW l with
  | true => simp [tree_of_ok h]
  | false => simp

set_option maxRecDepth 100000 in
set_option maxHeartbeats 2000000 in
theorem law_of (v : Value) (l : List Int) (w : World) (hv : RdI .i64 w v l) : Calls Tryz.prog 3 #[v] w (LawEnd w) := by
  obtain ⟨A0, n, cp0, rfl, hnl, -⟩ := hv.form
  by_cases hbig : 300 < n
  · clear hv hnl
    have h1 : (300 : Int) < (n : Int) := by omega
    go_enter Tryz.func3, Tryz.ntmps3
    go_wp2_with (go_at_call 12; refine (works_true _).mono ?_; rintro e w9 ⟨rfl, kk⟩)
    go_ret
    exact ⟨rfl, kk.below⟩
  have hd : decide ((300 : Int) < (n : Int)) = false := by simp; omega
  obtain ⟨i0, hi, hz0, hz1, hz2⟩ := info_parts Tryz.infoInt
  have HV := Lib.hid hv
  have HFN := Lib.hid (fun c w' (hc : RdI .i64 w' c l) => fromTree_any c l w' hc (by omega))
  have HRF := Lib.hid (fun w' (k : Keeps w w' []) => r_of _ l w' (hv.keeps k) (by omega))
  have hol := fromOut_len l
  have hln : l.length ≤ 300 := by omega
  clear hv hnl
  generalize fromOut l = O at *
  generalize fromErr l = E at *
  go_enter Tryz.func3, Tryz.ntmps3
  go_wp2_with (refine wpList_copyI rfl rfl rfl 22 3 _ _ _ rfl rfl rfl i0 (.int .i64 0) 8 Tryz.underlying22 hi hz0 hz1 hz2 rfl (.slice A0 n cp0) (fun _ => rfl) (fun _ => rfl) (fun _ => rfl) .i64 l HV.out (by unfold maxLen; omega) (by omega) ?_; intro v0 v1 w1 own1 k1 ne1; obtain ⟨a1, c1, rfl⟩ := own_form own1)
  have rc := own_reads own1
  refine (HFN.out _ _ rc).mono ?_
  rintro e w2 ⟨va, rfl, ra, -, k2⟩
  replace rc := rc.keeps k2
  replace k1 := k1.then k2
  clear k2 own1 HFN
  go_wp2_with fail
  refine (HRF.out _ k1).mono ?_
  rintro e w3 ⟨vb, rfl, rb, -, k3⟩
  replace rc := rc.keeps k3
  replace ra := ra.keeps k3
  replace k1 := k1.then k3
  clear k3 HRF
  go_wp2_with fail
  refine (same_yes _ _ O _ ra rb (by omega)).mono ?_
  rintro e w4 ⟨rfl, m4, rfl⟩
  replace k1 := k1.drewN m4
  replace rc := rc.drewN m4
  replace ra := ra.drewN m4
  clear rb
  generalize World.drewN _ m4 = w4 at *
  have hee : (E == E) = true := by simp
  go_wp2_with (go_at_call 16; refine (no_any _ _).mono ?_; rintro e w' ⟨rfl, rfl⟩)
  refine (same_yes _ _ l _ rc (HV.out.keeps k1) (by omega)).mono ?_
  rintro e w5 ⟨rfl, m5, rfl⟩
  replace k1 := k1.drewN m5
  replace ra := ra.drewN m5
  clear rc
  generalize World.drewN _ m5 = w5 at *
  go_wp2_with (go_at_call 12; refine (works_true _).mono ?_; rintro e w9 ⟨rfl, kk⟩)
  go_ret
  exact ⟨rfl, (k1.then kk).below⟩

set_option maxRecDepth 100000 in
set_option maxHeartbeats 2000000 in
theorem law_tree (v : Value) (l : List Int) (w : World) (hv : RdI .i64 w v l) : Calls Tryz.prog 4 #[v] w (LawEnd w) := by
  obtain ⟨A0, n, cp0, rfl, hnl, -⟩ := hv.form
  by_cases hbig : 300 < n
  · clear hv hnl
    have h1 : (300 : Int) < (n : Int) := by omega
    go_enter Tryz.func4, Tryz.ntmps4
    go_wp2_with (go_at_call 12; refine (works_true _).mono ?_; rintro e w9 ⟨rfl, kk⟩)
    go_ret
    exact ⟨rfl, kk.below⟩
  have hd : decide ((300 : Int) < (n : Int)) = false := by simp; omega
  obtain ⟨i0, hi, hz0, hz1, hz2⟩ := info_parts Tryz.infoInt
  have HV := Lib.hid hv
  have HFN := Lib.hid (fun c w' (hc : RdI .i64 w' c l) => toTree_any c l w' hc (by omega))
  have HRF := Lib.hid (fun w' (k : Keeps w w' []) => r_tree _ l w' (hv.keeps k) (by omega))
  have hol := treeOut_len l
  have HTE := Lib.hid (treeErr_ok (l := l))
  have hln : l.length ≤ 300 := by omega
  clear hv hnl
  generalize treeOut l = O at *
  generalize treeErr l = E at *
  go_enter Tryz.func4, Tryz.ntmps4
  go_wp2_with (refine wpList_copyI rfl rfl rfl 22 3 _ _ _ rfl rfl rfl i0 (.int .i64 0) 8 Tryz.underlying22 hi hz0 hz1 hz2 rfl (.slice A0 n cp0) (fun _ => rfl) (fun _ => rfl) (fun _ => rfl) .i64 l HV.out (by unfold maxLen; omega) (by omega) ?_; intro v0 v1 w1 own1 k1 ne1; obtain ⟨a1, c1, rfl⟩ := own_form own1)
  have rc := own_reads own1
  refine (HFN.out _ _ rc).mono ?_
  rintro e w2 ⟨va, rfl, ra, -, k2⟩
  replace rc := rc.keeps k2
  replace k1 := k1.then k2
  clear k2 own1 HFN
  go_wp2_with fail
  refine (HRF.out _ k1).mono ?_
  rintro e w3 ⟨vb, rfl, rb, -, k3⟩
  replace rc := rc.keeps k3
  replace ra := ra.keeps k3
  replace k1 := k1.then k3
  clear k3 HRF
  go_wp2_with fail
  refine (same_yes _ _ O _ ra rb (by omega)).mono ?_
  rintro e w4 ⟨rfl, m4, rfl⟩
  replace k1 := k1.drewN m4
  replace rc := rc.drewN m4
  replace ra := ra.drewN m4
  clear rb
  generalize World.drewN _ m4 = w4 at *
  have hee : (E == E) = true := by simp
  go_wp2_with (go_at_call 16; refine (no_any _ _).mono ?_; rintro e w' ⟨rfl, rfl⟩)
  refine (same_yes _ _ l _ rc (HV.out.keeps k1) (by omega)).mono ?_
  rintro e w5 ⟨rfl, m5, rfl⟩
  replace k1 := k1.drewN m5
  replace ra := ra.drewN m5
  clear rc
  generalize World.drewN _ m5 = w5 at *
  rcases HTE.out with ⟨rfl, ht⟩ | rfl
  · have HR := Lib.hid (r_right14 va O w5 ra (by omega))
    rw [ht] at HR
    clear HTE
    go_wp2_with (first | (go_at_call 19; refine HR.out.mono ?_; rintro e w6 ⟨rfl, hw6⟩; subst hw6) | (go_at_call 12; refine (works_true _).mono ?_; rintro e w9 ⟨rfl, kk⟩))
    go_ret
    exact ⟨rfl, (k1.then kk).below⟩
  · clear HTE
    go_wp2_with (go_at_call 12; refine (works_true _).mono ?_; rintro e w9 ⟨rfl, kk⟩)
    go_ret
    exact ⟨rfl, (k1.then kk).below⟩

set_option maxRecDepth 100000 in
set_option maxHeartbeats 2000000 in
theorem law_last (v : Value) (l : List Int) (w : World) (hv : RdI .i64 w v l) : Calls Tryz.prog 5 #[v] w (LawEnd w) := by
  obtain ⟨A0, n, cp0, rfl, hnl, -⟩ := hv.form
  by_cases hbig : 300 < n
  · clear hv hnl
    have h1 : (300 : Int) < (n : Int) := by omega
    go_enter Tryz.func5, Tryz.ntmps5
    go_wp2_with (go_at_call 12; refine (works_true _).mono ?_; rintro e w9 ⟨rfl, kk⟩)
    go_ret
    exact ⟨rfl, kk.below⟩
  have hd : decide ((300 : Int) < (n : Int)) = false := by simp; omega
  have HFN := Lib.hid (implied_any _ l w hv (by omega))
  have HRF := Lib.hid (fun w' (k : Keeps w w' []) => r_Last _ l w' (hv.keeps k) (by omega))
  clear hv hnl
  generalize lastOut l = O at *
  generalize treeErr l = E at *
  have hoo : (O == O) = true := by simp
  have hee : (E == E) = true := by simp
  go_enter Tryz.func5, Tryz.ntmps5
  go_wp2_with fail
  refine HFN.out.mono ?_
  rintro e w2 ⟨rfl, k1⟩
  go_wp2_with fail
  refine (HRF.out _ k1).mono ?_
  rintro e w3 ⟨rfl, k3⟩
  replace k1 := k1.then k3
  go_wp2_with (first | (go_at_call 16; refine (no_any _ _).mono ?_; rintro e w' ⟨rfl, rfl⟩) | (go_at_call 12; refine (works_true _).mono ?_; rintro e w9 ⟨rfl, kk⟩))
  go_ret
  exact ⟨rfl, (k1.then kk).below⟩

set_option maxRecDepth 100000 in
set_option maxHeartbeats 2000000 in
theorem law_halves (v : Value) (l : List Int) (w : World) (hv : RdI .i64 w v l) : Calls Tryz.prog 6 #[v] w (LawEnd w) := by
  obtain ⟨A0, n, cp0, rfl, hnl, -⟩ := hv.form
  by_cases hbig : 300 < n
  · clear hv hnl
    have h1 : (300 : Int) < (n : Int) := by omega
    go_enter Tryz.func6, Tryz.ntmps6
    go_wp2_with (go_at_call 12; refine (works_true _).mono ?_; rintro e w9 ⟨rfl, kk⟩)
    go_ret
    exact ⟨rfl, kk.below⟩
  have hd : decide ((300 : Int) < (n : Int)) = false := by simp; omega
  have HFN := Lib.hid (packed_any _ l w hv (by omega))
  have HRF := Lib.hid (fun w' (k : Keeps w w' []) => r_halves _ l w' (hv.keeps k) (by omega))
  clear hv hnl
  generalize halfOut l = O at *
  generalize treeErr l = E at *
  have hee : (E == E) = true := by simp
  go_enter Tryz.func6, Tryz.ntmps6
  go_wp2_with fail
  refine HFN.out.mono ?_
  rintro e w2 ⟨va, rfl, ra, -, k1⟩
  go_wp2_with fail
  refine (HRF.out _ k1).mono ?_
  rintro e w3 ⟨vb, rfl, rb, -, k3⟩
  replace ra := ra.keeps k3
  replace k1 := k1.then k3
  have s1 := str_of (P := Tryz.prog) ra Tryz.underlying36 Tryz.underlying5 Tryz.underlying9
  have s2 := str_of (P := Tryz.prog) rb Tryz.underlying36 Tryz.underlying5 Tryz.underlying9
  generalize strOfNums O = SO at *
  clear k3 ra rb
  go_wp2_with (first | (go_at_call 16; refine (no_any _ _).mono ?_; rintro e w' ⟨rfl, rfl⟩) | (go_at_call 12; refine (works_true _).mono ?_; rintro e w9 ⟨rfl, kk⟩))
  go_ret
  exact ⟨rfl, (k1.then kk).below⟩
end

section
set_option linter.unusedVariables false
set_option linter.unusedSimpArgs false
set_option linter.unusedSectionVars false
open Go.RowKit

theorem finW_len {L o : List Int} {K K' : Nat} (h : finW L K = .ok (o, K')) : o.length ≤ L.length + 1 := by
  unfold finW at h
  split at h
  · injection h with h
    injection h with h1 h2
    rw [← h1]
    simp [tOf_len]
  · cases h
theorem getW_len {B L : List Int} {k K : Nat} (h : getW B k = .ok (L, K)) : L.length ≤ 1000 := by
  unfold getW at h
  split at h
  · cases h
  · rename_i h1
    have hm := numX_most (B := B) (k := k) (M := 255) (by simpa using h1)
    split at h
    · cases h
    · split at h
      · cases h
      · split at h
        · split at h
          · cases h
          · have := finW_len h
            unfold halvX at this
            rw [List.length_take] at this
            omega
        · split at h
          · split at h
            · cases h
            · rename_i o ho
              have h2 := finW_len h
              have h3 := codedR_len ho
              omega
          · cases h

set_option maxRecDepth 100000 in
set_option maxHeartbeats 8000000 in
theorem law_gets (v : Value) (B : List Int) (a : Int) (w : World) (hv : RdI .u8 w v B) (hb : ∀ x ∈ B, 0 ≤ x ∧ x ≤ 255) : Calls Tryz.prog 8 #[v, .int .i64 a] w (LawEnd w) := by
  obtain ⟨A0, n, cp0, rfl, hnl, -⟩ := hv.form
  by_cases hbig : 400 < n
  · clear hv hnl hb
    have h1 : (400 : Int) < (n : Int) := by omega
    go_enter Tryz.func8, Tryz.ntmps8
    go_wp2_with (go_at_call 12; go_loud (refine (works_true _).mono ?_; rintro e w9 ⟨rfl, kw⟩))
    go_ret
    exact ⟨rfl, kw.below⟩
  · have h1 : decide ((400 : Int) < (n : Int)) = false := decide_eq_false (by omega)
    have h1n : decide (400 < n) = false := decide_eq_false hbig
    by_cases ha0 : a < 0
    · clear hv hnl hb
      go_enter Tryz.func8, Tryz.ntmps8
      go_wp2_with (go_at_call 12; go_loud (refine (works_true _).mono ?_; rintro e w9 ⟨rfl, kw⟩))
      go_ret
      exact ⟨rfl, kw.below⟩
    · have ha0' : decide (a < 0) = false := decide_eq_false ha0
      by_cases han : (n : Int) < a
      · clear hv hnl hb
        go_enter Tryz.func8, Tryz.ntmps8
        go_wp2_with (go_at_call 12; go_loud (refine (works_true _).mono ?_; rintro e w9 ⟨rfl, kw⟩))
        go_ret
        exact ⟨rfl, kw.below⟩
      · obtain ⟨k, rfl⟩ := Int.eq_ofNat_of_zero_le (show 0 ≤ a by omega)
        have han' : decide ((n : Int) < (k : Int)) = false := decide_eq_false han
        have hann : decide (n < k) = false := decide_eq_false (by omega)
        have HNW := Lib.hid (new_any _ B w hv (by omega) hb)
        have hbE : bytesE B 0 (k : Int) = 0 := by unfold bytesE; rw [if_neg (by omega), if_neg (by omega)]
        have hbK : bytesK B 0 (k : Int) = k := by unfold bytesK; rw [if_pos hbE]; simp
        have HBY := Lib.hid (fun W p v' (cu : Cur W p v' B 0) => bytes_any p 0 (k : Int) v' B W cu)
        rw [hbE, hbK] at HBY
        unfold CurB at HBY
        have HDC := Lib.hid (fun W p v' (cu : Cur W p v' B k) => decode_any p k v' B W cu)
        have HRG := Lib.hid (fun W (kk : Keeps w W []) => r16get_any k _ B W (hv.keeps kk) (by omega) hb (by omega))
        have hgl : ∀ L K, getW B k = .ok (L, K) → L.length ≤ 1000 := fun L K h => getW_len h
        obtain ⟨Z, hZ⟩ : ∃ Z, getW B k = Z := ⟨_, rfl⟩
        rw [hZ] at HDC HRG hgl
        unfold DecAll at HDC
        unfold GtRef at HRG
        clear hv hnl hb hZ hbE hbK
        cases Z with
        | ok z =>
          obtain ⟨L, K⟩ := z
          have hLl := hgl L K rfl
          simp only at HDC HRG
          unfold DecEnd at HDC
          clear hgl
          go_enter Tryz.func8, Tryz.ntmps8
          go_wp2_with (first
            | (go_at_call 27; go_loud (refine HNW.out.mono ?_; rintro e w1 ⟨p, v', rfl, hp, cur1, k1⟩; have CUR1 := Lib.hid cur1; clear cur1))
            | (go_at_call 28; go_loud (refine (HBY.out _ _ _ CUR1.out).mono ?_; rintro e w2 ⟨r2, rfl, -, -, cur2, k2⟩; have CUR2 := Lib.hid cur2; have kk2 : Keeps w w2 [] := (k1.trans k2 (fun j hj hl => by have := List.mem_singleton.1 hj; omega)); clear cur2))
            | (go_at_call 29; go_loud (refine (HDC.out _ _ _ CUR2.out).mono ?_; rintro e w3 ⟨r, rfl, rd3, -, cur3, k3⟩; have CUR3 := Lib.hid cur3; have RD3 := Lib.hid rd3; have kk3 : Keeps w w3 [] := (kk2.trans k3 (fun j hj hl => by have := List.mem_singleton.1 hj; omega)); clear cur3 rd3 HDC))
            | (go_at_call 25; go_loud (refine (HRG.out _ kk3).mono ?_; rintro e w4 ⟨k4, r4, rfl, rd4⟩; have kk4 := kk3.then k4; have RD4 := Lib.hid rd4; have K4 := Lib.hid k4; clear rd4))
            | (go_at_call 29; go_loud (refine (decode_nil _).mono ?_; rintro e w5 ⟨⟨r5, rfl⟩, k5⟩; have kk5 := kk4.then k5; have K5 := Lib.hid k5))
            | (go_at_call 15; go_loud (refine (same_yes _ _ L _ ((RD3.out.keeps K4.out).keeps K5.out) (RD4.out.keeps K5.out) (by omega)).mono ?_; rintro e w6 ⟨rfl, m6, rfl⟩; have kk6 := kk5.drewN m6; have CUR6 := Lib.hid (((CUR3.out.keeps K4.out).keeps K5.out).keeps ((Keeps.refl _ []).drewN m6)); generalize World.drewN _ m6 = w6 at *))
            | (go_at_call 16; refine (no_any _ _).mono ?_; rintro e w' ⟨rfl, rfl⟩)
            | (go_at_call 30; go_loud (refine (at_any _ _ _ _ _ CUR6.out).mono ?_; rintro e w7 ⟨rfl, k7⟩; have kk7 := kk6.then k7))
            | (go_at_call 12; go_loud (refine (works_true _).mono ?_; rintro e w9 ⟨rfl, kw⟩)))
          go_ret
          exact ⟨rfl, (kk7.then kw).below⟩
        | error er =>
          simp only at HDC HRG
          unfold DecEnd at HDC
          clear hgl
          go_enter Tryz.func8, Tryz.ntmps8
          go_wp2_with (first
            | (go_at_call 27; go_loud (refine HNW.out.mono ?_; rintro e w1 ⟨p, v', rfl, hp, cur1, k1⟩; have CUR1 := Lib.hid cur1; clear cur1))
            | (go_at_call 28; go_loud (refine (HBY.out _ _ _ CUR1.out).mono ?_; rintro e w2 ⟨r2, rfl, -, -, cur2, k2⟩; have CUR2 := Lib.hid cur2; have kk2 : Keeps w w2 [] := (k1.trans k2 (fun j hj hl => by have := List.mem_singleton.1 hj; omega)); clear cur2))
            | (go_at_call 29; go_loud (refine (HDC.out _ _ _ CUR2.out).mono ?_; rintro e w3 ⟨K, r, rfl, rd3, -, cur3, k3⟩; have CUR3 := Lib.hid cur3; have RD3 := Lib.hid rd3; have kk3 : Keeps w w3 [] := (kk2.trans k3 (fun j hj hl => by have := List.mem_singleton.1 hj; omega)); clear cur3 rd3 HDC))
            | (go_at_call 25; go_loud (refine (HRG.out _ kk3).mono ?_; rintro e w4 ⟨k4, her, r4, N, rfl, rd4⟩; have kk4 := kk3.then k4; have her1 : (er != 0) = true := (by simpa using her); have her2 : (er != er) = false := (by simp); have RD4 := Lib.hid rd4; have K4 := Lib.hid k4; clear rd4))
            | (go_at_call 29; go_loud (refine (decode_nil _).mono ?_; rintro e w5 ⟨⟨r5, rfl⟩, k5⟩; have kk5 := kk4.then k5; have K5 := Lib.hid k5))
            | (go_at_call 15; go_loud (refine (same_yes _ _ [] _ ((RD3.out.keeps K4.out).keeps K5.out) (RD4.out.keeps K5.out) (by simp)).mono ?_; rintro e w6 ⟨rfl, m6, rfl⟩; have kk6 := kk5.drewN m6; have CUR6 := Lib.hid (((CUR3.out.keeps K4.out).keeps K5.out).keeps ((Keeps.refl _ []).drewN m6)); generalize World.drewN _ m6 = w6 at *))
            | (go_at_call 16; refine (no_any _ _).mono ?_; rintro e w' ⟨rfl, rfl⟩)
            | (go_at_call 30; go_loud (refine (at_any _ _ _ _ _ CUR6.out).mono ?_; rintro e w7 ⟨rfl, k7⟩; have kk7 := kk6.then k7))
            | (go_at_call 12; go_loud (refine (works_true _).mono ?_; rintro e w9 ⟨rfl, kw⟩)))
          go_ret
          exact ⟨rfl, (kk6.then kw).below⟩
end

section
set_option linter.unusedVariables false
set_option linter.unusedSimpArgs false
set_option linter.unusedSectionVars false
open Go.ChangeShapes Go.WideShapes Go.ChangeAt Go.RowKit Go.Joins

section
variable {H : Type} {enc : TypeId × Value → H} {P : Program} {w : World} {base : Nat} {spare : Nat → Bool} {held : Bool}

theorem int_bounds {n : Int} (h : (Lit.int .i64 n).wf = true) : -9223372036854775808 ≤ n ∧ n ≤ 9223372036854775807 := by
  simp [Lit.wf, IntKind.min, IntKind.max, IntKind.signed, IntKind.bits] at h
  omega

theorem okWide_array {t e : TypeId} {n : Nat} {r : Reach} {b : Nat} {v : Value} (ht : P.underlying t = some (.array n e)) (h : Value.okWide P w r b t v) : ∃ cs, v = .agg cs ∧ cs.size = P.cellsOf t := by
  simp only [Value.okWide, ht] at h
  obtain ⟨cs, h1, h2, _⟩ := h
  exact ⟨cs, h1, h2⟩

theorem trod_arr3 {t e : TypeId} {fuel : Nat} {cs : List Value} {x : DataW H × List MemPlace} (ht : P.underlying t = some (.array 3 e)) (he : P.underlying e = some (.int .i64)) (hC : P.cellsOf t = 3) (hE : P.cellsOf e = 1)
    (h : DataW.trod enc P w base spare held fuel t cs = some x) :
    ∃ a b c : Int, cs = [.int .i64 a, .int .i64 b, .int .i64 c] ∧ (Lit.int .i64 a).wf = true ∧ (Lit.int .i64 b).wf = true ∧ (Lit.int .i64 c).wf = true := by
  obtain ⟨xs, m, _, _, hl, hn, hx⟩ := DataW.trod_array ht h
  rw [hE] at hx
  have hlen : cs.length = 3 := by rw [hl, hC]
  have h0 := hx 0 (by omega)
  have h1 := hx 1 (by omega)
  have h2 := hx 2 (by omega)
  match cs, hlen with
  | [c0, c1, c2], _ =>
    match xs, hn with
    | [x0, x1, x2], _ =>
      obtain ⟨a, ea, _, wa⟩ := DataW.trod_int he h0
      obtain ⟨b, eb, _, wb⟩ := DataW.trod_int he h1
      obtain ⟨c, ec, _, wc⟩ := DataW.trod_int he h2
      simp at ea eb ec
      exact ⟨a, b, c, by rw [ea, eb, ec], wa, wb, wc⟩

theorem open_arr3 {t e : TypeId} {r : Reach} {b0 : Nat} {v : Value} {d : DataW H} {p : List MemPlace} (ht : P.underlying t = some (.array 3 e)) (he : P.underlying e = some (.int .i64)) (hC : P.cellsOf t = 3) (hE : P.cellsOf e = 1)
    (hv : Value.okWide P w r b0 t v) (h : DataW.Trod enc P w base spare held t v d p) :
    ∃ a b c : Int, v = .agg #[.int .i64 a, .int .i64 b, .int .i64 c] ∧ (Lit.int .i64 a).wf = true ∧ (Lit.int .i64 b).wf = true ∧ (Lit.int .i64 c).wf = true := by
  obtain ⟨cs, rfl, hsz⟩ := okWide_array ht hv
  obtain ⟨fuel, hf⟩ := h
  obtain ⟨a, b, c, hcs, h1⟩ := trod_arr3 ht he hC hE hf
  refine ⟨a, b, c, ?_, h1⟩
  have : cs.toList = [.int .i64 a, .int .i64 b, .int .i64 c] := hcs
  rw [← Array.toArray_toList (xs := cs), this]

theorem trod_str3 {t e : TypeId} {f0 f1 f2 : Field} {fuel : Nat} {cs : List Value} {x : DataW H × List MemPlace} (hs : P.underlying t = some (.struct #[f0, f1, f2])) (he : P.underlying e = some (.int .i64)) (hC : P.cellsOf t = 3) (hE : P.cellsOf e = 1)
    (t0 : f0.type = e) (t1 : f1.type = e) (t2 : f2.type = e) (o0 : f0.offset = 0) (o1 : f1.offset = 1) (o2 : f2.offset = 2)
    (h : DataW.trod enc P w base spare held fuel t cs = some x) :
    ∃ a b c : Int, cs = [.int .i64 a, .int .i64 b, .int .i64 c] ∧ (Lit.int .i64 a).wf = true ∧ (Lit.int .i64 b).wf = true ∧ (Lit.int .i64 c).wf = true := by
  obtain ⟨xs, m, _, _, hl, hn, hx⟩ := DataW.trod_struct hs h
  have hlen : cs.length = 3 := by rw [hl, hC]
  match cs, hlen with
  | [c0, c1, c2], _ =>
    match xs, hn with
    | [x0, x1, x2], _ =>
      have h0 := hx 0 f0 rfl
      have h1 := hx 1 f1 rfl
      have h2 := hx 2 f2 rfl
      rw [t0, hE, o0] at h0
      rw [t1, hE, o1] at h1
      rw [t2, hE, o2] at h2
      obtain ⟨a, ea, _, wa⟩ := DataW.trod_int he h0
      obtain ⟨b, eb, _, wb⟩ := DataW.trod_int he h1
      obtain ⟨c, ec, _, wc⟩ := DataW.trod_int he h2
      simp at ea eb ec
      exact ⟨a, b, c, by rw [ea, eb, ec], wa, wb, wc⟩

theorem open_str3 {t e : TypeId} {f0 f1 f2 : Field} {r : Reach} {b0 : Nat} {v : Value} {d : DataW H} {p : List MemPlace} (hs : P.underlying t = some (.struct #[f0, f1, f2])) (he : P.underlying e = some (.int .i64)) (hC : P.cellsOf t = 3) (hE : P.cellsOf e = 1)
    (t0 : f0.type = e) (t1 : f1.type = e) (t2 : f2.type = e) (o0 : f0.offset = 0) (o1 : f1.offset = 1) (o2 : f2.offset = 2)
    (hv : Value.okWide P w r b0 t v) (h : DataW.Trod enc P w base spare held t v d p) :
    ∃ a b c : Int, v = .agg #[.int .i64 a, .int .i64 b, .int .i64 c] ∧ (Lit.int .i64 a).wf = true ∧ (Lit.int .i64 b).wf = true ∧ (Lit.int .i64 c).wf = true := by
  obtain ⟨cs, rfl, hsz⟩ := okWide_struct hs hv
  obtain ⟨fuel, hf⟩ := h
  obtain ⟨a, b, c, hcs, h1⟩ := trod_str3 hs he hC hE t0 t1 t2 o0 o1 o2 hf
  refine ⟨a, b, c, ?_, h1⟩
  have : cs.toList = [.int .i64 a, .int .i64 b, .int .i64 c] := hcs
  rw [← Array.toArray_toList (xs := cs), this]
end
end

section
set_option linter.unusedVariables false
set_option linter.unusedSimpArgs false
open Go.ChangeShapes Go.WideShapes Go.ChangeAt Go.RowKit Go.Joins

set_option maxRecDepth 100000 in
theorem weightsGets_lifted (os : Os) (started : os.Started) (H : Type) (enc : TypeId × Value → H) :
    ReturnsInHanded {} Tryz.checked os 8 .any (Rows.weightsGetsSpec.pre6 enc Tryz.prog Tryz.f8 Rows.weightsGetsRow.domain false) (Rows.weightsGetsSpec.post enc Tryz.prog Tryz.f8 false true false false) :=
  returnsInHanded_of_change (C := Tryz.checked) Tryz.own started (by kernel_rfl) Tryz.func8
    (ChangeSpec.witness6 (enc := enc) (C := Tryz.checked) false ⟨#[], #[.slice none 0 0, .int .i64 0], []⟩ 8 (by kernel_rfl) (by kernel_rfl) (by kernel_rfl) (by kernel_rfl))
    (law_contract (C := Tryz.checked) Tryz.laidOut rfl
      (fun ds hd => by
        match ds, hd with
        | [d1, d2], _ => rfl)
      (fun t ht => by
        have : t = 36 ∨ t = 3 := by first | (simpa [Tryz.params8] using ht) | (have h9 := ht; simp [Tryz.params8] at h9; (repeat' (rcases h9 with h9 | h9)) <;> simp)
        rcases this with rfl | rfl <;> exact ⟨by kernel_rfl, of_decide_eq_true (by kernel_rfl)⟩)
      (tb := 4) rfl Tryz.underlying4
      (fun W base args ds ps hval0 hA0 hlt hnf => by
        have hval : ∀ (j : Nat) t v, Tryz.f8.params[j]? = some t → args[j]? = some v → Value.okWide Tryz.prog W .any base t v := hval0
        have hA : DataW.TrodAll enc Tryz.prog W 0 (fun _ => true) true Tryz.f8.params.toList args.toList ds ps := hA0
        rw [Tryz.params8] at hA hval
        obtain ⟨v0, v1, d0, d1, p0, p1, rfl, rfl, rfl, h0, h1⟩ := trodAll_two hA
        obtain ⟨b, hb, hb'⟩ := open_nums Tryz.underlying36 Tryz.underlying5 (by kernel_rfl) (slice_cells Tryz.underlying36 (hval 0 36 v0 rfl rfl)) h0
        obtain ⟨a, rfl, -, -, aw⟩ := open_int Tryz.underlying3 (hval 1 3 v1 rfl rfl) h1
        exact law_gets v0 b a W hb (fun x hx => u8_bounds (hb' x hx))))

theorem weightsGets_holds : Rows.WeightsGetsSaid :=
  OpenClaim.holds_of_wide 8 Tryz.f8 rfl rfl rfl rfl rfl rfl rfl ⟨rfl, rfl, rfl, rfl, rfl⟩ rfl rfl rfl rfl rfl (by kernel_rfl) Tryz.func8 (by kernel_rfl)
    (of_decide_eq_true (by kernel_rfl)) (by unfold Func.isWrapper; first | (rw [if_pos (by decide +kernel)]; kernel_rfl) | (rw [if_neg (by decide +kernel)]; exact ⟨rfl, rfl⟩))
    (fun os started H enc _ => weightsGets_lifted os started H enc)

#print axioms weightsGets_holds
end

end Go.Proofs.YtophgpnnjphnmaaGreat
