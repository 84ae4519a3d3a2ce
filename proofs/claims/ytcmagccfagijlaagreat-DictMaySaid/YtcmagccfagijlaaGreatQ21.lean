/-
  Walks over package dict: plain, Valid, at a raw dictionary. (Printed by mkDG.py.)
-/
import Derived.Test.YtcmagccfagijlaaGreatQ20
import Derived.Test.YtcmagccfagijlaaGreatQ13
namespace Go.Proofs.YtcmagccfagijlaaGreat
set_option linter.unusedVariables false
set_option linter.unusedSimpArgs false
set_option linter.unusedSectionVars false
open Go.RowKit

theorem plain1_any (w : World) : Calls Tryz.prog 69 #[.agg #[.int .i64 0, nilV]] w fun e w' => e = .returned (.bool true) ∧ Keeps w w' [] := by
  go_enter Tryz.func69, Tryz.ntmps69
  go_wp2_with fail
  go_ret
  exact ⟨rfl, (Keeps.refl _ _).alloc _⟩

set_option maxRecDepth 100000 in
set_option maxHeartbeats 8000000 in
theorem plain_raw (x : Value) (X : List Int) (w : World) (hx : RdI .u8 w x X) (hX : ∀ y ∈ X, 0 ≤ y ∧ y ≤ 255) (hn : X.length ≤ 1000000) (hm : markB X = false) :
    Calls Tryz.prog 36 #[.agg (rawC x)] w fun e w' => e = .returned (.bool true) ∧ Keeps w w' [] := by
  have HM := Lib.hid (fun w1 (k : Keeps w w1 []) => marked_any x X w1 (hx.keeps k) hX)
  rw [hm] at HM
  obtain ⟨xa, xm, xc, rfl, hxm, -⟩ := hx.form
  have hlen : (xm : Int) ≤ 134217728 := by omega
  have h3q := fun w1 => eq_three 1 4 8 1 4 8 w1
  simp only [BEq.rfl, Bool.and_true] at h3q
  have z0 := (Blk.new w (rawC (.slice xa xm xc)) 32).alloc (.cells #[nilV, .int .i64 0, nilV, .int .i64 0, nilV, .int .i64 0, nilV, .int .i64 1, .int .i64 4, .int .i64 8] 30)
  have z1 := Blk.new (w.alloc (.cells (rawC (.slice xa xm xc)) 32)) #[nilV, .int .i64 0, nilV, .int .i64 0, nilV, .int .i64 0, nilV, .int .i64 1, .int .i64 4, .int .i64 8] 30
  have zk : Keeps w ((w.alloc (.cells (rawC (.slice xa xm xc)) 32)).alloc (.cells #[nilV, .int .i64 0, nilV, .int .i64 0, nilV, .int .i64 0, nilV, .int .i64 1, .int .i64 4, .int .i64 8] 30)) [] := ((Keeps.refl w []).alloc _).alloc _
  simp only [World.size_alloc] at z1
  clear hx hX hn hm hxm
  go_enter Tryz.func36, Tryz.ntmps36
  go_wp2_with fail
  generalize ((w.alloc (.cells (rawC (.slice xa xm xc)) 32)).alloc (.cells #[nilV, .int .i64 0, nilV, .int .i64 0, nilV, .int .i64 0, nilV, .int .i64 1, .int .i64 4, .int .i64 8] 30)) = W at *
  refine wp_region_held_drew (S := (fun w' => Blk w' (w.heap.size + 1) #[nilV, .int .i64 0, nilV, .int .i64 0, nilV, .int .i64 0, nilV, .int .i64 1, .int .i64 4, .int .i64 8] 30 ∧ Blk w' w.heap.size (rawC (.slice xa xm xc)) 32 ∧ Keeps w w' [])) (by kernel_rfl) ⟨z1.drew, z0.drew, zk.drew⟩ (fun hHeld => ?_)
  refine takeL (i := 0) (v := ?_) rfl (by kernel_rfl) (by kernel_rfl) (by kernel_rfl) (fun _ _ _ h => h) (by rfl) ?_ (by assumption) ?_
  rotate_left
  · (intro w9 hSw; obtain ⟨hS1, hS2, -⟩ := hSw; have q0 : w9.cell? ⟨w.heap.size + 1, 0, none⟩ = some nilV := hS1.cell 0; obtain ⟨q1, q2, q3, q4, q5, q6, q7, q8, q9⟩ := ctx_cells hS1; have q11 := dict_cell11 hS2; clear hS1 hS2; go_simp; (try with_reducible rfl))
  try simp only [Act.put, List.setIfInBounds_toArray, List.set_cons_zero, List.set_cons_succ]
  refine takeL (i := 1) (v := ?_) rfl (by kernel_rfl) (by kernel_rfl) (by kernel_rfl) (fun _ _ _ h => h) (by rfl) ?_ (by assumption) ?_
  rotate_left
  · (intro w9 hSw; obtain ⟨hS1, hS2, -⟩ := hSw; have q0 : w9.cell? ⟨w.heap.size + 1, 0, none⟩ = some nilV := hS1.cell 0; obtain ⟨q1, q2, q3, q4, q5, q6, q7, q8, q9⟩ := ctx_cells hS1; have q11 := dict_cell11 hS2; clear hS1 hS2; go_simp; (try with_reducible rfl))
  try simp only [Act.put, List.setIfInBounds_toArray, List.set_cons_zero, List.set_cons_succ]
  refine takeL (i := 2) (v := ?_) rfl (by kernel_rfl) (by kernel_rfl) (by kernel_rfl) (fun _ _ _ h => h) (by rfl) ?_ (by assumption) ?_
  rotate_left
  · (intro w9 hSw; obtain ⟨hS1, hS2, -⟩ := hSw; have q0 : w9.cell? ⟨w.heap.size + 1, 0, none⟩ = some nilV := hS1.cell 0; obtain ⟨q1, q2, q3, q4, q5, q6, q7, q8, q9⟩ := ctx_cells hS1; have q11 := dict_cell11 hS2; clear hS1 hS2; go_simp; (try with_reducible rfl))
  try simp only [Act.put, List.setIfInBounds_toArray, List.set_cons_zero, List.set_cons_succ]
  refine takeL (i := 3) (v := ?_) rfl (by kernel_rfl) (by kernel_rfl) (by kernel_rfl) (fun _ _ _ h => h) (by rfl) ?_ (by assumption) ?_
  rotate_left
  · (intro w9 hSw; obtain ⟨hS1, hS2, -⟩ := hSw; have q0 : w9.cell? ⟨w.heap.size + 1, 0, none⟩ = some nilV := hS1.cell 0; obtain ⟨q1, q2, q3, q4, q5, q6, q7, q8, q9⟩ := ctx_cells hS1; have q11 := dict_cell11 hS2; clear hS1 hS2; go_simp; (try with_reducible rfl))
  try simp only [Act.put, List.setIfInBounds_toArray, List.set_cons_zero, List.set_cons_succ]
  refine takeL (i := 4) (v := ?_) rfl (by kernel_rfl) (by kernel_rfl) (by kernel_rfl) (fun _ _ _ h => h) (by rfl) ?_ (by assumption) ?_
  rotate_left
  · (intro w9 hSw; obtain ⟨hS1, hS2, -⟩ := hSw; have q0 : w9.cell? ⟨w.heap.size + 1, 0, none⟩ = some nilV := hS1.cell 0; obtain ⟨q1, q2, q3, q4, q5, q6, q7, q8, q9⟩ := ctx_cells hS1; have q11 := dict_cell11 hS2; clear hS1 hS2; go_simp; (try with_reducible rfl))
  try simp only [Act.put, List.setIfInBounds_toArray, List.set_cons_zero, List.set_cons_succ]
  refine takeL (i := 5) (v := ?_) rfl (by kernel_rfl) (by kernel_rfl) (by kernel_rfl) (fun _ _ _ h => h) (by rfl) ?_ (by assumption) ?_
  rotate_left
  · (intro w9 hSw; obtain ⟨hS1, hS2, -⟩ := hSw; have q0 : w9.cell? ⟨w.heap.size + 1, 0, none⟩ = some nilV := hS1.cell 0; obtain ⟨q1, q2, q3, q4, q5, q6, q7, q8, q9⟩ := ctx_cells hS1; have q11 := dict_cell11 hS2; clear hS1 hS2; go_simp; (try with_reducible rfl))
  try simp only [Act.put, List.setIfInBounds_toArray, List.set_cons_zero, List.set_cons_succ]
  refine takeL (i := 6) (v := ?_) rfl (by kernel_rfl) (by kernel_rfl) (by kernel_rfl) (fun _ _ _ h => h) (by rfl) ?_ (by assumption) ?_
  rotate_left
  · (intro w9 hSw; obtain ⟨hS1, hS2, -⟩ := hSw; have q0 : w9.cell? ⟨w.heap.size + 1, 0, none⟩ = some nilV := hS1.cell 0; obtain ⟨q1, q2, q3, q4, q5, q6, q7, q8, q9⟩ := ctx_cells hS1; have q11 := dict_cell11 hS2; clear hS1 hS2; go_simp; (try with_reducible rfl))
  try simp only [Act.put, List.setIfInBounds_toArray, List.set_cons_zero, List.set_cons_succ]
  refine takeL (i := 7) (v := ?_) rfl (by kernel_rfl) (by kernel_rfl) (by kernel_rfl) (fun _ _ _ h => h) (by rfl) ?_ (by assumption) ?_
  rotate_left
  · (intro w9 hSw; obtain ⟨hS1, hS2, -⟩ := hSw; have q0 : w9.cell? ⟨w.heap.size + 1, 0, none⟩ = some nilV := hS1.cell 0; obtain ⟨q1, q2, q3, q4, q5, q6, q7, q8, q9⟩ := ctx_cells hS1; have q11 := dict_cell11 hS2; clear hS1 hS2; go_simp; (try with_reducible rfl))
  try simp only [Act.put, List.setIfInBounds_toArray, List.set_cons_zero, List.set_cons_succ]
  refine callL (i := 8) rfl (by kernel_rfl) (fun Kont hK => ?_)
  go_simp
  go_at_call 69; refine (plain1_any _).mono ?_; rintro e w2 ⟨rfl, kk⟩
  go_wp2_with fail
  refine hK.out _ _ ?_ (fun hHeld => ?_)
  · (exact ⟨hHeld.1.keeps kk (by simp), hHeld.2.1.keeps kk (by simp), hHeld.2.2.then kk⟩)
  clear hK Kont
  refine takeL (i := 9) (v := ?_) rfl (by kernel_rfl) (by kernel_rfl) (by kernel_rfl) (fun _ _ _ h => h) (by rfl) ?_ (by assumption) ?_
  rotate_left
  · (intro w9 hSw; obtain ⟨hS1, hS2, -⟩ := hSw; have q0 : w9.cell? ⟨w.heap.size + 1, 0, none⟩ = some nilV := hS1.cell 0; obtain ⟨q1, q2, q3, q4, q5, q6, q7, q8, q9⟩ := ctx_cells hS1; have q11 := dict_cell11 hS2; clear hS1 hS2; go_simp; (try with_reducible rfl))
  try simp only [Act.put, List.setIfInBounds_toArray, List.set_cons_zero, List.set_cons_succ]
  refine takeL (i := 10) (v := ?_) rfl (by kernel_rfl) (by kernel_rfl) (by kernel_rfl) (fun _ _ _ h => h) (by rfl) ?_ (by assumption) ?_
  rotate_left
  · (intro w9 hSw; obtain ⟨hS1, hS2, -⟩ := hSw; have q0 : w9.cell? ⟨w.heap.size + 1, 0, none⟩ = some nilV := hS1.cell 0; obtain ⟨q1, q2, q3, q4, q5, q6, q7, q8, q9⟩ := ctx_cells hS1; have q11 := dict_cell11 hS2; clear hS1 hS2; go_simp; (try with_reducible rfl))
  try simp only [Act.put, List.setIfInBounds_toArray, List.set_cons_zero, List.set_cons_succ]
  refine takeL (i := 11) (v := ?_) rfl (by kernel_rfl) (by kernel_rfl) (by kernel_rfl) (fun _ _ _ h => h) (by rfl) ?_ (by assumption) ?_
  rotate_left
  · (intro w9 hSw; obtain ⟨hS1, hS2, -⟩ := hSw; have q0 : w9.cell? ⟨w.heap.size + 1, 0, none⟩ = some nilV := hS1.cell 0; obtain ⟨q1, q2, q3, q4, q5, q6, q7, q8, q9⟩ := ctx_cells hS1; have q11 := dict_cell11 hS2; clear hS1 hS2; go_simp; (try with_reducible rfl))
  try simp only [Act.put, List.setIfInBounds_toArray, List.set_cons_zero, List.set_cons_succ]
  refine takeL (i := 12) (v := ?_) rfl (by kernel_rfl) (by kernel_rfl) (by kernel_rfl) (fun _ _ _ h => h) (by rfl) ?_ (by assumption) ?_
  rotate_left
  · (intro w9 hSw; obtain ⟨hS1, hS2, -⟩ := hSw; have q0 : w9.cell? ⟨w.heap.size + 1, 0, none⟩ = some nilV := hS1.cell 0; obtain ⟨q1, q2, q3, q4, q5, q6, q7, q8, q9⟩ := ctx_cells hS1; have q11 := dict_cell11 hS2; clear hS1 hS2; go_simp; (try with_reducible rfl))
  try simp only [Act.put, List.setIfInBounds_toArray, List.set_cons_zero, List.set_cons_succ]
  refine takeL (i := 13) (v := ?_) rfl (by kernel_rfl) (by kernel_rfl) (by kernel_rfl) (fun _ _ _ h => h) (by rfl) ?_ (by assumption) ?_
  rotate_left
  · (intro w9 hSw; obtain ⟨hS1, hS2, -⟩ := hSw; have q0 : w9.cell? ⟨w.heap.size + 1, 0, none⟩ = some nilV := hS1.cell 0; obtain ⟨q1, q2, q3, q4, q5, q6, q7, q8, q9⟩ := ctx_cells hS1; have q11 := dict_cell11 hS2; clear hS1 hS2; go_simp; (try with_reducible rfl))
  try simp only [Act.put, List.setIfInBounds_toArray, List.set_cons_zero, List.set_cons_succ]
  refine callL (i := 14) rfl (by kernel_rfl) (fun Kont hK => ?_)
  go_simp
  go_at_call 69; refine (plain1_any _).mono ?_; rintro e w2 ⟨rfl, kk⟩
  go_wp2_with fail
  refine hK.out _ _ ?_ (fun hHeld => ?_)
  · (exact ⟨hHeld.1.keeps kk (by simp), hHeld.2.1.keeps kk (by simp), hHeld.2.2.then kk⟩)
  clear hK Kont
  refine takeL (i := 15) (v := ?_) rfl (by kernel_rfl) (by kernel_rfl) (by kernel_rfl) (fun _ _ _ h => h) (by rfl) ?_ (by assumption) ?_
  rotate_left
  · (intro w9 hSw; obtain ⟨hS1, hS2, -⟩ := hSw; have q0 : w9.cell? ⟨w.heap.size + 1, 0, none⟩ = some nilV := hS1.cell 0; obtain ⟨q1, q2, q3, q4, q5, q6, q7, q8, q9⟩ := ctx_cells hS1; have q11 := dict_cell11 hS2; clear hS1 hS2; go_simp; (try with_reducible rfl))
  try simp only [Act.put, List.setIfInBounds_toArray, List.set_cons_zero, List.set_cons_succ]
  refine takeL (i := 16) (v := ?_) rfl (by kernel_rfl) (by kernel_rfl) (by kernel_rfl) (fun _ _ _ h => h) (by rfl) ?_ (by assumption) ?_
  rotate_left
  · (intro w9 hSw; obtain ⟨hS1, hS2, -⟩ := hSw; have q0 : w9.cell? ⟨w.heap.size + 1, 0, none⟩ = some nilV := hS1.cell 0; obtain ⟨q1, q2, q3, q4, q5, q6, q7, q8, q9⟩ := ctx_cells hS1; have q11 := dict_cell11 hS2; clear hS1 hS2; go_simp; (try with_reducible rfl))
  try simp only [Act.put, List.setIfInBounds_toArray, List.set_cons_zero, List.set_cons_succ]
  refine takeL (i := 17) (v := ?_) rfl (by kernel_rfl) (by kernel_rfl) (by kernel_rfl) (fun _ _ _ h => h) (by rfl) ?_ (by assumption) ?_
  rotate_left
  · (intro w9 hSw; obtain ⟨hS1, hS2, -⟩ := hSw; have q0 : w9.cell? ⟨w.heap.size + 1, 0, none⟩ = some nilV := hS1.cell 0; obtain ⟨q1, q2, q3, q4, q5, q6, q7, q8, q9⟩ := ctx_cells hS1; have q11 := dict_cell11 hS2; clear hS1 hS2; go_simp; (try with_reducible rfl))
  try simp only [Act.put, List.setIfInBounds_toArray, List.set_cons_zero, List.set_cons_succ]
  refine takeL (i := 18) (v := ?_) rfl (by kernel_rfl) (by kernel_rfl) (by kernel_rfl) (fun _ _ _ h => h) (by rfl) ?_ (by assumption) ?_
  rotate_left
  · (intro w9 hSw; obtain ⟨hS1, hS2, -⟩ := hSw; have q0 : w9.cell? ⟨w.heap.size + 1, 0, none⟩ = some nilV := hS1.cell 0; obtain ⟨q1, q2, q3, q4, q5, q6, q7, q8, q9⟩ := ctx_cells hS1; have q11 := dict_cell11 hS2; clear hS1 hS2; go_simp; (try with_reducible rfl))
  try simp only [Act.put, List.setIfInBounds_toArray, List.set_cons_zero, List.set_cons_succ]
  refine takeL (i := 19) (v := ?_) rfl (by kernel_rfl) (by kernel_rfl) (by kernel_rfl) (fun _ _ _ h => h) (by rfl) ?_ (by assumption) ?_
  rotate_left
  · (intro w9 hSw; obtain ⟨hS1, hS2, -⟩ := hSw; have q0 : w9.cell? ⟨w.heap.size + 1, 0, none⟩ = some nilV := hS1.cell 0; obtain ⟨q1, q2, q3, q4, q5, q6, q7, q8, q9⟩ := ctx_cells hS1; have q11 := dict_cell11 hS2; clear hS1 hS2; go_simp; (try with_reducible rfl))
  try simp only [Act.put, List.setIfInBounds_toArray, List.set_cons_zero, List.set_cons_succ]
  refine callL (i := 20) rfl (by kernel_rfl) (fun Kont hK => ?_)
  go_simp
  go_at_call 69; refine (plain1_any _).mono ?_; rintro e w2 ⟨rfl, kk⟩
  go_wp2_with fail
  refine hK.out _ _ ?_ (fun hHeld => ?_)
  · (exact ⟨hHeld.1.keeps kk (by simp), hHeld.2.1.keeps kk (by simp), hHeld.2.2.then kk⟩)
  clear hK Kont
  refine takeL (i := 21) (v := ?_) rfl (by kernel_rfl) (by kernel_rfl) (by kernel_rfl) (fun _ _ _ h => h) (by rfl) ?_ (by assumption) ?_
  rotate_left
  · (intro w9 hSw; obtain ⟨hS1, hS2, -⟩ := hSw; have q0 : w9.cell? ⟨w.heap.size + 1, 0, none⟩ = some nilV := hS1.cell 0; obtain ⟨q1, q2, q3, q4, q5, q6, q7, q8, q9⟩ := ctx_cells hS1; have q11 := dict_cell11 hS2; clear hS1 hS2; go_simp; (try with_reducible rfl))
  try simp only [Act.put, List.setIfInBounds_toArray, List.set_cons_zero, List.set_cons_succ]
  refine takeL (i := 22) (v := ?_) rfl (by kernel_rfl) (by kernel_rfl) (by kernel_rfl) (fun _ _ _ h => h) (by rfl) ?_ (by assumption) ?_
  rotate_left
  · (intro w9 hSw; obtain ⟨hS1, hS2, -⟩ := hSw; have q0 : w9.cell? ⟨w.heap.size + 1, 0, none⟩ = some nilV := hS1.cell 0; obtain ⟨q1, q2, q3, q4, q5, q6, q7, q8, q9⟩ := ctx_cells hS1; have q11 := dict_cell11 hS2; clear hS1 hS2; go_simp; (try with_reducible rfl))
  try simp only [Act.put, List.setIfInBounds_toArray, List.set_cons_zero, List.set_cons_succ]
  refine takeL (i := 23) (v := ?_) rfl (by kernel_rfl) (by kernel_rfl) (by kernel_rfl) (fun _ _ _ h => h) (by rfl) ?_ (by assumption) ?_
  rotate_left
  · (intro w9 hSw; obtain ⟨hS1, hS2, -⟩ := hSw; have q0 : w9.cell? ⟨w.heap.size + 1, 0, none⟩ = some nilV := hS1.cell 0; obtain ⟨q1, q2, q3, q4, q5, q6, q7, q8, q9⟩ := ctx_cells hS1; have q11 := dict_cell11 hS2; clear hS1 hS2; go_simp; (try with_reducible rfl))
  try simp only [Act.put, List.setIfInBounds_toArray, List.set_cons_zero, List.set_cons_succ]
  refine takeL (i := 24) (v := ?_) rfl (by kernel_rfl) (by kernel_rfl) (by kernel_rfl) (fun _ _ _ h => h) (by rfl) ?_ (by assumption) ?_
  rotate_left
  · (intro w9 hSw; obtain ⟨hS1, hS2, -⟩ := hSw; have q0 : w9.cell? ⟨w.heap.size + 1, 0, none⟩ = some nilV := hS1.cell 0; obtain ⟨q1, q2, q3, q4, q5, q6, q7, q8, q9⟩ := ctx_cells hS1; have q11 := dict_cell11 hS2; clear hS1 hS2; go_simp; (try with_reducible rfl))
  try simp only [Act.put, List.setIfInBounds_toArray, List.set_cons_zero, List.set_cons_succ]
  refine callL (i := 25) rfl (by kernel_rfl) (fun Kont hK => ?_)
  go_simp
  go_at_call 32; refine (first_any _).mono ?_; rintro e w2 ⟨rfl, kk⟩
  go_wp2_with fail
  refine hK.out _ _ ?_ (fun hHeld => ?_)
  · (exact ⟨hHeld.1.keeps kk (by simp), hHeld.2.1.keeps kk (by simp), hHeld.2.2.then kk⟩)
  clear hK Kont
  refine takeL (i := 26) (v := ?_) rfl (by kernel_rfl) (by kernel_rfl) (by kernel_rfl) (fun _ _ _ h => h) (by rfl) ?_ (by assumption) ?_
  rotate_left
  · (intro w9 hSw; obtain ⟨hS1, hS2, -⟩ := hSw; have q0 : w9.cell? ⟨w.heap.size + 1, 0, none⟩ = some nilV := hS1.cell 0; obtain ⟨q1, q2, q3, q4, q5, q6, q7, q8, q9⟩ := ctx_cells hS1; have q11 := dict_cell11 hS2; clear hS1 hS2; go_simp; (try with_reducible rfl))
  try simp only [Act.put, List.setIfInBounds_toArray, List.set_cons_zero, List.set_cons_succ]
  refine takeL (i := 27) (v := ?_) rfl (by kernel_rfl) (by kernel_rfl) (by kernel_rfl) (fun _ _ _ h => h) (by rfl) ?_ (by assumption) ?_
  rotate_left
  · (intro w9 hSw; obtain ⟨hS1, hS2, -⟩ := hSw; have q0 : w9.cell? ⟨w.heap.size + 1, 0, none⟩ = some nilV := hS1.cell 0; obtain ⟨q1, q2, q3, q4, q5, q6, q7, q8, q9⟩ := ctx_cells hS1; have q11 := dict_cell11 hS2; clear hS1 hS2; go_simp; (try with_reducible rfl))
  try simp only [Act.put, List.setIfInBounds_toArray, List.set_cons_zero, List.set_cons_succ]
  refine takeL (i := 28) (v := ?_) rfl (by kernel_rfl) (by kernel_rfl) (by kernel_rfl) (fun _ _ _ h => h) (by rfl) ?_ (by assumption) ?_
  rotate_left
  · (intro w9 hSw; obtain ⟨hS1, hS2, -⟩ := hSw; have q0 : w9.cell? ⟨w.heap.size + 1, 0, none⟩ = some nilV := hS1.cell 0; obtain ⟨q1, q2, q3, q4, q5, q6, q7, q8, q9⟩ := ctx_cells hS1; have q11 := dict_cell11 hS2; clear hS1 hS2; go_simp; (try with_reducible rfl))
  try simp only [Act.put, List.setIfInBounds_toArray, List.set_cons_zero, List.set_cons_succ]
  refine takeL (i := 29) (v := ?_) rfl (by kernel_rfl) (by kernel_rfl) (by kernel_rfl) (fun _ _ _ h => h) (by rfl) ?_ (by assumption) ?_
  rotate_left
  · (intro w9 hSw; obtain ⟨hS1, hS2, -⟩ := hSw; have q0 : w9.cell? ⟨w.heap.size + 1, 0, none⟩ = some nilV := hS1.cell 0; obtain ⟨q1, q2, q3, q4, q5, q6, q7, q8, q9⟩ := ctx_cells hS1; have q11 := dict_cell11 hS2; clear hS1 hS2; go_simp; (try with_reducible rfl))
  try simp only [Act.put, List.setIfInBounds_toArray, List.set_cons_zero, List.set_cons_succ]
  refine takeL (i := 30) (v := ?_) rfl (by kernel_rfl) (by kernel_rfl) (by kernel_rfl) (fun _ _ _ h => h) (by rfl) ?_ (by assumption) ?_
  rotate_left
  · (intro w9 hSw; obtain ⟨hS1, hS2, -⟩ := hSw; have q0 : w9.cell? ⟨w.heap.size + 1, 0, none⟩ = some nilV := hS1.cell 0; obtain ⟨q1, q2, q3, q4, q5, q6, q7, q8, q9⟩ := ctx_cells hS1; have q11 := dict_cell11 hS2; clear hS1 hS2; go_simp; (try with_reducible rfl))
  try simp only [Act.put, List.setIfInBounds_toArray, List.set_cons_zero, List.set_cons_succ]
  refine callL (i := 31) rfl (by kernel_rfl) (fun Kont hK => ?_)
  go_simp
  go_at_call 31; refine (HM.out _ hHeld.2.2).mono ?_; rintro e w2 ⟨rfl, kk⟩
  go_wp2_with fail
  refine hK.out _ _ ?_ (fun hHeld => ?_)
  · (exact ⟨hHeld.1.keeps kk (by simp), hHeld.2.1.keeps kk (by simp), hHeld.2.2.then kk⟩)
  clear hK Kont
  refine takeL (i := 32) (v := ?_) rfl (by kernel_rfl) (by kernel_rfl) (by kernel_rfl) (fun _ _ _ h => h) (by rfl) ?_ (by assumption) ?_
  rotate_left
  · (intro w9 hSw; obtain ⟨hS1, hS2, -⟩ := hSw; have q0 : w9.cell? ⟨w.heap.size + 1, 0, none⟩ = some nilV := hS1.cell 0; obtain ⟨q1, q2, q3, q4, q5, q6, q7, q8, q9⟩ := ctx_cells hS1; have q11 := dict_cell11 hS2; clear hS1 hS2; go_simp; (try with_reducible rfl))
  try simp only [Act.put, List.setIfInBounds_toArray, List.set_cons_zero, List.set_cons_succ]
  refine takeL (i := 33) (v := ?_) rfl (by kernel_rfl) (by kernel_rfl) (by kernel_rfl) (fun _ _ _ h => h) (by rfl) ?_ (by assumption) ?_
  rotate_left
  · (intro w9 hSw; obtain ⟨hS1, hS2, -⟩ := hSw; have q0 : w9.cell? ⟨w.heap.size + 1, 0, none⟩ = some nilV := hS1.cell 0; obtain ⟨q1, q2, q3, q4, q5, q6, q7, q8, q9⟩ := ctx_cells hS1; have q11 := dict_cell11 hS2; clear hS1 hS2; go_simp; (try with_reducible rfl))
  try simp only [Act.put, List.setIfInBounds_toArray, List.set_cons_zero, List.set_cons_succ]
  refine takeL (i := 34) (v := ?_) rfl (by kernel_rfl) (by kernel_rfl) (by kernel_rfl) (fun _ _ _ h => h) (by rfl) ?_ (by assumption) ?_
  rotate_left
  · (intro w9 hSw; obtain ⟨hS1, hS2, -⟩ := hSw; have q0 : w9.cell? ⟨w.heap.size + 1, 0, none⟩ = some nilV := hS1.cell 0; obtain ⟨q1, q2, q3, q4, q5, q6, q7, q8, q9⟩ := ctx_cells hS1; have q11 := dict_cell11 hS2; clear hS1 hS2; go_simp; (try with_reducible rfl))
  try simp only [Act.put, List.setIfInBounds_toArray, List.set_cons_zero, List.set_cons_succ]
  refine takeL (i := 35) (v := ?_) rfl (by kernel_rfl) (by kernel_rfl) (by kernel_rfl) (fun _ _ _ h => h) (by rfl) ?_ (by assumption) ?_
  rotate_left
  · (intro w9 hSw; obtain ⟨hS1, hS2, -⟩ := hSw; have q0 : w9.cell? ⟨w.heap.size + 1, 0, none⟩ = some nilV := hS1.cell 0; obtain ⟨q1, q2, q3, q4, q5, q6, q7, q8, q9⟩ := ctx_cells hS1; have q11 := dict_cell11 hS2; clear hS1 hS2; go_simp; (try with_reducible rfl))
  try simp only [Act.put, List.setIfInBounds_toArray, List.set_cons_zero, List.set_cons_succ]
  refine takeL (i := 36) (v := ?_) rfl (by kernel_rfl) (by kernel_rfl) (by kernel_rfl) (fun _ _ _ h => h) (by rfl) ?_ (by assumption) ?_
  rotate_left
  · (intro w9 hSw; obtain ⟨hS1, hS2, -⟩ := hSw; have q0 : w9.cell? ⟨w.heap.size + 1, 0, none⟩ = some nilV := hS1.cell 0; obtain ⟨q1, q2, q3, q4, q5, q6, q7, q8, q9⟩ := ctx_cells hS1; have q11 := dict_cell11 hS2; clear hS1 hS2; go_simp; (try with_reducible rfl))
  try simp only [Act.put, List.setIfInBounds_toArray, List.set_cons_zero, List.set_cons_succ]
  refine takeL (i := 37) (v := ?_) rfl (by kernel_rfl) (by kernel_rfl) (by kernel_rfl) (fun _ _ _ h => h) (by rfl) ?_ (by assumption) ?_
  rotate_left
  · (intro w9 hSw; obtain ⟨hS1, hS2, -⟩ := hSw; have q0 : w9.cell? ⟨w.heap.size + 1, 0, none⟩ = some nilV := hS1.cell 0; obtain ⟨q1, q2, q3, q4, q5, q6, q7, q8, q9⟩ := ctx_cells hS1; have q11 := dict_cell11 hS2; clear hS1 hS2; go_simp; (try with_reducible rfl))
  try simp only [Act.put, List.setIfInBounds_toArray, List.set_cons_zero, List.set_cons_succ]
  refine takeL (i := 38) (v := ?_) rfl (by kernel_rfl) (by kernel_rfl) (by kernel_rfl) (fun _ _ _ h => h) (by rfl) ?_ (by assumption) ?_
  rotate_left
  · (intro w9 hSw; obtain ⟨hS1, hS2, -⟩ := hSw; have q0 : w9.cell? ⟨w.heap.size + 1, 0, none⟩ = some nilV := hS1.cell 0; obtain ⟨q1, q2, q3, q4, q5, q6, q7, q8, q9⟩ := ctx_cells hS1; have q11 := dict_cell11 hS2; clear hS1 hS2; go_simp; (try with_reducible rfl))
  try simp only [Act.put, List.setIfInBounds_toArray, List.set_cons_zero, List.set_cons_succ]
  refine takeL (i := 39) (v := ?_) rfl (by kernel_rfl) (by kernel_rfl) (by kernel_rfl) (fun _ _ _ h => h) (by rfl) ?_ (by assumption) ?_
  rotate_left
  · (intro w9 hSw; obtain ⟨hS1, hS2, -⟩ := hSw; have q0 : w9.cell? ⟨w.heap.size + 1, 0, none⟩ = some nilV := hS1.cell 0; obtain ⟨q1, q2, q3, q4, q5, q6, q7, q8, q9⟩ := ctx_cells hS1; have q11 := dict_cell11 hS2; clear hS1 hS2; go_simp; (try with_reducible rfl))
  try simp only [Act.put, List.setIfInBounds_toArray, List.set_cons_zero, List.set_cons_succ]
  refine takeL (i := 40) (v := ?_) rfl (by kernel_rfl) (by kernel_rfl) (by kernel_rfl) (fun _ _ _ h => h) (by rfl) ?_ (by assumption) ?_
  rotate_left
  · (intro w9 hSw; obtain ⟨hS1, hS2, -⟩ := hSw; have q0 : w9.cell? ⟨w.heap.size + 1, 0, none⟩ = some nilV := hS1.cell 0; obtain ⟨q1, q2, q3, q4, q5, q6, q7, q8, q9⟩ := ctx_cells hS1; have q11 := dict_cell11 hS2; clear hS1 hS2; go_simp; (try with_reducible rfl))
  try simp only [Act.put, List.setIfInBounds_toArray, List.set_cons_zero, List.set_cons_succ]
  refine wpAnyH_done (by kernel_rfl) ?_ _
  go_wp2_with fail
  go_ret
  exact ⟨rfl, hHeld.2.2⟩

set_option maxRecDepth 100000 in
set_option maxHeartbeats 4000000 in
theorem valid_raw (x : Value) (X : List Int) (w : World) (hx : RdI .u8 w x X) (hX : ∀ y ∈ X, 0 ≤ y ∧ y ≤ 255) (hn : X.length ≤ 1000000) (hm : markB X = false) :
    Calls Tryz.prog 17 #[.agg (rawC x)] w fun e w' => e = .returned (.bool true) ∧ Keeps w w' [] := by
  have HP := Lib.hid (fun w1 (k : Keeps w w1 []) => plain_raw x X w1 (hx.keeps k) hX hn hm)
  obtain ⟨xa, xm, xc, rfl, -, -⟩ := hx.form
  clear hx hX hn hm
  go_enter Tryz.func17, Tryz.ntmps17
  go_wp2_with (go_at_call 36; go_loud (refine (HP.out _ ((Keeps.refl _ _).alloc _)).mono ?_; rintro e w2 ⟨rfl, kk⟩))
  go_ret
  exact ⟨rfl, ((Keeps.refl _ _).alloc _).then kk⟩


end Go.Proofs.YtcmagccfagijlaaGreat
