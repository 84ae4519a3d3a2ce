/-
  Walks over package dict: full, where it ends with the number of the dictionary. (Printed by mkDL.py.)
-/
import Derived.Test.YtcmagccfagijlaaGreatQ9
import Derived.Test.YtcmagccfagijlaaGreatQ1
namespace Go.Proofs.YtcmagccfagijlaaGreat
set_option linter.unusedVariables false
set_option linter.unusedSimpArgs false
set_option linter.unusedSectionVars false
open Go.RowKit

set_option maxRecDepth 100000 in
set_option maxHeartbeats 8000000 in
theorem full_short (p k : Nat) (v : Value) (B : List Int) (w : World) (hc : Cur w p v B k) (hE : bytesE B k 4 ≠ 0) :
    Calls Tryz.prog 48 #[.pointer (some ⟨p, 0, none⟩)] w fun e w' => e = .panicked [raisedBy (bytesE B k 4) false] ∧ Keeps w w' [p] := by
  have HC := Lib.hid (fun w1 (k1 : Keeps w w1 []) => hc.keeps k1)
  have hlp := hc.old.1
  have z0 := ((Blk.new w #[.pointer (some ⟨p, 0, none⟩)] 71).alloc (.cells zeroC 32)).alloc (.cells #[.pointer (some ⟨w.heap.size + 1, 1, none⟩)] 105)
  have z1 := (Blk.new (w.alloc (.cells #[.pointer (some ⟨p, 0, none⟩)] 71)) zeroC 32).alloc (.cells #[.pointer (some ⟨w.heap.size + 1, 1, none⟩)] 105)
  have z2 := Blk.new ((w.alloc (.cells #[.pointer (some ⟨p, 0, none⟩)] 71)).alloc (.cells zeroC 32)) #[.pointer (some ⟨w.heap.size + 1, 1, none⟩)] 105
  have zk : Keeps w (((w.alloc (.cells #[.pointer (some ⟨p, 0, none⟩)] 71)).alloc (.cells zeroC 32)).alloc (.cells #[.pointer (some ⟨w.heap.size + 1, 1, none⟩)] 105)) [] := (((Keeps.refl w []).alloc _).alloc _).alloc _
  simp only [World.size_alloc] at z1 z2
  clear hc
  go_enter Tryz.func48, Tryz.ntmps48
  go_wp2_with fail
  generalize (((w.alloc (.cells #[.pointer (some ⟨p, 0, none⟩)] 71)).alloc (.cells zeroC 32)).alloc (.cells #[.pointer (some ⟨w.heap.size + 1, 1, none⟩)] 105)) = W at *
  refine wp_region_held_drew (S := (fun w' => Blk w' w.heap.size #[.pointer (some ⟨p, 0, none⟩)] 71 ∧ Blk w' (w.heap.size + 1) zeroC 32 ∧ Blk w' (w.heap.size + 1 + 1) #[.pointer (some ⟨w.heap.size + 1, 1, none⟩)] 105 ∧ Keeps w w' [])) (by kernel_rfl) ⟨z0.drew, z1.drew, z2.drew, zk.drew⟩ (fun hHeld => ?_)
  refine takeL (i := 0) (v := ?_) rfl (by kernel_rfl) (by kernel_rfl) (by kernel_rfl) (fun _ _ _ h => h) (by rfl) ?_ (by assumption) ?_
  rotate_left
  · (intro w9 hSw; obtain ⟨hS1, hS2, hS3, -⟩ := hSw; obtain ⟨q0, -⟩ := hS1.one; obtain ⟨q3, -⟩ := hS3.one; clear hS1 hS2 hS3; go_simp; (try with_reducible rfl))
  try simp only [Act.put, List.setIfInBounds_toArray, List.set_cons_zero, List.set_cons_succ]
  refine takeL (i := 1) (v := ?_) rfl (by kernel_rfl) (by kernel_rfl) (by kernel_rfl) (fun _ _ _ h => h) (by rfl) ?_ (by assumption) ?_
  rotate_left
  · (intro w9 hSw; obtain ⟨hS1, hS2, hS3, -⟩ := hSw; obtain ⟨q0, -⟩ := hS1.one; obtain ⟨q3, -⟩ := hS3.one; clear hS1 hS2 hS3; go_simp; (try with_reducible rfl))
  try simp only [Act.put, List.setIfInBounds_toArray, List.set_cons_zero, List.set_cons_succ]
  refine takeL (i := 2) (v := ?_) rfl (by kernel_rfl) (by kernel_rfl) (by kernel_rfl) (fun _ _ _ h => h) (by rfl) ?_ (by assumption) ?_
  rotate_left
  · (intro w9 hSw; obtain ⟨hS1, hS2, hS3, -⟩ := hSw; obtain ⟨q0, -⟩ := hS1.one; obtain ⟨q3, -⟩ := hS3.one; clear hS1 hS2 hS3; go_simp; (try with_reducible rfl))
  try simp only [Act.put, List.setIfInBounds_toArray, List.set_cons_zero, List.set_cons_succ]
  refine takeL (i := 3) (v := ?_) rfl (by kernel_rfl) (by kernel_rfl) (by kernel_rfl) (fun _ _ _ h => h) (by rfl) ?_ (by assumption) ?_
  rotate_left
  · (intro w9 hSw; obtain ⟨hS1, hS2, hS3, -⟩ := hSw; obtain ⟨q0, -⟩ := hS1.one; obtain ⟨q3, -⟩ := hS3.one; clear hS1 hS2 hS3; go_simp; (try with_reducible rfl))
  try simp only [Act.put, List.setIfInBounds_toArray, List.set_cons_zero, List.set_cons_succ]
  refine takeL (i := 4) (v := ?_) rfl (by kernel_rfl) (by kernel_rfl) (by kernel_rfl) (fun _ _ _ h => h) (by rfl) ?_ (by assumption) ?_
  rotate_left
  · (intro w9 hSw; obtain ⟨hS1, hS2, hS3, -⟩ := hSw; obtain ⟨q0, -⟩ := hS1.one; obtain ⟨q3, -⟩ := hS3.one; clear hS1 hS2 hS3; go_simp; (try with_reducible rfl))
  try simp only [Act.put, List.setIfInBounds_toArray, List.set_cons_zero, List.set_cons_succ]
  refine takeL (i := 5) (v := ?_) rfl (by kernel_rfl) (by kernel_rfl) (by kernel_rfl) (fun _ _ _ h => h) (by rfl) ?_ (by assumption) ?_
  rotate_left
  · (intro w9 hSw; obtain ⟨hS1, hS2, hS3, -⟩ := hSw; obtain ⟨q0, -⟩ := hS1.one; obtain ⟨q3, -⟩ := hS3.one; clear hS1 hS2 hS3; go_simp; (try with_reducible rfl))
  try simp only [Act.put, List.setIfInBounds_toArray, List.set_cons_zero, List.set_cons_succ]
  refine takeL (i := 6) (v := ?_) rfl (by kernel_rfl) (by kernel_rfl) (by kernel_rfl) (fun _ _ _ h => h) (by rfl) ?_ (by assumption) ?_
  rotate_left
  · (intro w9 hSw; obtain ⟨hS1, hS2, hS3, -⟩ := hSw; obtain ⟨q0, -⟩ := hS1.one; obtain ⟨q3, -⟩ := hS3.one; clear hS1 hS2 hS3; go_simp; (try with_reducible rfl))
  try simp only [Act.put, List.setIfInBounds_toArray, List.set_cons_zero, List.set_cons_succ]
  refine takeL (i := 8) (v := ?_) rfl (by kernel_rfl) (by kernel_rfl) (by kernel_rfl) (fun _ _ _ h => h) (by rfl) ?_ (by assumption) ?_
  rotate_left
  · (intro w9 hSw; obtain ⟨hS1, hS2, hS3, -⟩ := hSw; obtain ⟨q0, -⟩ := hS1.one; obtain ⟨q3, -⟩ := hS3.one; clear hS1 hS2 hS3; go_simp; (try with_reducible rfl))
  try simp only [Act.put, List.setIfInBounds_toArray, List.set_cons_zero, List.set_cons_succ]
  refine takeL (i := 9) (v := ?_) rfl (by kernel_rfl) (by kernel_rfl) (by kernel_rfl) (fun _ _ _ h => h) (by rfl) ?_ (by assumption) ?_
  rotate_left
  · (intro w9 hSw; obtain ⟨hS1, hS2, hS3, -⟩ := hSw; obtain ⟨q0, -⟩ := hS1.one; obtain ⟨q3, -⟩ := hS3.one; clear hS1 hS2 hS3; go_simp; (try with_reducible rfl))
  try simp only [Act.put, List.setIfInBounds_toArray, List.set_cons_zero, List.set_cons_succ]
  refine takeL (i := 10) (v := ?_) rfl (by kernel_rfl) (by kernel_rfl) (by kernel_rfl) (fun _ _ _ h => h) (by rfl) ?_ (by assumption) ?_
  rotate_left
  · (intro w9 hSw; obtain ⟨hS1, hS2, hS3, -⟩ := hSw; obtain ⟨q0, -⟩ := hS1.one; obtain ⟨q3, -⟩ := hS3.one; clear hS1 hS2 hS3; go_simp; (try with_reducible rfl))
  try simp only [Act.put, List.setIfInBounds_toArray, List.set_cons_zero, List.set_cons_succ]
  refine takeL (i := 11) (v := ?_) rfl (by kernel_rfl) (by kernel_rfl) (by kernel_rfl) (fun _ _ _ h => h) (by rfl) ?_ (by assumption) ?_
  rotate_left
  · (intro w9 hSw; obtain ⟨hS1, hS2, hS3, -⟩ := hSw; obtain ⟨q0, -⟩ := hS1.one; obtain ⟨q3, -⟩ := hS3.one; clear hS1 hS2 hS3; go_simp; (try with_reducible rfl))
  try simp only [Act.put, List.setIfInBounds_toArray, List.set_cons_zero, List.set_cons_succ]
  refine takeL (i := 13) (v := ?_) rfl (by kernel_rfl) (by kernel_rfl) (by kernel_rfl) (fun _ _ _ h => h) (by rfl) ?_ (by assumption) ?_
  rotate_left
  · (intro w9 hSw; obtain ⟨hS1, hS2, hS3, -⟩ := hSw; obtain ⟨q0, -⟩ := hS1.one; obtain ⟨q3, -⟩ := hS3.one; clear hS1 hS2 hS3; go_simp; (try with_reducible rfl))
  try simp only [Act.put, List.setIfInBounds_toArray, List.set_cons_zero, List.set_cons_succ]
  refine takeL (i := 14) (v := ?_) rfl (by kernel_rfl) (by kernel_rfl) (by kernel_rfl) (fun _ _ _ h => h) (by rfl) ?_ (by assumption) ?_
  rotate_left
  · (intro w9 hSw; obtain ⟨hS1, hS2, hS3, -⟩ := hSw; obtain ⟨q0, -⟩ := hS1.one; obtain ⟨q3, -⟩ := hS3.one; clear hS1 hS2 hS3; go_simp; (try with_reducible rfl))
  try simp only [Act.put, List.setIfInBounds_toArray, List.set_cons_zero, List.set_cons_succ]
  refine takeL (i := 15) (v := ?_) rfl (by kernel_rfl) (by kernel_rfl) (by kernel_rfl) (fun _ _ _ h => h) (by rfl) ?_ (by assumption) ?_
  rotate_left
  · (intro w9 hSw; obtain ⟨hS1, hS2, hS3, -⟩ := hSw; obtain ⟨q0, -⟩ := hS1.one; obtain ⟨q3, -⟩ := hS3.one; clear hS1 hS2 hS3; go_simp; (try with_reducible rfl))
  try simp only [Act.put, List.setIfInBounds_toArray, List.set_cons_zero, List.set_cons_succ]
  refine takeL (i := 16) (v := ?_) rfl (by kernel_rfl) (by kernel_rfl) (by kernel_rfl) (fun _ _ _ h => h) (by rfl) ?_ (by assumption) ?_
  rotate_left
  · (intro w9 hSw; obtain ⟨hS1, hS2, hS3, -⟩ := hSw; obtain ⟨q0, -⟩ := hS1.one; obtain ⟨q3, -⟩ := hS3.one; clear hS1 hS2 hS3; go_simp; (try with_reducible rfl))
  try simp only [Act.put, List.setIfInBounds_toArray, List.set_cons_zero, List.set_cons_succ]
  refine takeL (i := 18) (v := ?_) rfl (by kernel_rfl) (by kernel_rfl) (by kernel_rfl) (fun _ _ _ h => h) (by rfl) ?_ (by assumption) ?_
  rotate_left
  · (intro w9 hSw; obtain ⟨hS1, hS2, hS3, -⟩ := hSw; obtain ⟨q0, -⟩ := hS1.one; obtain ⟨q3, -⟩ := hS3.one; clear hS1 hS2 hS3; go_simp; (try with_reducible rfl))
  try simp only [Act.put, List.setIfInBounds_toArray, List.set_cons_zero, List.set_cons_succ]
  refine takeL (i := 19) (v := ?_) rfl (by kernel_rfl) (by kernel_rfl) (by kernel_rfl) (fun _ _ _ h => h) (by rfl) ?_ (by assumption) ?_
  rotate_left
  · (intro w9 hSw; obtain ⟨hS1, hS2, hS3, -⟩ := hSw; obtain ⟨q0, -⟩ := hS1.one; obtain ⟨q3, -⟩ := hS3.one; clear hS1 hS2 hS3; go_simp; (try with_reducible rfl))
  try simp only [Act.put, List.setIfInBounds_toArray, List.set_cons_zero, List.set_cons_succ]
  refine takeL (i := 20) (v := ?_) rfl (by kernel_rfl) (by kernel_rfl) (by kernel_rfl) (fun _ _ _ h => h) (by rfl) ?_ (by assumption) ?_
  rotate_left
  · (intro w9 hSw; obtain ⟨hS1, hS2, hS3, -⟩ := hSw; obtain ⟨q0, -⟩ := hS1.one; obtain ⟨q3, -⟩ := hS3.one; clear hS1 hS2 hS3; go_simp; (try with_reducible rfl))
  try simp only [Act.put, List.setIfInBounds_toArray, List.set_cons_zero, List.set_cons_succ]
  refine takeL (i := 23) (v := ?_) rfl (by kernel_rfl) (by kernel_rfl) (by kernel_rfl) (fun _ _ _ h => h) (by rfl) ?_ (by assumption) ?_
  rotate_left
  · (intro w9 hSw; obtain ⟨hS1, hS2, hS3, -⟩ := hSw; obtain ⟨q0, -⟩ := hS1.one; obtain ⟨q3, -⟩ := hS3.one; clear hS1 hS2 hS3; go_simp; (try with_reducible rfl))
  try simp only [Act.put, List.setIfInBounds_toArray, List.set_cons_zero, List.set_cons_succ]
  refine callL (i := 7) rfl (by kernel_rfl) (fun Kont hK => ?_)
  go_simp
  go_at_call 78; refine (full1_any _ _ _ _ _).mono ?_; rintro e w2 ⟨⟨cap7, rfl⟩, kk⟩
  go_wp2_with fail
  refine hK.out _ _ ?_ (fun hHeld => ?_)
  · (exact ⟨hHeld.1.keeps kk (by simp), hHeld.2.1.keeps kk (by simp), hHeld.2.2.1.keeps kk (by simp), hHeld.2.2.2.then kk⟩)
  clear hK Kont
  refine callL (i := 12) rfl (by kernel_rfl) (fun Kont hK => ?_)
  go_simp
  go_at_call 78; refine (full1_any _ _ _ _ _).mono ?_; rintro e w2 ⟨⟨cap12, rfl⟩, kk⟩
  go_wp2_with fail
  refine hK.out _ _ ?_ (fun hHeld => ?_)
  · (exact ⟨hHeld.1.keeps kk (by simp), hHeld.2.1.keeps kk (by simp), hHeld.2.2.1.keeps kk (by simp), hHeld.2.2.2.then kk⟩)
  clear hK Kont
  refine callL (i := 17) rfl (by kernel_rfl) (fun Kont hK => ?_)
  go_simp
  go_at_call 78; refine (full1_any _ _ _ _ _).mono ?_; rintro e w2 ⟨⟨cap17, rfl⟩, kk⟩
  go_wp2_with fail
  refine hK.out _ _ ?_ (fun hHeld => ?_)
  · (exact ⟨hHeld.1.keeps kk (by simp), hHeld.2.1.keeps kk (by simp), hHeld.2.2.1.keeps kk (by simp), hHeld.2.2.2.then kk⟩)
  clear hK Kont
  refine callL (i := 21) rfl (by kernel_rfl) (fun Kont hK => ?_)
  go_simp
  refine hK.out _ _ ?_ (fun hHeld => ?_)
  · (exact ⟨hHeld.1.alloc _, hHeld.2.1.alloc _, hHeld.2.2.1.alloc _, hHeld.2.2.2.alloc _⟩)
  clear hK Kont
  refine takeL (i := 22) (v := ?_) rfl (by kernel_rfl) (by kernel_rfl) (by kernel_rfl) (fun _ _ _ h => h) (by rfl) ?_ (by assumption) ?_
  rotate_left
  · (intro w9 hSw; obtain ⟨hS1, hS2, hS3, -⟩ := hSw; obtain ⟨q0, -⟩ := hS1.one; obtain ⟨q3, -⟩ := hS3.one; clear hS1 hS2 hS3; go_simp; (try with_reducible rfl))
  try simp only [Act.put, List.setIfInBounds_toArray, List.set_cons_zero, List.set_cons_succ]
  refine wpAnyH_done (by kernel_rfl) ?_ _
  go_wp2_with fail
  refine wp_loop_rounds 2 ?_
  rw [rounds_succ]
  go_wp2_with fail
  refine (full2_no p k _ _ v B _ (HC.out _ hHeld.2.2.2) hHeld.1 hE).mono ?_
  rintro e w3 ⟨rfl, k3⟩
  exact ⟨rfl, rfl, (hHeld.2.2.2.mono (by simp)).trans k3 (fun j hj _ => hj)⟩

set_option maxRecDepth 100000 in
set_option maxHeartbeats 8000000 in
theorem full_zero (p k : Nat) (v : Value) (B : List Int) (w : World) (hc : Cur w p v B k) (hE : bytesE B k 4 = 0) (hZ : wordL (bytesX B k 4) = 0) :
    Calls Tryz.prog 48 #[.pointer (some ⟨p, 0, none⟩)] w fun e w' => e = .panicked [raisedBy 9 false] ∧ Keeps w w' [p] := by
  have HC := Lib.hid (fun w1 (k1 : Keeps w w1 []) => hc.keeps k1)
  have hlp := hc.old.1
  have z0 := ((Blk.new w #[.pointer (some ⟨p, 0, none⟩)] 71).alloc (.cells zeroC 32)).alloc (.cells #[.pointer (some ⟨w.heap.size + 1, 1, none⟩)] 105)
  have z1 := (Blk.new (w.alloc (.cells #[.pointer (some ⟨p, 0, none⟩)] 71)) zeroC 32).alloc (.cells #[.pointer (some ⟨w.heap.size + 1, 1, none⟩)] 105)
  have z2 := Blk.new ((w.alloc (.cells #[.pointer (some ⟨p, 0, none⟩)] 71)).alloc (.cells zeroC 32)) #[.pointer (some ⟨w.heap.size + 1, 1, none⟩)] 105
  have zk : Keeps w (((w.alloc (.cells #[.pointer (some ⟨p, 0, none⟩)] 71)).alloc (.cells zeroC 32)).alloc (.cells #[.pointer (some ⟨w.heap.size + 1, 1, none⟩)] 105)) [] := (((Keeps.refl w []).alloc _).alloc _).alloc _
  simp only [World.size_alloc] at z1 z2
  clear hc
  go_enter Tryz.func48, Tryz.ntmps48
  go_wp2_with fail
  generalize (((w.alloc (.cells #[.pointer (some ⟨p, 0, none⟩)] 71)).alloc (.cells zeroC 32)).alloc (.cells #[.pointer (some ⟨w.heap.size + 1, 1, none⟩)] 105)) = W at *
  refine wp_region_held_drew (S := (fun w' => Blk w' w.heap.size #[.pointer (some ⟨p, 0, none⟩)] 71 ∧ Blk w' (w.heap.size + 1) zeroC 32 ∧ Blk w' (w.heap.size + 1 + 1) #[.pointer (some ⟨w.heap.size + 1, 1, none⟩)] 105 ∧ Keeps w w' [])) (by kernel_rfl) ⟨z0.drew, z1.drew, z2.drew, zk.drew⟩ (fun hHeld => ?_)
  refine takeL (i := 0) (v := ?_) rfl (by kernel_rfl) (by kernel_rfl) (by kernel_rfl) (fun _ _ _ h => h) (by rfl) ?_ (by assumption) ?_
  rotate_left
  · (intro w9 hSw; obtain ⟨hS1, hS2, hS3, -⟩ := hSw; obtain ⟨q0, -⟩ := hS1.one; obtain ⟨q3, -⟩ := hS3.one; clear hS1 hS2 hS3; go_simp; (try with_reducible rfl))
  try simp only [Act.put, List.setIfInBounds_toArray, List.set_cons_zero, List.set_cons_succ]
  refine takeL (i := 1) (v := ?_) rfl (by kernel_rfl) (by kernel_rfl) (by kernel_rfl) (fun _ _ _ h => h) (by rfl) ?_ (by assumption) ?_
  rotate_left
  · (intro w9 hSw; obtain ⟨hS1, hS2, hS3, -⟩ := hSw; obtain ⟨q0, -⟩ := hS1.one; obtain ⟨q3, -⟩ := hS3.one; clear hS1 hS2 hS3; go_simp; (try with_reducible rfl))
  try simp only [Act.put, List.setIfInBounds_toArray, List.set_cons_zero, List.set_cons_succ]
  refine takeL (i := 2) (v := ?_) rfl (by kernel_rfl) (by kernel_rfl) (by kernel_rfl) (fun _ _ _ h => h) (by rfl) ?_ (by assumption) ?_
  rotate_left
  · (intro w9 hSw; obtain ⟨hS1, hS2, hS3, -⟩ := hSw; obtain ⟨q0, -⟩ := hS1.one; obtain ⟨q3, -⟩ := hS3.one; clear hS1 hS2 hS3; go_simp; (try with_reducible rfl))
  try simp only [Act.put, List.setIfInBounds_toArray, List.set_cons_zero, List.set_cons_succ]
  refine takeL (i := 3) (v := ?_) rfl (by kernel_rfl) (by kernel_rfl) (by kernel_rfl) (fun _ _ _ h => h) (by rfl) ?_ (by assumption) ?_
  rotate_left
  · (intro w9 hSw; obtain ⟨hS1, hS2, hS3, -⟩ := hSw; obtain ⟨q0, -⟩ := hS1.one; obtain ⟨q3, -⟩ := hS3.one; clear hS1 hS2 hS3; go_simp; (try with_reducible rfl))
  try simp only [Act.put, List.setIfInBounds_toArray, List.set_cons_zero, List.set_cons_succ]
  refine takeL (i := 4) (v := ?_) rfl (by kernel_rfl) (by kernel_rfl) (by kernel_rfl) (fun _ _ _ h => h) (by rfl) ?_ (by assumption) ?_
  rotate_left
  · (intro w9 hSw; obtain ⟨hS1, hS2, hS3, -⟩ := hSw; obtain ⟨q0, -⟩ := hS1.one; obtain ⟨q3, -⟩ := hS3.one; clear hS1 hS2 hS3; go_simp; (try with_reducible rfl))
  try simp only [Act.put, List.setIfInBounds_toArray, List.set_cons_zero, List.set_cons_succ]
  refine takeL (i := 5) (v := ?_) rfl (by kernel_rfl) (by kernel_rfl) (by kernel_rfl) (fun _ _ _ h => h) (by rfl) ?_ (by assumption) ?_
  rotate_left
  · (intro w9 hSw; obtain ⟨hS1, hS2, hS3, -⟩ := hSw; obtain ⟨q0, -⟩ := hS1.one; obtain ⟨q3, -⟩ := hS3.one; clear hS1 hS2 hS3; go_simp; (try with_reducible rfl))
  try simp only [Act.put, List.setIfInBounds_toArray, List.set_cons_zero, List.set_cons_succ]
  refine takeL (i := 6) (v := ?_) rfl (by kernel_rfl) (by kernel_rfl) (by kernel_rfl) (fun _ _ _ h => h) (by rfl) ?_ (by assumption) ?_
  rotate_left
  · (intro w9 hSw; obtain ⟨hS1, hS2, hS3, -⟩ := hSw; obtain ⟨q0, -⟩ := hS1.one; obtain ⟨q3, -⟩ := hS3.one; clear hS1 hS2 hS3; go_simp; (try with_reducible rfl))
  try simp only [Act.put, List.setIfInBounds_toArray, List.set_cons_zero, List.set_cons_succ]
  refine takeL (i := 8) (v := ?_) rfl (by kernel_rfl) (by kernel_rfl) (by kernel_rfl) (fun _ _ _ h => h) (by rfl) ?_ (by assumption) ?_
  rotate_left
  · (intro w9 hSw; obtain ⟨hS1, hS2, hS3, -⟩ := hSw; obtain ⟨q0, -⟩ := hS1.one; obtain ⟨q3, -⟩ := hS3.one; clear hS1 hS2 hS3; go_simp; (try with_reducible rfl))
  try simp only [Act.put, List.setIfInBounds_toArray, List.set_cons_zero, List.set_cons_succ]
  refine takeL (i := 9) (v := ?_) rfl (by kernel_rfl) (by kernel_rfl) (by kernel_rfl) (fun _ _ _ h => h) (by rfl) ?_ (by assumption) ?_
  rotate_left
  · (intro w9 hSw; obtain ⟨hS1, hS2, hS3, -⟩ := hSw; obtain ⟨q0, -⟩ := hS1.one; obtain ⟨q3, -⟩ := hS3.one; clear hS1 hS2 hS3; go_simp; (try with_reducible rfl))
  try simp only [Act.put, List.setIfInBounds_toArray, List.set_cons_zero, List.set_cons_succ]
  refine takeL (i := 10) (v := ?_) rfl (by kernel_rfl) (by kernel_rfl) (by kernel_rfl) (fun _ _ _ h => h) (by rfl) ?_ (by assumption) ?_
  rotate_left
  · (intro w9 hSw; obtain ⟨hS1, hS2, hS3, -⟩ := hSw; obtain ⟨q0, -⟩ := hS1.one; obtain ⟨q3, -⟩ := hS3.one; clear hS1 hS2 hS3; go_simp; (try with_reducible rfl))
  try simp only [Act.put, List.setIfInBounds_toArray, List.set_cons_zero, List.set_cons_succ]
  refine takeL (i := 11) (v := ?_) rfl (by kernel_rfl) (by kernel_rfl) (by kernel_rfl) (fun _ _ _ h => h) (by rfl) ?_ (by assumption) ?_
  rotate_left
  · (intro w9 hSw; obtain ⟨hS1, hS2, hS3, -⟩ := hSw; obtain ⟨q0, -⟩ := hS1.one; obtain ⟨q3, -⟩ := hS3.one; clear hS1 hS2 hS3; go_simp; (try with_reducible rfl))
  try simp only [Act.put, List.setIfInBounds_toArray, List.set_cons_zero, List.set_cons_succ]
  refine takeL (i := 13) (v := ?_) rfl (by kernel_rfl) (by kernel_rfl) (by kernel_rfl) (fun _ _ _ h => h) (by rfl) ?_ (by assumption) ?_
  rotate_left
  · (intro w9 hSw; obtain ⟨hS1, hS2, hS3, -⟩ := hSw; obtain ⟨q0, -⟩ := hS1.one; obtain ⟨q3, -⟩ := hS3.one; clear hS1 hS2 hS3; go_simp; (try with_reducible rfl))
  try simp only [Act.put, List.setIfInBounds_toArray, List.set_cons_zero, List.set_cons_succ]
  refine takeL (i := 14) (v := ?_) rfl (by kernel_rfl) (by kernel_rfl) (by kernel_rfl) (fun _ _ _ h => h) (by rfl) ?_ (by assumption) ?_
  rotate_left
  · (intro w9 hSw; obtain ⟨hS1, hS2, hS3, -⟩ := hSw; obtain ⟨q0, -⟩ := hS1.one; obtain ⟨q3, -⟩ := hS3.one; clear hS1 hS2 hS3; go_simp; (try with_reducible rfl))
  try simp only [Act.put, List.setIfInBounds_toArray, List.set_cons_zero, List.set_cons_succ]
  refine takeL (i := 15) (v := ?_) rfl (by kernel_rfl) (by kernel_rfl) (by kernel_rfl) (fun _ _ _ h => h) (by rfl) ?_ (by assumption) ?_
  rotate_left
  · (intro w9 hSw; obtain ⟨hS1, hS2, hS3, -⟩ := hSw; obtain ⟨q0, -⟩ := hS1.one; obtain ⟨q3, -⟩ := hS3.one; clear hS1 hS2 hS3; go_simp; (try with_reducible rfl))
  try simp only [Act.put, List.setIfInBounds_toArray, List.set_cons_zero, List.set_cons_succ]
  refine takeL (i := 16) (v := ?_) rfl (by kernel_rfl) (by kernel_rfl) (by kernel_rfl) (fun _ _ _ h => h) (by rfl) ?_ (by assumption) ?_
  rotate_left
  · (intro w9 hSw; obtain ⟨hS1, hS2, hS3, -⟩ := hSw; obtain ⟨q0, -⟩ := hS1.one; obtain ⟨q3, -⟩ := hS3.one; clear hS1 hS2 hS3; go_simp; (try with_reducible rfl))
  try simp only [Act.put, List.setIfInBounds_toArray, List.set_cons_zero, List.set_cons_succ]
  refine takeL (i := 18) (v := ?_) rfl (by kernel_rfl) (by kernel_rfl) (by kernel_rfl) (fun _ _ _ h => h) (by rfl) ?_ (by assumption) ?_
  rotate_left
  · (intro w9 hSw; obtain ⟨hS1, hS2, hS3, -⟩ := hSw; obtain ⟨q0, -⟩ := hS1.one; obtain ⟨q3, -⟩ := hS3.one; clear hS1 hS2 hS3; go_simp; (try with_reducible rfl))
  try simp only [Act.put, List.setIfInBounds_toArray, List.set_cons_zero, List.set_cons_succ]
  refine takeL (i := 19) (v := ?_) rfl (by kernel_rfl) (by kernel_rfl) (by kernel_rfl) (fun _ _ _ h => h) (by rfl) ?_ (by assumption) ?_
  rotate_left
  · (intro w9 hSw; obtain ⟨hS1, hS2, hS3, -⟩ := hSw; obtain ⟨q0, -⟩ := hS1.one; obtain ⟨q3, -⟩ := hS3.one; clear hS1 hS2 hS3; go_simp; (try with_reducible rfl))
  try simp only [Act.put, List.setIfInBounds_toArray, List.set_cons_zero, List.set_cons_succ]
  refine takeL (i := 20) (v := ?_) rfl (by kernel_rfl) (by kernel_rfl) (by kernel_rfl) (fun _ _ _ h => h) (by rfl) ?_ (by assumption) ?_
  rotate_left
  · (intro w9 hSw; obtain ⟨hS1, hS2, hS3, -⟩ := hSw; obtain ⟨q0, -⟩ := hS1.one; obtain ⟨q3, -⟩ := hS3.one; clear hS1 hS2 hS3; go_simp; (try with_reducible rfl))
  try simp only [Act.put, List.setIfInBounds_toArray, List.set_cons_zero, List.set_cons_succ]
  refine takeL (i := 23) (v := ?_) rfl (by kernel_rfl) (by kernel_rfl) (by kernel_rfl) (fun _ _ _ h => h) (by rfl) ?_ (by assumption) ?_
  rotate_left
  · (intro w9 hSw; obtain ⟨hS1, hS2, hS3, -⟩ := hSw; obtain ⟨q0, -⟩ := hS1.one; obtain ⟨q3, -⟩ := hS3.one; clear hS1 hS2 hS3; go_simp; (try with_reducible rfl))
  try simp only [Act.put, List.setIfInBounds_toArray, List.set_cons_zero, List.set_cons_succ]
  refine callL (i := 7) rfl (by kernel_rfl) (fun Kont hK => ?_)
  go_simp
  go_at_call 78; refine (full1_any _ _ _ _ _).mono ?_; rintro e w2 ⟨⟨cap7, rfl⟩, kk⟩
  go_wp2_with fail
  refine hK.out _ _ ?_ (fun hHeld => ?_)
  · (exact ⟨hHeld.1.keeps kk (by simp), hHeld.2.1.keeps kk (by simp), hHeld.2.2.1.keeps kk (by simp), hHeld.2.2.2.then kk⟩)
  clear hK Kont
  refine callL (i := 12) rfl (by kernel_rfl) (fun Kont hK => ?_)
  go_simp
  go_at_call 78; refine (full1_any _ _ _ _ _).mono ?_; rintro e w2 ⟨⟨cap12, rfl⟩, kk⟩
  go_wp2_with fail
  refine hK.out _ _ ?_ (fun hHeld => ?_)
  · (exact ⟨hHeld.1.keeps kk (by simp), hHeld.2.1.keeps kk (by simp), hHeld.2.2.1.keeps kk (by simp), hHeld.2.2.2.then kk⟩)
  clear hK Kont
  refine callL (i := 17) rfl (by kernel_rfl) (fun Kont hK => ?_)
  go_simp
  go_at_call 78; refine (full1_any _ _ _ _ _).mono ?_; rintro e w2 ⟨⟨cap17, rfl⟩, kk⟩
  go_wp2_with fail
  refine hK.out _ _ ?_ (fun hHeld => ?_)
  · (exact ⟨hHeld.1.keeps kk (by simp), hHeld.2.1.keeps kk (by simp), hHeld.2.2.1.keeps kk (by simp), hHeld.2.2.2.then kk⟩)
  clear hK Kont
  refine callL (i := 21) rfl (by kernel_rfl) (fun Kont hK => ?_)
  go_simp
  refine hK.out _ _ ?_ (fun hHeld => ?_)
  · (exact ⟨hHeld.1.alloc _, hHeld.2.1.alloc _, hHeld.2.2.1.alloc _, hHeld.2.2.2.alloc _⟩)
  clear hK Kont
  refine takeL (i := 22) (v := ?_) rfl (by kernel_rfl) (by kernel_rfl) (by kernel_rfl) (fun _ _ _ h => h) (by rfl) ?_ (by assumption) ?_
  rotate_left
  · (intro w9 hSw; obtain ⟨hS1, hS2, hS3, -⟩ := hSw; obtain ⟨q0, -⟩ := hS1.one; obtain ⟨q3, -⟩ := hS3.one; clear hS1 hS2 hS3; go_simp; (try with_reducible rfl))
  try simp only [Act.put, List.setIfInBounds_toArray, List.set_cons_zero, List.set_cons_succ]
  refine wpAnyH_done (by kernel_rfl) ?_ _
  go_wp2_with fail
  refine wp_loop_rounds 2 ?_
  rw [rounds_succ]
  go_wp2_with fail
  refine (full2_yes p k _ _ v B _ 0 nilV 0 nilV 0 nilV 0 nilV 0 0 0 nilV (HC.out _ hHeld.2.2.2) hHeld.1 hHeld.2.1 (by omega) hE).mono ?_
  rintro e w3 ⟨rfl, hb3, k3⟩
  rw [hZ] at hb3
  have c0 : w3.cell? ⟨w.heap.size + 1, 0, none⟩ = some (.int .u32 0) := hb3.cell 0
  have l1 := hHeld.2.2.1.lt
  simp only [World.size_alloc] at l1
  have hf : w3.cell? ⟨w2.heap.size, 1, none⟩ = some (.func (.func 85) #[] #[.pointer (some ⟨w.heap.size + 1, 0, none⟩)]) :=
    (k3.cell (by simp) (by simp; omega)).trans ((Blk.new w2 _ _).cell 1)
  have kf : Keeps w w3 [p] := (hHeld.2.2.2.mono (S' := [p]) (by simp)).trans k3 (fun j hj hlt => by simp at hj; rcases hj with hj | hj <;> simp <;> omega)
  go_wp2_with fail
  rw [rounds_succ]
  go_wp2_with fail
  refine (full3_no _ _ c0).mono ?_
  rintro e w4 ⟨rfl, rfl⟩
  exact ⟨rfl, rfl, kf⟩


end Go.Proofs.YtcmagccfagijlaaGreat
