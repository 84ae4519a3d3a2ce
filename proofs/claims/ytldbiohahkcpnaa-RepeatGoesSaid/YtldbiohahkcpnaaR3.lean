/-
  Walks: the reference's Value where it fails; the examples of the chapter.
-/
import Derived.Test.YtldbiohahkcpnaaR2
import Derived.Test.YtldbiohahkcpnaaW10b
namespace Go.Proofs.Ytldbiohahkcpnaa
set_option linter.unusedVariables false
set_option linter.unusedSimpArgs false
set_option linter.unusedSectionVars false
open Go.RowKit

set_option maxHeartbeats 1000000 in
theorem r_value_not (a b c lit off : Int) (w : World) (h : vfFine a b c lit off = false) :
    Calls Try.prog 17 #[.agg #[.int .i64 a, .int .i64 b, .int .i64 c], .int .i64 lit, .int .i64 off] w fun e w' =>
      e = .returned (.tuple #[.int .i64 0, .agg #[.int .i64 0, .int .i64 0, .int .i64 0], .int .i64 2]) ∧ Keeps w w' [] := by
  cases hr : rightB a b c with
  | false =>
    have HR := Lib.hid hr
    clear hr h
    go_enter Try.func17, Try.ntmps17
    go_wp2_with fail
    refine (r_right a b c _).mono ?_
    rw [HR.out]
    rintro e w' ⟨rfl, rfl⟩
    go_wp2_with fail
    refine bodyPost_ret (v := .tuple #[.int .i64 0, .agg #[.int .i64 0, .int .i64 0, .int .i64 0], .int .i64 2]) (by simp only [results, Try.results17]; go_simp) rfl ⟨rfl, ?_⟩
    repeat' first | with_reducible exact Keeps.refl _ _ | with_reducible refine Keeps.drew ?_ | with_reducible refine Keeps.alloc ?_ _ | with_reducible refine Keeps.setCell' (.inl (by simp)) ?_
  | true =>
    have HR := Lib.hid hr
    by_cases hl : 0 ≤ lit
    · have ho : inW off = false := by simpa [vfFine, hr, hl] using h
      have HO := Lib.hid ho
      clear hr h ho
      go_enter Try.func17, Try.ntmps17
      go_wp2_with fail
      refine (r_right a b c _).mono ?_
      rw [HR.out]
      rintro e w' ⟨rfl, rfl⟩
      go_wp2_with (go_at_call 30; refine (r_within off _).mono ?_; rw [HO.out]; rintro e w' ⟨rfl, rfl⟩)
      refine bodyPost_ret (v := .tuple #[.int .i64 0, .agg #[.int .i64 0, .int .i64 0, .int .i64 0], .int .i64 2]) (by simp only [results, Try.results17]; go_simp) rfl ⟨rfl, ?_⟩
      repeat' first | with_reducible exact Keeps.refl _ _ | with_reducible refine Keeps.drew ?_ | with_reducible refine Keeps.alloc ?_ _ | with_reducible refine Keeps.setCell' (.inl (by simp)) ?_
    · have hd : lit < 0 := by omega
      clear hr h hl
      go_enter Try.func17, Try.ntmps17
      go_wp2_with fail
      refine (r_right a b c _).mono ?_
      rw [HR.out]
      rintro e w' ⟨rfl, rfl⟩
      go_wp2_with fail
      refine bodyPost_ret (v := .tuple #[.int .i64 0, .agg #[.int .i64 0, .int .i64 0, .int .i64 0], .int .i64 2]) (by simp only [results, Try.results17]; go_simp) rfl ⟨rfl, ?_⟩
      repeat' first | with_reducible exact Keeps.refl _ _ | with_reducible refine Keeps.drew ?_ | with_reducible refine Keeps.alloc ?_ _ | with_reducible refine Keeps.setCell' (.inl (by simp)) ?_

theorem r_value_any (a b c lit o : Int) (w : World) :
    Calls Try.prog 17 #[.agg #[.int .i64 a, .int .i64 b, .int .i64 c], .int .i64 lit, .int .i64 o] w fun e w' =>
      e = .returned (.tuple #[.int .i64 (vfV a b c lit o), .agg #[.int .i64 (vfA a b c lit o), .int .i64 (vfB a b c lit o), .int .i64 (vfC a b c lit o)], .int .i64 (vfE a b c lit o)]) ∧ Keeps w w' [] := by
  cases h : vfFine a b c lit o with
  | true =>
    refine (r_value_fine a b c lit o w h).mono ?_
    rintro e w' ⟨rfl, hk⟩
    exact ⟨by simp [vfV, vfA, vfB, vfC, vfE, h], hk⟩
  | false =>
    refine (r_value_not a b c lit o w h).mono ?_
    rintro e w' ⟨rfl, hk⟩
    exact ⟨by simp [vfV, vfA, vfB, vfC, vfE, h], hk⟩

theorem initial_any (w : World) : Calls Try.prog 31 #[] w fun e w' => e = .returned (.agg #[.int .i64 1, .int .i64 4, .int .i64 8]) ∧ w' = w.alloc (.cells #[.int .i64 1, .int .i64 4, .int .i64 8] 22) := by
  go_enter Try.func31, Try.ntmps31
  go_wp2
  exact bodyPost_ret (v := .agg #[.int .i64 1, .int .i64 4, .int .i64 8]) (by simp [results, Try.results31, go_sem]) rfl ⟨rfl, rfl⟩

theorem ex_o1 (w : World) : Calls Try.prog 12 #[.agg #[.int .i64 1, .int .i64 4, .int .i64 8], .agg #[.int .i64 0, .int .i64 0, .int .i64 3]] w fun e w' => e = .returned (.tuple #[.int .i64 0, .agg #[.int .i64 0, .int .i64 0, .int .i64 0], .int .i64 15]) ∧ Keeps w w' [] :=
  (offset_any 1 4 8 0 0 3 w (by omega)).mono fun e w' h => ⟨h.1.trans (by rw [show ofO 1 4 8 0 3 = 0 by decide, show ofB 1 4 8 0 3 = 0 by decide, show ofC 1 4 8 0 3 = 0 by decide, show ofErr 1 4 8 0 3 = 15 by decide]), h.2⟩
theorem ex_o2 (w : World) : Calls Try.prog 12 #[.agg #[.int .i64 1, .int .i64 4, .int .i64 8], .agg #[.int .i64 1, .int .i64 0, .int .i64 0]] w fun e w' => e = .returned (.tuple #[.int .i64 0, .agg #[.int .i64 0, .int .i64 0, .int .i64 0], .int .i64 15]) ∧ Keeps w w' [] :=
  (offset_any 1 4 8 1 0 0 w (by omega)).mono fun e w' h => ⟨h.1.trans (by rw [show ofO 1 4 8 1 0 = 0 by decide, show ofB 1 4 8 1 0 = 0 by decide, show ofC 1 4 8 1 0 = 0 by decide, show ofErr 1 4 8 1 0 = 15 by decide]), h.2⟩
theorem ex_t1 (w : World) : Calls Try.prog 12 #[.agg #[.int .i64 1, .int .i64 4, .int .i64 8], .agg #[.int .i64 2, .int .i64 0, .int .i64 2]] w fun e w' => e = .returned (.tuple #[.int .i64 4, .agg #[.int .i64 4, .int .i64 1, .int .i64 8], .int .i64 0]) ∧ Keeps w w' [] :=
  (offset_any 1 4 8 2 0 2 w (by omega)).mono fun e w' h => ⟨h.1.trans (by rw [show ofO 1 4 8 2 2 = 4 by decide, show ofB 1 4 8 2 2 = 1 by decide, show ofC 1 4 8 2 2 = 8 by decide, show ofErr 1 4 8 2 2 = 0 by decide]), h.2⟩
theorem ex_t2 (w : World) : Calls Try.prog 12 #[.agg #[.int .i64 1, .int .i64 4, .int .i64 8], .agg #[.int .i64 0, .int .i64 0, .int .i64 2]] w fun e w' => e = .returned (.tuple #[.int .i64 8, .agg #[.int .i64 8, .int .i64 1, .int .i64 4], .int .i64 0]) ∧ Keeps w w' [] :=
  (offset_any 1 4 8 0 0 2 w (by omega)).mono fun e w' h => ⟨h.1.trans (by rw [show ofO 1 4 8 0 2 = 8 by decide, show ofB 1 4 8 0 2 = 1 by decide, show ofC 1 4 8 0 2 = 4 by decide, show ofErr 1 4 8 0 2 = 0 by decide]), h.2⟩
theorem ex_t3 (w : World) : Calls Try.prog 12 #[.agg #[.int .i64 1, .int .i64 4, .int .i64 8], .agg #[.int .i64 5, .int .i64 0, .int .i64 20]] w fun e w' => e = .returned (.tuple #[.int .i64 17, .agg #[.int .i64 17, .int .i64 1, .int .i64 4], .int .i64 0]) ∧ Keeps w w' [] :=
  (offset_any 1 4 8 5 0 20 w (by omega)).mono fun e w' h => ⟨h.1.trans (by rw [show ofO 1 4 8 5 20 = 17 by decide, show ofB 1 4 8 5 20 = 1 by decide, show ofC 1 4 8 5 20 = 4 by decide, show ofErr 1 4 8 5 20 = 0 by decide]), h.2⟩
theorem ex_v1 (w : World) : Calls Try.prog 16 #[.agg #[.int .i64 1, .int .i64 4, .int .i64 8], .agg #[.int .i64 2, .int .i64 0, .int .i64 4]] w fun e w' => e = .returned (.tuple #[.int .i64 2, .agg #[.int .i64 4, .int .i64 1, .int .i64 8], .int .i64 0]) ∧ Keeps w w' [] :=
  (value_any 1 4 8 2 0 4 w).mono fun e w' h => ⟨h.1.trans (by rw [show vfV 1 4 8 2 4 = 2 by decide, show vfA 1 4 8 2 4 = 4 by decide, show vfB 1 4 8 2 4 = 1 by decide, show vfC 1 4 8 2 4 = 8 by decide, show vfE 1 4 8 2 4 = 0 by decide]), h.2⟩
theorem ex_v2 (w : World) : Calls Try.prog 16 #[.agg #[.int .i64 1, .int .i64 4, .int .i64 8], .agg #[.int .i64 0, .int .i64 0, .int .i64 4]] w fun e w' => e = .returned (.tuple #[.int .i64 1, .agg #[.int .i64 4, .int .i64 1, .int .i64 8], .int .i64 0]) ∧ Keeps w w' [] :=
  (value_any 1 4 8 0 0 4 w).mono fun e w' h => ⟨h.1.trans (by rw [show vfV 1 4 8 0 4 = 1 by decide, show vfA 1 4 8 0 4 = 4 by decide, show vfB 1 4 8 0 4 = 1 by decide, show vfC 1 4 8 0 4 = 8 by decide, show vfE 1 4 8 0 4 = 0 by decide]), h.2⟩
theorem ex_v3 (w : World) : Calls Try.prog 16 #[.agg #[.int .i64 1, .int .i64 4, .int .i64 8], .agg #[.int .i64 0, .int .i64 0, .int .i64 1]] w fun e w' => e = .returned (.tuple #[.int .i64 4, .agg #[.int .i64 1, .int .i64 1, .int .i64 4], .int .i64 0]) ∧ Keeps w w' [] :=
  (value_any 1 4 8 0 0 1 w).mono fun e w' h => ⟨h.1.trans (by rw [show vfV 1 4 8 0 1 = 4 by decide, show vfA 1 4 8 0 1 = 1 by decide, show vfB 1 4 8 0 1 = 1 by decide, show vfC 1 4 8 0 1 = 4 by decide, show vfE 1 4 8 0 1 = 0 by decide]), h.2⟩
theorem ex_v4 (w : World) : Calls Try.prog 16 #[.agg #[.int .i64 1, .int .i64 4, .int .i64 8], .agg #[.int .i64 0, .int .i64 0, .int .i64 0]] w fun e w' => e = .returned (.tuple #[.int .i64 0, .agg #[.int .i64 0, .int .i64 0, .int .i64 0], .int .i64 2]) ∧ Keeps w w' [] :=
  (value_any 1 4 8 0 0 0 w).mono fun e w' h => ⟨h.1.trans (by rw [show vfV 1 4 8 0 0 = 0 by decide, show vfA 1 4 8 0 0 = 0 by decide, show vfB 1 4 8 0 0 = 0 by decide, show vfC 1 4 8 0 0 = 0 by decide, show vfE 1 4 8 0 0 = 2 by decide]), h.2⟩

theorem ex_list : offsAll 1 4 8 [(1, 0, 1), (0, 0, 1), (0, 0, 3)] = .fine [(1, 0, 1), (0, 0, 4), (0, 0, 3)] 3 4 1 := by
  simp [offsAll, offsL, ofFine, rightB, inW, toldO, toldK, updB, updC, Res.push]

set_option maxHeartbeats 1000000 in
theorem tells_t1 (w : World) : Calls Try.prog 32 #[.int .i64 2, .int .i64 2, .int .i64 4, .agg #[.int .i64 4, .int .i64 1, .int .i64 8]] w fun e w' => e = .returned (.bool true) ∧ Keeps w w' [] := by
  go_enter Try.func32, Try.ntmps32
  go_wp2_with fail
  refine (ex_t1 _).mono ?_
  rintro e w1 ⟨rfl, kk⟩
  have b1 := (Blk.new w #[.int .i64 4, .int .i64 1, .int .i64 8] 22).keeps kk (by simp)
  have k1 := ((Keeps.refl w []).alloc _).then kk
  clear kk
  obtain ⟨c0, c1, c2, -⟩ := b1.three
  have hlt := b1.lt
  go_wp2_with (go_at_call 14; go_in)
  go_ret
  refine ⟨rfl, ?_⟩
  repeat' first | with_reducible exact k1 | with_reducible refine Keeps.drew ?_ | with_reducible refine Keeps.alloc ?_ _ | with_reducible refine Keeps.setCell' (.inl (by dsimp only; omega)) ?_

set_option maxHeartbeats 1000000 in
theorem tells_t2 (w : World) : Calls Try.prog 32 #[.int .i64 0, .int .i64 2, .int .i64 8, .agg #[.int .i64 8, .int .i64 1, .int .i64 4]] w fun e w' => e = .returned (.bool true) ∧ Keeps w w' [] := by
  go_enter Try.func32, Try.ntmps32
  go_wp2_with fail
  refine (ex_t2 _).mono ?_
  rintro e w1 ⟨rfl, kk⟩
  have b1 := (Blk.new w #[.int .i64 8, .int .i64 1, .int .i64 4] 22).keeps kk (by simp)
  have k1 := ((Keeps.refl w []).alloc _).then kk
  clear kk
  obtain ⟨c0, c1, c2, -⟩ := b1.three
  have hlt := b1.lt
  go_wp2_with (go_at_call 14; go_in)
  go_ret
  refine ⟨rfl, ?_⟩
  repeat' first | with_reducible exact k1 | with_reducible refine Keeps.drew ?_ | with_reducible refine Keeps.alloc ?_ _ | with_reducible refine Keeps.setCell' (.inl (by dsimp only; omega)) ?_

set_option maxHeartbeats 1000000 in
theorem tells_t3 (w : World) : Calls Try.prog 32 #[.int .i64 5, .int .i64 20, .int .i64 17, .agg #[.int .i64 17, .int .i64 1, .int .i64 4]] w fun e w' => e = .returned (.bool true) ∧ Keeps w w' [] := by
  go_enter Try.func32, Try.ntmps32
  go_wp2_with fail
  refine (ex_t3 _).mono ?_
  rintro e w1 ⟨rfl, kk⟩
  have b1 := (Blk.new w #[.int .i64 17, .int .i64 1, .int .i64 4] 22).keeps kk (by simp)
  have k1 := ((Keeps.refl w []).alloc _).then kk
  clear kk
  obtain ⟨c0, c1, c2, -⟩ := b1.three
  have hlt := b1.lt
  go_wp2_with (go_at_call 14; go_in)
  go_ret
  refine ⟨rfl, ?_⟩
  repeat' first | with_reducible exact k1 | with_reducible refine Keeps.drew ?_ | with_reducible refine Keeps.alloc ?_ _ | with_reducible refine Keeps.setCell' (.inl (by dsimp only; omega)) ?_

end Go.Proofs.Ytldbiohahkcpnaa
