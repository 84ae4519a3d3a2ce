/-
  Walks over the reference of package repeat: Value.
-/
import Derived.Test.YtldbiohahkcpnaaR1
namespace Go.Proofs.Ytldbiohahkcpnaa
set_option linter.unusedVariables false
set_option linter.unusedSimpArgs false
set_option linter.unusedSectionVars false
open Go.RowKit

theorem r_offset_any (a b c lit v : Int) (w : World) (hv' : v ≤ 9223372036854775807) :
    Calls Try.prog 13 #[.agg #[.int .i64 a, .int .i64 b, .int .i64 c], .int .i64 lit, .int .i64 v] w fun e w' =>
      e = .returned (.tuple #[.int .i64 (ofO a b c lit v), .agg #[.int .i64 (ofO a b c lit v), .int .i64 (ofB a b c lit v), .int .i64 (ofC a b c lit v)], .int .i64 (ofErr a b c lit v)]) ∧ Keeps w w' [] := by
  cases h : ofFine a b c lit v with
  | true =>
    refine (r_offset_fine a b c lit v w hv' h).mono ?_
    rintro e w' ⟨rfl, hk⟩
    refine ⟨?_, hk⟩
    have he : ofErr a b c lit v = 0 := by
      simp only [ofFine, Bool.and_eq_true] at h
      obtain ⟨h1, h2, h3, h4⟩ := h
      simp [ofErr, h1, h2, h3, h4]
    simp [ofO, ofB, ofC, h, he]
  | false =>
    refine (r_offset_not a b c lit v w hv' h).mono ?_
    rintro e w' ⟨rfl, hk⟩
    exact ⟨by simp [ofO, ofB, ofC, h], hk⟩

theorem offset_any (a b c lit len v : Int) (w : World) (hv' : v ≤ 9223372036854775807) :
    Calls Try.prog 12 #[.agg #[.int .i64 a, .int .i64 b, .int .i64 c], .agg #[.int .i64 lit, .int .i64 len, .int .i64 v]] w fun e w' =>
      e = .returned (.tuple #[.int .i64 (ofO a b c lit v), .agg #[.int .i64 (ofO a b c lit v), .int .i64 (ofB a b c lit v), .int .i64 (ofC a b c lit v)], .int .i64 (ofErr a b c lit v)]) ∧ Keeps w w' [] := by
  cases h : ofFine a b c lit v with
  | true =>
    refine (offset_fine a b c lit len v w hv' h).mono ?_
    rintro e w' ⟨rfl, hk⟩
    refine ⟨?_, hk⟩
    have he : ofErr a b c lit v = 0 := by
      simp only [ofFine, Bool.and_eq_true] at h
      obtain ⟨h1, h2, h3, h4⟩ := h
      simp [ofErr, h1, h2, h3, h4]
    simp [ofO, ofB, ofC, h, he]
  | false =>
    refine (offset_not a b c lit len v w hv' h).mono ?_
    rintro e w' ⟨rfl, hk⟩
    exact ⟨by simp [ofO, ofB, ofC, h], hk⟩

/-- What Value hands back. -/
def vfV (a b c lit o : Int) : Int := if vfFine a b c lit o then valV a b c lit o else 0
def vfA (a b c lit o : Int) : Int := if vfFine a b c lit o then o else 0
def vfB (a b c lit o : Int) : Int := if vfFine a b c lit o then updB a b (toldK lit (valV a b c lit o)) else 0
def vfC (a b c lit o : Int) : Int := if vfFine a b c lit o then updC b c (toldK lit (valV a b c lit o)) else 0
def vfE (a b c lit o : Int) : Int := if vfFine a b c lit o then 0 else 2

theorem value_any (a b c lit len o : Int) (w : World) :
    Calls Try.prog 16 #[.agg #[.int .i64 a, .int .i64 b, .int .i64 c], .agg #[.int .i64 lit, .int .i64 len, .int .i64 o]] w fun e w' =>
      e = .returned (.tuple #[.int .i64 (vfV a b c lit o), .agg #[.int .i64 (vfA a b c lit o), .int .i64 (vfB a b c lit o), .int .i64 (vfC a b c lit o)], .int .i64 (vfE a b c lit o)]) ∧ Keeps w w' [] := by
  cases h : vfFine a b c lit o with
  | true =>
    refine (value_fine a b c lit len o w h).mono ?_
    rintro e w' ⟨rfl, hk⟩
    exact ⟨by simp [vfV, vfA, vfB, vfC, vfE, h], hk⟩
  | false =>
    refine (value_not a b c lit len o w h).mono ?_
    rintro e w' ⟨rfl, hk⟩
    exact ⟨by simp [vfV, vfA, vfB, vfC, vfE, h], hk⟩

/-- For valid arguments a code value gives the offset just where told says so. -/
theorem of_hit {a b c lit v off : Int} (hr : rightB a b c = true) (hl : 0 ≤ lit) (hv : 1 ≤ v) (ho : inW off = true) (h : toldO a b c lit v = off) :
    ofErr a b c lit v = 0 ∧ ofO a b c lit v = off ∧ ofB a b c lit v = updB a b (toldK lit v) ∧ ofC a b c lit v = updC b c (toldK lit v) := by
  have hf : ofFine a b c lit v = true := by simp [ofFine, hr, hl, hv, h, ho]
  have he : ofErr a b c lit v = 0 := by simp [ofErr, hr, hl, hv, h, ho]
  simp [ofO, ofB, ofC, hf, he, h]
theorem of_miss {a b c lit v off : Int} (ho : 1 ≤ off) (h : toldO a b c lit v ≠ off) : ofO a b c lit v ≠ off := by
  unfold ofO
  split
  · exact h
  · omega

set_option maxHeartbeats 1000000 in
theorem r_value_fine (a b c lit off : Int) (w : World) (h : vfFine a b c lit off = true) :
    Calls Try.prog 17 #[.agg #[.int .i64 a, .int .i64 b, .int .i64 c], .int .i64 lit, .int .i64 off] w fun e w' =>
      e = .returned (.tuple #[.int .i64 (valV a b c lit off), .agg #[.int .i64 off, .int .i64 (updB a b (toldK lit (valV a b c lit off))), .int .i64 (updC b c (toldK lit (valV a b c lit off)))], .int .i64 0]) ∧ Keeps w w' [] := by
  simp only [vfFine, Bool.and_eq_true, decide_eq_true_eq] at h
  obtain ⟨hr, hl, ho⟩ := h
  obtain ⟨ha, ha'⟩ := rightB_lo hr
  obtain ⟨ho1, ho2⟩ := inW_bd ho
  have HR := Lib.hid hr
  have HO := Lib.hid ho
  clear hr ho
  go_enter Try.func17, Try.ntmps17
  go_wp2_with fail
  refine (r_right a b c _).mono ?_
  rw [HR.out]
  rintro e w' ⟨rfl, rfl⟩
  go_wp2_with (go_at_call 30; refine (r_within off _).mono ?_; rw [HO.out]; rintro e w' ⟨rfl, rfl⟩)
  have b1 := (((Blk.new w #[.int .i64 a, .int .i64 b, .int .i64 c] 22).alloc (.cells #[.int .i64 0, .int .i64 0, .int .i64 0] 22)).alloc (.cells #[.int .i64 a, .int .i64 b, .int .i64 c] 22))
  have r1 := ((Blk.new (w.alloc (.cells #[.int .i64 a, .int .i64 b, .int .i64 c] 22)) #[.int .i64 0, .int .i64 0, .int .i64 0] 22).alloc (.cells #[.int .i64 a, .int .i64 b, .int .i64 c] 22))
  have k1 := (((Keeps.refl w []).alloc (.cells #[.int .i64 a, .int .i64 b, .int .i64 c] 22)).alloc (.cells #[.int .i64 0, .int .i64 0, .int .i64 0] 22)).alloc (.cells #[.int .i64 a, .int .i64 b, .int .i64 c] 22)
  simp only [World.size_alloc] at r1
  go_loopw [9] (fun x wr => ∃ k : Nat, k ≤ 3 ∧ x = .int .i64 (k + 1) ∧ Hid (∀ j : Nat, j < k → toldO a b c lit (j + 1) ≠ off) ∧
      Blk wr w.heap.size #[.int .i64 a, .int .i64 b, .int .i64 c] 22 ∧ Blk wr (w.heap.size + 1) #[.int .i64 0, .int .i64 0, .int .i64 0] 22 ∧ Keeps w wr []) (fun x _ => (4 - intOf x).toNat)
  case atStart => exact ⟨0, by omega, rfl, fun j hj => by omega, b1, r1, k1⟩
  case round =>
    obtain ⟨k, hk, rfl, hmiss, b2, r2, k2⟩ := hrel
    clear b1 r1 k1
    obtain ⟨c0, c1, c2, -⟩ := b2.three
    by_cases h3 : k < 3
    · go_wp2_with fail
      refine (r_offset_any a b c lit (k + 1) _ (by omega)).mono ?_
      rintro e w3 ⟨rfl, kk⟩
      have b3 := b2.keeps kk (by simp)
      have r3 := r2.keeps kk (by simp)
      have k3 := k2.then kk
      clear c0 c1 c2 b2 r2 k2 kk
      have n3 := r3.lt
      obtain ⟨q0, q1, q2, q3, q4, q5⟩ := r3.three
      by_cases hh : toldO a b c lit (k + 1) = off
      · obtain ⟨g1, g2, g3, g4⟩ := of_hit HR.out hl (by omega) HO.out hh
        have hv : valV a b c lit off = k + 1 := by
          have hm := hmiss.out
          have : k = 0 ∨ k = 1 ∨ k = 2 := by omega
          rcases this with rfl | rfl | rfl
          · simp [valV, valS] at hh ⊢; simp [hh]
          · have m0 := hm 0 (by omega)
            simp at hh m0; simp [valV, valS, hh, m0]
          · have m0 := hm 0 (by omega)
            have m1 := hm 1 (by omega)
            simp at hh m0 m1; simp [valV, valS, hh, m0, m1]
        have HV := Lib.hid hv
        rw [g1, g2, g3, g4]
        clear g1 g2 g3 g4 hh hv
        go_wp2_with fail
        go_region
        go_wp2_with fail
        refine bodyPost_ret (v := .tuple #[.int .i64 (k + 1), .agg #[.int .i64 off, .int .i64 (updB a b (toldK lit (k + 1))), .int .i64 (updC b c (toldK lit (k + 1)))], .int .i64 0]) (by simp only [results, Try.results17]; go_simp) rfl ⟨by rw [HV.out], ?_⟩
        repeat' first | with_reducible exact k3 | with_reducible refine Keeps.drew ?_ | with_reducible refine Keeps.alloc ?_ _ | with_reducible refine Keeps.setCell' (.inl (by dsimp only; omega)) ?_
      · have hm' : Hid (∀ j : Nat, j < k + 1 → toldO a b c lit (j + 1) ≠ off) := fun j hj => by
          by_cases hjk : j = k
          · subst hjk; exact hh
          · exact hmiss.out j (by omega)
        have hms := of_miss ho1 hh
        have hd : (ofO a b c lit (k + 1) == off) = false := by simpa using hms
        clear hmiss hh hms
        cases he : (ofErr a b c lit (k + 1) == 0)
        all_goals
          go_wp2_with fail
          exact ⟨⟨k + 1, by omega, by go_num, hm', b3.alloc _, r3.alloc _, k3.alloc _⟩, by simp [intOf]; omega⟩
    · have : k = 3 := by omega
      subst this
      have hm := hmiss.out
      have m0 := hm 0 (by omega)
      have m1 := hm 1 (by omega)
      have m2 := hm 2 (by omega)
      simp at m0 m1 m2
      have hv : valV a b c lit off = off + 3 := by simp [valV, valS, m0, m1, m2]
      obtain ⟨g1, g2, g3, g4⟩ := of_hit (v := off + 3) HR.out hl (by omega) HO.out (by unfold toldO; rw [if_pos (by omega)]; omega)
      have G := fun w => r_offset_any a b c lit (off + 3) w (by omega)
      rw [g1, g2, g3, g4] at G
      have HG := Lib.hid G
      have HV := Lib.hid hv
      clear g1 g2 g3 g4 hm m0 m1 m2 hv G hmiss
      go_wp2_with fail
      refine (HG.out _).mono ?_
      rintro e w3 ⟨rfl, kk⟩
      have r3 := r2.keeps kk (by simp)
      have k3 := k2.then kk
      clear c0 c1 c2 b2 r2 k2 kk
      have n3 := r3.lt
      obtain ⟨q0, q1, q2, q3, q4, q5⟩ := r3.three
      go_wp2_with fail
      go_region
      go_wp2_with fail
      refine bodyPost_ret (v := .tuple #[.int .i64 (off + 3), .agg #[.int .i64 off, .int .i64 (updB a b (toldK lit (off + 3))), .int .i64 (updC b c (toldK lit (off + 3)))], .int .i64 0]) (by simp only [results, Try.results17]; go_simp) rfl ⟨by rw [HV.out], ?_⟩
      repeat' first | with_reducible exact k3 | with_reducible refine Keeps.drew ?_ | with_reducible refine Keeps.alloc ?_ _ | with_reducible refine Keeps.setCell' (.inl (by dsimp only; omega)) ?_

end Go.Proofs.Ytldbiohahkcpnaa
