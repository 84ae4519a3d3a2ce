/-
  Walks over package repeat: finds.
-/
import Derived.Test.YtldbiohahkcpnaaW6
namespace Go.Proofs.Ytldbiohahkcpnaa
set_option linter.unusedVariables false
set_option linter.unusedSimpArgs false
set_option linter.unusedSectionVars false
open Go.RowKit

/-- The code value of an offset. -/
def valS (a b c lit off : Int) : Nat → Int
  | 0 => off + 3
  | 1 => if toldO a b c lit 3 = off then 3 else off + 3
  | 2 => if toldO a b c lit 2 = off then 2 else if toldO a b c lit 3 = off then 3 else off + 3
  | _ => if toldO a b c lit 1 = off then 1 else if toldO a b c lit 2 = off then 2 else if toldO a b c lit 3 = off then 3 else off + 3
def valV (a b c lit off : Int) : Int := valS a b c lit off 3
theorem valV_told (a b c lit off : Int) (h : 1 ≤ off) : toldO a b c lit (valV a b c lit off) = off := by
  unfold valV valS
  by_cases h1 : toldO a b c lit 1 = off
  · simp [h1]
  · by_cases h2 : toldO a b c lit 2 = off
    · simp [h1, h2]
    · by_cases h3 : toldO a b c lit 3 = off
      · simp [h1, h2, h3]
      · simp [h1, h2, h3]
        unfold toldO
        rw [if_pos (by omega)]
        omega
theorem valV_pos (a b c lit off : Int) (h : 1 ≤ off) : 1 ≤ valV a b c lit off ∧ valV a b c lit off ≤ off + 3 := by
  unfold valV valS
  by_cases h1 : toldO a b c lit 1 = off <;> by_cases h2 : toldO a b c lit 2 = off <;> by_cases h3 : toldO a b c lit 3 = off <;> simp [h1, h2, h3] <;> omega

theorem valS_yes {a b c lit off : Int} {k : Nat} (hk : k < 3) (h : (toldO a b c lit (3 - k) == off) = true) : (3 - k : Int) = valS a b c lit off (k + 1) := by
  simp at h
  have : k = 0 ∨ k = 1 ∨ k = 2 := by omega
  rcases this with rfl | rfl | rfl
  · simp [valS]; intro h'; exact absurd h h'
  · simp at h; simp [valS, h]
  · simp at h; simp [valS, h]
theorem valS_no {a b c lit off : Int} {k : Nat} (hk : k < 3) (h : (toldO a b c lit (3 - k) == off) = false) : valS a b c lit off k = valS a b c lit off (k + 1) := by
  simp at h
  have : k = 0 ∨ k = 1 ∨ k = 2 := by omega
  rcases this with rfl | rfl | rfl
  · simp at h; simp [valS, h]
  · simp at h; simp [valS, h]
  · simp at h; simp [valS, h]

set_option maxHeartbeats 1000000 in
theorem finds_ok (s : Nat) (a b c lit len off : Int) (w : World) (hs : Blk w s #[.int .i64 a, .int .i64 b, .int .i64 c] 62)
    (hr : rightB a b c = true) (hl : 0 ≤ lit) (ho : 1 ≤ off) (ho' : off ≤ 134217728) :
    Calls Try.prog 34 #[.pointer (some ⟨s, 0, none⟩), .agg #[.int .i64 lit, .int .i64 len, .int .i64 off]] w fun e w' =>
      e = .returned (.agg #[.int .i64 lit, .int .i64 len, .int .i64 (valV a b c lit off)]) ∧
      Blk w' s #[.int .i64 off, .int .i64 (updB a b (toldK lit (valV a b c lit off))), .int .i64 (updC b c (toldK lit (valV a b c lit off)))] 62 ∧ Keeps w w' [s] := by
  have hlt := hs.lt
  obtain ⟨c0, c1, c2, f0, f1, f2⟩ := hs.three
  obtain ⟨ha, ha'⟩ := rightB_lo hr
  have HR := Lib.hid hr
  clear hr
  go_enter Try.func34, Try.ntmps34
  go_wp2_with (first | (go_at_call 37; refine (right_any a b c _).mono ?_; rw [HR.out]; rintro e w' ⟨rfl, rfl⟩) | (go_at_call 36; refine (must_yes _ _).mono ?_; rintro e w' ⟨rfl, rfl⟩))
  have s1 := ((hs.alloc (.cells #[.int .i64 lit, .int .i64 len, .int .i64 off] 34)).alloc (.cells #[.int .i64 0, .int .i64 0, .int .i64 0] 24)).alloc (.cells #[.int .i64 a, .int .i64 b, .int .i64 c] 60)
  have x1 := ((Blk.new w #[.int .i64 lit, .int .i64 len, .int .i64 off] 34).alloc (.cells #[.int .i64 0, .int .i64 0, .int .i64 0] 24)).alloc (.cells #[.int .i64 a, .int .i64 b, .int .i64 c] 60)
  have r1 := (Blk.new (w.alloc (.cells #[.int .i64 lit, .int .i64 len, .int .i64 off] 34)) #[.int .i64 0, .int .i64 0, .int .i64 0] 24).alloc (.cells #[.int .i64 a, .int .i64 b, .int .i64 c] 60)
  have k1 := (((Keeps.refl w []).alloc (.cells #[.int .i64 lit, .int .i64 len, .int .i64 off] 34)).alloc (.cells #[.int .i64 0, .int .i64 0, .int .i64 0] 24)).alloc (.cells #[.int .i64 a, .int .i64 b, .int .i64 c] 60)
  simp only [World.size_alloc] at r1
  clear c0 c1 c2 f0 f1 f2
  go_loopw [5, 6] (fun x i wr => ∃ k : Nat, k ≤ 3 ∧ i = .int .i64 (3 - k) ∧ x = .int .i64 (valS a b c lit off k) ∧ Blk wr s #[.int .i64 a, .int .i64 b, .int .i64 c] 62 ∧
      Blk wr w.heap.size #[.int .i64 lit, .int .i64 len, .int .i64 off] 34 ∧ Blk wr (w.heap.size + 1) #[.int .i64 0, .int .i64 0, .int .i64 0] 24 ∧ Keeps w wr []) (fun _ i _ => (intOf i).toNat)
  case atStart => exact ⟨0, by omega, rfl, rfl, s1, x1, r1, k1⟩
  case round =>
    obtain ⟨k, hk, rfl, rfl, s2, x2, r2, k2⟩ := hrel
    clear s1 x1 r1 k1
    obtain ⟨c0, c1, c2, -⟩ := s2.three
    obtain ⟨x0, x1, x2', -⟩ := x2.three
    by_cases h3 : k < 3
    · go_wp2_with fail
      refine (told_any s a b c lit (3 - k) _ s2 ha ha' (by omega) (by omega)).mono ?_
      rintro e w3 ⟨rfl, kk⟩
      have s3 := s2.keeps kk (by simp)
      have x3 := x2.keeps kk (by simp)
      have r3 := r2.keeps kk (by simp)
      have k3 := k2.then kk
      clear c0 c1 c2 x0 x1 x2' s2 x2 r2 k2 kk
      obtain ⟨x0, x1, x2, -⟩ := x3.three
      go_wp2_with fail
      · have hy : (toldO a b c lit (3 - k) == off) = true := by assumption
        exact ⟨⟨k + 1, by omega, by go_num, by rw [valS_yes h3 hy], s3, x3, r3, k3⟩, by simp [intOf]; omega⟩
      · have hy : (toldO a b c lit (3 - k) == off) = false := by assumption
        exact ⟨⟨k + 1, by omega, by go_num, by rw [valS_no h3 hy], s3, x3, r3, k3⟩, by simp [intOf]; omega⟩
    · have : k = 3 := by omega
      subst this
      go_wp2_with fail
      have hv : valS a b c lit off 3 = valV a b c lit off := rfl
      have hp := valV_pos a b c lit off ho
      have ht := valV_told a b c lit off ho
      rw [hv]
      have G := goes_ok s a b c lit len (valV a b c lit off) (wr.alloc (.cells #[.int .i64 lit, .int .i64 len, .int .i64 (valV a b c lit off)] 24)) (s2.alloc _) ha ha' HR.out hl hp.1 (by omega) (by omega) (by omega)
      rw [ht] at G
      refine G.mono ?_
      rintro e w4 ⟨rfl, s4, kk⟩
      have hd : wr.heap.size ≠ s := by have := s2.lt; omega
      have y4 := (Blk.new wr #[.int .i64 lit, .int .i64 len, .int .i64 (valV a b c lit off)] 24).keeps kk (by simpa using hd)
      have r4 := (r2.alloc (.cells #[.int .i64 lit, .int .i64 len, .int .i64 (valV a b c lit off)] 24)).keeps kk (by simp; omega)
      have k4 : Keeps w w4 [s] := Keeps.trans ((k2.alloc (.cells #[.int .i64 lit, .int .i64 len, .int .i64 (valV a b c lit off)] 24)).mono (by simp)) kk (fun x hx _ => hx)
      have n1 := s4.lt
      have n2 := r4.lt
      have n3 : w.heap.size + 1 < wr.heap.size := r2.lt
      clear c0 c1 c2 x0 x1 x2' s2 x2 r2 k2 kk G hv hp ht
      obtain ⟨y0, y1, y2, -⟩ := y4.three
      obtain ⟨q0, q1, q2, q3, q4, q5⟩ := r4.three
      go_wp2_with fail
      refine bodyPost_ret (v := .agg #[.int .i64 lit, .int .i64 len, .int .i64 (valV a b c lit off)]) (by simp only [results, Try.results34]; go_simp) rfl ⟨rfl, ?_, ?_⟩
      · unfold Blk at s4 ⊢
        simp [heap_setCell_at, heap_drew_at, s4, hlt, past_en1]
      · repeat' first | with_reducible exact k4 | with_reducible refine Keeps.drew ?_ | with_reducible refine Keeps.setCell' (.inl (by dsimp only; omega)) ?_

set_option maxHeartbeats 1000000 in
theorem finds_arg (s : Nat) (a b c lit len off : Int) (w : World) (hs : Blk w s #[.int .i64 a, .int .i64 b, .int .i64 c] 62)
    (hf : (rightB a b c && (decide (0 ≤ lit) && inW off)) = false) :
    Calls Try.prog 34 #[.pointer (some ⟨s, 0, none⟩), .agg #[.int .i64 lit, .int .i64 len, .int .i64 off]] w fun e w' =>
      e = .panicked [raisedBy 2 false] ∧ Keeps w w' [] := by
  have hlt := hs.lt
  obtain ⟨c0, c1, c2, f0, f1, f2⟩ := hs.three
  cases hr : rightB a b c with
  | false =>
    have HR := Lib.hid hr
    clear hr hf
    go_enter Try.func34, Try.ntmps34
    go_wp2_with (first | (go_at_call 37; refine (right_any a b c _).mono ?_; rw [HR.out]; rintro e w' ⟨rfl, rfl⟩) | (go_at_call 36; refine (must_no _ _).mono ?_; rintro e w' ⟨rfl, rfl⟩))
    refine ⟨rfl, rfl, ?_⟩
    repeat' first | with_reducible exact Keeps.refl _ _ | with_reducible refine Keeps.alloc ?_ _
  | true =>
    rw [hr] at hf
    have HR := Lib.hid hr
    clear hr
    have hc : lit < 0 ∨ (0 ≤ lit ∧ off < 1) ∨ (0 ≤ lit ∧ 1 ≤ off ∧ 134217728 < off) := by simp [inW] at hf; omega
    clear hf
    rcases hc with hc | ⟨h1, hc⟩ | ⟨h1, h2, hc⟩
    · have hd : decide (0 ≤ lit) = false := by simpa using hc
      go_enter Try.func34, Try.ntmps34
      go_wp2_with (first | (go_at_call 37; refine (right_any a b c _).mono ?_; rw [HR.out]; rintro e w' ⟨rfl, rfl⟩) | (go_at_call 36; refine (must_no _ _).mono ?_; rintro e w' ⟨rfl, rfl⟩))
      refine ⟨rfl, rfl, ?_⟩
      repeat' first | with_reducible exact Keeps.refl _ _ | with_reducible refine Keeps.alloc ?_ _
    · have hd : decide (1 ≤ off) = false := by simpa using hc
      go_enter Try.func34, Try.ntmps34
      go_wp2_with (first | (go_at_call 37; refine (right_any a b c _).mono ?_; rw [HR.out]; rintro e w' ⟨rfl, rfl⟩) | (go_at_call 36; refine (must_no _ _).mono ?_; rintro e w' ⟨rfl, rfl⟩))
      refine ⟨rfl, rfl, ?_⟩
      repeat' first | with_reducible exact Keeps.refl _ _ | with_reducible refine Keeps.alloc ?_ _
    · have hd : decide (off ≤ 134217728) = false := by simpa using hc
      go_enter Try.func34, Try.ntmps34
      go_wp2_with (first | (go_at_call 37; refine (right_any a b c _).mono ?_; rw [HR.out]; rintro e w' ⟨rfl, rfl⟩) | (go_at_call 36; refine (must_no _ _).mono ?_; rintro e w' ⟨rfl, rfl⟩))
      refine ⟨rfl, rfl, ?_⟩
      repeat' first | with_reducible exact Keeps.refl _ _ | with_reducible refine Keeps.alloc ?_ _

end Go.Proofs.Ytldbiohahkcpnaa
