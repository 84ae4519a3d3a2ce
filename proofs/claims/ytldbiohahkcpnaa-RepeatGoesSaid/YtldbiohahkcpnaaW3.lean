/-
  Walks over package repeat: goes.
-/
import Derived.Test.YtldbiohahkcpnaaW2
namespace Go.Proofs.Ytldbiohahkcpnaa
set_option linter.unusedVariables false
set_option linter.unusedSimpArgs false
set_option linter.unusedSectionVars false
open Go.RowKit

/-- The second and the third repeat offset behind an update. -/
def updB (a b k : Int) : Int := if k = 0 then b else a
def updC (b c k : Int) : Int := if k = 0 then c else if k = 1 then c else b

theorem toldK_range (lit v : Int) (hv : 1 ≤ v) : toldK lit v = 0 ∨ toldK lit v = 1 ∨ toldK lit v = 2 ∨ toldK lit v = 3 := by
  unfold toldK
  split
  · simp
  · split <;> omega

set_option maxHeartbeats 4000000 in
theorem goes_ok (s : Nat) (a b c lit len v : Int) (w : World) (hs : Blk w s #[.int .i64 a, .int .i64 b, .int .i64 c] 62)
    (ha : 1 ≤ a) (ha' : a ≤ 134217728) (hr : rightB a b c = true) (hl : 0 ≤ lit) (hv : 1 ≤ v) (hv' : v ≤ 9223372036854775807) (ho : 1 ≤ toldO a b c lit v) (ho' : toldO a b c lit v ≤ 134217728) :
    Calls Try.prog 28 #[.pointer (some ⟨s, 0, none⟩), .agg #[.int .i64 lit, .int .i64 len, .int .i64 v]] w fun e w' =>
      e = .returned (.agg #[.int .i64 lit, .int .i64 len, .int .i64 (toldO a b c lit v)]) ∧
      Blk w' s #[.int .i64 (toldO a b c lit v), .int .i64 (updB a b (toldK lit v)), .int .i64 (updC b c (toldK lit v))] 62 ∧ Keeps w w' [s] := by
  have hlt := hs.lt
  obtain ⟨c0, c1, c2, f0, f1, f2⟩ := hs.three
  generalize hO : toldO a b c lit v = O at *
  generalize hK : toldK lit v = K at *
  have hKr := toldK_range lit v hv
  rw [hK] at hKr
  have HO := Lib.hid hO
  have HK := Lib.hid hK
  have HR := Lib.hid hr
  clear hO hK hr
  go_enter Try.func28, Try.ntmps28
  go_wp2_with fail
  refine (right_any a b c _).mono ?_
  rintro e w' ⟨rfl, rfl⟩
  rw [HR.out]
  go_wp2_with (first | (go_at_call 36; refine (must_yes _ _).mono ?_; rintro e w' ⟨rfl, rfl⟩))
  refine (told_any s a b c lit v _ (((hs.alloc _).alloc _).alloc _) ha ha' hv hv').mono ?_
  rw [HO.out, HK.out]
  rintro e w1 ⟨rfl, hk⟩
  have s1 := (((hs.alloc _).alloc _).alloc _).keeps hk (by simp)
  have x1 := (((Blk.new w _ _).alloc _).alloc _).keeps hk (by simp)
  have r1 := ((Blk.new (w.alloc _) _ _).alloc _).keeps hk (by simp)
  simp only [World.size_alloc] at r1
  have kw : Keeps w w1 [s] := ((((Keeps.refl w _).alloc _).alloc _).alloc _).then hk
  clear c0 c1 c2 f0 f1 f2 hk
  obtain ⟨c0, c1, c2, f0, f1, f2⟩ := s1.three
  obtain ⟨x0, x1', x2, -⟩ := x1.three
  obtain ⟨q0, q1, q2, r0, r1', r2⟩ := r1.three
  have l1 := s1.lt
  have l2 := r1.lt
  rcases hKr with rfl | rfl | rfl | rfl
  all_goals
    go_wp2_with (first | (go_at_call 36; refine (must_yes _ _).mono ?_; rintro e w' ⟨rfl, rfl⟩))
    refine wp_loop_rounds 3 ?_
    rw [rounds_succ]
    go_wp2
  · refine bodyPost_ret (v := .agg #[.int .i64 lit, .int .i64 len, .int .i64 O]) (by simp only [results, Try.results28]; go_simp) rfl ⟨rfl, ?_, ?_⟩
    · unfold Blk at s1 ⊢
      simp [heap_setCell_at, heap_drew_at, s1, updB, updC, hlt, past_en1]
    · repeat' first | with_reducible exact kw | with_reducible refine Keeps.setCell' (by simp) ?_
  · go_region
    go_wp2
    rw [rounds_succ]
    go_wp2
    refine bodyPost_ret (v := .agg #[.int .i64 lit, .int .i64 len, .int .i64 O]) (by simp only [results, Try.results28]; go_simp) rfl ⟨rfl, ?_, ?_⟩
    · unfold Blk at s1 ⊢
      simp [heap_setCell_at, heap_drew_at, s1, updB, updC, hlt, past_en1]
    · repeat' first | with_reducible exact kw | with_reducible refine Keeps.setCell' (by simp) ?_ | with_reducible refine Keeps.drew ?_
  all_goals
    go_region
    go_wp2
    rw [rounds_succ]
    go_wp2
    go_region
    go_wp2
    rw [rounds_succ]
    go_wp2
    refine bodyPost_ret (v := .agg #[.int .i64 lit, .int .i64 len, .int .i64 O]) (by simp only [results, Try.results28]; go_simp) rfl ⟨rfl, ?_, ?_⟩
    · unfold Blk at s1 ⊢
      simp [heap_setCell_at, heap_drew_at, s1, updB, updC, hlt, past_en1]
    · repeat' first | with_reducible exact kw | with_reducible refine Keeps.setCell' (by simp) ?_ | with_reducible refine Keeps.drew ?_

end Go.Proofs.Ytldbiohahkcpnaa
