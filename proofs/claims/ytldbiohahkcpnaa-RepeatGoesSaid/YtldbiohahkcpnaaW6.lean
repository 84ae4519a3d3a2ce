/-
  Walks over package repeat: Offset.
-/
import Derived.Test.YtldbiohahkcpnaaW3
import Derived.Test.YtldbiohahkcpnaaW5
namespace Go.Proofs.Ytldbiohahkcpnaa
set_option linter.unusedVariables false
set_option linter.unusedSimpArgs false
set_option linter.unusedSectionVars false
open Go.RowKit

/-- What Offset hands back: the offset, the repeat offsets, the error. -/
def ofFine (a b c lit v : Int) : Bool := rightB a b c && (decide (0 ≤ lit) && (decide (1 ≤ v) && inW (toldO a b c lit v)))
def ofErr (a b c lit v : Int) : Int := if rightB a b c && decide (0 ≤ lit) then (if decide (1 ≤ v) && inW (toldO a b c lit v) then 0 else 15) else 2
def ofO (a b c lit v : Int) : Int := if ofFine a b c lit v then toldO a b c lit v else 0
def ofB (a b c lit v : Int) : Int := if ofFine a b c lit v then updB a b (toldK lit v) else 0
def ofC (a b c lit v : Int) : Int := if ofFine a b c lit v then updC b c (toldK lit v) else 0

theorem rightB_lo {a b c : Int} (h : rightB a b c = true) : 1 ≤ a ∧ a ≤ 134217728 := by
  simp [rightB, inW] at h; omega
theorem inW_bd {o : Int} (h : inW o = true) : 1 ≤ o ∧ o ≤ 134217728 := by
  simp [inW] at h; omega

set_option maxHeartbeats 1000000 in
theorem offset_fine (a b c lit len v : Int) (w : World) (hv' : v ≤ 9223372036854775807) (h : ofFine a b c lit v = true) :
    Calls Try.prog 12 #[.agg #[.int .i64 a, .int .i64 b, .int .i64 c], .agg #[.int .i64 lit, .int .i64 len, .int .i64 v]] w fun e w' =>
      e = .returned (.tuple #[.int .i64 (toldO a b c lit v), .agg #[.int .i64 (toldO a b c lit v), .int .i64 (updB a b (toldK lit v)), .int .i64 (updC b c (toldK lit v))], .int .i64 0]) ∧ Keeps w w' [] := by
  have hmf : ∀ (fn : Fn) (first cap : Array Value) (w : World), (Instr.makeFunc fn first cap).run Try.prog w = .ok (.func fn first cap) w := fun _ _ _ _ => rfl
  have hfi : ∀ (x y z : Int) (w : World), (Instr.field 34 (.agg #[.int .i64 x, .int .i64 y, .int .i64 z]) 2).run Try.prog w = .ok (.int .i64 z) w := fun _ _ _ _ => by kernel_rfl
  simp only [ofFine, Bool.and_eq_true, decide_eq_true_eq] at h
  obtain ⟨hr, hl, hv, ho⟩ := h
  obtain ⟨ha, ha'⟩ := rightB_lo hr
  obtain ⟨ho1, ho2⟩ := inW_bd ho
  have HR := Lib.hid hr
  clear hr ho
  have G := fun w s => goes_ok s a b c lit len v w
  generalize toldO a b c lit v = O at *
  generalize updB a b (toldK lit v) = B' at *
  generalize updC b c (toldK lit v) = C' at *
  have HG := Lib.hid G
  clear G
  go_enter_defers Try.func12, Try.ntmps12
  go_wp2_with fail
  have bs := Blk.new (((((w.alloc (.cells #[.int .i64 a, .int .i64 b, .int .i64 c] 22)).alloc (.cells #[.int .i64 lit, .int .i64 len, .int .i64 v] 24)).alloc (.cells #[.int .i64 0] 3)).alloc (.cells #[.int .i64 0, .int .i64 0, .int .i64 0] 22)).alloc (.cells #[.int .i64 0] 25)) #[.int .i64 a, .int .i64 b, .int .i64 c] 62
  have bo := ((((Blk.new ((w.alloc (.cells #[.int .i64 a, .int .i64 b, .int .i64 c] 22)).alloc (.cells #[.int .i64 lit, .int .i64 len, .int .i64 v] 24)) #[.int .i64 0] 3).alloc (.cells #[.int .i64 0, .int .i64 0, .int .i64 0] 22)).alloc (.cells #[.int .i64 0] 25)).alloc (.cells #[.int .i64 a, .int .i64 b, .int .i64 c] 62))
  have bt := (((Blk.new (((w.alloc (.cells #[.int .i64 a, .int .i64 b, .int .i64 c] 22)).alloc (.cells #[.int .i64 lit, .int .i64 len, .int .i64 v] 24)).alloc (.cells #[.int .i64 0] 3)) #[.int .i64 0, .int .i64 0, .int .i64 0] 22).alloc (.cells #[.int .i64 0] 25)).alloc (.cells #[.int .i64 a, .int .i64 b, .int .i64 c] 62))
  have be := ((Blk.new ((((w.alloc (.cells #[.int .i64 a, .int .i64 b, .int .i64 c] 22)).alloc (.cells #[.int .i64 lit, .int .i64 len, .int .i64 v] 24)).alloc (.cells #[.int .i64 0] 3)).alloc (.cells #[.int .i64 0, .int .i64 0, .int .i64 0] 22)) #[.int .i64 0] 25).alloc (.cells #[.int .i64 a, .int .i64 b, .int .i64 c] 62))
  simp only [World.size_alloc] at bs bo bt be
  refine (HG.out _ (w.heap.size + 1 + 1 + 1 + 1 + 1) bs ha ha' HR.out hl hv hv' ho1 ho2).mono ?_
  rintro e w1 ⟨rfl, s1, k1⟩
  replace bo := bo.keeps k1 (by simp)
  replace bt := bt.keeps k1 (by simp)
  replace be := be.keeps k1 (by simp)
  have kw : Keeps w w1 [] := by
    refine Keeps.trans ((((((((Keeps.refl w []).alloc _).alloc _).alloc _).alloc _).alloc _).alloc _)) k1 ?_
    intro x hx hlt
    simp at hx
    omega
  clear k1 bs
  obtain ⟨c0, c1, c2, -⟩ := s1.three
  obtain ⟨o0, fo⟩ := bo.one
  obtain ⟨e0, fe⟩ := be.one
  obtain ⟨t0, t1, t2, ft0, ft1, ft2⟩ := bt.three
  go_wp2
  go_region
  go_wp2
  refine leaves_cons (f := 26) (args := #[.pointer (some ⟨w.heap.size + 1 + 1 + 1 + 1, 0, none⟩), .func (.func 27) #[] #[.pointer (some ⟨w.heap.size + 1 + 1, 0, none⟩), .pointer (some ⟨w.heap.size + 1 + 1 + 1, 0, none⟩)]]) (by simp) (by simp [go_sem]) ?_
  refine (caught_idle _ _ _).mono ?_
  rintro e u' w'' ⟨rfl, rfl, rfl⟩
  refine ⟨.tuple #[.int .i64 O, .agg #[.int .i64 O, .int .i64 B', .int .i64 C'], .int .i64 0], by simp only [results, Try.results12]; go_simp, rfl, ?_⟩
  repeat' first | with_reducible exact kw | with_reducible refine Keeps.drew ?_ | with_reducible refine Keeps.setCell' (.inl (by dsimp only; omega)) ?_

theorem goes_bad (s : Nat) (a b c lit len v : Int) (w : World) (hs : Blk w s #[.int .i64 a, .int .i64 b, .int .i64 c] 62) (hv' : v ≤ 9223372036854775807) (h : ofFine a b c lit v = false) :
    Calls Try.prog 28 #[.pointer (some ⟨s, 0, none⟩), .agg #[.int .i64 lit, .int .i64 len, .int .i64 v]] w fun e w' =>
      e = .panicked [raisedBy (ofErr a b c lit v) false] ∧ Keeps w w' [] := by
  by_cases hq : rightB a b c = true ∧ 0 ≤ lit
  · obtain ⟨hr, hl⟩ := hq
    have he : ofErr a b c lit v = 15 := by
      simp only [ofFine, hr, hl, decide_true, Bool.true_and] at h
      simp [ofErr, hr, hl]
      simpa [decide_eq_true_eq] using h
    rw [he]
    refine goes_seq s a b c lit len v w hs (rightB_lo hr).1 (rightB_lo hr).2 hr hl hv' ?_
    simp only [ofFine, hr, hl, decide_true, Bool.true_and, Bool.and_eq_false_iff, decide_eq_false_iff_not] at h
    rcases h with h | h
    · exact .inl (by omega)
    · exact .inr h
  · have he : ofErr a b c lit v = 2 := by
      simp only [ofErr]
      rw [if_neg]
      simpa using hq
    rw [he]
    refine goes_arg s a b c lit len v w hs ?_
    cases hr : rightB a b c with
    | false => exact .inl rfl
    | true => exact .inr (by have : ¬ 0 ≤ lit := fun hl => hq ⟨hr, hl⟩; omega)

set_option maxHeartbeats 1000000 in
theorem offset_not (a b c lit len v : Int) (w : World) (hv' : v ≤ 9223372036854775807) (h : ofFine a b c lit v = false) :
    Calls Try.prog 12 #[.agg #[.int .i64 a, .int .i64 b, .int .i64 c], .agg #[.int .i64 lit, .int .i64 len, .int .i64 v]] w fun e w' =>
      e = .returned (.tuple #[.int .i64 0, .agg #[.int .i64 0, .int .i64 0, .int .i64 0], .int .i64 (ofErr a b c lit v)]) ∧ Keeps w w' [] := by
  have hmf : ∀ (fn : Fn) (first cap : Array Value) (w : World), (Instr.makeFunc fn first cap).run Try.prog w = .ok (.func fn first cap) w := fun _ _ _ _ => rfl
  have G := fun (w : World) (s : Nat) (hs : Blk w s #[.int .i64 a, .int .i64 b, .int .i64 c] 62) => goes_bad s a b c lit len v w hs hv' h
  generalize ofErr a b c lit v = E at *
  have HG := Lib.hid G
  clear G h
  go_enter_defers Try.func12, Try.ntmps12
  go_wp2_with fail
  have bs := Blk.new (((((w.alloc (.cells #[.int .i64 a, .int .i64 b, .int .i64 c] 22)).alloc (.cells #[.int .i64 lit, .int .i64 len, .int .i64 v] 24)).alloc (.cells #[.int .i64 0] 3)).alloc (.cells #[.int .i64 0, .int .i64 0, .int .i64 0] 22)).alloc (.cells #[.int .i64 0] 25)) #[.int .i64 a, .int .i64 b, .int .i64 c] 62
  have bo := ((((Blk.new ((w.alloc (.cells #[.int .i64 a, .int .i64 b, .int .i64 c] 22)).alloc (.cells #[.int .i64 lit, .int .i64 len, .int .i64 v] 24)) #[.int .i64 0] 3).alloc (.cells #[.int .i64 0, .int .i64 0, .int .i64 0] 22)).alloc (.cells #[.int .i64 0] 25)).alloc (.cells #[.int .i64 a, .int .i64 b, .int .i64 c] 62))
  have bt := (((Blk.new (((w.alloc (.cells #[.int .i64 a, .int .i64 b, .int .i64 c] 22)).alloc (.cells #[.int .i64 lit, .int .i64 len, .int .i64 v] 24)).alloc (.cells #[.int .i64 0] 3)) #[.int .i64 0, .int .i64 0, .int .i64 0] 22).alloc (.cells #[.int .i64 0] 25)).alloc (.cells #[.int .i64 a, .int .i64 b, .int .i64 c] 62))
  have be := ((Blk.new ((((w.alloc (.cells #[.int .i64 a, .int .i64 b, .int .i64 c] 22)).alloc (.cells #[.int .i64 lit, .int .i64 len, .int .i64 v] 24)).alloc (.cells #[.int .i64 0] 3)).alloc (.cells #[.int .i64 0, .int .i64 0, .int .i64 0] 22)) #[.int .i64 0] 25).alloc (.cells #[.int .i64 a, .int .i64 b, .int .i64 c] 62))
  simp only [World.size_alloc] at bs bo bt be
  refine (HG.out _ (w.heap.size + 1 + 1 + 1 + 1 + 1) bs).mono ?_
  rintro e w1 ⟨rfl, k1⟩
  replace bo := bo.keeps k1 (by simp)
  replace bt := bt.keeps k1 (by simp)
  replace be := be.keeps k1 (by simp)
  have kw : Keeps w w1 [] := ((((((((Keeps.refl w []).alloc _).alloc _).alloc _).alloc _).alloc _).alloc _)).then k1
  clear k1 bs
  obtain ⟨e0, fe⟩ := be.one
  obtain ⟨o0, -⟩ := bo.one
  obtain ⟨t0, t1, t2, -⟩ := bt.three
  go_wp2_with fail
  refine leaves_cons (f := 26) (args := #[.pointer (some ⟨w.heap.size + 1 + 1 + 1 + 1, 0, none⟩), .func (.func 27) #[] #[.pointer (some ⟨w.heap.size + 1 + 1, 0, none⟩), .pointer (some ⟨w.heap.size + 1 + 1 + 1, 0, none⟩)]]) (by simp) (by simp [go_sem]) ?_
  refine (caught_offset _ _ _ E _ _ _ _ _ _ _ _ [] w1 be bo bt (by omega) (by omega) (by omega)).mono ?_
  rintro e u' w'' ⟨rfl, rfl, rfl⟩
  refine ⟨.tuple #[.int .i64 0, .agg #[.int .i64 0, .int .i64 0, .int .i64 0], .int .i64 E], by simp only [results, Try.results12]; go_simp, rfl, ?_⟩
  repeat' first | with_reducible exact kw | with_reducible refine Keeps.drew ?_ | with_reducible refine Keeps.setCell' (.inl (by dsimp only; omega)) ?_

end Go.Proofs.Ytldbiohahkcpnaa
