/-
  Walks over package repeat: Value.
-/
import Derived.Test.YtldbiohahkcpnaaW7
namespace Go.Proofs.Ytldbiohahkcpnaa
set_option linter.unusedVariables false
set_option linter.unusedSimpArgs false
set_option linter.unusedSectionVars false
open Go.RowKit

def vfFine (a b c lit off : Int) : Bool := rightB a b c && (decide (0 ≤ lit) && inW off)

set_option maxHeartbeats 1000000 in
theorem value_fine (a b c lit len v : Int) (w : World) (h : vfFine a b c lit v = true) :
    Calls Try.prog 16 #[.agg #[.int .i64 a, .int .i64 b, .int .i64 c], .agg #[.int .i64 lit, .int .i64 len, .int .i64 v]] w fun e w' =>
      e = .returned (.tuple #[.int .i64 (valV a b c lit v), .agg #[.int .i64 v, .int .i64 (updB a b (toldK lit (valV a b c lit v))), .int .i64 (updC b c (toldK lit (valV a b c lit v)))], .int .i64 0]) ∧ Keeps w w' [] := by
  have hmf : ∀ (fn : Fn) (first cap : Array Value) (w : World), (Instr.makeFunc fn first cap).run Try.prog w = .ok (.func fn first cap) w := fun _ _ _ _ => rfl
  have hfi : ∀ (x y z : Int) (w : World), (Instr.field 24 (.agg #[.int .i64 x, .int .i64 y, .int .i64 z]) 2).run Try.prog w = .ok (.int .i64 z) w := fun _ _ _ _ => by kernel_rfl
  simp only [vfFine, Bool.and_eq_true, decide_eq_true_eq] at h
  obtain ⟨hr, hl, ho⟩ := h
  obtain ⟨ha, ha'⟩ := rightB_lo hr
  obtain ⟨ho1, ho2⟩ := inW_bd ho
  have HR := Lib.hid hr
  clear hr ho
  have G := fun w s => finds_ok s a b c lit len v w
  generalize updB a b (toldK lit (valV a b c lit v)) = B' at *
  generalize updC b c (toldK lit (valV a b c lit v)) = C' at *
  generalize valV a b c lit v = V at *
  have HG := Lib.hid G
  clear G
  go_enter_defers Try.func16, Try.ntmps16
  go_wp2_with fail
  have bs := Blk.new (((((w.alloc (.cells #[.int .i64 a, .int .i64 b, .int .i64 c] 22)).alloc (.cells #[.int .i64 lit, .int .i64 len, .int .i64 v] 34)).alloc (.cells #[.int .i64 0] 3)).alloc (.cells #[.int .i64 0, .int .i64 0, .int .i64 0] 22)).alloc (.cells #[.int .i64 0] 25)) #[.int .i64 a, .int .i64 b, .int .i64 c] 62
  have bo := ((((Blk.new ((w.alloc (.cells #[.int .i64 a, .int .i64 b, .int .i64 c] 22)).alloc (.cells #[.int .i64 lit, .int .i64 len, .int .i64 v] 34)) #[.int .i64 0] 3).alloc (.cells #[.int .i64 0, .int .i64 0, .int .i64 0] 22)).alloc (.cells #[.int .i64 0] 25)).alloc (.cells #[.int .i64 a, .int .i64 b, .int .i64 c] 62))
  have bt := (((Blk.new (((w.alloc (.cells #[.int .i64 a, .int .i64 b, .int .i64 c] 22)).alloc (.cells #[.int .i64 lit, .int .i64 len, .int .i64 v] 34)).alloc (.cells #[.int .i64 0] 3)) #[.int .i64 0, .int .i64 0, .int .i64 0] 22).alloc (.cells #[.int .i64 0] 25)).alloc (.cells #[.int .i64 a, .int .i64 b, .int .i64 c] 62))
  have be := ((Blk.new ((((w.alloc (.cells #[.int .i64 a, .int .i64 b, .int .i64 c] 22)).alloc (.cells #[.int .i64 lit, .int .i64 len, .int .i64 v] 34)).alloc (.cells #[.int .i64 0] 3)).alloc (.cells #[.int .i64 0, .int .i64 0, .int .i64 0] 22)) #[.int .i64 0] 25).alloc (.cells #[.int .i64 a, .int .i64 b, .int .i64 c] 62))
  simp only [World.size_alloc] at bs bo bt be
  refine (HG.out _ (w.heap.size + 1 + 1 + 1 + 1 + 1) bs HR.out hl ho1 ho2).mono ?_
  rintro e w1 ⟨rfl, s1, k1⟩
  replace bo := bo.keeps k1 (by simp)
  replace bt := bt.keeps k1 (by simp)
  replace be := be.keeps k1 (by simp)
  have kw : Keeps w w1 [] := by
    refine Keeps.trans ((((((((Keeps.refl w []).alloc _).alloc _).alloc _).alloc _).alloc _).alloc _)) k1 ?_
    intro x hx hlt
    simp at hx
    omega
  clear k1 bs
  obtain ⟨c0, c1, c2, -⟩ := s1.three
  obtain ⟨o0, fo⟩ := bo.one
  obtain ⟨e0, fe⟩ := be.one
  obtain ⟨t0, t1, t2, ft0, ft1, ft2⟩ := bt.three
  go_wp2
  go_region
  go_wp2
  refine leaves_cons (f := 26) (args := #[.pointer (some ⟨w.heap.size + 1 + 1 + 1 + 1, 0, none⟩), .func (.func 33) #[] #[.pointer (some ⟨w.heap.size + 1 + 1, 0, none⟩), .pointer (some ⟨w.heap.size + 1 + 1 + 1, 0, none⟩)]]) (by simp) (by simp [go_sem]) ?_
  refine (caught_idle _ _ _).mono ?_
  rintro e u' w'' ⟨rfl, rfl, rfl⟩
  refine ⟨.tuple #[.int .i64 V, .agg #[.int .i64 v, .int .i64 B', .int .i64 C'], .int .i64 0], by simp only [results, Try.results16]; go_simp, rfl, ?_⟩
  repeat' first | with_reducible exact kw | with_reducible refine Keeps.drew ?_ | with_reducible refine Keeps.setCell' (.inl (by dsimp only; omega)) ?_

set_option maxHeartbeats 1000000 in
theorem value_not (a b c lit len v : Int) (w : World) (h : vfFine a b c lit v = false) :
    Calls Try.prog 16 #[.agg #[.int .i64 a, .int .i64 b, .int .i64 c], .agg #[.int .i64 lit, .int .i64 len, .int .i64 v]] w fun e w' =>
      e = .returned (.tuple #[.int .i64 0, .agg #[.int .i64 0, .int .i64 0, .int .i64 0], .int .i64 2]) ∧ Keeps w w' [] := by
  have hmf : ∀ (fn : Fn) (first cap : Array Value) (w : World), (Instr.makeFunc fn first cap).run Try.prog w = .ok (.func fn first cap) w := fun _ _ _ _ => rfl
  have G := fun (w : World) (s : Nat) (hs : Blk w s #[.int .i64 a, .int .i64 b, .int .i64 c] 62) => finds_arg s a b c lit len v w hs h
  have HG := Lib.hid G
  clear G h
  go_enter_defers Try.func16, Try.ntmps16
  go_wp2_with fail
  have bs := Blk.new (((((w.alloc (.cells #[.int .i64 a, .int .i64 b, .int .i64 c] 22)).alloc (.cells #[.int .i64 lit, .int .i64 len, .int .i64 v] 34)).alloc (.cells #[.int .i64 0] 3)).alloc (.cells #[.int .i64 0, .int .i64 0, .int .i64 0] 22)).alloc (.cells #[.int .i64 0] 25)) #[.int .i64 a, .int .i64 b, .int .i64 c] 62
  have bo := ((((Blk.new ((w.alloc (.cells #[.int .i64 a, .int .i64 b, .int .i64 c] 22)).alloc (.cells #[.int .i64 lit, .int .i64 len, .int .i64 v] 34)) #[.int .i64 0] 3).alloc (.cells #[.int .i64 0, .int .i64 0, .int .i64 0] 22)).alloc (.cells #[.int .i64 0] 25)).alloc (.cells #[.int .i64 a, .int .i64 b, .int .i64 c] 62))
  have bt := (((Blk.new (((w.alloc (.cells #[.int .i64 a, .int .i64 b, .int .i64 c] 22)).alloc (.cells #[.int .i64 lit, .int .i64 len, .int .i64 v] 34)).alloc (.cells #[.int .i64 0] 3)) #[.int .i64 0, .int .i64 0, .int .i64 0] 22).alloc (.cells #[.int .i64 0] 25)).alloc (.cells #[.int .i64 a, .int .i64 b, .int .i64 c] 62))
  have be := ((Blk.new ((((w.alloc (.cells #[.int .i64 a, .int .i64 b, .int .i64 c] 22)).alloc (.cells #[.int .i64 lit, .int .i64 len, .int .i64 v] 34)).alloc (.cells #[.int .i64 0] 3)).alloc (.cells #[.int .i64 0, .int .i64 0, .int .i64 0] 22)) #[.int .i64 0] 25).alloc (.cells #[.int .i64 a, .int .i64 b, .int .i64 c] 62))
  simp only [World.size_alloc] at bs bo bt be
  refine (HG.out _ (w.heap.size + 1 + 1 + 1 + 1 + 1) bs).mono ?_
  rintro e w1 ⟨rfl, k1⟩
  replace bo := bo.keeps k1 (by simp)
  replace bt := bt.keeps k1 (by simp)
  replace be := be.keeps k1 (by simp)
  have kw : Keeps w w1 [] := ((((((((Keeps.refl w []).alloc _).alloc _).alloc _).alloc _).alloc _).alloc _)).then k1
  clear k1 bs
  obtain ⟨e0, fe⟩ := be.one
  obtain ⟨o0, -⟩ := bo.one
  obtain ⟨t0, t1, t2, -⟩ := bt.three
  go_wp2_with fail
  refine leaves_cons (f := 26) (args := #[.pointer (some ⟨w.heap.size + 1 + 1 + 1 + 1, 0, none⟩), .func (.func 33) #[] #[.pointer (some ⟨w.heap.size + 1 + 1, 0, none⟩), .pointer (some ⟨w.heap.size + 1 + 1 + 1, 0, none⟩)]]) (by simp) (by simp [go_sem]) ?_
  refine (caught_value _ _ _ 2 _ _ _ _ _ _ _ _ [] w1 be bo bt (by omega) (by omega) (by omega)).mono ?_
  rintro e u' w'' ⟨rfl, rfl, rfl⟩
  refine ⟨.tuple #[.int .i64 0, .agg #[.int .i64 0, .int .i64 0, .int .i64 0], .int .i64 2], by simp only [results, Try.results16]; go_simp, rfl, ?_⟩
  repeat' first | with_reducible exact kw | with_reducible refine Keeps.drew ?_ | with_reducible refine Keeps.setCell' (.inl (by dsimp only; omega)) ?_

end Go.Proofs.Ytldbiohahkcpnaa
