/-
  Walks over package repeat: Values.
-/
import Derived.Test.YtldbiohahkcpnaaW10
namespace Go.Proofs.Ytldbiohahkcpnaa
set_option linter.unusedVariables false
set_option linter.unusedSimpArgs false
set_option linter.unusedSectionVars false
open Go.RowKit

set_option maxHeartbeats 1000000 in
theorem values_any (a b c : Int) (l : List I3) (v : Value) (w : World) (hv : Reads3 w v l) (hn : l.length ≤ 1000000) :
    Calls Try.prog 22 #[.agg #[.int .i64 a, .int .i64 b, .int .i64 c], v] w (OffsEnd w 24 (valsAll a b c l)) := by
  have hmf : ∀ (fn : Fn) (first cap : Array Value) (w : World), (Instr.makeFunc fn first cap).run Try.prog w = .ok (.func fn first cap) w := fun _ _ _ _ => rfl
  have hk := (((((Keeps.refl w []).alloc (.cells #[.int .i64 a, .int .i64 b, .int .i64 c] 22)).alloc (.cells #[.slice none 0 0] 37)).alloc (.cells #[.int .i64 0, .int .i64 0, .int .i64 0] 22)).alloc (.cells #[.int .i64 0] 25)).alloc (.cells #[.int .i64 a, .int .i64 b, .int .i64 c] 62)
  have bs := Blk.new ((((w.alloc (.cells #[.int .i64 a, .int .i64 b, .int .i64 c] 22)).alloc (.cells #[.slice none 0 0] 37)).alloc (.cells #[.int .i64 0, .int .i64 0, .int .i64 0] 22)).alloc (.cells #[.int .i64 0] 25)) #[.int .i64 a, .int .i64 b, .int .i64 c] 62
  have bo := (((Blk.new (w.alloc (.cells #[.int .i64 a, .int .i64 b, .int .i64 c] 22)) #[.slice none 0 0] 37).alloc (.cells #[.int .i64 0, .int .i64 0, .int .i64 0] 22)).alloc (.cells #[.int .i64 0] 25)).alloc (.cells #[.int .i64 a, .int .i64 b, .int .i64 c] 62)
  have bt := ((Blk.new ((w.alloc (.cells #[.int .i64 a, .int .i64 b, .int .i64 c] 22)).alloc (.cells #[.slice none 0 0] 37)) #[.int .i64 0, .int .i64 0, .int .i64 0] 22).alloc (.cells #[.int .i64 0] 25)).alloc (.cells #[.int .i64 a, .int .i64 b, .int .i64 c] 62)
  have be := (Blk.new (((w.alloc (.cells #[.int .i64 a, .int .i64 b, .int .i64 c] 22)).alloc (.cells #[.slice none 0 0] 37)).alloc (.cells #[.int .i64 0, .int .i64 0, .int .i64 0] 22)) #[.int .i64 0] 25).alloc (.cells #[.int .i64 a, .int .i64 b, .int .i64 c] 62)
  simp only [World.size_alloc] at bs bo bt be
  have HV := Lib.hid hv
  cases hr : rightB a b c with
  | false =>
    have HR := Lib.hid hr
    have HE : Hid (valsAll a b c l = .bad 2) := by show _ = _; simp [valsAll, hr]
    clear hr hv
    go_enter_defers Try.func22, Try.ntmps22
    go_wp2_with (first | (go_at_call 37; refine (right_any a b c _).mono ?_; rw [HR.out]; rintro e w' ⟨rfl, rfl⟩) | (go_at_call 36; refine (must_no _ _).mono ?_; rintro e w' ⟨rfl, rfl⟩))
    replace bo := bo.alloc (.cells #[.int .i64 a, .int .i64 b, .int .i64 c] 60)
    replace bt := bt.alloc (.cells #[.int .i64 a, .int .i64 b, .int .i64 c] 60)
    replace be := be.alloc (.cells #[.int .i64 a, .int .i64 b, .int .i64 c] 60)
    replace hk := hk.alloc (.cells #[.int .i64 a, .int .i64 b, .int .i64 c] 60)
    refine leaves_cons (f := 26) (args := #[.pointer (some ⟨w.heap.size + 1 + 1 + 1, 0, none⟩), .func (.func 39) #[] #[.pointer (some ⟨w.heap.size + 1, 0, none⟩), .pointer (some ⟨w.heap.size + 1 + 1, 0, none⟩)]]) (by simp) (by simp [go_sem]) ?_
    refine (caught_values _ _ _ 2 _ _ _ _ _ _ _ _ [] _ be bo bt (by omega) (by omega) (by omega)).mono ?_
    rintro e u' w'' ⟨rfl, rfl, rfl⟩
    obtain ⟨e0, fe⟩ := be.one
    obtain ⟨o0, -⟩ := bo.one
    obtain ⟨t0, t1, t2, -⟩ := bt.three
    refine ⟨.tuple #[.slice none 0 0, .agg #[.int .i64 0, .int .i64 0, .int .i64 0], .int .i64 2], by simp only [results, Try.results22]; go_simp, ?_⟩
    rw [HE.out]
    refine ⟨rfl, ?_⟩
    repeat' first | with_reducible exact hk | with_reducible refine Keeps.setCell' (.inl (by dsimp only; omega)) ?_
  | true =>
    have HR := Lib.hid hr
    have HE : Hid (valsAll a b c l = valsL a b c l) := by show _ = _; simp [valsAll, hr]
    clear hr hv
    have G := each_vals (w.heap.size + 1 + 1 + 1 + 1) a b c l v (((((((w.alloc (.cells #[.int .i64 a, .int .i64 b, .int .i64 c] 22)).alloc (.cells #[.slice none 0 0] 37)).alloc (.cells #[.int .i64 0, .int .i64 0, .int .i64 0] 22)).alloc (.cells #[.int .i64 0] 25)).alloc (.cells #[.int .i64 a, .int .i64 b, .int .i64 c] 62))).alloc (.cells #[.int .i64 a, .int .i64 b, .int .i64 c] 60)) (bs.alloc _) HR.out (HV.out.keeps (hk.alloc _)) (fun ad n cp he h0 => by subst he; have := HV.out.lt h0; omega) hn
    have HG := Lib.hid G
    clear G
    go_enter_defers Try.func22, Try.ntmps22
    go_wp2_with (first | (go_at_call 37; refine (right_any a b c _).mono ?_; rw [HR.out]; rintro e w' ⟨rfl, rfl⟩) | (go_at_call 36; refine (must_yes _ _).mono ?_; rintro e w' ⟨rfl, rfl⟩))
    refine HG.out.mono ?_
    replace bo := bo.alloc (.cells #[.int .i64 a, .int .i64 b, .int .i64 c] 60)
    replace bt := bt.alloc (.cells #[.int .i64 a, .int .i64 b, .int .i64 c] 60)
    replace be := be.alloc (.cells #[.int .i64 a, .int .i64 b, .int .i64 c] 60)
    replace hk := hk.alloc (.cells #[.int .i64 a, .int .i64 b, .int .i64 c] 60)
    clear HG bs
    intro e w1 hE
    cases hres : valsL a b c l with
    | bad n =>
      rw [hres] at hE
      obtain ⟨rfl, k1⟩ := hE
      have HE2 : Hid (valsAll a b c l = .bad n) := HE.out.trans hres
      clear hres HE
      replace bo := bo.keeps k1 (by simp)
      replace bt := bt.keeps k1 (by simp)
      replace be := be.keeps k1 (by simp)
      have kw : Keeps w w1 [] := hk.trans k1 (fun x hx hlt => by simp at hx; omega)
      clear k1 hk
      go_wp2_with fail
      refine leaves_cons (f := 26) (args := #[.pointer (some ⟨w.heap.size + 1 + 1 + 1, 0, none⟩), .func (.func 39) #[] #[.pointer (some ⟨w.heap.size + 1, 0, none⟩), .pointer (some ⟨w.heap.size + 1 + 1, 0, none⟩)]]) (by simp) (by simp [go_sem]) ?_
      refine (caught_values _ _ _ n _ _ _ _ _ _ _ _ [] _ be bo bt (by omega) (by omega) (by omega)).mono ?_
      rintro e u' w'' ⟨rfl, rfl, rfl⟩
      obtain ⟨e0, fe⟩ := be.one
      obtain ⟨o0, -⟩ := bo.one
      obtain ⟨t0, t1, t2, -⟩ := bt.three
      refine ⟨.tuple #[.slice none 0 0, .agg #[.int .i64 0, .int .i64 0, .int .i64 0], .int .i64 n], by simp only [results, Try.results22]; go_simp, ?_⟩
      rw [HE2.out]
      refine ⟨rfl, ?_⟩
      repeat' first | with_reducible exact kw | with_reducible refine Keeps.setCell' (.inl (by dsimp only; omega)) ?_
    | fine out a1 b1 c1 =>
      rw [hres] at hE
      obtain ⟨v1, rfl, hown, s1, k1⟩ := hE
      have HE2 : Hid (valsAll a b c l = .fine out a1 b1 c1) := HE.out.trans hres
      clear hres HE
      replace bo := bo.keeps k1 (by simp)
      replace bt := bt.keeps k1 (by simp)
      replace be := be.keeps k1 (by simp)
      have kw : Keeps w w1 [] := hk.trans k1 (fun x hx hlt => by simp at hx; omega)
      clear k1 hk
      simp only [World.size_alloc] at hown
      obtain ⟨x0, x1, x2, -⟩ := s1.three
      obtain ⟨e0, fe⟩ := be.one
      obtain ⟨o0, fo⟩ := bo.one
      obtain ⟨t0, t1, t2, ft0, ft1, ft2⟩ := bt.three
      have hob : ∀ g, v1.ownBlock = some g → w.heap.size + 1 + 1 + 1 + 1 + 1 + 1 ≤ g := fun g hg => (hown.lt g hg).1
      have HOB := Lib.hid hob
      have hsl : ∃ ad nn cp, v1 = .slice ad nn cp := by
        rcases hown.2 with ⟨rfl, -⟩ | ⟨g, cp, cur, rfl, -⟩ <;> exact ⟨_, _, _, rfl⟩
      obtain ⟨ad, nn, cp, rfl⟩ := hsl
      clear hob
      go_wp2
      go_region
      go_wp2
      refine leaves_cons (f := 26) (args := #[.pointer (some ⟨w.heap.size + 1 + 1 + 1, 0, none⟩), .func (.func 39) #[] #[.pointer (some ⟨w.heap.size + 1, 0, none⟩), .pointer (some ⟨w.heap.size + 1 + 1, 0, none⟩)]]) (by simp) (by simp [go_sem]) ?_
      refine (caught_idle _ _ _).mono ?_
      rintro e u' w'' ⟨rfl, rfl, rfl⟩
      refine ⟨.tuple #[.slice ad nn cp, .agg #[.int .i64 a1, .int .i64 b1, .int .i64 c1], .int .i64 0], by simp only [results, Try.results22]; go_simp, ?_⟩
      rw [HE2.out]
      refine ⟨_, rfl, ?_, ?_⟩
      · refine owns_base ?_ (show w.heap.size ≤ w.heap.size + 1 + 1 + 1 + 1 + 1 + 1 by omega)
        repeat' first | with_reducible exact hown | with_reducible refine owns_drew ?_ | with_reducible refine owns_setCell ?_ (fun he => by have := HOB.out _ he; dsimp only at this; omega) _
      · repeat' first | with_reducible exact kw | with_reducible refine Keeps.drew ?_ | with_reducible refine Keeps.setCell' (.inl (by dsimp only; omega)) ?_

end Go.Proofs.Ytldbiohahkcpnaa
