/-
  Walks over package repeat: Offsets and Values.
-/
import Derived.Test.YtldbiohahkcpnaaW9b
namespace Go.Proofs.Ytldbiohahkcpnaa
set_option linter.unusedVariables false
set_option linter.unusedSimpArgs false
set_option linter.unusedSectionVars false
open Go.RowKit

def OffsEnd (w : World) (T : TypeId) : Res → Ending → World → Prop
  | .fine out a b c, e, w' => ∃ v, e = .returned (.tuple #[v, .agg #[.int .i64 a, .int .i64 b, .int .i64 c], .int .i64 0]) ∧ w'.ownsRow w.heap.size T 3 v out.length (cellsL out) ∧ Keeps w w' []
  | .bad n, e, w' => e = .returned (.tuple #[.slice none 0 0, .agg #[.int .i64 0, .int .i64 0, .int .i64 0], .int .i64 n]) ∧ Keeps w w' []
def offsAll (a b c : Int) (l : List I3) : Res := if rightB a b c then offsL a b c l else .bad 2
def valsAll (a b c : Int) (l : List I3) : Res := if rightB a b c then valsL a b c l else .bad 2

theorem Reads3.keeps {w w' : World} {v : Value} {l : List I3} (h : Reads3 w v l) (k : Keeps w w' []) : Reads3 w' v l := by
  obtain ⟨a, n, cp, rfl, hn, hc⟩ := h.form
  refine ⟨a, n, cp, rfl, hn, fun h0 => ?_⟩
  obtain ⟨h1, b, o, h2, h3, h4⟩ := hc h0
  exact ⟨h1, b, o, h2, Nat.lt_of_lt_of_le h3 k.size, fun i hi => (k.cell h3 (by simp)).trans (h4 i hi)⟩
theorem Reads3.lt {w : World} {l : List I3} {a : Addr} {n cp : Nat} (h : Reads3 w (.slice (some a) n cp) l) (h0 : 0 < n) : a.block < w.heap.size := by
  obtain ⟨a', n', cp', he, hn, hc⟩ := h.form
  obtain ⟨h1, h2, h3⟩ := Value.slice.inj he
  subst h2 h3
  obtain ⟨_, b, o, h2, h3, h4⟩ := hc h0
  rw [← h1] at h2
  cases h2
  exact h3
/-- An owned row stays through stores elsewhere. -/
theorem owns_setCell {w : World} {base : Nat} {e : TypeId} {size : Nat} {v : Value} {n : Nat} {xs : List Value} (h : w.ownsRow base e size v n xs) {a : Addr} (ha : v.ownBlock ≠ some a.block) (u : Value) : (w.setCell a u).ownsRow base e size v n xs := by
  refine h.kept (row := some a.block) ⟨rfl, rfl, rfl, by simp, fun k _ hk => Below.heap_setCell _ _ _ _ (fun he => hk (by rw [he]))⟩ (.inr ha)
theorem owns_drew {w : World} {base : Nat} {e : TypeId} {size : Nat} {v : Value} {n : Nat} {xs : List Value} (h : w.ownsRow base e size v n xs) : w.drew.ownsRow base e size v n xs := h
theorem owns_base {w : World} {base base' : Nat} {e : TypeId} {size : Nat} {v : Value} {n : Nat} {xs : List Value} (h : w.ownsRow base e size v n xs) (hb : base' ≤ base) : w.ownsRow base' e size v n xs := by
  obtain ⟨h1, h2⟩ := h
  refine ⟨h1, ?_⟩
  rcases h2 with h2 | ⟨g, cap, cur, rfl, hg, r⟩
  · exact .inl h2
  · exact .inr ⟨g, cap, cur, rfl, by omega, r⟩

set_option maxHeartbeats 1000000 in
theorem offsets_any (a b c : Int) (l : List I3) (v : Value) (w : World) (hv : Reads3 w v l) (hn : l.length ≤ 1000000) (hb : ∀ x ∈ l, x.2.2 ≤ 9223372036854775807) :
    Calls Try.prog 18 #[.agg #[.int .i64 a, .int .i64 b, .int .i64 c], v] w (OffsEnd w 34 (offsAll a b c l)) := by
  have hmf : ∀ (fn : Fn) (first cap : Array Value) (w : World), (Instr.makeFunc fn first cap).run Try.prog w = .ok (.func fn first cap) w := fun _ _ _ _ => rfl
  have hk := (((((Keeps.refl w []).alloc (.cells #[.int .i64 a, .int .i64 b, .int .i64 c] 22)).alloc (.cells #[.slice none 0 0] 38)).alloc (.cells #[.int .i64 0, .int .i64 0, .int .i64 0] 22)).alloc (.cells #[.int .i64 0] 25)).alloc (.cells #[.int .i64 a, .int .i64 b, .int .i64 c] 62)
  have bs := Blk.new ((((w.alloc (.cells #[.int .i64 a, .int .i64 b, .int .i64 c] 22)).alloc (.cells #[.slice none 0 0] 38)).alloc (.cells #[.int .i64 0, .int .i64 0, .int .i64 0] 22)).alloc (.cells #[.int .i64 0] 25)) #[.int .i64 a, .int .i64 b, .int .i64 c] 62
  have bo := (((Blk.new (w.alloc (.cells #[.int .i64 a, .int .i64 b, .int .i64 c] 22)) #[.slice none 0 0] 38).alloc (.cells #[.int .i64 0, .int .i64 0, .int .i64 0] 22)).alloc (.cells #[.int .i64 0] 25)).alloc (.cells #[.int .i64 a, .int .i64 b, .int .i64 c] 62)
  have bt := ((Blk.new ((w.alloc (.cells #[.int .i64 a, .int .i64 b, .int .i64 c] 22)).alloc (.cells #[.slice none 0 0] 38)) #[.int .i64 0, .int .i64 0, .int .i64 0] 22).alloc (.cells #[.int .i64 0] 25)).alloc (.cells #[.int .i64 a, .int .i64 b, .int .i64 c] 62)
  have be := (Blk.new (((w.alloc (.cells #[.int .i64 a, .int .i64 b, .int .i64 c] 22)).alloc (.cells #[.slice none 0 0] 38)).alloc (.cells #[.int .i64 0, .int .i64 0, .int .i64 0] 22)) #[.int .i64 0] 25).alloc (.cells #[.int .i64 a, .int .i64 b, .int .i64 c] 62)
  simp only [World.size_alloc] at bs bo bt be
  have HV := Lib.hid hv
  cases hr : rightB a b c with
  | false =>
    have HR := Lib.hid hr
    have HE : Hid (offsAll a b c l = .bad 2) := by show _ = _; simp [offsAll, hr]
    clear hr hv
    go_enter_defers Try.func18, Try.ntmps18
    go_wp2_with (first | (go_at_call 37; refine (right_any a b c _).mono ?_; rw [HR.out]; rintro e w' ⟨rfl, rfl⟩) | (go_at_call 36; refine (must_no _ _).mono ?_; rintro e w' ⟨rfl, rfl⟩))
    replace bo := bo.alloc (.cells #[.int .i64 a, .int .i64 b, .int .i64 c] 60)
    replace bt := bt.alloc (.cells #[.int .i64 a, .int .i64 b, .int .i64 c] 60)
    replace be := be.alloc (.cells #[.int .i64 a, .int .i64 b, .int .i64 c] 60)
    replace hk := hk.alloc (.cells #[.int .i64 a, .int .i64 b, .int .i64 c] 60)
    refine leaves_cons (f := 26) (args := #[.pointer (some ⟨w.heap.size + 1 + 1 + 1, 0, none⟩), .func (.func 35) #[] #[.pointer (some ⟨w.heap.size + 1, 0, none⟩), .pointer (some ⟨w.heap.size + 1 + 1, 0, none⟩)]]) (by simp) (by simp [go_sem]) ?_
    refine (caught_offsets _ _ _ 2 _ _ _ _ _ _ _ _ [] _ be bo bt (by omega) (by omega) (by omega)).mono ?_
    rintro e u' w'' ⟨rfl, rfl, rfl⟩
    obtain ⟨e0, fe⟩ := be.one
    obtain ⟨o0, -⟩ := bo.one
    obtain ⟨t0, t1, t2, -⟩ := bt.three
    refine ⟨.tuple #[.slice none 0 0, .agg #[.int .i64 0, .int .i64 0, .int .i64 0], .int .i64 2], by simp only [results, Try.results18]; go_simp, ?_⟩
    rw [HE.out]
    refine ⟨rfl, ?_⟩
    repeat' first | with_reducible exact hk | with_reducible refine Keeps.setCell' (.inl (by dsimp only; omega)) ?_
  | true =>
    have HR := Lib.hid hr
    have HE : Hid (offsAll a b c l = offsL a b c l) := by show _ = _; simp [offsAll, hr]
    clear hr hv
    have G := each_offs (w.heap.size + 1 + 1 + 1 + 1) a b c l v (((((((w.alloc (.cells #[.int .i64 a, .int .i64 b, .int .i64 c] 22)).alloc (.cells #[.slice none 0 0] 38)).alloc (.cells #[.int .i64 0, .int .i64 0, .int .i64 0] 22)).alloc (.cells #[.int .i64 0] 25)).alloc (.cells #[.int .i64 a, .int .i64 b, .int .i64 c] 62))).alloc (.cells #[.int .i64 a, .int .i64 b, .int .i64 c] 60)) (bs.alloc _) HR.out (HV.out.keeps (hk.alloc _)) (fun ad n cp he h0 => by subst he; have := HV.out.lt h0; omega) hn hb
    have HG := Lib.hid G
    clear G
    go_enter_defers Try.func18, Try.ntmps18
    go_wp2_with (first | (go_at_call 37; refine (right_any a b c _).mono ?_; rw [HR.out]; rintro e w' ⟨rfl, rfl⟩) | (go_at_call 36; refine (must_yes _ _).mono ?_; rintro e w' ⟨rfl, rfl⟩))
    refine HG.out.mono ?_
    replace bo := bo.alloc (.cells #[.int .i64 a, .int .i64 b, .int .i64 c] 60)
    replace bt := bt.alloc (.cells #[.int .i64 a, .int .i64 b, .int .i64 c] 60)
    replace be := be.alloc (.cells #[.int .i64 a, .int .i64 b, .int .i64 c] 60)
    replace hk := hk.alloc (.cells #[.int .i64 a, .int .i64 b, .int .i64 c] 60)
    clear HG bs
    intro e w1 hE
    cases hres : offsL a b c l with
    | bad n =>
      rw [hres] at hE
      obtain ⟨rfl, k1⟩ := hE
      have HE2 : Hid (offsAll a b c l = .bad n) := HE.out.trans hres
      clear hres HE
      replace bo := bo.keeps k1 (by simp)
      replace bt := bt.keeps k1 (by simp)
      replace be := be.keeps k1 (by simp)
      have kw : Keeps w w1 [] := hk.trans k1 (fun x hx hlt => by simp at hx; omega)
      clear k1 hk
      go_wp2_with fail
      refine leaves_cons (f := 26) (args := #[.pointer (some ⟨w.heap.size + 1 + 1 + 1, 0, none⟩), .func (.func 35) #[] #[.pointer (some ⟨w.heap.size + 1, 0, none⟩), .pointer (some ⟨w.heap.size + 1 + 1, 0, none⟩)]]) (by simp) (by simp [go_sem]) ?_
      refine (caught_offsets _ _ _ n _ _ _ _ _ _ _ _ [] _ be bo bt (by omega) (by omega) (by omega)).mono ?_
      rintro e u' w'' ⟨rfl, rfl, rfl⟩
      obtain ⟨e0, fe⟩ := be.one
      obtain ⟨o0, -⟩ := bo.one
      obtain ⟨t0, t1, t2, -⟩ := bt.three
      refine ⟨.tuple #[.slice none 0 0, .agg #[.int .i64 0, .int .i64 0, .int .i64 0], .int .i64 n], by simp only [results, Try.results18]; go_simp, ?_⟩
      rw [HE2.out]
      refine ⟨rfl, ?_⟩
      repeat' first | with_reducible exact kw | with_reducible refine Keeps.setCell' (.inl (by dsimp only; omega)) ?_
    | fine out a1 b1 c1 =>
      rw [hres] at hE
      obtain ⟨v1, rfl, hown, s1, k1⟩ := hE
      have HE2 : Hid (offsAll a b c l = .fine out a1 b1 c1) := HE.out.trans hres
      clear hres HE
      replace bo := bo.keeps k1 (by simp)
      replace bt := bt.keeps k1 (by simp)
      replace be := be.keeps k1 (by simp)
      have kw : Keeps w w1 [] := hk.trans k1 (fun x hx hlt => by simp at hx; omega)
      clear k1 hk
      simp only [World.size_alloc] at hown
      obtain ⟨x0, x1, x2, -⟩ := s1.three
      obtain ⟨e0, fe⟩ := be.one
      obtain ⟨o0, fo⟩ := bo.one
      obtain ⟨t0, t1, t2, ft0, ft1, ft2⟩ := bt.three
      have hob : ∀ g, v1.ownBlock = some g → w.heap.size + 1 + 1 + 1 + 1 + 1 + 1 ≤ g := fun g hg => (hown.lt g hg).1
      have HOB := Lib.hid hob
      have hsl : ∃ ad nn cp, v1 = .slice ad nn cp := by
        rcases hown.2 with ⟨rfl, -⟩ | ⟨g, cp, cur, rfl, -⟩ <;> exact ⟨_, _, _, rfl⟩
      obtain ⟨ad, nn, cp, rfl⟩ := hsl
      clear hob
      go_wp2
      go_region
      go_wp2
      refine leaves_cons (f := 26) (args := #[.pointer (some ⟨w.heap.size + 1 + 1 + 1, 0, none⟩), .func (.func 35) #[] #[.pointer (some ⟨w.heap.size + 1, 0, none⟩), .pointer (some ⟨w.heap.size + 1 + 1, 0, none⟩)]]) (by simp) (by simp [go_sem]) ?_
      refine (caught_idle _ _ _).mono ?_
      rintro e u' w'' ⟨rfl, rfl, rfl⟩
      refine ⟨.tuple #[.slice ad nn cp, .agg #[.int .i64 a1, .int .i64 b1, .int .i64 c1], .int .i64 0], by simp only [results, Try.results18]; go_simp, ?_⟩
      rw [HE2.out]
      refine ⟨_, rfl, ?_, ?_⟩
      · refine owns_base ?_ (show w.heap.size ≤ w.heap.size + 1 + 1 + 1 + 1 + 1 + 1 by omega)
        repeat' first | with_reducible exact hown | with_reducible refine owns_drew ?_ | with_reducible refine owns_setCell ?_ (fun he => by have := HOB.out _ he; dsimp only at this; omega) _
      · repeat' first | with_reducible exact kw | with_reducible refine Keeps.drew ?_ | with_reducible refine Keeps.setCell' (.inl (by dsimp only; omega)) ?_

end Go.Proofs.Ytldbiohahkcpnaa
