/-
  What an argument's reading as data says of the value: arrays and structs of three numbers.
  What the row asks of the program as a whole, each question by itself: together they are more than the kernel's memory holds.
  The law on the limits of samples and sizes: for every input it returns true and each argument reads as it read before.
-/
import Derived.Test.YtogengangfohfaaGreatQ1
import Derived.Lib.SmallJoins
import Derived.Deep.Slices
import Derived.OpenShut
import Derived.Test.YtogengangfohfaaGreatQ26
namespace Go.Proofs.YtogengangfohfaaGreat
section
set_option linter.unusedVariables false
set_option linter.unusedSimpArgs false
set_option linter.unusedSectionVars false
open Go.ChangeShapes Go.WideShapes Go.ChangeAt Go.RowKit Go.Joins

section
variable {H : Type} {enc : TypeId × Value → H} {P : Program} {w : World} {base : Nat} {spare : Nat → Bool} {held : Bool}

theorem int_bounds {n : Int} (h : (Lit.int .i64 n).wf = true) : -9223372036854775808 ≤ n ∧ n ≤ 9223372036854775807 := by
  simp [Lit.wf, IntKind.min, IntKind.max, IntKind.signed, IntKind.bits] at h
  omega

theorem okWide_array {t e : TypeId} {n : Nat} {r : Reach} {b : Nat} {v : Value} (ht : P.underlying t = some (.array n e)) (h : Value.okWide P w r b t v) : ∃ cs, v = .agg cs ∧ cs.size = P.cellsOf t := by
  simp only [Value.okWide, ht] at h
  obtain ⟨cs, h1, h2, _⟩ := h
  exact ⟨cs, h1, h2⟩

theorem trod_arr3 {t e : TypeId} {fuel : Nat} {cs : List Value} {x : DataW H × List MemPlace} (ht : P.underlying t = some (.array 3 e)) (he : P.underlying e = some (.int .i64)) (hC : P.cellsOf t = 3) (hE : P.cellsOf e = 1)
    (h : DataW.trod enc P w base spare held fuel t cs = some x) :
    ∃ a b c : Int, cs = [.int .i64 a, .int .i64 b, .int .i64 c] ∧ (Lit.int .i64 a).wf = true ∧ (Lit.int .i64 b).wf = true ∧ (Lit.int .i64 c).wf = true := by
  obtain ⟨xs, m, _, _, hl, hn, hx⟩ := DataW.trod_array ht h
  rw [hE] at hx
  have hlen : cs.length = 3 := by rw [hl, hC]
  have h0 := hx 0 (by omega)
  have h1 := hx 1 (by omega)
  have h2 := hx 2 (by omega)
  match cs, hlen with
  | [c0, c1, c2], _ =>
    match xs, hn with
    | [x0, x1, x2], _ =>
      obtain ⟨a, ea, _, wa⟩ := DataW.trod_int he h0
      obtain ⟨b, eb, _, wb⟩ := DataW.trod_int he h1
      obtain ⟨c, ec, _, wc⟩ := DataW.trod_int he h2
      simp at ea eb ec
      exact ⟨a, b, c, by rw [ea, eb, ec], wa, wb, wc⟩

theorem open_arr3 {t e : TypeId} {r : Reach} {b0 : Nat} {v : Value} {d : DataW H} {p : List MemPlace} (ht : P.underlying t = some (.array 3 e)) (he : P.underlying e = some (.int .i64)) (hC : P.cellsOf t = 3) (hE : P.cellsOf e = 1)
    (hv : Value.okWide P w r b0 t v) (h : DataW.Trod enc P w base spare held t v d p) :
    ∃ a b c : Int, v = .agg #[.int .i64 a, .int .i64 b, .int .i64 c] ∧ (Lit.int .i64 a).wf = true ∧ (Lit.int .i64 b).wf = true ∧ (Lit.int .i64 c).wf = true := by
  obtain ⟨cs, rfl, hsz⟩ := okWide_array ht hv
  obtain ⟨fuel, hf⟩ := h
  obtain ⟨a, b, c, hcs, h1⟩ := trod_arr3 ht he hC hE hf
  refine ⟨a, b, c, ?_, h1⟩
  have : cs.toList = [.int .i64 a, .int .i64 b, .int .i64 c] := hcs
  rw [← Array.toArray_toList (xs := cs), this]

theorem trod_str3 {t e : TypeId} {f0 f1 f2 : Field} {fuel : Nat} {cs : List Value} {x : DataW H × List MemPlace} (hs : P.underlying t = some (.struct #[f0, f1, f2])) (he : P.underlying e = some (.int .i64)) (hC : P.cellsOf t = 3) (hE : P.cellsOf e = 1)
    (t0 : f0.type = e) (t1 : f1.type = e) (t2 : f2.type = e) (o0 : f0.offset = 0) (o1 : f1.offset = 1) (o2 : f2.offset = 2)
    (h : DataW.trod enc P w base spare held fuel t cs = some x) :
    ∃ a b c : Int, cs = [.int .i64 a, .int .i64 b, .int .i64 c] ∧ (Lit.int .i64 a).wf = true ∧ (Lit.int .i64 b).wf = true ∧ (Lit.int .i64 c).wf = true := by
  obtain ⟨xs, m, _, _, hl, hn, hx⟩ := DataW.trod_struct hs h
  have hlen : cs.length = 3 := by rw [hl, hC]
  match cs, hlen with
  | [c0, c1, c2], _ =>
    match xs, hn with
    | [x0, x1, x2], _ =>
      have h0 := hx 0 f0 rfl
      have h1 := hx 1 f1 rfl
      have h2 := hx 2 f2 rfl
      rw [t0, hE, o0] at h0
      rw [t1, hE, o1] at h1
      rw [t2, hE, o2] at h2
      obtain ⟨a, ea, _, wa⟩ := DataW.trod_int he h0
      obtain ⟨b, eb, _, wb⟩ := DataW.trod_int he h1
      obtain ⟨c, ec, _, wc⟩ := DataW.trod_int he h2
      simp at ea eb ec
      exact ⟨a, b, c, by rw [ea, eb, ec], wa, wb, wc⟩

theorem open_str3 {t e : TypeId} {f0 f1 f2 : Field} {r : Reach} {b0 : Nat} {v : Value} {d : DataW H} {p : List MemPlace} (hs : P.underlying t = some (.struct #[f0, f1, f2])) (he : P.underlying e = some (.int .i64)) (hC : P.cellsOf t = 3) (hE : P.cellsOf e = 1)
    (t0 : f0.type = e) (t1 : f1.type = e) (t2 : f2.type = e) (o0 : f0.offset = 0) (o1 : f1.offset = 1) (o2 : f2.offset = 2)
    (hv : Value.okWide P w r b0 t v) (h : DataW.Trod enc P w base spare held t v d p) :
    ∃ a b c : Int, v = .agg #[.int .i64 a, .int .i64 b, .int .i64 c] ∧ (Lit.int .i64 a).wf = true ∧ (Lit.int .i64 b).wf = true ∧ (Lit.int .i64 c).wf = true := by
  obtain ⟨cs, rfl, hsz⟩ := okWide_struct hs hv
  obtain ⟨fuel, hf⟩ := h
  obtain ⟨a, b, c, hcs, h1⟩ := trod_str3 hs he hC hE t0 t1 t2 o0 o1 o2 hf
  refine ⟨a, b, c, ?_, h1⟩
  have : cs.toList = [.int .i64 a, .int .i64 b, .int .i64 c] := hcs
  rw [← Array.toArray_toList (xs := cs), this]
end
end

section
theorem j_maps : mapsRowed Tryz.prog = true := by kernel_rfl
theorem j_heard : Tryz.prog.stopsHeard = true := by kernel_rfl
theorem j_enter : Tryz.prog.mayEnter = true := by kernel_rfl
theorem j_lifts : Tryz.prog.liftsFinal = false := by kernel_rfl
theorem j_keys : Tryz.prog.plainKeys = false := by kernel_rfl
theorem j_laid : laidOutB Tryz.prog = true := by kernel_rfl
end

section
set_option linter.unusedVariables false
set_option linter.unusedSimpArgs false
open Go.ChangeShapes Go.WideShapes Go.ChangeAt Go.RowKit Go.Joins

set_option maxRecDepth 100000 in
theorem trainBounds_lifted (os : Os) (started : os.Started) (H : Type) (enc : TypeId × Value → H) :
    ReturnsInHanded {} Tryz.checked os 7 .any (Rows.trainBoundsSpec.pre6 enc Tryz.prog Tryz.f7 Rows.trainBoundsRow.domain false) (Rows.trainBoundsSpec.post enc Tryz.prog Tryz.f7 false true false false) :=
  returnsInHanded_of_change (C := Tryz.checked) Tryz.own started (by kernel_rfl) Tryz.func7
    (ChangeSpec.witness6 (enc := enc) (C := Tryz.checked) false ⟨#[], #[.int .i64 0, .int .i64 0, .int .i64 0], []⟩ 8 (by kernel_rfl) (by kernel_rfl) (by kernel_rfl) (by kernel_rfl))
    (law_contract (C := Tryz.checked) Tryz.laidOut rfl
      (fun ds hd => by
        match ds, hd with
        | [d1, d2, d3], _ => rfl)
      (fun t ht => by
        have : t = 3 := by first | (simpa [Tryz.params7] using ht) | (have h9 := ht; simp [Tryz.params7] at h9; (repeat' (rcases h9 with h9 | h9)) <;> simp)
        rcases this with rfl <;> exact ⟨by kernel_rfl, of_decide_eq_true (by kernel_rfl)⟩)
      (tb := 4) rfl Tryz.underlying4
      (fun W base args ds ps hval0 hA0 hlt hnf => by
        have hval : ∀ (j : Nat) t v, Tryz.f7.params[j]? = some t → args[j]? = some v → Value.okWide Tryz.prog W .any base t v := hval0
        have hA : DataW.TrodAll enc Tryz.prog W 0 (fun _ => true) true Tryz.f7.params.toList args.toList ds ps := hA0
        rw [Tryz.params7] at hA hval
        obtain ⟨v0, v1, v2, d0, d1, d2, p0, p1, p2, rfl, rfl, rfl, h0, h1, h2⟩ := trodAll_three hA
        obtain ⟨a, rfl, -, -, aw⟩ := open_int Tryz.underlying3 (hval 0 3 v0 rfl rfl) h0
        obtain ⟨b, rfl, -, -, bw⟩ := open_int Tryz.underlying3 (hval 1 3 v1 rfl rfl) h1
        obtain ⟨n, rfl, -, -, nw⟩ := open_int Tryz.underlying3 (hval 2 3 v2 rfl rfl) h2
        exact law_tbounds a b n W))

theorem trainBounds_place : Tryz.prog.inPlace 7 = Rows.trainBoundsRow.inPlace := by kernel_rfl
theorem trainBounds_unfollowed : Tryz.prog.unfollowed 7 = Rows.trainBoundsRow.unfollowed := by kernel_rfl
theorem trainBounds_recurses : Tryz.prog.recurses 7 = Rows.trainBoundsRow.recurses := by kernel_rfl
theorem trainBounds_named : Tryz.prog.varsNamed 7 = Rows.trainBoundsRow.named := by kernel_rfl
theorem trainBounds_closed : joinedFacts Tryz.prog 7 Tryz.f7 Rows.trainBoundsSpec Rows.trainBoundsRow = true := by
  unfold joinedFacts
  rw [j_laid, j_maps, j_heard, j_enter, j_lifts, j_keys, trainBounds_place, trainBounds_unfollowed, trainBounds_recurses, trainBounds_named]
  kernel_rfl

theorem trainBounds_holds : Rows.TrainBoundsSaid :=
  OpenClaim.holds_of_wide 7 Tryz.f7 rfl rfl rfl rfl rfl rfl rfl ⟨rfl, rfl, rfl, rfl, rfl⟩ rfl rfl rfl rfl rfl (by kernel_rfl) Tryz.func7 trainBounds_closed
    (of_decide_eq_true (by kernel_rfl)) (by unfold Func.isWrapper; first | (rw [if_pos (by decide +kernel)]; kernel_rfl) | (rw [if_neg (by decide +kernel)]; exact ⟨rfl, rfl⟩))
    (fun os started H enc _ => trainBounds_lifted os started H enc)

#print axioms trainBounds_holds
end

end Go.Proofs.YtogengangfohfaaGreat
