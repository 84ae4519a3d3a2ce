/-
  What an argument's reading as data says of the value: arrays and structs of three numbers.
  What the row asks of the program as a whole, each question by itself: together they are more than the kernel's memory holds.
  An argument that is a slice of slices of numbers reads as a list of lists. No program is in sight here.
  The law on the iterator over frequent keys: for every input it returns true and each argument reads as it read before.
-/
import Derived.Test.YtogengangfohfaaGreatQ1
import Derived.Lib.SmallJoins
import Derived.Deep.Slices
import Derived.OpenShut
import Derived.Test.YtogengangfohfaaGreatQ7
import Derived.Test.YtogengangfohfaaGreatQ26
namespace Go.Proofs.YtogengangfohfaaGreat
section
set_option linter.unusedVariables false
set_option linter.unusedSimpArgs false
set_option linter.unusedSectionVars false
open Go.ChangeShapes Go.WideShapes Go.ChangeAt Go.RowKit Go.Joins

section
variable {H : Type} {enc : TypeId × Value → H} {P : Program} {w : World} {base : Nat} {spare : Nat → Bool} {held : Bool}

theorem int_bounds {n : Int} (h : (Lit.int .i64 n).wf = true) : -9223372036854775808 ≤ n ∧ n ≤ 9223372036854775807 := by
  simp [Lit.wf, IntKind.min, IntKind.max, IntKind.signed, IntKind.bits] at h
  omega

theorem okWide_array {t e : TypeId} {n : Nat} {r : Reach} {b : Nat} {v : Value} (ht : P.underlying t = some (.array n e)) (h : Value.okWide P w r b t v) : ∃ cs, v = .agg cs ∧ cs.size = P.cellsOf t := by
  simp only [Value.okWide, ht] at h
  obtain ⟨cs, h1, h2, _⟩ := h
  exact ⟨cs, h1, h2⟩

theorem trod_arr3 {t e : TypeId} {fuel : Nat} {cs : List Value} {x : DataW H × List MemPlace} (ht : P.underlying t = some (.array 3 e)) (he : P.underlying e = some (.int .i64)) (hC : P.cellsOf t = 3) (hE : P.cellsOf e = 1)
    (h : DataW.trod enc P w base spare held fuel t cs = some x) :
    ∃ a b c : Int, cs = [.int .i64 a, .int .i64 b, .int .i64 c] ∧ (Lit.int .i64 a).wf = true ∧ (Lit.int .i64 b).wf = true ∧ (Lit.int .i64 c).wf = true := by
  obtain ⟨xs, m, _, _, hl, hn, hx⟩ := DataW.trod_array ht h
  rw [hE] at hx
  have hlen : cs.length = 3 := by rw [hl, hC]
  have h0 := hx 0 (by omega)
  have h1 := hx 1 (by omega)
  have h2 := hx 2 (by omega)
  match cs, hlen with
  | [c0, c1, c2], _ =>
    match xs, hn with
    | [x0, x1, x2], _ =>
      obtain ⟨a, ea, _, wa⟩ := DataW.trod_int he h0
      obtain ⟨b, eb, _, wb⟩ := DataW.trod_int he h1
      obtain ⟨c, ec, _, wc⟩ := DataW.trod_int he h2
      simp at ea eb ec
      exact ⟨a, b, c, by rw [ea, eb, ec], wa, wb, wc⟩

theorem open_arr3 {t e : TypeId} {r : Reach} {b0 : Nat} {v : Value} {d : DataW H} {p : List MemPlace} (ht : P.underlying t = some (.array 3 e)) (he : P.underlying e = some (.int .i64)) (hC : P.cellsOf t = 3) (hE : P.cellsOf e = 1)
    (hv : Value.okWide P w r b0 t v) (h : DataW.Trod enc P w base spare held t v d p) :
    ∃ a b c : Int, v = .agg #[.int .i64 a, .int .i64 b, .int .i64 c] ∧ (Lit.int .i64 a).wf = true ∧ (Lit.int .i64 b).wf = true ∧ (Lit.int .i64 c).wf = true := by
  obtain ⟨cs, rfl, hsz⟩ := okWide_array ht hv
  obtain ⟨fuel, hf⟩ := h
  obtain ⟨a, b, c, hcs, h1⟩ := trod_arr3 ht he hC hE hf
  refine ⟨a, b, c, ?_, h1⟩
  have : cs.toList = [.int .i64 a, .int .i64 b, .int .i64 c] := hcs
  rw [← Array.toArray_toList (xs := cs), this]

theorem trod_str3 {t e : TypeId} {f0 f1 f2 : Field} {fuel : Nat} {cs : List Value} {x : DataW H × List MemPlace} (hs : P.underlying t = some (.struct #[f0, f1, f2])) (he : P.underlying e = some (.int .i64)) (hC : P.cellsOf t = 3) (hE : P.cellsOf e = 1)
    (t0 : f0.type = e) (t1 : f1.type = e) (t2 : f2.type = e) (o0 : f0.offset = 0) (o1 : f1.offset = 1) (o2 : f2.offset = 2)
    (h : DataW.trod enc P w base spare held fuel t cs = some x) :
    ∃ a b c : Int, cs = [.int .i64 a, .int .i64 b, .int .i64 c] ∧ (Lit.int .i64 a).wf = true ∧ (Lit.int .i64 b).wf = true ∧ (Lit.int .i64 c).wf = true := by
  obtain ⟨xs, m, _, _, hl, hn, hx⟩ := DataW.trod_struct hs h
  have hlen : cs.length = 3 := by rw [hl, hC]
  match cs, hlen with
  | [c0, c1, c2], _ =>
    match xs, hn with
    | [x0, x1, x2], _ =>
      have h0 := hx 0 f0 rfl
      have h1 := hx 1 f1 rfl
      have h2 := hx 2 f2 rfl
      rw [t0, hE, o0] at h0
      rw [t1, hE, o1] at h1
      rw [t2, hE, o2] at h2
      obtain ⟨a, ea, _, wa⟩ := DataW.trod_int he h0
      obtain ⟨b, eb, _, wb⟩ := DataW.trod_int he h1
      obtain ⟨c, ec, _, wc⟩ := DataW.trod_int he h2
      simp at ea eb ec
      exact ⟨a, b, c, by rw [ea, eb, ec], wa, wb, wc⟩

theorem open_str3 {t e : TypeId} {f0 f1 f2 : Field} {r : Reach} {b0 : Nat} {v : Value} {d : DataW H} {p : List MemPlace} (hs : P.underlying t = some (.struct #[f0, f1, f2])) (he : P.underlying e = some (.int .i64)) (hC : P.cellsOf t = 3) (hE : P.cellsOf e = 1)
    (t0 : f0.type = e) (t1 : f1.type = e) (t2 : f2.type = e) (o0 : f0.offset = 0) (o1 : f1.offset = 1) (o2 : f2.offset = 2)
    (hv : Value.okWide P w r b0 t v) (h : DataW.Trod enc P w base spare held t v d p) :
    ∃ a b c : Int, v = .agg #[.int .i64 a, .int .i64 b, .int .i64 c] ∧ (Lit.int .i64 a).wf = true ∧ (Lit.int .i64 b).wf = true ∧ (Lit.int .i64 c).wf = true := by
  obtain ⟨cs, rfl, hsz⟩ := okWide_struct hs hv
  obtain ⟨fuel, hf⟩ := h
  obtain ⟨a, b, c, hcs, h1⟩ := trod_str3 hs he hC hE t0 t1 t2 o0 o1 o2 hf
  refine ⟨a, b, c, ?_, h1⟩
  have : cs.toList = [.int .i64 a, .int .i64 b, .int .i64 c] := hcs
  rw [← Array.toArray_toList (xs := cs), this]
end
end

section
theorem j_maps : mapsRowed Tryz.prog = true := by kernel_rfl
theorem j_heard : Tryz.prog.stopsHeard = true := by kernel_rfl
theorem j_enter : Tryz.prog.mayEnter = true := by kernel_rfl
theorem j_lifts : Tryz.prog.liftsFinal = false := by kernel_rfl
theorem j_keys : Tryz.prog.plainKeys = false := by kernel_rfl
theorem j_laid : laidOutB Tryz.prog = true := by kernel_rfl
end

section
set_option linter.unusedVariables false
set_option linter.unusedSimpArgs false
set_option linter.unusedSectionVars false
open Go.ChangeShapes Go.WideShapes Go.ChangeAt Go.RowKit

theorem open_numsC {H : Type} {enc : TypeId × Value → H} {P : Program} {w : World} {ts e : TypeId} {k : IntKind} {v : Value} {fuel : Nat} {x : DataW H × List MemPlace} (hts : P.underlying ts = some (.slice e)) (he : P.underlying e = some (.int k)) (hE : P.cellsOf e = 1)
    (hf : DataW.trod enc P w 0 (fun _ => true) true fuel ts [v] = some x) :
    ∃ l : List Int, RdI k w v l ∧ (∀ x ∈ l, (Lit.int k x).wf = true) := by
  rcases Go.Deep.open_slice1 hts hE hf with ⟨hcs, hx⟩ | ⟨a, len, cap, m, n, V, D, Pl, hcs, hb, hl, hm, hmm, hx, hel⟩
  · simp at hcs
    subst hcs
    exact ⟨[], .nil, by simp⟩
  · simp at hcs
    subst hcs
    have hmc : len ≤ m := by rw [hmm]; simp; exact hl
    have hread : ∀ i, i < len → ∃ x : Int, w.cell? (a.add i) = some (.int k x) ∧ (Lit.int k x).wf = true := by
      intro i hi
      obtain ⟨hc', ht'⟩ := hel i (by omega)
      obtain ⟨x, ex, _, wx⟩ := DataW.trod_int he ht'
      simp at ex
      exact ⟨x, by rw [hc', ex], wx⟩
    have hlist : ∀ j, j ≤ len → ∃ l : List Int, l.length = j ∧ (∀ i x, l[i]? = some x → w.cell? (a.add i) = some (.int k x)) ∧ (∀ x ∈ l, (Lit.int k x).wf = true) := by
      intro j
      induction j with
      | zero => intro _; exact ⟨[], rfl, by simp, by simp⟩
      | succ j ih =>
        intro hj
        obtain ⟨l, h1, h2, h3⟩ := ih (by omega)
        obtain ⟨x, hx1, hx2⟩ := hread j (by omega)
        refine ⟨l ++ [x], by simp [h1], ?_, ?_⟩
        · intro i y hy
          by_cases hij : i < l.length
          · rw [List.getElem?_append_left hij] at hy
            exact h2 i y hy
          · have hlt := (List.getElem?_eq_some_iff.1 hy).1
            simp at hlt
            have : i = j := by omega
            subst this
            rw [List.getElem?_append_right (by omega)] at hy
            simp [h1] at hy
            subst hy
            exact hx1
        · intro y hy
          simp at hy
          rcases hy with hy | rfl
          · exact h3 y hy
          · exact hx2
    obtain ⟨l, hl1, hl2, hl3⟩ := hlist len (Nat.le_refl _)
    refine ⟨l, ⟨_, _, _, rfl, hl1.symm, (fun h => by cases h), fun h0 => ?_⟩, hl3⟩
    obtain ⟨x, hx⟩ : ∃ x, l[0]? = some x := ⟨_, List.getElem?_eq_getElem (by omega)⟩
    have hc0 := hl2 0 x hx
    have e0 : a.add 0 = a := by simp [Addr.add]
    rw [e0] at hc0
    have hsp : a.spot = none := by
      cases hsp : a.spot with
      | none => rfl
      | some q =>
        simp [World.cell?] at hc0
        split at hc0 <;> simp [hsp] at hc0
    have ha : a = ⟨a.block, a.off, none⟩ := by cases a; simp_all
    refine ⟨hl, a.block, a.off, by rw [← ha], World.block_lt_of_cell? w a hc0, fun i y hy => ?_⟩
    have h1 := hl2 i y hy
    have e1 : a.add i = ⟨a.block, a.off + i, none⟩ := by rw [ha]; simp [Addr.add]
    rw [e1] at h1
    exact h1

theorem open_numsL {H : Type} {enc : TypeId × Value → H} {P : Program} {w : World} {tl ts e : TypeId} {k : IntKind} {v : Value} {d : DataW H} {p : List MemPlace} (htl : P.underlying tl = some (.slice ts)) (hS : P.cellsOf ts = 1) (hts : P.underlying ts = some (.slice e)) (he : P.underlying e = some (.int k)) (hE : P.cellsOf e = 1)
    (hv : v.cells.toList = [v]) (h : DataW.Trod enc P w 0 (fun _ => true) true tl v d p) :
    ∃ ls : List (List Int), RdL k w v ls ∧ (∀ l ∈ ls, ∀ x ∈ l, (Lit.int k x).wf = true) := by
  obtain ⟨fuel, hf⟩ := h
  rw [hv] at hf
  rcases Go.Deep.open_slice1 htl hS hf with ⟨hcs, hx⟩ | ⟨a, len, cap, m, n, V, D, Pl, hcs, hb, hl, hm, hmm, hx, hel⟩
  · simp at hcs
    subst hcs
    exact ⟨[], ⟨_, _, _, rfl, rfl, fun h => absurd h (by omega)⟩, by simp⟩
  · simp at hcs
    subst hcs
    have hmc : len ≤ m := by rw [hmm]; simp; exact hl
    have hread : ∀ i, i < len → ∃ vi l, w.cell? (a.add i) = some vi ∧ RdI k w vi l ∧ (∀ x ∈ l, (Lit.int k x).wf = true) := by
      intro i hi
      obtain ⟨hc', ht'⟩ := hel i (by omega)
      obtain ⟨l, h1, h2⟩ := open_numsC hts he hE ht'
      exact ⟨_, l, hc', h1, h2⟩
    have hlist : ∀ j, j ≤ len → ∃ ls : List (List Int), ls.length = j ∧ (∀ i l, ls[i]? = some l → ∃ vi, w.cell? (a.add i) = some vi ∧ RdI k w vi l) ∧ (∀ l ∈ ls, ∀ x ∈ l, (Lit.int k x).wf = true) := by
      intro j
      induction j with
      | zero => intro _; exact ⟨[], rfl, by simp, by simp⟩
      | succ j ih =>
        intro hj
        obtain ⟨ls, h1, h2, h3⟩ := ih (by omega)
        obtain ⟨vi, l, hx1, hx2, hx3⟩ := hread j (by omega)
        refine ⟨ls ++ [l], by simp [h1], ?_, ?_⟩
        · intro i y hy
          by_cases hij : i < ls.length
          · rw [List.getElem?_append_left hij] at hy
            exact h2 i y hy
          · have hlt := (List.getElem?_eq_some_iff.1 hy).1
            simp at hlt
            have : i = j := by omega
            subst this
            rw [List.getElem?_append_right (by omega)] at hy
            simp [h1] at hy
            subst hy
            exact ⟨vi, hx1, hx2⟩
        · intro y hy
          simp at hy
          rcases hy with hy | rfl
          · exact h3 y hy
          · exact hx3
    obtain ⟨ls, hl1, hl2, hl3⟩ := hlist len (Nat.le_refl _)
    refine ⟨ls, ⟨_, _, _, rfl, hl1.symm, fun h0 => ?_⟩, hl3⟩
    obtain ⟨l0, hx⟩ : ∃ l, ls[0]? = some l := ⟨_, List.getElem?_eq_getElem (by omega)⟩
    obtain ⟨vi, hc0, -⟩ := hl2 0 l0 hx
    have e0 : a.add 0 = a := by simp [Addr.add]
    rw [e0] at hc0
    have hsp : a.spot = none := by
      cases hsp : a.spot with
      | none => rfl
      | some q =>
        simp [World.cell?] at hc0
        split at hc0 <;> simp [hsp] at hc0
    have ha : a = ⟨a.block, a.off, none⟩ := by cases a; simp_all
    refine ⟨hl, a.block, a.off, by rw [← ha], World.block_lt_of_cell? w a hc0, fun i y hy => ?_⟩
    have h1 := hl2 i y hy
    have e1 : a.add i = ⟨a.block, a.off + i, none⟩ := by rw [ha]; simp [Addr.add]
    rw [e1] at h1
    exact h1
end

section
set_option linter.unusedVariables false
set_option linter.unusedSimpArgs false
open Go.ChangeShapes Go.WideShapes Go.ChangeAt Go.RowKit Go.Joins

set_option maxRecDepth 100000 in
theorem trainKeys_lifted (os : Os) (started : os.Started) (H : Type) (enc : TypeId × Value → H) :
    ReturnsInHanded {} Tryz.checked os 3 .any (Rows.trainKeysSpec.pre6 enc Tryz.prog Tryz.f3 Rows.trainKeysRow.domain false) (Rows.trainKeysSpec.post enc Tryz.prog Tryz.f3 false true false false) :=
  returnsInHanded_of_change (C := Tryz.checked) Tryz.own started (by kernel_rfl) Tryz.func3
    (ChangeSpec.witness6 (enc := enc) (C := Tryz.checked) false ⟨#[], #[.slice none 0 0, .int .i64 0], []⟩ 8 (by kernel_rfl) (by kernel_rfl) (by kernel_rfl) (by kernel_rfl))
    (law_contract (C := Tryz.checked) Tryz.laidOut rfl
      (fun ds hd => by
        match ds, hd with
        | [d1, d2], _ => rfl)
      (fun t ht => by
        have : t = 22 ∨ t = 3 := by first | (simpa [Tryz.params3] using ht) | (have h9 := ht; simp [Tryz.params3] at h9; (repeat' (rcases h9 with h9 | h9)) <;> simp)
        rcases this with rfl | rfl <;> exact ⟨by kernel_rfl, of_decide_eq_true (by kernel_rfl)⟩)
      (tb := 4) rfl Tryz.underlying4
      (fun W base args ds ps hval0 hA0 hlt hnf => by
        have hval : ∀ (j : Nat) t v, Tryz.f3.params[j]? = some t → args[j]? = some v → Value.okWide Tryz.prog W .any base t v := hval0
        have hA : DataW.TrodAll enc Tryz.prog W 0 (fun _ => true) true Tryz.f3.params.toList args.toList ds ps := hA0
        rw [Tryz.params3] at hA hval
        obtain ⟨v0, v1, d0, d1, p0, p1, rfl, rfl, rfl, h0, h1⟩ := trodAll_two hA
        obtain ⟨ls, hls, hls'⟩ := open_numsL Tryz.underlying22 (by kernel_rfl) Tryz.underlying33 Tryz.underlying5 (by kernel_rfl) (slice_cells Tryz.underlying22 (hval 0 22 v0 rfl rfl)) h0
        obtain ⟨n, rfl, -, -, nw⟩ := open_int Tryz.underlying3 (hval 1 3 v1 rfl rfl) h1
        exact law_tkeys v0 ls n W hls (fun l hl x hx => u8_bounds (hls' l hl x hx))))

theorem trainKeys_place : Tryz.prog.inPlace 3 = Rows.trainKeysRow.inPlace := by kernel_rfl
theorem trainKeys_unfollowed : Tryz.prog.unfollowed 3 = Rows.trainKeysRow.unfollowed := by kernel_rfl
theorem trainKeys_recurses : Tryz.prog.recurses 3 = Rows.trainKeysRow.recurses := by kernel_rfl
theorem trainKeys_named : Tryz.prog.varsNamed 3 = Rows.trainKeysRow.named := by kernel_rfl
theorem trainKeys_closed : joinedFacts Tryz.prog 3 Tryz.f3 Rows.trainKeysSpec Rows.trainKeysRow = true := by
  unfold joinedFacts
  rw [j_laid, j_maps, j_heard, j_enter, j_lifts, j_keys, trainKeys_place, trainKeys_unfollowed, trainKeys_recurses, trainKeys_named]
  kernel_rfl

theorem trainKeys_holds : Rows.TrainKeysSaid :=
  OpenClaim.holds_of_wide 3 Tryz.f3 rfl rfl rfl rfl rfl rfl rfl ⟨rfl, rfl, rfl, rfl, rfl⟩ rfl rfl rfl rfl rfl (by kernel_rfl) Tryz.func3 trainKeys_closed
    (of_decide_eq_true (by kernel_rfl)) (by unfold Func.isWrapper; first | (rw [if_pos (by decide +kernel)]; kernel_rfl) | (rw [if_neg (by decide +kernel)]; exact ⟨rfl, rfl⟩))
    (fun os started H enc _ => trainKeys_lifted os started H enc)

#print axioms trainKeys_holds
end

end Go.Proofs.YtogengangfohfaaGreat
