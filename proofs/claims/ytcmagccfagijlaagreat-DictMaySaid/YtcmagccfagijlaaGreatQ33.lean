/-
  An argument that is a slice of slices of numbers reads as a list of lists. No program is in sight here.
  What an argument's reading as data says of the value: arrays and structs of three numbers.
  An argument that is a dictionary: what its reading as data says of its cells.
  The law on valid dictionaries and initial contexts: for every input it returns true and its argument reads as it read before.
-/
import Derived.Test.YtcmagccfagijlaaGreatQ15
import Derived.Test.YtcmagccfagijlaaGreatQ1
import Derived.Lib.SmallJoins
import Derived.Deep.Slices
import Derived.OpenShut
import Derived.Test.YtcmagccfagijlaaGreatQ32
namespace Go.Proofs.YtcmagccfagijlaaGreat
section
set_option linter.unusedVariables false
set_option linter.unusedSimpArgs false
set_option linter.unusedSectionVars false
open Go.ChangeShapes Go.WideShapes Go.ChangeAt Go.RowKit

theorem open_numsC {H : Type} {enc : TypeId × Value → H} {P : Program} {w : World} {ts e : TypeId} {k : IntKind} {v : Value} {fuel : Nat} {x : DataW H × List MemPlace} (hts : P.underlying ts = some (.slice e)) (he : P.underlying e = some (.int k)) (hE : P.cellsOf e = 1)
    (hf : DataW.trod enc P w 0 (fun _ => true) true fuel ts [v] = some x) :
    ∃ l : List Int, RdI k w v l ∧ (∀ x ∈ l, (Lit.int k x).wf = true) := by
  rcases Go.Deep.open_slice1 hts hE hf with ⟨hcs, hx⟩ | ⟨a, len, cap, m, n, V, D, Pl, hcs, hb, hl, hm, hmm, hx, hel⟩
  · simp at hcs
    subst hcs
    exact ⟨[], .nil, by simp⟩
  · simp at hcs
    subst hcs
    have hmc : len ≤ m := by rw [hmm]; simp; exact hl
    have hread : ∀ i, i < len → ∃ x : Int, w.cell? (a.add i) = some (.int k x) ∧ (Lit.int k x).wf = true := by
      intro i hi
      obtain ⟨hc', ht'⟩ := hel i (by omega)
      obtain ⟨x, ex, _, wx⟩ := DataW.trod_int he ht'
      simp at ex
      exact ⟨x, by rw [hc', ex], wx⟩
    have hlist : ∀ j, j ≤ len → ∃ l : List Int, l.length = j ∧ (∀ i x, l[i]? = some x → w.cell? (a.add i) = some (.int k x)) ∧ (∀ x ∈ l, (Lit.int k x).wf = true) := by
      intro j
      induction j with
      | zero => intro _; exact ⟨[], rfl, by simp, by simp⟩
      | succ j ih =>
        intro hj
        obtain ⟨l, h1, h2, h3⟩ := ih (by omega)
        obtain ⟨x, hx1, hx2⟩ := hread j (by omega)
        refine ⟨l ++ [x], by simp [h1], ?_, ?_⟩
        · intro i y hy
          by_cases hij : i < l.length
          · rw [List.getElem?_append_left hij] at hy
            exact h2 i y hy
          · have hlt := (List.getElem?_eq_some_iff.1 hy).1
            simp at hlt
            have : i = j := by omega
            subst this
            rw [List.getElem?_append_right (by omega)] at hy
            simp [h1] at hy
            subst hy
            exact hx1
        · intro y hy
          simp at hy
          rcases hy with hy | rfl
          · exact h3 y hy
          · exact hx2
    obtain ⟨l, hl1, hl2, hl3⟩ := hlist len (Nat.le_refl _)
    refine ⟨l, ⟨_, _, _, rfl, hl1.symm, (fun h => by cases h), fun h0 => ?_⟩, hl3⟩
    obtain ⟨x, hx⟩ : ∃ x, l[0]? = some x := ⟨_, List.getElem?_eq_getElem (by omega)⟩
    have hc0 := hl2 0 x hx
    have e0 : a.add 0 = a := by simp [Addr.add]
    rw [e0] at hc0
    have hsp : a.spot = none := by
      cases hsp : a.spot with
      | none => rfl
      | some q =>
        simp [World.cell?] at hc0
        split at hc0 <;> simp [hsp] at hc0
    have ha : a = ⟨a.block, a.off, none⟩ := by cases a; simp_all
    refine ⟨hl, a.block, a.off, by rw [← ha], World.block_lt_of_cell? w a hc0, fun i y hy => ?_⟩
    have h1 := hl2 i y hy
    have e1 : a.add i = ⟨a.block, a.off + i, none⟩ := by rw [ha]; simp [Addr.add]
    rw [e1] at h1
    exact h1

theorem open_numsL {H : Type} {enc : TypeId × Value → H} {P : Program} {w : World} {tl ts e : TypeId} {k : IntKind} {v : Value} {d : DataW H} {p : List MemPlace} (htl : P.underlying tl = some (.slice ts)) (hS : P.cellsOf ts = 1) (hts : P.underlying ts = some (.slice e)) (he : P.underlying e = some (.int k)) (hE : P.cellsOf e = 1)
    (hv : v.cells.toList = [v]) (h : DataW.Trod enc P w 0 (fun _ => true) true tl v d p) :
    ∃ ls : List (List Int), RdL k w v ls ∧ (∀ l ∈ ls, ∀ x ∈ l, (Lit.int k x).wf = true) := by
  obtain ⟨fuel, hf⟩ := h
  rw [hv] at hf
  rcases Go.Deep.open_slice1 htl hS hf with ⟨hcs, hx⟩ | ⟨a, len, cap, m, n, V, D, Pl, hcs, hb, hl, hm, hmm, hx, hel⟩
  · simp at hcs
    subst hcs
    exact ⟨[], ⟨_, _, _, rfl, rfl, fun h => absurd h (by omega)⟩, by simp⟩
  · simp at hcs
    subst hcs
    have hmc : len ≤ m := by rw [hmm]; simp; exact hl
    have hread : ∀ i, i < len → ∃ vi l, w.cell? (a.add i) = some vi ∧ RdI k w vi l ∧ (∀ x ∈ l, (Lit.int k x).wf = true) := by
      intro i hi
      obtain ⟨hc', ht'⟩ := hel i (by omega)
      obtain ⟨l, h1, h2⟩ := open_numsC hts he hE ht'
      exact ⟨_, l, hc', h1, h2⟩
    have hlist : ∀ j, j ≤ len → ∃ ls : List (List Int), ls.length = j ∧ (∀ i l, ls[i]? = some l → ∃ vi, w.cell? (a.add i) = some vi ∧ RdI k w vi l) ∧ (∀ l ∈ ls, ∀ x ∈ l, (Lit.int k x).wf = true) := by
      intro j
      induction j with
      | zero => intro _; exact ⟨[], rfl, by simp, by simp⟩
      | succ j ih =>
        intro hj
        obtain ⟨ls, h1, h2, h3⟩ := ih (by omega)
        obtain ⟨vi, l, hx1, hx2, hx3⟩ := hread j (by omega)
        refine ⟨ls ++ [l], by simp [h1], ?_, ?_⟩
        · intro i y hy
          by_cases hij : i < ls.length
          · rw [List.getElem?_append_left hij] at hy
            exact h2 i y hy
          · have hlt := (List.getElem?_eq_some_iff.1 hy).1
            simp at hlt
            have : i = j := by omega
            subst this
            rw [List.getElem?_append_right (by omega)] at hy
            simp [h1] at hy
            subst hy
            exact ⟨vi, hx1, hx2⟩
        · intro y hy
          simp at hy
          rcases hy with hy | rfl
          · exact h3 y hy
          · exact hx3
    obtain ⟨ls, hl1, hl2, hl3⟩ := hlist len (Nat.le_refl _)
    refine ⟨ls, ⟨_, _, _, rfl, hl1.symm, fun h0 => ?_⟩, hl3⟩
    obtain ⟨l0, hx⟩ : ∃ l, ls[0]? = some l := ⟨_, List.getElem?_eq_getElem (by omega)⟩
    obtain ⟨vi, hc0, -⟩ := hl2 0 l0 hx
    have e0 : a.add 0 = a := by simp [Addr.add]
    rw [e0] at hc0
    have hsp : a.spot = none := by
      cases hsp : a.spot with
      | none => rfl
      | some q =>
        simp [World.cell?] at hc0
        split at hc0 <;> simp [hsp] at hc0
    have ha : a = ⟨a.block, a.off, none⟩ := by cases a; simp_all
    refine ⟨hl, a.block, a.off, by rw [← ha], World.block_lt_of_cell? w a hc0, fun i y hy => ?_⟩
    have h1 := hl2 i y hy
    have e1 : a.add i = ⟨a.block, a.off + i, none⟩ := by rw [ha]; simp [Addr.add]
    rw [e1] at h1
    exact h1
end

section
set_option linter.unusedVariables false
set_option linter.unusedSimpArgs false
set_option linter.unusedSectionVars false
open Go.ChangeShapes Go.WideShapes Go.ChangeAt Go.RowKit Go.Joins

section
variable {H : Type} {enc : TypeId × Value → H} {P : Program} {w : World} {base : Nat} {spare : Nat → Bool} {held : Bool}

theorem int_bounds {n : Int} (h : (Lit.int .i64 n).wf = true) : -9223372036854775808 ≤ n ∧ n ≤ 9223372036854775807 := by
  simp [Lit.wf, IntKind.min, IntKind.max, IntKind.signed, IntKind.bits] at h
  omega

theorem okWide_array {t e : TypeId} {n : Nat} {r : Reach} {b : Nat} {v : Value} (ht : P.underlying t = some (.array n e)) (h : Value.okWide P w r b t v) : ∃ cs, v = .agg cs ∧ cs.size = P.cellsOf t := by
  simp only [Value.okWide, ht] at h
  obtain ⟨cs, h1, h2, _⟩ := h
  exact ⟨cs, h1, h2⟩

theorem trod_arr3 {t e : TypeId} {fuel : Nat} {cs : List Value} {x : DataW H × List MemPlace} (ht : P.underlying t = some (.array 3 e)) (he : P.underlying e = some (.int .i64)) (hC : P.cellsOf t = 3) (hE : P.cellsOf e = 1)
    (h : DataW.trod enc P w base spare held fuel t cs = some x) :
    ∃ a b c : Int, cs = [.int .i64 a, .int .i64 b, .int .i64 c] ∧ (Lit.int .i64 a).wf = true ∧ (Lit.int .i64 b).wf = true ∧ (Lit.int .i64 c).wf = true := by
  obtain ⟨xs, m, _, _, hl, hn, hx⟩ := DataW.trod_array ht h
  rw [hE] at hx
  have hlen : cs.length = 3 := by rw [hl, hC]
  have h0 := hx 0 (by omega)
  have h1 := hx 1 (by omega)
  have h2 := hx 2 (by omega)
  match cs, hlen with
  | [c0, c1, c2], _ =>
    match xs, hn with
    | [x0, x1, x2], _ =>
      obtain ⟨a, ea, _, wa⟩ := DataW.trod_int he h0
      obtain ⟨b, eb, _, wb⟩ := DataW.trod_int he h1
      obtain ⟨c, ec, _, wc⟩ := DataW.trod_int he h2
      simp at ea eb ec
      exact ⟨a, b, c, by rw [ea, eb, ec], wa, wb, wc⟩

theorem open_arr3 {t e : TypeId} {r : Reach} {b0 : Nat} {v : Value} {d : DataW H} {p : List MemPlace} (ht : P.underlying t = some (.array 3 e)) (he : P.underlying e = some (.int .i64)) (hC : P.cellsOf t = 3) (hE : P.cellsOf e = 1)
    (hv : Value.okWide P w r b0 t v) (h : DataW.Trod enc P w base spare held t v d p) :
    ∃ a b c : Int, v = .agg #[.int .i64 a, .int .i64 b, .int .i64 c] ∧ (Lit.int .i64 a).wf = true ∧ (Lit.int .i64 b).wf = true ∧ (Lit.int .i64 c).wf = true := by
  obtain ⟨cs, rfl, hsz⟩ := okWide_array ht hv
  obtain ⟨fuel, hf⟩ := h
  obtain ⟨a, b, c, hcs, h1⟩ := trod_arr3 ht he hC hE hf
  refine ⟨a, b, c, ?_, h1⟩
  have : cs.toList = [.int .i64 a, .int .i64 b, .int .i64 c] := hcs
  rw [← Array.toArray_toList (xs := cs), this]

theorem trod_str3 {t e : TypeId} {f0 f1 f2 : Field} {fuel : Nat} {cs : List Value} {x : DataW H × List MemPlace} (hs : P.underlying t = some (.struct #[f0, f1, f2])) (he : P.underlying e = some (.int .i64)) (hC : P.cellsOf t = 3) (hE : P.cellsOf e = 1)
    (t0 : f0.type = e) (t1 : f1.type = e) (t2 : f2.type = e) (o0 : f0.offset = 0) (o1 : f1.offset = 1) (o2 : f2.offset = 2)
    (h : DataW.trod enc P w base spare held fuel t cs = some x) :
    ∃ a b c : Int, cs = [.int .i64 a, .int .i64 b, .int .i64 c] ∧ (Lit.int .i64 a).wf = true ∧ (Lit.int .i64 b).wf = true ∧ (Lit.int .i64 c).wf = true := by
  obtain ⟨xs, m, _, _, hl, hn, hx⟩ := DataW.trod_struct hs h
  have hlen : cs.length = 3 := by rw [hl, hC]
  match cs, hlen with
  | [c0, c1, c2], _ =>
    match xs, hn with
    | [x0, x1, x2], _ =>
      have h0 := hx 0 f0 rfl
      have h1 := hx 1 f1 rfl
      have h2 := hx 2 f2 rfl
      rw [t0, hE, o0] at h0
      rw [t1, hE, o1] at h1
      rw [t2, hE, o2] at h2
      obtain ⟨a, ea, _, wa⟩ := DataW.trod_int he h0
      obtain ⟨b, eb, _, wb⟩ := DataW.trod_int he h1
      obtain ⟨c, ec, _, wc⟩ := DataW.trod_int he h2
      simp at ea eb ec
      exact ⟨a, b, c, by rw [ea, eb, ec], wa, wb, wc⟩

theorem open_str3 {t e : TypeId} {f0 f1 f2 : Field} {r : Reach} {b0 : Nat} {v : Value} {d : DataW H} {p : List MemPlace} (hs : P.underlying t = some (.struct #[f0, f1, f2])) (he : P.underlying e = some (.int .i64)) (hC : P.cellsOf t = 3) (hE : P.cellsOf e = 1)
    (t0 : f0.type = e) (t1 : f1.type = e) (t2 : f2.type = e) (o0 : f0.offset = 0) (o1 : f1.offset = 1) (o2 : f2.offset = 2)
    (hv : Value.okWide P w r b0 t v) (h : DataW.Trod enc P w base spare held t v d p) :
    ∃ a b c : Int, v = .agg #[.int .i64 a, .int .i64 b, .int .i64 c] ∧ (Lit.int .i64 a).wf = true ∧ (Lit.int .i64 b).wf = true ∧ (Lit.int .i64 c).wf = true := by
  obtain ⟨cs, rfl, hsz⟩ := okWide_struct hs hv
  obtain ⟨fuel, hf⟩ := h
  obtain ⟨a, b, c, hcs, h1⟩ := trod_str3 hs he hC hE t0 t1 t2 o0 o1 o2 hf
  refine ⟨a, b, c, ?_, h1⟩
  have : cs.toList = [.int .i64 a, .int .i64 b, .int .i64 c] := hcs
  rw [← Array.toArray_toList (xs := cs), this]
end
end

section
set_option linter.unusedVariables false
set_option linter.unusedSimpArgs false
set_option linter.unusedSectionVars false
open Go.ChangeShapes Go.WideShapes Go.ChangeAt Go.RowKit Go.Joins

section
variable {H : Type} {enc : TypeId × Value → H} {w : World}

theorem trod_numsC {P : Program} {ts e : TypeId} {k : IntKind} {fuel : Nat} {cs : List Value} {x : DataW H × List MemPlace} (hts : P.underlying ts = some (.slice e)) (he : P.underlying e = some (.int k)) (hE : P.cellsOf e = 1)
    (hf : DataW.trod enc P w 0 (fun _ => true) true fuel ts cs = some x) : ∃ v l, cs = [v] ∧ RdI k w v l ∧ (∀ x ∈ l, (Lit.int k x).wf = true) := by
  have h0 := hf
  rcases Go.Deep.open_slice1 hts hE hf with ⟨hcs, -⟩ | ⟨a, len, cap, m, n, V, D, Pl, hcs, -⟩
  · subst hcs
    obtain ⟨l, h1, h2⟩ := open_numsC hts he hE h0
    exact ⟨_, l, rfl, h1, h2⟩
  · subst hcs
    obtain ⟨l, h1, h2⟩ := open_numsC hts he hE h0
    exact ⟨_, l, rfl, h1, h2⟩

theorem c_int : Tryz.prog.cellsOf 3 = 1 := by kernel_rfl
theorem c_u32 : Tryz.prog.cellsOf 24 = 1 := by kernel_rfl
theorem c_ints : Tryz.prog.cellsOf 25 = 1 := by kernel_rfl
theorem c_bytes : Tryz.prog.cellsOf 22 = 1 := by kernel_rfl
theorem c_byte : Tryz.prog.cellsOf 5 = 1 := by kernel_rfl
theorem c_table : Tryz.prog.cellsOf 27 = 2 := by kernel_rfl
theorem c_arr : Tryz.prog.cellsOf 28 = 3 := by kernel_rfl
theorem c_ctx : Tryz.prog.cellsOf 30 = 10 := by kernel_rfl
theorem c_dict : Tryz.prog.cellsOf 32 = 12 := by kernel_rfl

set_option maxRecDepth 100000 in
theorem trod_tbl {fuel : Nat} {cs : List Value} {x : DataW H × List MemPlace} (h : DataW.trod enc Tryz.prog w 0 (fun _ => true) true fuel 27 cs = some x) :
    ∃ g v l, cs = [.int .i64 g, v] ∧ RdI .i64 w v l ∧ (∀ x ∈ l, (Lit.int .i64 x).wf = true) := by
  obtain ⟨xs, m, _, _, hl, hn, hx⟩ := DataW.trod_struct Tryz.underlying27 h
  have hlen : cs.length = 2 := by rw [hl]; exact c_table
  match cs, hlen with
  | [c0, c1], _ =>
    match xs, hn with
    | [x0, x1], _ =>
      have h0 : DataW.trod enc Tryz.prog w 0 (fun _ => true) true m 3 (([c0, c1].drop 0).take (Tryz.prog.cellsOf 3)) = some x0 := hx 0 _ rfl
      have h1 : DataW.trod enc Tryz.prog w 0 (fun _ => true) true m 25 (([c0, c1].drop 1).take (Tryz.prog.cellsOf 25)) = some x1 := hx 1 _ rfl
      obtain ⟨g, eg, -, -⟩ := DataW.trod_int Tryz.underlying3 h0
      obtain ⟨v, l, ev, hv, hw⟩ := trod_numsC Tryz.underlying25 Tryz.underlying3 c_int h1
      rw [c_int] at eg
      rw [c_ints] at ev
      simp at eg ev
      exact ⟨g, v, l, by rw [eg, ev], hv, hw⟩

set_option maxRecDepth 100000 in
theorem trod_ctx {fuel : Nat} {cs : List Value} {x : DataW H × List MemPlace} (h : DataW.trod enc Tryz.prog w 0 (fun _ => true) true fuel 30 cs = some x) :
    ∃ t T g1 n1 L1 g2 n2 L2 g3 n3 L3 a b c, cs = [t, .int .i64 g1, n1, .int .i64 g2, n2, .int .i64 g3, n3, .int .i64 a, .int .i64 b, .int .i64 c] ∧ (RdI .i64 w t T ∧ RdI .i64 w n1 L1 ∧ RdI .i64 w n2 L2 ∧ RdI .i64 w n3 L3) ∧ (∀ x ∈ L1, (Lit.int .i64 x).wf = true) ∧ (∀ x ∈ L2, (Lit.int .i64 x).wf = true) ∧ (∀ x ∈ L3, (Lit.int .i64 x).wf = true) := by
  obtain ⟨xs, m, _, _, hl, hn, hx⟩ := DataW.trod_struct Tryz.underlying30 h
  have hlen : cs.length = 10 := by rw [hl]; exact c_ctx
  match cs, hlen with
  | [c0, c1, c2, c3, c4, c5, c6, c7, c8, c9], _ =>
    match xs, hn with
    | [x0, x1, x2, x3, x4], _ =>
      have h0 : DataW.trod enc Tryz.prog w 0 (fun _ => true) true m 25 (([c0, c1, c2, c3, c4, c5, c6, c7, c8, c9].drop 0).take (Tryz.prog.cellsOf 25)) = some x0 := hx 0 _ rfl
      have h1 : DataW.trod enc Tryz.prog w 0 (fun _ => true) true m 27 (([c0, c1, c2, c3, c4, c5, c6, c7, c8, c9].drop 1).take (Tryz.prog.cellsOf 27)) = some x1 := hx 1 _ rfl
      have h2 : DataW.trod enc Tryz.prog w 0 (fun _ => true) true m 27 (([c0, c1, c2, c3, c4, c5, c6, c7, c8, c9].drop 3).take (Tryz.prog.cellsOf 27)) = some x2 := hx 2 _ rfl
      have h3 : DataW.trod enc Tryz.prog w 0 (fun _ => true) true m 27 (([c0, c1, c2, c3, c4, c5, c6, c7, c8, c9].drop 5).take (Tryz.prog.cellsOf 27)) = some x3 := hx 3 _ rfl
      have h4 : DataW.trod enc Tryz.prog w 0 (fun _ => true) true m 28 (([c0, c1, c2, c3, c4, c5, c6, c7, c8, c9].drop 7).take (Tryz.prog.cellsOf 28)) = some x4 := hx 4 _ rfl
      obtain ⟨t, T, et, ht, -⟩ := trod_numsC Tryz.underlying25 Tryz.underlying3 c_int h0
      obtain ⟨g1, n1, L1, e1, r1, w1⟩ := trod_tbl h1
      obtain ⟨g2, n2, L2, e2, r2, w2⟩ := trod_tbl h2
      obtain ⟨g3, n3, L3, e3, r3, w3⟩ := trod_tbl h3
      obtain ⟨a, b, c, e4, -⟩ := trod_arr3 Tryz.underlying28 Tryz.underlying3 c_arr c_int h4
      rw [c_ints] at et
      rw [c_table] at e1 e2 e3
      rw [c_arr] at e4
      simp at et e1 e2 e3 e4
      obtain ⟨rfl, rfl⟩ := e1
      obtain ⟨rfl, rfl⟩ := e2
      obtain ⟨rfl, rfl⟩ := e3
      obtain ⟨rfl, rfl, rfl⟩ := e4
      subst et
      exact ⟨_, T, _, _, L1, _, _, L2, _, _, L3, _, _, _, rfl, ⟨ht, r1, r2, r3⟩, w1, w2, w3⟩

set_option maxRecDepth 100000 in
theorem open_dictW {r : Reach} {b0 : Nat} {v : Value} {d : DataW H} {p : List MemPlace} (hv : Value.okWide Tryz.prog w r b0 32 v) (h : DataW.Trod enc Tryz.prog w 0 (fun _ => true) true 32 v d p) :
    ∃ id t T g1 n1 L1 g2 n2 L2 g3 n3 L3 a b c x X, v = .agg (dictC id t g1 n1 g2 n2 g3 n3 a b c x) ∧ (RdI .i64 w t T ∧ RdI .i64 w n1 L1 ∧ RdI .i64 w n2 L2 ∧ RdI .i64 w n3 L3 ∧ RdI .u8 w x X) ∧ ((Lit.int .u32 id).wf = true ∧ (∀ y ∈ X, (Lit.int .u8 y).wf = true)) ∧ (∀ x ∈ L1, (Lit.int .i64 x).wf = true) ∧ (∀ x ∈ L2, (Lit.int .i64 x).wf = true) ∧ (∀ x ∈ L3, (Lit.int .i64 x).wf = true) := by
  obtain ⟨cs, rfl, hsz⟩ := okWide_struct Tryz.underlying32 hv
  obtain ⟨fuel, hf⟩ := h
  have hf' : DataW.trod enc Tryz.prog w 0 (fun _ => true) true fuel 32 cs.toList = some (d, p) := hf
  obtain ⟨xs, m, _, _, hl, hn, hx⟩ := DataW.trod_struct Tryz.underlying32 hf'
  have hlen : cs.toList.length = 12 := by rw [hl]; exact c_dict
  rw [← Array.toArray_toList (xs := cs)]
  generalize cs.toList = ls at *
  match ls, hlen with
  | [c0, c1, c2, c3, c4, c5, c6, c7, c8, c9, ca, cb], _ =>
    match xs, hn with
    | [x0, x1, x2], _ =>
      have h0 : DataW.trod enc Tryz.prog w 0 (fun _ => true) true m 24 (([c0, c1, c2, c3, c4, c5, c6, c7, c8, c9, ca, cb].drop 0).take (Tryz.prog.cellsOf 24)) = some x0 := hx 0 _ rfl
      have h1 : DataW.trod enc Tryz.prog w 0 (fun _ => true) true m 30 (([c0, c1, c2, c3, c4, c5, c6, c7, c8, c9, ca, cb].drop 1).take (Tryz.prog.cellsOf 30)) = some x1 := hx 1 _ rfl
      have h2 : DataW.trod enc Tryz.prog w 0 (fun _ => true) true m 22 (([c0, c1, c2, c3, c4, c5, c6, c7, c8, c9, ca, cb].drop 11).take (Tryz.prog.cellsOf 22)) = some x2 := hx 2 _ rfl
      obtain ⟨id, e0, -, hid⟩ := DataW.trod_int Tryz.underlying24 h0
      obtain ⟨t, T, g1, n1, L1, g2, n2, L2, g3, n3, L3, a, b, c, e1, ⟨ht, r1, r2, r3⟩, w1, w2, w3⟩ := trod_ctx h1
      obtain ⟨y, X, e2, hX, hXb⟩ := trod_numsC Tryz.underlying22 Tryz.underlying5 c_byte h2
      rw [c_u32] at e0
      rw [c_ctx] at e1
      rw [c_bytes] at e2
      simp at e0 e1 e2
      obtain ⟨rfl, rfl, rfl, rfl, rfl, rfl, rfl, rfl, rfl, rfl⟩ := e1
      subst e0 e2
      exact ⟨id, _, T, _, _, L1, _, _, L2, _, _, L3, _, _, _, _, X, rfl, ⟨ht, r1, r2, r3, hX⟩, ⟨hid, hXb⟩, w1, w2, w3⟩
set_option maxRecDepth 100000 in
theorem open_dict {r : Reach} {b0 : Nat} {v : Value} {d : DataW H} {p : List MemPlace} (hv : Value.okWide Tryz.prog w r b0 32 v) (h : DataW.Trod enc Tryz.prog w 0 (fun _ => true) true 32 v d p) :
    ∃ id t T g1 n1 L1 g2 n2 L2 g3 n3 L3 a b c x X, v = .agg (dictC id t g1 n1 g2 n2 g3 n3 a b c x) ∧ (RdI .i64 w t T ∧ RdI .i64 w n1 L1 ∧ RdI .i64 w n2 L2 ∧ RdI .i64 w n3 L3 ∧ RdI .u8 w x X) ∧ (Lit.int .u32 id).wf = true ∧ (∀ y ∈ X, (Lit.int .u8 y).wf = true) := by
  obtain ⟨id, t, T, g1, n1, L1, g2, n2, L2, g3, n3, L3, a, b, c, x, X, h1, h2, ⟨h3, h4⟩, -⟩ := open_dictW hv h
  exact ⟨id, t, T, g1, n1, L1, g2, n2, L2, g3, n3, L3, a, b, c, x, X, h1, h2, h3, h4⟩
end
end

section
set_option linter.unusedVariables false
set_option linter.unusedSimpArgs false
open Go.ChangeShapes Go.WideShapes Go.ChangeAt Go.RowKit Go.Joins

set_option maxRecDepth 100000 in
theorem dictMay_lifted (os : Os) (started : os.Started) (H : Type) (enc : TypeId × Value → H) :
    ReturnsInHanded {} Tryz.checked os 4 .any (Rows.dictMaySpec.pre6 enc Tryz.prog Tryz.f4 Rows.dictMayRow.domain false) (Rows.dictMaySpec.post enc Tryz.prog Tryz.f4 false true false false) :=
  returnsInHanded_of_change (C := Tryz.checked) Tryz.own started (by kernel_rfl) Tryz.func4
    (ChangeSpec.witness6 (enc := enc) (C := Tryz.checked) false ⟨#[], #[.agg #[.int .u32 0, .slice none 0 0, .int .i64 0, .slice none 0 0, .int .i64 0, .slice none 0 0, .int .i64 0, .slice none 0 0, .int .i64 0, .int .i64 0, .int .i64 0, .slice none 0 0]], []⟩ 8 (by kernel_rfl) (by kernel_rfl) (by kernel_rfl) (by kernel_rfl))
    (law_contract (C := Tryz.checked) Tryz.laidOut rfl
      (fun ds hd => by
        match ds, hd with
        | [d1], _ => rfl)
      (fun t ht => by
        have : t = 32 := by first | (simpa [Tryz.params4] using ht) | (have h9 := ht; simp [Tryz.params4] at h9; (repeat' (rcases h9 with h9 | h9)) <;> simp)
        rcases this with rfl <;> exact ⟨by kernel_rfl, of_decide_eq_true (by kernel_rfl)⟩)
      (tb := 4) rfl Tryz.underlying4
      (fun W base args ds ps hval0 hA0 hlt hnf => by
        have hval : ∀ (j : Nat) t v, Tryz.f4.params[j]? = some t → args[j]? = some v → Value.okWide Tryz.prog W .any base t v := hval0
        have hA : DataW.TrodAll enc Tryz.prog W 0 (fun _ => true) true Tryz.f4.params.toList args.toList ds ps := hA0
        rw [Tryz.params4] at hA hval
        obtain ⟨v0, d0, rfl, rfl, h0⟩ := trodAll_one hA
        obtain ⟨id, t, T, g1, n1, L1, g2, n2, L2, g3, n3, L3, a, b, c, x, X, rfl, ⟨ht, h1, h2, h3, hx⟩, ⟨-, hw⟩, w1, w2, w3⟩ := open_dictW (hval 0 32 v0 rfl rfl) h0
        exact law_may id g1 g2 g3 a b c t n1 n2 n3 x T L1 L2 L3 X W ht h1 h2 h3 hx (fun x hx => u8_bounds (hw x hx)) (fun x hx => int_bounds (w1 x hx)) (fun x hx => int_bounds (w2 x hx)) (fun x hx => int_bounds (w3 x hx))))

theorem dictMay_holds : Rows.DictMaySaid :=
  OpenClaim.holds_of_wide 4 Tryz.f4 rfl rfl rfl rfl rfl rfl rfl ⟨rfl, rfl, rfl, rfl, rfl⟩ rfl rfl rfl rfl rfl (by kernel_rfl) Tryz.func4 (by kernel_rfl)
    (of_decide_eq_true (by kernel_rfl)) (by unfold Func.isWrapper; first | (rw [if_pos (by decide +kernel)]; kernel_rfl) | (rw [if_neg (by decide +kernel)]; exact ⟨rfl, rfl⟩))
    (fun os started H enc _ => dictMay_lifted os started H enc)

#print axioms dictMay_holds
end

end Go.Proofs.YtcmagccfagijlaaGreat
