/-
  A result of type bool that lies in a cell; a function value is not nil.
  What an iterator has handed out after k rounds. No program is in sight here.
  A slice of bytes as a string; slices of slices that a call collects. No program is in sight here.
-/
import Derived.Test.YtogengangfohfaaGreatQ4
import Derived.Test.YtogengangfohfaaGreatRows
import Derived.Test.YtogengangfohfaaGreatQ1
import Derived.Test.YtogengangfohfaaGreatQ3
import Derived.Laws.BytesArg
namespace Go.Proofs.YtogengangfohfaaGreat
section
set_option linter.unusedVariables false
set_option linter.unusedSimpArgs false
open Go.RowKit

theorem Tryz.loadBool (w : World) (a : Addr) (b : Bool) (h : w.cell? a = some (.bool b)) : (loadVar 4 a).run Tryz.prog w = .ok (.bool b) w := by
  go_simp

/-- A contract from a body that holds ranges over functions, the plain walk. -/
theorem calls_of_marks {P : Program} {f : FuncId} {fn : Func} {c : Code} {args : Array Value} {w : World} {R : Ending → World → Prop} (hf : P.funcs[f]? = some fn) (hb : fn.body = some c)
    (h : c.wp P (bodyPostM Fence.wide 9 P fn R) { tmps := args ++ Array.replicate (fn.ntmps - args.size) undef, defers := [] } w) : Calls P f args w R :=
  callsIn_wide.1 (callsIn_of_wp_marks hf hb trivial (wpIn_wide.2 h) rfl)

theorem res_cell {fn : Func} {p : Tmp} {T : TypeId} (h : fn.results = #[.cell p T]) {tmps : Array Value} {P : Program} {w : World} {a : Addr} {v : Value} (ht : tmps.getD p undef = .pointer (some a)) (hl : (loadVar T a).run P w = .ok v w) :
    (results fn tmps).run P w = .ok v w := by
  simp only [results, h]
  have ht' : tmps[p]?.getD undef = .pointer (some a) := by simpa using ht
  simp [Sem.run_bind, Result.andThen, ht', asAddr, hl]
end

section
set_option linter.unusedVariables false
set_option linter.unusedSimpArgs false
open Go.RowKit

/-- What has come when k rounds are over. -/
def upto {α : Type} (f : Nat → α) (k : Nat) : List α := (List.range k).map f
theorem upto_succ {α : Type} (f : Nat → α) (k : Nat) : upto f (k + 1) = upto f k ++ [f k] := by simp [upto, List.range_succ]
theorem upto_length {α : Type} (f : Nat → α) (k : Nat) : (upto f k).length = k := by simp [upto]
theorem upto_prefix {α : Type} (f : Nat → α) {k n : Nat} (h : k ≤ n) : upto f k <+: upto f n := by
  obtain ⟨m, rfl⟩ := Nat.le.dest h
  induction m with
  | zero => exact List.prefix_refl _
  | succ m ih =>
    rw [← Nat.add_assoc, upto_succ]
    exact (ih (Nat.le_add_right _ _)).trans (List.prefix_append _ _)
theorem upto_next {α : Type} {f : Nat → α} {k n : Nat} {x : α} (h : upto f k ++ [x] <+: upto f n) : k < n ∧ x = f k := by
  have hl := h.length_le
  simp only [List.length_append, upto_length, List.length_cons, List.length_nil] at hl
  refine ⟨by omega, ?_⟩
  have h2 : upto f k ++ [f k] <+: upto f n := by rw [← upto_succ]; exact upto_prefix f (by omega)
  have h3 := (List.prefix_iff_eq_take.1 h).trans ((by simp [upto_length]) : _ = List.take (upto f k ++ [f k]).length (upto f n))
  rw [← List.prefix_iff_eq_take.1 h2] at h3
  simpa using h3

abbrev encN (x : Nat × Int) : Array Value := #[.int .i64 (x.1 : Int), .int .i64 x.2]
abbrev itemN (l : List Int) (k : Nat) : Nat × Int := (k, (l[k]?).getD 0)

theorem Keeps.cellsAt {w w' : World} {C : List Nat} {b : Nat} (h : Keeps w w' C) (hb : b < w.heap.size) (hn : b ∉ C) {o : Nat} {v : Value} (hc : w.cell? ⟨b, o, none⟩ = some v) : w'.cell? ⟨b, o, none⟩ = some v :=
  (h.cell (p := ⟨b, o, none⟩) hb hn).trans hc

abbrev encP (x : Int × Int) : Array Value := #[.int .i64 x.1, .int .i64 x.2]
theorem Turn.below {X : World} {D : Nat} {o o' : Obj} (h : X.heap[D]? = some o) {B : Nat} (hB : B ≤ D) : Below B X (X.putObj D o') :=
  ⟨rfl, rfl, rfl, by simp, fun k hk => World.putObj_heap_other (by omega)⟩
end

section
set_option linter.unusedVariables false
set_option linter.unusedSimpArgs false
open Go.RowKit

theorem str_of {P : Program} {w : World} {v : Value} {l : List Int} (hv : RdI .u8 w v l) {src e dst : TypeId} (hs : P.underlying src = some (.slice e)) (he : P.underlying e = some (.int .u8)) (hd : P.underlying dst = some .string) :
    (convert src dst v).run P w = .ok (.string (strOfNums l)) w := by
  obtain ⟨a, n, cp, rfl, hn, h0, hc⟩ := hv.form
  by_cases hz : n = 0
  · subst hz
    have : l = [] := List.eq_nil_of_length_eq_zero hn.symm
    subst this
    cases a with
    | none => exact run_convert_bytes_nil w src e hs he 0 cp dst hd
    | some a =>
      rw [run_convert_bytes_string w src dst e _ 0 cp hs he hd, run_bytesToString w a 0 cp [] (by simp [loadCells, loadCellsFrom])]
      rfl
  · obtain ⟨-, b, o, rfl, hb, hcell⟩ := hc (by omega)
    refine run_convert_bytes_arg w src e hs he b o n cp l hn.symm (fun i hi => ?_) dst hd
    rw [hcell i _ (List.getElem?_eq_getElem (by omega))]
    simp [List.getD, List.getElem?_eq_getElem (show i < l.length by omega)]

theorem u8_bounds {n : Int} (h : (Lit.int .u8 n).wf = true) : 0 ≤ n ∧ n ≤ 255 := by
  simp [Lit.wf, IntKind.min, IntKind.max, IntKind.signed, IntKind.bits] at h
  omega

/-- The values vs read as the lists ls. -/
def RdV (k : IntKind) (w : World) (vs : List Value) (ls : List (List Int)) : Prop := vs.length = ls.length ∧ ∀ (j : Nat) (l : List Int), ls[j]? = some l → ∃ v, vs[j]? = some v ∧ RdI k w v l
theorem RdV.nil {k : IntKind} {w : World} : RdV k w [] [] := ⟨rfl, by simp⟩
theorem RdV.keeps {k : IntKind} {w w' : World} {vs : List Value} {ls : List (List Int)} (h : RdV k w vs ls) (kk : Keeps w w' []) : RdV k w' vs ls :=
  ⟨h.1, fun j l hl => by obtain ⟨v, h1, h2⟩ := h.2 j l hl; exact ⟨v, h1, h2.keeps kk⟩⟩
theorem RdV.snoc {k : IntKind} {w : World} {vs : List Value} {ls : List (List Int)} {v : Value} {l : List Int} (h : RdV k w vs ls) (hv : RdI k w v l) : RdV k w (vs ++ [v]) (ls ++ [l]) := by
  refine ⟨by simp [h.1], fun j m hm => ?_⟩
  by_cases hj : j < ls.length
  · rw [List.getElem?_append_left hj] at hm
    obtain ⟨u, h1, h2⟩ := h.2 j m hm
    exact ⟨u, by rw [List.getElem?_append_left (by rw [h.1]; exact hj)]; exact h1, h2⟩
  · have hlt := (List.getElem?_eq_some_iff.1 hm).1
    simp at hlt
    have : j = ls.length := by omega
    subst this
    rw [List.getElem?_append_right (Nat.le_refl _)] at hm
    simp at hm
    subst hm
    exact ⟨v, by rw [List.getElem?_append_right (by rw [h.1]; exact Nat.le_refl _), h.1]; simp, hv⟩
/-- An owned row of slices reads as the list of lists. -/
theorem own_readsL {k : IntKind} {w : World} {base : Nat} {e : TypeId} {v : Value} {vs : List Value} {ls : List (List Int)} (h : w.ownsRow base e 1 v vs.length vs) (hv : RdV k w vs ls) : RdL k w v ls := by
  rcases h.2 with ⟨rfl, h0⟩ | ⟨g, cp, cur, rfl, hb, hg, hn, hm, hs, ht⟩
  · exact ⟨_, _, _, rfl, by have := hv.1; omega, fun h => absurd h (by omega)⟩
  · refine ⟨_, _, _, rfl, hv.1, fun h0 => ⟨hn, g, 0, rfl, (Array.getElem?_eq_some_iff.1 hg).1, fun i l hl => ?_⟩⟩
    obtain ⟨u, h1, h2⟩ := hv.2 i l hl
    refine ⟨u, ?_, h2⟩
    have hlt : i < vs.length := (List.getElem?_eq_some_iff.1 h1).1
    rw [Nat.zero_add, cell_of_row w g i cur e (0, 0) hg]
    have h3 : (cur.toList.take (vs.length * 1))[i]? = vs[i]? := by rw [ht]
    rw [List.getElem?_take, if_pos (by omega), h1] at h3
    simpa using h3

/-- A piece of a slice. -/
theorem RdI.piece {k : IntKind} {w : World} {b o n cp : Nat} {l : List Int} (h : RdI k w (.slice (some ⟨b, o, none⟩) n cp) l) {p q : Nat} (hpq : p + q ≤ n) (cp' : Nat) (hq : q ≤ cp') :
    RdI k w (.slice (some ⟨b, o + p, none⟩) q cp') ((l.drop p).take q) := by
  have hn := h.len
  refine ⟨_, _, _, rfl, by simp; omega, (fun h => by cases h), fun h0 => ⟨hq, b, o + p, rfl, ?_, fun i x hx => ?_⟩⟩
  · obtain ⟨b', o', e1, e2, -⟩ := h.addr (by omega)
    cases e1; exact e2
  · rw [List.getElem?_take] at hx
    split at hx
    · rw [List.getElem?_drop] at hx
      obtain ⟨b', o', e1, e2, e3⟩ := h.at hx
      cases e1
      rw [Nat.add_assoc]; exact e3
    · cases hx
end

end Go.Proofs.YtogengangfohfaaGreat
