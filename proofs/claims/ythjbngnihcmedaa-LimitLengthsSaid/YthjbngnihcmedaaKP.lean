/-
  Lists of pairs of numbers in memory: what a slice of arrays of two reads as; its parts; append. No program is in sight here.
-/
import Derived.Test.YthjbngnihcmedaaAp
import Derived.Test.YthjbngnihcmedaaKE
import Derived.Test.YthjbngnihcmedaaHeld
import Derived.Deep.RegionHeld3
import Derived.Deep.RegionLaw
namespace Go.Proofs.Ythjbngnihcmedaa
set_option linter.unusedVariables false
set_option linter.unusedSimpArgs false
open Go.RowKit

def cells2 : List (Int × Int) → List Value
  | [] => []
  | x :: l => .int .i64 x.1 :: .int .i64 x.2 :: cells2 l
theorem cells2_length (l : List (Int × Int)) : (cells2 l).length = l.length * 2 := by
  induction l with
  | nil => rfl
  | cons x l ih => simp only [cells2, List.length_cons, ih]; omega
theorem cells2_append (l m : List (Int × Int)) : cells2 (l ++ m) = cells2 l ++ cells2 m := by
  induction l with
  | nil => rfl
  | cons x l ih => simp [cells2, ih]
theorem cells2_get {l : List (Int × Int)} {i : Nat} {x : Int × Int} (h : l[i]? = some x) : (cells2 l)[i * 2]? = some (.int .i64 x.1) ∧ (cells2 l)[i * 2 + 1]? = some (.int .i64 x.2) := by
  induction l generalizing i with
  | nil => simp at h
  | cons y l ih =>
    cases i with
    | zero => simp at h; subst h; simp [cells2]
    | succ i =>
      simp at h
      have := ih h
      rw [show (i + 1) * 2 = i * 2 + 1 + 1 by omega]
      simpa [cells2] using this
theorem cells2_at {l : List (Int × Int)} {j : Nat} {u : Value} (h : (cells2 l)[j]? = some u) : ∃ x, l[j / 2]? = some x ∧ ((j % 2 = 0 ∧ u = .int .i64 x.1) ∨ (j % 2 = 1 ∧ u = .int .i64 x.2)) := by
  have hl := (List.getElem?_eq_some_iff.1 h).1
  rw [cells2_length] at hl
  obtain ⟨x, hx⟩ : ∃ x, l[j / 2]? = some x := ⟨_, List.getElem?_eq_getElem (by omega)⟩
  obtain ⟨e1, e2⟩ := cells2_get hx
  refine ⟨x, hx, ?_⟩
  rcases Nat.mod_two_eq_zero_or_one j with hj | hj
  · rw [show j / 2 * 2 = j by omega, h] at e1
    exact .inl ⟨hj, Option.some.inj e1⟩
  · rw [show j / 2 * 2 + 1 = j by omega, h] at e2
    exact .inr ⟨hj, Option.some.inj e2⟩
theorem cells2_one (l : List (Int × Int)) : ∀ u ∈ cells2 l, u.oneCell' = true := by
  intro u hu
  obtain ⟨j, hj⟩ := List.mem_iff_getElem?.1 hu
  obtain ⟨x, -, h | h⟩ := cells2_at hj
  · rw [h.2]; simp [Value.oneCell']
  · rw [h.2]; simp [Value.oneCell']

/-- A slice value reads as a list of pairs. -/
structure RdP (w : World) (v : Value) (l : List (Int × Int)) : Prop where
  form : ∃ a n cp, v = .slice a n cp ∧ n = l.length ∧ n ≤ cp ∧ (a = none → n = 0 ∧ cp = 0) ∧ (0 < n → ∃ b o, a = some ⟨b, o, none⟩ ∧ b < w.heap.size ∧ ∀ i x, l[i]? = some x → w.cell? ⟨b, o + i * 2, none⟩ = some (.int .i64 x.1) ∧ w.cell? ⟨b, o + i * 2 + 1, none⟩ = some (.int .i64 x.2))

section
variable {w w' : World} {v : Value} {l : List (Int × Int)} {a : Option Addr} {n cp : Nat}
theorem RdP.nil : RdP w (.slice none 0 0) [] := ⟨_, _, _, rfl, rfl, Nat.le_refl _, fun _ => ⟨rfl, rfl⟩, fun h => absurd h (by omega)⟩
theorem RdP.keeps {S : List Nat} (h : RdP w v l) (k : Keeps w w' S) (hn : ∀ ad n cp, v = .slice (some ad) n cp → 0 < n → ad.block ∉ S) : RdP w' v l := by
  obtain ⟨a, n, cp, rfl, h1, h2, h3, hc⟩ := h.form
  refine ⟨a, n, cp, rfl, h1, h2, h3, fun h0 => ?_⟩
  obtain ⟨b, o, rfl, hb, h4⟩ := hc h0
  have hnb := hn _ _ _ rfl h0
  exact ⟨b, o, rfl, Nat.lt_of_lt_of_le hb k.size, fun i x hx => ⟨(k.cell (p := ⟨b, o + i * 2, none⟩) hb hnb).trans (h4 i x hx).1, (k.cell (p := ⟨b, o + i * 2 + 1, none⟩) hb hnb).trans (h4 i x hx).2⟩⟩
theorem RdP.keep (h : RdP w v l) (k : Keeps w w' []) : RdP w' v l := h.keeps k (fun _ _ _ _ _ => by simp)
theorem RdP.len (h : RdP w (.slice a n cp) l) : n = l.length := by
  obtain ⟨a', n', cp', he, h1, -⟩ := h.form
  cases he; exact h1
theorem RdP.cap (h : RdP w (.slice a n cp) l) : n ≤ cp := by
  obtain ⟨a', n', cp', he, h1, h2, -⟩ := h.form
  cases he; exact h2
theorem RdP.at (h : RdP w (.slice a n cp) l) {i : Nat} {x : Int × Int} (hx : l[i]? = some x) : ∃ b o, a = some ⟨b, o, none⟩ ∧ b < w.heap.size ∧ w.cell? ⟨b, o + i * 2, none⟩ = some (.int .i64 x.1) ∧ w.cell? ⟨b, o + i * 2 + 1, none⟩ = some (.int .i64 x.2) := by
  obtain ⟨a', n', cp', he, h1, h2, h3, hc⟩ := h.form
  cases he
  have hlt := (List.getElem?_eq_some_iff.1 hx).1
  obtain ⟨b, o, e, hb, h4⟩ := hc (by omega)
  exact ⟨b, o, e, hb, h4 i x hx⟩
/-- The cells, as append asks for them. -/
theorem RdP.news {ad : Addr} (h : RdP w (.slice (some ad) n cp) l) : ∀ j u, (cells2 l)[j]? = some u → w.cell? (ad.add j) = some u := by
  intro j u hj
  obtain ⟨x, hx, hu⟩ := cells2_at hj
  obtain ⟨b, o, e, hb, h1, h2⟩ := h.at hx
  cases e
  have e : (⟨b, o, none⟩ : Addr).add j = ⟨b, o + j, none⟩ := by simp [Addr.add]
  rw [e]
  rcases hu with ⟨hm, rfl⟩ | ⟨hm, rfl⟩
  · rw [show o + j = o + j / 2 * 2 by omega]; exact h1
  · rw [show o + j = o + j / 2 * 2 + 1 by omega]; exact h2
/-- An owned row reads as the list. -/
theorem own2_reads {base : Nat} {e : TypeId} (h : w.ownsRow base e 2 v l.length (cells2 l)) : RdP w v l := by
  rcases h.2 with ⟨rfl, h0⟩ | ⟨g, cp, cur, rfl, hb, hg, hn, hm, hs, ht⟩
  · exact ⟨_, _, _, rfl, h0.symm, Nat.le_refl _, fun _ => ⟨rfl, rfl⟩, fun h => by omega⟩
  · refine ⟨_, _, _, rfl, rfl, hn, (fun h => by cases h), fun h0 => ⟨g, 0, rfl, (Array.getElem?_eq_some_iff.1 hg).1, fun i x hx => ?_⟩⟩
    have hlt := (List.getElem?_eq_some_iff.1 hx).1
    have e : ∀ j, j < l.length * 2 → w.cell? ⟨g, 0 + j, none⟩ = (cells2 l)[j]? := fun j hj => by
      rw [Nat.zero_add, cell_of_row w g j cur e (0, 0) hg, ← ht, List.getElem?_take, if_pos hj]
      simp
    obtain ⟨h1, h2⟩ := cells2_get hx
    exact ⟨(e _ (by omega)).trans h1, (e _ (by omega)).trans h2⟩
theorem own2_form {base : Nat} {e : TypeId} {xs : List Value} (h : w.ownsRow base e 2 v n xs) : ∃ ad cp, v = .slice ad n cp := own_form h
theorem own2_keeps {base : Nat} {e : TypeId} {xs : List Value} (h : w.ownsRow base e 2 v n xs) (kk : Keeps w w' []) : w'.ownsRow base e 2 v n xs := own_keeps h kk
/-- One pair in a block of its own. -/
theorem RdP.one {b : Nat} {x y : Int} {T : TypeId} (h : Blk w b #[.int .i64 x, .int .i64 y] T) : RdP w (.slice (some ⟨b, 0, none⟩) 1 1) [(x, y)] :=
  ⟨_, _, _, rfl, rfl, Nat.le_refl _, (fun h => by cases h), fun _ => ⟨b, 0, rfl, h.lt, fun i z hz => by
    cases i with
    | zero => simp at hz; subst hz; exact ⟨h.cell 0, h.cell 1⟩
    | succ i => simp at hz⟩⟩
end

/-- x[:m] of a slice of pairs. -/
theorem slice_preP {P : Program} {t e : TypeId} (ht : P.underlying t = some (.slice e)) {i0 : TypeInfo} (hi : P.info? e = some i0) (h1 : i0.size = 2) {w : World} {a : Option Addr} {n c m : Nat} {l : List (Int × Int)} (h : RdP w (.slice a n c) l) (hm : m ≤ n) :
    ∃ a' c', (∀ w', (Instr.slice t (.slice a n c) none (some (.int .i64 m)) none).run P w' = .ok (.slice a' m c') w') ∧ RdP w (.slice a' m c') (l.take m) := by
  have hcap := h.cap
  have hlen := h.len
  have hmc : m ≤ c := by omega
  have e0 : a.map (·.add 0) = a := by cases a <;> simp [Addr.add]
  refine ⟨a, c, fun w' => ?_, ?_⟩
  · simp [Instr.slice, Instr.sliceBounds, Instr.sliceBound, asIntOf, run_underlying ht, go_sem, sizeOf, typeInfo, hi, h1, hmc, e0]
  · obtain ⟨a', n', c', he, q1, q2, q3, hc⟩ := h.form
    cases he
    refine ⟨a, m, c, rfl, by simp; omega, hmc, (fun h => by have := q3 h; omega), fun h0 => ?_⟩
    obtain ⟨b, o, e, hb, h4⟩ := hc (by omega)
    exact ⟨b, o, e, hb, fun i x hx => h4 i x (by
      rw [List.getElem?_take] at hx
      split at hx
      · exact hx
      · cases hx)⟩
/-- x[m:] of a slice of pairs. -/
theorem slice_postP {P : Program} {t e : TypeId} (ht : P.underlying t = some (.slice e)) {i0 : TypeInfo} (hi : P.info? e = some i0) (h1 : i0.size = 2) {w : World} {a : Option Addr} {n c m : Nat} {l : List (Int × Int)} (h : RdP w (.slice a n c) l) (hm : m ≤ n) :
    ∃ a' c', (∀ w', (Instr.slice t (.slice a n c) (some (.int .i64 m)) none none).run P w' = .ok (.slice a' (n - m) c') w') ∧ RdP w (.slice a' (n - m) c') (l.drop m) := by
  have hcap := h.cap
  have hlen := h.len
  refine ⟨if c = m then a else a.map (·.add (m * 2)), c - m, fun w' => ?_, ?_⟩
  · by_cases hcm : c = m
    · simp [Instr.slice, Instr.sliceBounds, Instr.sliceBound, asIntOf, run_underlying ht, go_sem, sizeOf, typeInfo, hi, h1, hm, hcap, hcm]
    · simp [Instr.slice, Instr.sliceBounds, Instr.sliceBound, asIntOf, run_underlying ht, go_sem, sizeOf, typeInfo, hi, h1, hm, hcap, hcm]
  · obtain ⟨a', n', c', he, q1, q2, q3, hc⟩ := h.form
    cases he
    refine ⟨_, n - m, c - m, rfl, by simp; omega, by omega, (fun h => ?_), fun h0 => ?_⟩
    · split at h
      · have := q3 h; omega
      · cases a with
        | none => have := q3 rfl; omega
        | some ad => cases h
    · obtain ⟨b, o, e, hb, h4⟩ := hc (by omega)
      subst e
      refine ⟨b, o + m * 2, ?_, hb, fun i x hx => ?_⟩
      · rw [if_neg (by omega)]; simp [Addr.add]
      · rw [List.getElem?_drop] at hx
        have := h4 (m + i) x hx
        rw [show o + m * 2 + i * 2 = o + (m + i) * 2 by omega]
        exact this

/-- A step of a region that draws its order: append of a slice of pairs, nil or not, to a slice of the call's own. -/
theorem step_appendP {P : Program} {ops : Array Oper} {o : Oper} {a : Act} {w : World} {K : Act → World → Prop} {Q : Exit → Act → World → Prop} {E : Prop} (hgd : o.guard = none) (s x : Operand) (t : TypeId)
    (ho : o.op = .call { callee := .builtin .append, args := #[s, x], argTypes := #[t, t] })
    (base : Nat) (e : TypeId) (i : TypeInfo) (z : Value) (bytes : Nat) (ht : P.underlying t = some (.slice e)) (hi : P.info? e = some i) (hz : i.zero = some z)
    (hsize : i.size = 2) (hby : i.bytes = bytes) (hzs : z.cells.size = 2)
    (v : Value) (n : Nat) (xs : List Value) (hs : a.eval s = v) (hown : w.ownsRow base e 2 v n xs) (vx : Value) (hx : a.eval x = vx) (l : List (Int × Int)) (hv : RdP w vx l)
    (h63 : n + l.length ≤ maxLen) (hbytes : (n + l.length) * bytes ≤ 140737488355328) (hbase : base ≤ w.heap.size)
    (h : ∀ v' w', w'.ownsRow base e 2 v' (n + l.length) (xs ++ cells2 l) → w.grownBy w' v.ownBlock → K (a.put o.dst v') w') :
    if Region.wanted o (yielded ops a.tmps) = true then Oper.wp P o a w K Q else E := by
  have hw : Region.wanted o (yielded ops a.tmps) = true := by simp [Region.wanted, hgd]
  rw [if_pos hw]
  obtain ⟨A0, m, cp, rfl, hm, hcp, h0, -⟩ := hv.form
  cases A0 with
  | none =>
    obtain ⟨rfl, rfl⟩ := h0 rfl
    have hl : l = [] := List.eq_nil_of_length_eq_zero hm.symm
    subst hl
    have hrun := run_append_owned_none (P := P) (w := w) base t o.type e i 2 ht hi v n xs hown
    unfold Oper.wp
    simp [execOp, ho, resolve, invoke, builtin, hs, hx, hrun, Result.andThen]
    exact h v w (by simpa [cells2] using hown) (grown_refl _ _)
  | some ad =>
    subst hm
    exact wp_append_own w s x t ho base e i z 2 bytes ht hi hz hsize hby hzs (by decide) v n xs hs hown ad l.length cp (cells2 l) hx (cells2_length l) hv.news (cells2_one l) h63 hbytes hbase
      (fun v' w' h1 h2 _ => h v' w' h1 h2)

end Go.Proofs.Ythjbngnihcmedaa
