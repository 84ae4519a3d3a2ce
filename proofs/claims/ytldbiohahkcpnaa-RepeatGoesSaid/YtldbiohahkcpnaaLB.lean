/-
  Lists of three numbers in memory: what an owned row gives, and how an argument reads as such a list.
-/
import Derived.Test.YtldbiohahkcpnaaW10b
import Derived.Test.YtldbiohahkcpnaaOpen
namespace Go.Proofs.Ytldbiohahkcpnaa
set_option linter.unusedVariables false
set_option linter.unusedSimpArgs false
open Go.ChangeShapes Go.WideShapes Go.ChangeAt Go.RowKit Go.Joins

theorem owns_form {w : World} {base : Nat} {e : TypeId} {size : Nat} {v : Value} {n : Nat} {xs : List Value} (h : w.ownsRow base e size v n xs) : ∃ ad cp, v = .slice ad n cp := by
  rcases h.2 with ⟨rfl, rfl⟩ | ⟨g, cp, cur, rfl, -⟩
  · exact ⟨_, _, rfl⟩
  · exact ⟨_, _, rfl⟩
theorem owns_keeps {w w' : World} {base : Nat} {e : TypeId} {size : Nat} {v : Value} {n : Nat} {xs : List Value} (h : w.ownsRow base e size v n xs) (k : Keeps w w' []) : w'.ownsRow base e size v n xs :=
  h.kept (row := none) ⟨k.os, k.tape, k.output, k.size, fun i hi _ => k.block i hi (by simp)⟩ (by cases hv : v.ownBlock <;> simp)
/-- An owned row of three numbers an element reads as the list. -/
theorem owns_reads {w : World} {base : Nat} {e : TypeId} {v : Value} {l : List I3} (h : w.ownsRow base e 3 v l.length (cellsL l)) : Reads3 w v l := by
  rcases h.2 with ⟨rfl, h0⟩ | ⟨g, cp, cur, rfl, hb, hg, hn, hm, hs, ht⟩
  · exact ⟨_, _, _, rfl, h0.symm, fun h => by omega⟩
  · refine ⟨_, _, _, rfl, rfl, fun h0 => ⟨hn, g, 0, rfl, (Array.getElem?_eq_some_iff.1 hg).1, fun i hi => ?_⟩⟩
    rw [Nat.zero_add, cell_of_row w g i cur e (0, 0) hg, ← ht, List.getElem?_take, if_pos (by omega)]
    simp
/-- The cells of element k. -/
theorem Reads3.at {w : World} {a : Option Addr} {n cp : Nat} {l : List I3} (h : Reads3 w (.slice a n cp) l) {k : Nat} {x : I3} (hx : l[k]? = some x) :
    ∃ b o, a = some ⟨b, o, none⟩ ∧ b < w.heap.size ∧ w.cell? ⟨b, o + k * 3, none⟩ = some (.int .i64 x.1) ∧ w.cell? ⟨b, o + k * 3 + 1, none⟩ = some (.int .i64 x.2.1) ∧ w.cell? ⟨b, o + k * 3 + 2, none⟩ = some (.int .i64 x.2.2) := by
  obtain ⟨a', n', cp', he, hn, hc⟩ := h.form
  obtain ⟨h1, h2, h3⟩ := Value.slice.inj he
  subst h1 h2 h3
  have hk : k < l.length := (List.getElem?_eq_some_iff.1 hx).1
  obtain ⟨_, b, o, h2, h3, h4⟩ := hc (by omega)
  have hg := cellsL_get l k x hx
  refine ⟨b, o, h2, h3, ?_, ?_, ?_⟩
  · rw [show o + k * 3 = o + 3 * k by omega, h4 (3 * k) (by omega)]; exact hg.1
  · rw [show o + k * 3 + 1 = o + (3 * k + 1) by omega, h4 (3 * k + 1) (by omega)]; exact hg.2.1
  · rw [show o + k * 3 + 2 = o + (3 * k + 2) by omega, h4 (3 * k + 2) (by omega)]; exact hg.2.2
theorem Reads3.drewN {w : World} {v : Value} {l : List I3} (h : Reads3 w v l) (n : Nat) : Reads3 (w.drewN n) v l := h.keeps ((Keeps.refl w []).drewN n)
theorem Reads3.len {w : World} {a : Option Addr} {n cp : Nat} {l : List I3} (h : Reads3 w (.slice a n cp) l) : n = l.length := by
  obtain ⟨a', n', cp', he, hn, hc⟩ := h.form
  obtain ⟨h1, h2, h3⟩ := Value.slice.inj he
  rw [h2, hn]

theorem slice_cells {P : Program} {w : World} {t e : TypeId} {r : Reach} {b : Nat} {v : Value} (ht : P.underlying t = some (.slice e)) (h : Value.okWide P w r b t v) : v.cells.toList = [v] := by
  simp only [Value.okWide, ht, Cell.okWide] at h
  cases v <;> simp_all [Value.cells, Cell.ok]

/-- An argument that is a slice of structs of three numbers reads as a list. -/
theorem open_list3 {H : Type} {enc : TypeId × Value → H} {P : Program} {w : World} {ts t e : TypeId} {f0 f1 f2 : Field} {v : Value} {d : DataW H} {p : List MemPlace} (hts : P.underlying ts = some (.slice t)) (hs : P.underlying t = some (.struct #[f0, f1, f2])) (he : P.underlying e = some (.int .i64)) (hC : P.cellsOf t = 3) (hE : P.cellsOf e = 1)
    (t0 : f0.type = e) (t1 : f1.type = e) (t2 : f2.type = e) (o0 : f0.offset = 0) (o1 : f1.offset = 1) (o2 : f2.offset = 2)
    (hv : v.cells.toList = [v]) (h : DataW.Trod enc P w 0 (fun _ => true) true ts v d p) :
    ∃ l : List I3, Reads3 w v l ∧ (∀ x ∈ l, x.2.2 ≤ 9223372036854775807) := by
  obtain ⟨fuel, hf⟩ := h
  rw [hv] at hf
  rcases Go.Deep.open_slice hts hf with ⟨hcs, hx⟩ | ⟨a, len, cap, m, n, D, Pl, hcs, hb, hl, hm, hmm, hx, hel⟩
  · simp at hcs
    exact ⟨[], ⟨_, _, _, hcs, rfl, fun h => by omega⟩, by simp⟩
  · simp at hcs
    have hmc : len ≤ m := by rw [hmm]; simp; exact hl
    have hread : ∀ i, i < len → ∃ x : I3, (∀ j, j < 3 → w.cell? ((a.add (i * 3)).add j) = (cells3 x)[j]?) ∧ x.2.2 ≤ 9223372036854775807 := by
      intro i hi
      obtain ⟨cs', hc', ht'⟩ := hel i (by omega)
      rw [hC] at hc'
      obtain ⟨x, y, z, rfl, -, -, hz⟩ := trod_str3 hs he hC hE t0 t1 t2 o0 o1 o2 ht'
      exact ⟨(x, y, z), (World.cells?_some hc').2.2, (int_bounds hz).2⟩
    have hlist : ∀ k, k ≤ len → ∃ l : List I3, l.length = k ∧ (∀ i x, l[i]? = some x → (∀ j, j < 3 → w.cell? ((a.add (i * 3)).add j) = (cells3 x)[j]?)) ∧ (∀ x ∈ l, x.2.2 ≤ 9223372036854775807) := by
      intro k
      induction k with
      | zero => intro _; exact ⟨[], rfl, by simp, by simp⟩
      | succ k ih =>
        intro hk
        obtain ⟨l, h1, h2, h3⟩ := ih (by omega)
        obtain ⟨x, hx1, hx2⟩ := hread k (by omega)
        refine ⟨l ++ [x], by simp [h1], ?_, ?_⟩
        · intro i y hy
          by_cases hik : i < l.length
          · rw [List.getElem?_append_left hik] at hy
            exact h2 i y hy
          · have hlt := (List.getElem?_eq_some_iff.1 hy).1
            simp at hlt
            have : i = k := by omega
            subst this
            rw [List.getElem?_append_right (by omega)] at hy
            simp [h1] at hy
            subst hy
            exact hx1
        · intro y hy
          simp at hy
          rcases hy with hy | rfl
          · exact h3 y hy
          · exact hx2
    obtain ⟨l, hl1, hl2, hl3⟩ := hlist len (Nat.le_refl _)
    refine ⟨l, ⟨_, _, _, hcs, hl1.symm, fun h0 => ?_⟩, hl3⟩
    have hsp : a.spot = none := by
      obtain ⟨x, hx⟩ : ∃ x, l[0]? = some x := ⟨_, List.getElem?_eq_getElem (by omega)⟩
      have := hl2 0 x hx 0 (by omega)
      have e0 : (a.add (0 * 3)).add 0 = a := by simp [Addr.add]
      rw [e0] at this
      cases hsp : a.spot with
      | none => rfl
      | some q =>
        simp [World.cell?, cells3] at this
        split at this <;> simp [hsp] at this
    have ha : a = ⟨a.block, a.off, none⟩ := by cases a; simp_all
    refine ⟨hl, a.block, a.off, by rw [← ha], ?_, fun i hi => ?_⟩
    · obtain ⟨x, hx⟩ : ∃ x, l[0]? = some x := ⟨_, List.getElem?_eq_getElem (by omega)⟩
      have := hl2 0 x hx 0 (by omega)
      have e0 : (a.add (0 * 3)).add 0 = a := by simp [Addr.add]
      rw [e0] at this
      exact World.block_lt_of_cell? w a (this.trans (by simp [cells3]; rfl))
    · have hq : i / 3 < l.length := by omega
      obtain ⟨x, hx⟩ : ∃ x, l[i / 3]? = some x := ⟨_, List.getElem?_eq_getElem hq⟩
      have h1 := hl2 (i / 3) x hx (i % 3) (Nat.mod_lt _ (by omega))
      have h2 := cellsL_get l (i / 3) x hx
      have e0 : (a.add (i / 3 * 3)).add (i % 3) = ⟨a.block, a.off + i, none⟩ := by
        unfold Addr.add
        split <;> split <;> (rw [ha]; simp only [Addr.mk.injEq]; simp; try omega)
      rw [e0] at h1
      rw [h1]
      have h3 : i % 3 = 0 ∨ i % 3 = 1 ∨ i % 3 = 2 := by omega
      rcases h3 with h3 | h3 | h3
      · rw [h3, show i = 3 * (i / 3) by omega, h2.1]; rfl
      · rw [h3]; conv => rhs; rw [show i = 3 * (i / 3) + 1 by omega, h2.2.1]
        rfl
      · rw [h3]; conv => rhs; rw [show i = 3 * (i / 3) + 2 by omega, h2.2.2]
        rfl

theorem offsL_len : ∀ (l : List I3) (a b c : Int) {out : List I3} {x y z : Int}, offsL a b c l = .fine out x y z → out.length = l.length
  | [], a, b, c, out, x, y, z, h => by simp only [offsL] at h; cases h; rfl
  | u :: l, a, b, c, out, x, y, z, h => by
    simp only [offsL] at h
    split at h
    · cases hr : offsL (toldO a b c u.1 u.2.2) (updB a b (toldK u.1 u.2.2)) (updC b c (toldK u.1 u.2.2)) l with
      | bad n => rw [hr] at h; cases h
      | fine o p q r => rw [hr] at h; cases h; simp [offsL_len l _ _ _ hr]
    · cases h
theorem offsAll_len {l : List I3} {a b c : Int} {out : List I3} {x y z : Int} (h : offsAll a b c l = .fine out x y z) : out.length = l.length := by
  simp only [offsAll] at h
  split at h
  · exact offsL_len l a b c h
  · cases h
theorem valsL_len : ∀ (l : List I3) (a b c : Int) {out : List I3} {x y z : Int}, valsL a b c l = .fine out x y z → out.length = l.length
  | [], a, b, c, out, x, y, z, h => by simp only [valsL] at h; cases h; rfl
  | u :: l, a, b, c, out, x, y, z, h => by
    simp only [valsL] at h
    split at h
    · cases hr : valsL u.2.2 (updB a b (toldK u.1 (valV a b c u.1 u.2.2))) (updC b c (toldK u.1 (valV a b c u.1 u.2.2))) l with
      | bad n => rw [hr] at h; cases h
      | fine o p q r => rw [hr] at h; cases h; simp [valsL_len l _ _ _ hr]
    · cases h
theorem valsAll_len {l : List I3} {a b c : Int} {out : List I3} {x y z : Int} (h : valsAll a b c l = .fine out x y z) : out.length = l.length := by
  simp only [valsAll] at h
  split at h
  · exact valsL_len l a b c h
  · cases h

end Go.Proofs.Ytldbiohahkcpnaa
