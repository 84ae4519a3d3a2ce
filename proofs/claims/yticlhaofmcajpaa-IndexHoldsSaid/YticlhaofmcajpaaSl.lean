/-
  Slices of numbers in memory: what a slice value reads as; what keeps it; how an argument opens. No program is in sight here.
-/
import Derived.Test.YticlhaofmcajpaaBase
import Derived.Test.YticlhaofmcajpaaLift
import Derived.Deep.Slices
import Derived.OpenShut
import Derived.OwnWalk
import Derived.Laws.AppendOwnNone
namespace Go.Proofs.Yticlhaofmcajpaa
set_option linter.unusedVariables false
set_option linter.unusedSimpArgs false
set_option linter.unusedSectionVars false
open Go.ChangeShapes Go.WideShapes Go.ChangeAt Go.RowKit

/-- A slice value reads as a list of numbers of kind k. -/
structure RdI (k : IntKind) (w : World) (v : Value) (l : List Int) : Prop where
  form : ∃ a n cp, v = .slice a n cp ∧ n = l.length ∧ (a = none → n = 0 ∧ cp = 0) ∧ (0 < n → n ≤ cp ∧ ∃ b o, a = some ⟨b, o, none⟩ ∧ b < w.heap.size ∧ ∀ i x, l[i]? = some x → w.cell? ⟨b, o + i, none⟩ = some (.int k x))

section
variable {k : IntKind} {w w' : World} {v : Value} {l : List Int} {a : Option Addr} {n cp : Nat}

theorem RdI.nil : RdI k w (.slice none 0 0) [] := ⟨_, _, _, rfl, rfl, fun _ => ⟨rfl, rfl⟩, fun h => absurd h (by omega)⟩
theorem RdI.zero (a : Addr) (c : Nat) : RdI k w (.slice (some a) 0 c) [] := ⟨_, _, _, rfl, rfl, (fun h => by cases h), fun h => absurd h (by omega)⟩
theorem RdI.keeps (h : RdI k w v l) (kk : Keeps w w' []) : RdI k w' v l := by
  obtain ⟨a, n, cp, rfl, hn, h0, hc⟩ := h.form
  refine ⟨a, n, cp, rfl, hn, h0, fun hp => ?_⟩
  obtain ⟨h1, b, o, h2, h3, h4⟩ := hc hp
  exact ⟨h1, b, o, h2, Nat.lt_of_lt_of_le h3 kk.size, fun i x hx => (kk.cell h3 (by simp)).trans (h4 i x hx)⟩
theorem RdI.keepsS {S : List Nat} (h : RdI k w v l) (kk : Keeps w w' S) (hn : ∀ ad n cp, v = .slice (some ad) n cp → 0 < n → ad.block ∉ S) : RdI k w' v l := by
  obtain ⟨a, n, cp, rfl, hl, h0, hc⟩ := h.form
  refine ⟨a, n, cp, rfl, hl, h0, fun hp => ?_⟩
  obtain ⟨h1, b, o, rfl, h3, h4⟩ := hc hp
  exact ⟨h1, b, o, rfl, Nat.lt_of_lt_of_le h3 kk.size, fun i x hx => (kk.cell (p := ⟨b, o + i, none⟩) h3 (fun hm => hn _ _ _ rfl hp hm)).trans (h4 i x hx)⟩
theorem RdI.len (h : RdI k w (.slice a n cp) l) : n = l.length := by
  obtain ⟨a', n', cp', he, hl, -⟩ := h.form
  obtain ⟨h1, h2, h3⟩ := Value.slice.inj he
  rw [h2, hl]
theorem RdI.cap (h : RdI k w (.slice a n cp) l) : n ≤ cp := by
  obtain ⟨a', n', cp', he, hl, h0, hc⟩ := h.form
  obtain ⟨h1, h2, h3⟩ := Value.slice.inj he
  subst h1 h2 h3
  by_cases hp : 0 < n
  · exact (hc hp).1
  · omega
theorem RdI.nilcap (h : RdI k w (.slice none n cp) l) : n = 0 ∧ cp = 0 ∧ l = [] := by
  obtain ⟨a', n', cp', he, hl, h0, hc⟩ := h.form
  obtain ⟨h1, h2, h3⟩ := Value.slice.inj he
  subst h1 h2 h3
  obtain ⟨e1, e2⟩ := h0 rfl
  exact ⟨e1, e2, List.eq_nil_of_length_eq_zero (by omega)⟩
/-- The cell of element i. -/
theorem RdI.at (h : RdI k w (.slice a n cp) l) {i : Nat} {x : Int} (hx : l[i]? = some x) : ∃ b o, a = some ⟨b, o, none⟩ ∧ b < w.heap.size ∧ w.cell? ⟨b, o + i, none⟩ = some (.int k x) := by
  obtain ⟨a', n', cp', he, hl, h0, hc⟩ := h.form
  obtain ⟨h1, h2, h3⟩ := Value.slice.inj he
  subst h1 h2 h3
  have hlt := (List.getElem?_eq_some_iff.1 hx).1
  obtain ⟨_, b, o, h2, h3, h4⟩ := hc (by omega)
  exact ⟨b, o, h2, h3, h4 i x hx⟩
theorem RdI.addr (h : RdI k w (.slice a n cp) l) (hp : 0 < n) : ∃ b o, a = some ⟨b, o, none⟩ ∧ b < w.heap.size ∧ ∀ i x, l[i]? = some x → w.cell? ⟨b, o + i, none⟩ = some (.int k x) := by
  obtain ⟨a', n', cp', he, hl, h0, hc⟩ := h.form
  obtain ⟨h1, h2, h3⟩ := Value.slice.inj he
  subst h1 h2 h3
  exact (hc hp).2
theorem RdI.drewN (h : RdI k w v l) (m : Nat) : RdI k (w.drewN m) v l := h.keeps ((Keeps.refl w []).drewN m)

theorem own_form {base : Nat} {e : TypeId} {size : Nat} {xs : List Value} (h : w.ownsRow base e size v n xs) : ∃ ad cp, v = .slice ad n cp := by
  rcases h.2 with ⟨rfl, rfl⟩ | ⟨g, cp, cur, rfl, -⟩
  · exact ⟨_, _, rfl⟩
  · exact ⟨_, _, rfl⟩
theorem own_keeps {base : Nat} {e : TypeId} {size : Nat} {xs : List Value} (h : w.ownsRow base e size v n xs) (kk : Keeps w w' []) : w'.ownsRow base e size v n xs :=
  h.kept (row := none) ⟨kk.os, kk.tape, kk.output, kk.size, fun i hi _ => kk.block i hi (by simp)⟩ (by cases hv : v.ownBlock <;> simp)
theorem own_setCell {base : Nat} {e : TypeId} {size : Nat} {xs : List Value} (h : w.ownsRow base e size v n xs) {a : Addr} (ha : v.ownBlock ≠ some a.block) (u : Value) : (w.setCell a u).ownsRow base e size v n xs :=
  h.kept (row := some a.block) ⟨rfl, rfl, rfl, by simp, fun k _ hk => Below.heap_setCell _ _ _ _ (fun he => hk (by rw [he]))⟩ (.inr ha)
theorem own_base {base base' : Nat} {e : TypeId} {size : Nat} {xs : List Value} (h : w.ownsRow base e size v n xs) (hb : base' ≤ base) : w.ownsRow base' e size v n xs := by
  obtain ⟨h1, h2⟩ := h
  refine ⟨h1, ?_⟩
  rcases h2 with h2 | ⟨g, cap, cur, rfl, hg, r⟩
  · exact .inl h2
  · exact .inr ⟨g, cap, cur, rfl, by omega, r⟩
/-- An owned row of numbers reads as their list. -/
theorem own_reads {base : Nat} {e : TypeId} (h : w.ownsRow base e 1 v l.length (l.map (.int k))) : RdI k w v l := by
  rcases h.2 with ⟨rfl, h0⟩ | ⟨g, cp, cur, rfl, hb, hg, hn, hm, hs, ht⟩
  · exact ⟨_, _, _, rfl, h0.symm, fun _ => ⟨rfl, rfl⟩, fun h => absurd h (by omega)⟩
  · refine ⟨_, _, _, rfl, rfl, (fun h => by cases h), fun h0 => ⟨hn, g, 0, rfl, (Array.getElem?_eq_some_iff.1 hg).1, fun i x hx => ?_⟩⟩
    have hlt := (List.getElem?_eq_some_iff.1 hx).1
    rw [Nat.zero_add, cell_of_row w g i cur e (0, 0) hg]
    have h1 : (cur.toList.take (l.length * 1))[i]? = (l.map (Value.int k))[i]? := by rw [ht]
    rw [List.getElem?_take, if_pos (by omega), List.getElem?_map, hx] at h1
    simpa using h1
/-- The cells of a slice of numbers, as append asks for them. -/
theorem RdI.news {ad : Addr} (h : RdI k w (.slice (some ad) n cp) l) : ∀ j u, (l.map (Value.int k))[j]? = some u → w.cell? (ad.add j) = some u := by
  intro j u hj
  rw [List.getElem?_map] at hj
  obtain ⟨x, hx, rfl⟩ := Option.map_eq_some_iff.1 hj
  obtain ⟨b, o, h2, h3, h4⟩ := h.at hx
  cases h2
  have : (⟨b, o, none⟩ : Addr).add j = ⟨b, o + j, none⟩ := by simp [Addr.add]
  rw [this]
  exact h4
end

theorem nums_one (k : IntKind) (l : List Int) : ∀ u ∈ l.map (Value.int k), u.oneCell' = true := by
  intro u hu
  obtain ⟨x, _, rfl⟩ := List.mem_map.1 hu
  simp [Value.oneCell']

theorem slice_cells {P : Program} {w : World} {t e : TypeId} {r : Reach} {b : Nat} {v : Value} (ht : P.underlying t = some (.slice e)) (h : Value.okWide P w r b t v) : v.cells.toList = [v] := by
  simp only [Value.okWide, ht, Cell.okWide] at h
  cases v <;> simp_all [Value.cells, Cell.ok]

/-- An argument that is a slice of numbers reads as a list. -/
theorem open_nums {H : Type} {enc : TypeId × Value → H} {P : Program} {w : World} {ts e : TypeId} {k : IntKind} {v : Value} {d : DataW H} {p : List MemPlace} (hts : P.underlying ts = some (.slice e)) (he : P.underlying e = some (.int k)) (hE : P.cellsOf e = 1)
    (hv : v.cells.toList = [v]) (h : DataW.Trod enc P w 0 (fun _ => true) true ts v d p) :
    ∃ l : List Int, RdI k w v l ∧ (∀ x ∈ l, (Lit.int k x).wf = true) := by
  obtain ⟨fuel, hf⟩ := h
  rw [hv] at hf
  rcases Go.Deep.open_slice1 hts hE hf with ⟨hcs, hx⟩ | ⟨a, len, cap, m, n, V, D, Pl, hcs, hb, hl, hm, hmm, hx, hel⟩
  · simp at hcs
    subst hcs
    exact ⟨[], .nil, by simp⟩
  · simp at hcs
    subst hcs
    have hmc : len ≤ m := by rw [hmm]; simp; exact hl
    have hread : ∀ i, i < len → ∃ x : Int, w.cell? (a.add i) = some (.int k x) ∧ (Lit.int k x).wf = true := by
      intro i hi
      obtain ⟨hc', ht'⟩ := hel i (by omega)
      obtain ⟨x, ex, _, wx⟩ := DataW.trod_int he ht'
      simp at ex
      exact ⟨x, by rw [hc', ex], wx⟩
    have hlist : ∀ j, j ≤ len → ∃ l : List Int, l.length = j ∧ (∀ i x, l[i]? = some x → w.cell? (a.add i) = some (.int k x)) ∧ (∀ x ∈ l, (Lit.int k x).wf = true) := by
      intro j
      induction j with
      | zero => intro _; exact ⟨[], rfl, by simp, by simp⟩
      | succ j ih =>
        intro hj
        obtain ⟨l, h1, h2, h3⟩ := ih (by omega)
        obtain ⟨x, hx1, hx2⟩ := hread j (by omega)
        refine ⟨l ++ [x], by simp [h1], ?_, ?_⟩
        · intro i y hy
          by_cases hij : i < l.length
          · rw [List.getElem?_append_left hij] at hy
            exact h2 i y hy
          · have hlt := (List.getElem?_eq_some_iff.1 hy).1
            simp at hlt
            have : i = j := by omega
            subst this
            rw [List.getElem?_append_right (by omega)] at hy
            simp [h1] at hy
            subst hy
            exact hx1
        · intro y hy
          simp at hy
          rcases hy with hy | rfl
          · exact h3 y hy
          · exact hx2
    obtain ⟨l, hl1, hl2, hl3⟩ := hlist len (Nat.le_refl _)
    refine ⟨l, ⟨_, _, _, rfl, hl1.symm, (fun h => by cases h), fun h0 => ?_⟩, hl3⟩
    obtain ⟨x, hx⟩ : ∃ x, l[0]? = some x := ⟨_, List.getElem?_eq_getElem (by omega)⟩
    have hc0 := hl2 0 x hx
    have e0 : a.add 0 = a := by simp [Addr.add]
    rw [e0] at hc0
    have hsp : a.spot = none := by
      cases hsp : a.spot with
      | none => rfl
      | some q =>
        simp [World.cell?] at hc0
        split at hc0 <;> simp [hsp] at hc0
    have ha : a = ⟨a.block, a.off, none⟩ := by cases a; simp_all
    refine ⟨hl, a.block, a.off, by rw [← ha], World.block_lt_of_cell? w a hc0, fun i y hy => ?_⟩
    have h1 := hl2 i y hy
    have e1 : a.add i = ⟨a.block, a.off + i, none⟩ := by rw [ha]; simp [Addr.add]
    rw [e1] at h1
    exact h1

end Go.Proofs.Yticlhaofmcajpaa
