/-
  Two numbers to a byte; rows of bytes that are changed in place. No program is in sight here but for the type of a byte.
-/
import Derived.Test.YtophgpnnjphnmaaGreatVa
import Derived.Test.YtophgpnnjphnmaaGreatSl
import Derived.Laws.OwnMore
import Derived.Test.YtophgpnnjphnmaaGreatRows
namespace Go.Proofs.YtophgpnnjphnmaaGreat
set_option linter.unusedVariables false
set_option linter.unusedSimpArgs false
open Go.RowKit

def nibF : List Int → List Int
  | [] => []
  | [a] => [a]
  | a :: b :: l => (a + 16 * b) :: nibF l
theorem nib_even (l : List Int) : ∀ x : Int, l.length % 2 = 0 → nibF (l ++ [x]) = nibF l ++ [x] := by
  induction l using nibF.induct with
  | case1 => intro x _; rfl
  | case2 a => intro x h; simp at h
  | case3 a b l ih =>
    intro x h
    simp only [List.cons_append, nibF, ih x (by simp only [List.length_cons] at h; omega)]
theorem nib_two (l : List Int) : ∀ x y : Int, l.length % 2 = 0 → nibF (l ++ [x, y]) = nibF l ++ [x + 16 * y] := by
  induction l using nibF.induct with
  | case1 => intro x y _; rfl
  | case2 a => intro x y h; simp at h
  | case3 a b l ih =>
    intro x y h
    simp only [List.cons_append, nibF, ih x y (by simp only [List.length_cons] at h; omega)]
theorem nib_len (l : List Int) : (nibF l).length = (l.length + 1) / 2 := by
  induction l using nibF.induct with
  | case1 => rfl
  | case2 a => simp [nibF]
  | case3 a b l ih => simp only [nibF, List.length_cons, ih]; omega
theorem nib_take1 {l : List Int} {k : Nat} {x : Int} (h : l[k]? = some x) (hk : k % 2 = 0) : nibF (l.take (k + 1)) = nibF (l.take k) ++ [x] := by
  have hlt := (List.getElem?_eq_some_iff.1 h).1
  rw [take_next h]
  exact nib_even _ _ (by simp; omega)
theorem nib_take2 {l : List Int} {k : Nat} {x y : Int} (h : l[k]? = some x) (h' : l[k + 1]? = some y) (hk : k % 2 = 0) : nibF (l.take (k + 2)) = nibF (l.take k) ++ [x + 16 * y] := by
  have hlt := (List.getElem?_eq_some_iff.1 h).1
  rw [take_next h', take_next h, List.append_assoc]
  exact nib_two _ _ _ (by simp; omega)
theorem nib_set {l : List Int} {k : Nat} {x y : Int} (hd : List Int) (h : l[k]? = some x) (h' : l[k + 1]? = some y) (hk : k % 2 = 0) :
    (hd ++ nibF (l.take (k + 1)))[(hd ++ nibF (l.take (k + 1))).length - 1]? = some x ∧ (hd ++ nibF (l.take (k + 1))).set ((hd ++ nibF (l.take (k + 1))).length - 1) (x + 16 * y) = hd ++ nibF (l.take (k + 2)) := by
  rw [nib_take1 h hk, nib_take2 h h' hk, ← List.append_assoc, ← List.append_assoc]
  generalize hd ++ nibF (l.take k) = A
  have e : (A ++ [x]).length - 1 = A.length := by simp
  rw [e]
  constructor
  · simp
  · rw [List.set_append_right _ _ (Nat.le_refl _), Nat.sub_self]; rfl
/-- A description in format 0. -/
def halvesL (w : List Int) : List Int := varI w.length ++ [0] ++ nibF w
theorem nib_byte {l : List Int} (h : ∀ x ∈ l, 0 ≤ x ∧ x ≤ 15) : ∀ x ∈ nibF l, 0 ≤ x ∧ x ≤ 255 := by
  induction l using nibF.induct with
  | case1 => intro x hx; cases hx
  | case2 a => intro x hx; have := h a (by simp); simp [nibF] at hx; omega
  | case3 a b l ih =>
    intro x hx
    have h1 := h a (by simp)
    have h2 := h b (by simp)
    rcases List.mem_cons.1 hx with rfl | hx
    · omega
    · exact ih (fun y hy => h y (by simp [hy])) x hx
theorem halves_byte {l : List Int} (h : ∀ x ∈ l, 0 ≤ x ∧ x ≤ 15) : ∀ x ∈ halvesL l, 0 ≤ x ∧ x ≤ 255 := by
  intro x hx
  rcases List.mem_append.1 hx with hx | hx
  · rcases List.mem_append.1 hx with hx | hx
    · exact varI_byte hx
    · have := List.mem_singleton.1 hx; omega
  · exact nib_byte h x hx
theorem halves_len (l : List Int) : (halvesL l).length = (varI l.length).length + 1 + (l.length + 1) / 2 := by simp [halvesL, nib_len]; omega

/-- The two halves of a byte are laid together. -/
theorem or_nib_all : ∀ a : Fin 16, ∀ b : Fin 16, bits BinOp.or IntKind.u8 ((a.val : Nat) : Int) ((b.val * 16 : Nat) : Int) = ((a.val + 16 * b.val : Nat) : Int) := by decide +kernel
theorem or_nib {x y : Int} (h1 : 0 ≤ x) (h2 : x ≤ 15) (h3 : 0 ≤ y) (h4 : y ≤ 15) : bits BinOp.or IntKind.u8 x (y * 16) = x + 16 * y := by
  obtain ⟨a, rfl⟩ := Int.eq_ofNat_of_zero_le h1
  obtain ⟨b, rfl⟩ := Int.eq_ofNat_of_zero_le h3
  have h := or_nib_all ⟨a, by omega⟩ ⟨b, by omega⟩
  simp only [Int.natCast_mul, Int.natCast_add] at h
  exact h

/-- A row of bytes in a block of its own. -/
def RowB (w : World) (base g n c : Nat) (L : List Int) : Prop := L.length = n ∧ w.ownsRow base 5 1 (.slice (some ⟨g, 0, none⟩) n c) n (L.map (.int .u8))
section
variable {w w' : World} {base g n c : Nat} {L : List Int}
theorem RowB.at (h : RowB w base g n c L) {i : Nat} {x : Int} (hx : L[i]? = some x) : w.cell? ⟨g, i, none⟩ = some (.int .u8 x) := by
  have hlt := (List.getElem?_eq_some_iff.1 hx).1
  rw [h.2.cellAt i (by have := h.1; omega), List.getElem?_map, hx]; rfl
theorem RowB.frozen (h : RowB w base g n c L) (i : Nat) : w.frozen? ⟨g, i, none⟩ = false := h.2.frozenAt i
theorem RowB.cap (h : RowB w base g n c L) : n ≤ c := by
  rcases h.2.2 with ⟨h1, h2⟩ | ⟨g', cp, cur, h1, -, -, h4, -⟩
  · cases h1
  · cases h1; exact h4
theorem RowB.lt (h : RowB w base g n c L) : base ≤ g ∧ g < w.heap.size := h.2.lt g rfl
theorem RowB.set (h : RowB w base g n c L) (i : Nat) (x : Int) : RowB (w.setCell ⟨g, i, none⟩ (.int .u8 x)) base g n c (L.set i x) :=
  ⟨by rw [List.length_set]; exact h.1, by rw [List.map_set]; exact (h.2.stored i _).1⟩
theorem RowB.keeps {S : List Nat} (h : RowB w base g n c L) (k : Keeps w w' S) (hn : g ∉ S) : RowB w' base g n c L := by
  refine ⟨h.1, ?_⟩
  obtain ⟨h1, h2⟩ := h.2
  refine ⟨h1, ?_⟩
  rcases h2 with h2 | ⟨g', cp, cur, e, hg, hb, r⟩
  · exact .inl h2
  · cases e
    exact .inr ⟨g, c, cur, rfl, hg, (k.block g (Array.getElem?_eq_some_iff.1 hb).1 hn).trans hb, r⟩
end
theorem rowB_own {w : World} {base n c : Nat} {a : Option Addr} {L : List Int} (hl : L.length = n) (h0 : 0 < n) (h : w.ownsRow base 5 1 (.slice a n c) n (L.map (.int .u8))) : ∃ g, a = some ⟨g, 0, none⟩ ∧ RowB w base g n c L := by
  rcases h.2 with ⟨h1, h2⟩ | ⟨g, cp, cur, h1, h2⟩
  · omega
  · cases h1
    exact ⟨g, rfl, hl, h⟩

end Go.Proofs.YtophgpnnjphnmaaGreat
