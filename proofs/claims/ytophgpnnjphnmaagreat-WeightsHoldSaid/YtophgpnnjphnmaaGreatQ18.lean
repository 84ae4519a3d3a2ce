/-
  Walks over the reference of readers of bits: Forward, First, Whole, Backward, Last.
-/
import Derived.Test.YtophgpnnjphnmaaGreatQ16
import Derived.Test.YtophgpnnjphnmaaGreatQ17
import Derived.Test.YtophgpnnjphnmaaGreatQ6
import Derived.BigQuiet
namespace Go.Proofs.YtophgpnnjphnmaaGreat
set_option linter.unusedVariables false
set_option linter.unusedSimpArgs false
set_option linter.unusedSectionVars false
open Go.RowKit

/-- A reader of the reference at block Q with the unread bits l, r bits read; the bits lie in block G. -/
structure FR (w : World) (Q G : Nat) (l : List Bool) (r : Nat) : Prop where
  at_ : ∃ vs, Blk w Q #[vs, .int .i64 (r : Int)] 130 ∧ RdO w vs l ∧ ∀ ad n c, vs = .slice (some ad) n c → 0 < n → ad.block = G
  ne : G ≠ Q
  small : r + l.length ≤ 10000000
theorem FR.keeps {w w' : World} {Q G r : Nat} {l : List Bool} {S : List Nat} (h : FR w Q G l r) (k : Keeps w w' S) (h1 : Q ∉ S) (h2 : 0 < l.length → G ∉ S) : FR w' Q G l r := by
  obtain ⟨vs, b, hr, hg⟩ := h.at_
  obtain ⟨a, n, c, rfl, hn, -⟩ := hr.form
  exact ⟨⟨_, b.keeps k h1, hr.keepsS k (fun ad n' c' e h0 => by rw [hg ad n' c' e h0]; exact h2 (by injection e; omega)), hg⟩, h.ne, h.small⟩
theorem FR.old {w w' : World} {Q G r N : Nat} {l : List Bool} {S : List Nat} (h : FR w Q G l r) (k : Keeps w w' S) (hQ : Q < N) (hG : 0 < l.length → G < N) (hS : ∀ x ∈ S, N ≤ x) : FR w' Q G l r :=
  h.keeps k (fun hm => by have := hS _ hm; omega) (fun h0 hm => by have := hS _ hm; have := hG h0; omega)
theorem FR.lt {w : World} {Q G r : Nat} {l : List Bool} (h : FR w Q G l r) : Q < w.heap.size := by
  obtain ⟨vs, b, -, -⟩ := h.at_
  exact b.lt

/-- The end mark of a byte: the highest bit. -/
theorem mark_byte : ∀ y : Fin 256, y.val ≠ 0 → Lib.bitLen y.val ≤ 8 ∧ 1 ≤ Lib.bitLen y.val ∧ (bitsN y.val 8)[Lib.bitLen y.val - 1]? = some true ∧ ∀ i : Fin 8, Lib.bitLen y.val ≤ i.val → (bitsN y.val 8)[i.val]? = some false := by decide +kernel

theorem rowBits_at {B : List Int} {m : Nat} {y : Int} (hy : B[m]? = some y) {i : Nat} (hi : i < 8) : (rowBits B)[8 * m + i]? = (bitsN y.toNat 8)[i]? := by
  have h := rowBits_piece (B := B) (i := m) (s := 0) (k := 8) hy (by omega)
  rw [Nat.add_zero, Nat.pow_zero, Nat.div_one] at h
  rw [← h, List.getElem?_take, if_pos hi, List.getElem?_drop]

/-- The mark of a row of bytes, and the padding behind it. -/
theorem top_mark {B : List Int} (hB : ∀ x ∈ B, 0 ≤ x ∧ x ≤ 255) (h0 : B.getD (B.length - 1) 0 ≠ 0) :
    topB B < 8 * B.length ∧ (rowBits B)[topB B]? = some true ∧ ∀ j, topB B < j → j < 8 * B.length → (rowBits B)[j]? = some false := by
  cases hb : B.length with
  | zero =>
    exfalso
    have : B = [] := List.eq_nil_of_length_eq_zero hb
    subst this
    exact h0 rfl
  | succ m =>
    obtain ⟨y, hy⟩ : ∃ y, B[m]? = some y := ⟨_, List.getElem?_eq_getElem (by omega)⟩
    have hg : B.getD (B.length - 1) 0 = y := by rw [hb, Nat.add_sub_cancel, List.getD_eq_getElem?_getD, hy]; rfl
    obtain ⟨y1, y2⟩ := hB y (List.mem_of_getElem? hy)
    obtain ⟨yn, rfl⟩ := Int.eq_ofNat_of_zero_le y1
    obtain ⟨b1, b2, b3, b4⟩ := mark_byte ⟨yn, by omega⟩ (fun h => h0 (by rw [hg]; simp at h; subst h; rfl))
    dsimp only at b1 b2 b3 b4
    have e : topB B = 8 * m + (Lib.bitLen yn - 1) := by rw [topB, hg, hb, Int.toNat_natCast]; omega
    rw [e]
    refine ⟨by omega, ?_, fun j h1 h2 => ?_⟩
    · rw [rowBits_at hy (by omega), Int.toNat_natCast]; exact b3
    · obtain ⟨i, rfl⟩ : ∃ i, j = 8 * m + i := ⟨j - 8 * m, by omega⟩
      rw [rowBits_at hy (by omega), Int.toNat_natCast]
      exact b4 ⟨i, by omega⟩ (by simp; omega)


end Go.Proofs.YtophgpnnjphnmaaGreat
