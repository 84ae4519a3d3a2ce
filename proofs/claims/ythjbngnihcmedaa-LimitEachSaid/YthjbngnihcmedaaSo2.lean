/-
  Rows of numbers that are changed in place; the exchange of two ranges (slices' swapRange).
-/
import Derived.Test.YthjbngnihcmedaaSo1
import Derived.Test.YthjbngnihcmedaaSl
import Derived.Laws.OwnMore
import Derived.RegionTactic
import Derived.BigRegion
import Derived.ChangeAlike
import Derived.IntWalk
import Derived.Test.YthjbngnihcmedaaRows
namespace Go.Proofs.Ythjbngnihcmedaa
set_option linter.unusedVariables false
set_option linter.unusedSimpArgs false
open Go.RowKit

/-- A row of numbers in a block of its own. -/
def RowI (w : World) (g n c : Nat) (L : List Int) : Prop := L.length = n ∧ w.ownsRow 0 3 1 (.slice (some ⟨g, 0, none⟩) n c) n (L.map (.int .i64))

section
variable {w w' : World} {g n c : Nat} {L : List Int}
theorem RowI.at (h : RowI w g n c L) {i : Nat} {x : Int} (hx : L[i]? = some x) : w.cell? ⟨g, i, none⟩ = some (.int .i64 x) := by
  have hlt := (List.getElem?_eq_some_iff.1 hx).1
  rw [h.2.cellAt i (by have := h.1; omega), List.getElem?_map, hx]; rfl
theorem RowI.frozen (h : RowI w g n c L) (i : Nat) : w.frozen? ⟨g, i, none⟩ = false := h.2.frozenAt i
theorem RowI.cap (h : RowI w g n c L) : n ≤ c := by
  rcases h.2.2 with ⟨h1, h2⟩ | ⟨g', cp, cur, h1, -, -, h4, -⟩
  · cases h1
  · cases h1; exact h4
theorem RowI.lt (h : RowI w g n c L) : g < w.heap.size := (h.2.lt g rfl).2
theorem RowI.set (h : RowI w g n c L) (i : Nat) (x : Int) : RowI (w.setCell ⟨g, i, none⟩ (.int .i64 x)) g n c (L.set i x) :=
  ⟨by rw [List.length_set]; exact h.1, by rw [List.map_set]; exact (h.2.stored i _).1⟩
theorem RowI.keeps {S : List Nat} (h : RowI w g n c L) (k : Keeps w w' S) (hn : g ∉ S) : RowI w' g n c L := by
  refine ⟨h.1, ?_⟩
  obtain ⟨h1, h2⟩ := h.2
  refine ⟨h1, ?_⟩
  rcases h2 with h2 | ⟨g', cp, cur, e, hg, hb, r⟩
  · exact .inl h2
  · cases e
    exact .inr ⟨g, c, cur, rfl, hg, (k.block g (Array.getElem?_eq_some_iff.1 hb).1 hn).trans hb, r⟩
theorem RowI.drew (h : RowI w g n c L) : RowI w.drew g n c L := h
theorem RowI.drewN (h : RowI w g n c L) (m : Nat) : RowI (w.drewN m) g n c L := h
theorem RowI.reads (h : RowI w g n c L) : RdI .i64 w (.slice (some ⟨g, 0, none⟩) n c) L := by
  have h2 := h.2
  rw [← h.1] at h2 ⊢
  exact own_reads h2
end

/-- The ranges A and B, the first i cells of which have changed places. -/
def swapL (P A M B S : List Int) (i : Nat) : List Int := P ++ (B.take i ++ A.drop i) ++ M ++ (A.take i ++ B.drop i) ++ S

theorem swapL_parts {P A M B S : List Int} {i : Nat} {x y : Int} (hx : A[i]? = some x) (hy : B[i]? = some y) :
    swapL P A M B S i = (P ++ B.take i) ++ x :: (A.drop (i + 1) ++ M ++ A.take i) ++ y :: (B.drop (i + 1) ++ S) ∧
    swapL P A M B S (i + 1) = (P ++ B.take i) ++ y :: (A.drop (i + 1) ++ M ++ A.take i) ++ x :: (B.drop (i + 1) ++ S) := by
  obtain ⟨h1, e1⟩ := List.getElem?_eq_some_iff.1 hx
  obtain ⟨h2, e2⟩ := List.getElem?_eq_some_iff.1 hy
  unfold swapL
  rw [List.drop_eq_getElem_cons h1, List.drop_eq_getElem_cons h2, e1, e2, List.take_add_one, List.take_add_one, hx, hy]
  simp

theorem swapL_zero (P A M B S : List Int) : swapL P A M B S 0 = P ++ A ++ M ++ B ++ S := by simp [swapL]
theorem swapL_all {P A M B S : List Int} {k : Nat} (hA : A.length = k) (hB : B.length = k) : swapL P A M B S k = P ++ B ++ M ++ A ++ S := by
  unfold swapL
  rw [List.take_of_length_le (by omega), List.take_of_length_le (by omega), List.drop_eq_nil_of_le (by omega), List.drop_eq_nil_of_le (by omega)]
  simp

/-- One round of the exchange: the cells, and what the two stores leave. -/
theorem swapL_round {w : World} {g n c : Nat} {P A M B S : List Int} {a b k i : Nat} (ha : a = P.length) (hb : b = P.length + A.length + M.length) (hA : A.length = k) (hB : B.length = k) (hi : i < k) (h : RowI w g n c (swapL P A M B S i)) :
    ∃ x y, w.cell? ⟨g, a + i, none⟩ = some (.int .i64 x) ∧ w.cell? ⟨g, b + i, none⟩ = some (.int .i64 y) ∧ a + i < n ∧ b + i < n ∧ a + i ≠ b + i ∧
      RowI ((w.setCell ⟨g, a + i, none⟩ (.int .i64 y)).setCell ⟨g, b + i, none⟩ (.int .i64 x)) g n c (swapL P A M B S (i + 1)) ∧
      RowI ((w.setCell ⟨g, b + i, none⟩ (.int .i64 x)).setCell ⟨g, a + i, none⟩ (.int .i64 y)) g n c (swapL P A M B S (i + 1)) := by
  obtain ⟨x, hx⟩ : ∃ x, A[i]? = some x := ⟨_, List.getElem?_eq_getElem (by omega)⟩
  obtain ⟨y, hy⟩ : ∃ y, B[i]? = some y := ⟨_, List.getElem?_eq_getElem (by omega)⟩
  obtain ⟨e0, e1⟩ := swapL_parts (P := P) (M := M) (S := S) hx hy
  have p1 : a + i = (P ++ B.take i).length := by simp; omega
  have p2 : b + i = (P ++ B.take i).length + 1 + (A.drop (i + 1) ++ M ++ A.take i).length := by simp; omega
  have hl := h.1
  rw [e0] at h
  have hlen : (swapL P A M B S i).length = P.length + A.length + M.length + B.length + S.length := by simp [swapL]; omega
  refine ⟨x, y, ?_, ?_, by omega, by omega, by omega, ?_, ?_⟩
  · exact h.at (by rw [p1, List.append_assoc]; exact get_mid)
  · exact h.at (by rw [p2]; exact get_far)
  · have := (h.set (a + i) y).set (b + i) x
    rw [p2, p1, swap_far] at this
    rw [e1, p2, p1]; exact this
  · have := (h.set (b + i) x).set (a + i) y
    rw [p2, p1, swap_far'] at this
    rw [e1, p2, p1]; exact this

set_option maxHeartbeats 2000000 in
theorem swapRange_any (g n c a b k : Nat) (P A M B S : List Int) (cmp : Value) (w : World) (h : RowI w g n c (P ++ A ++ M ++ B ++ S)) (hn : n ≤ 1000000) (ha : a = P.length) (hb : b = P.length + A.length + M.length) (hA : A.length = k) (hB : B.length = k) :
    Calls Try.prog 72 #[.slice (some ⟨g, 0, none⟩) n c, .int .i64 a, .int .i64 b, .int .i64 k, cmp] w fun e w' => e = .returned (.tuple #[]) ∧ RowI w' g n c (P ++ B ++ M ++ A ++ S) ∧ Keeps w w' [g] := by
  have hcap := h.cap
  have hz0 := swapL_zero P A M B S
  rw [← hz0] at h
  have hfin := Lib.hid (swapL_all (P := P) (M := M) (S := S) hA hB)
  have RO := Lib.hid (fun (w : World) (i : Nat) (hi : i < k) (h : RowI w g n c (swapL P A M B S i)) => swapL_round ha hb hA hB hi h)
  have hlb : b + k ≤ n := by have := h.1; simp [swapL] at this; omega
  have hla : a + k ≤ n := by omega
  have H := Lib.hid h
  clear hz0 h ha hb hA hB
  go_enter Try.func72, Try.ntmps72
  go_wp2_with fail
  go_loopw [10] (fun s10 wr => ∃ i : Nat, i ≤ k ∧ s10 = .int .i64 i ∧ Hid (RowI wr g n c (swapL P A M B S i)) ∧ Keeps w wr [g]) (fun s10 _ => k - (intOf s10).toNat)
  case atStart => exact ⟨0, Nat.zero_le _, rfl, H, Keeps.refl _ _⟩
  case round =>
    obtain ⟨i, hi, rfl, hr, kr⟩ := hrel
    clear H
    by_cases hlt : i < k
    · obtain ⟨x, y, c1, c2, l1, l2, hne, r1, r2⟩ := RO.out wr i hlt hr.out
      have f1 := hr.out.frozen (a + i)
      have f2 := hr.out.frozen (b + i)
      have s1 : IntKind.i64.wrap ((a : Int) + (i : Int)) = ((a + i : Nat) : Int) := by rw [Int.natCast_add]; exact IntWalk.i64_in _ (by omega)
      have s2 : IntKind.i64.wrap ((b : Int) + (i : Int)) = ((b + i : Nat) : Int) := by rw [Int.natCast_add]; exact IntWalk.i64_in _ (by omega)
      have hki : (i : Int) < (k : Int) := by omega
      have R1 := Lib.hid r1
      have R2 := Lib.hid r2
      generalize a + i = ai at *
      generalize b + i = bi at *
      clear r1 r2 hr
      go_wp2_with fail
      go_region
      have KK := Lib.hid (((kr.setCell (a := ⟨g, ai, none⟩) (.inr (by simp)) (.int .i64 y)).setCell (a := ⟨g, bi, none⟩) (.inr (by simp)) (.int .i64 x)).drew)
      go_wp2_with fail
      go_roundw
      case rel => exact ⟨i + 1, by omega, by go_num, R1, KK.out⟩
      case measure => simp [intOf]; omega
    · have : i = k := by omega
      subst this
      go_wp2_with fail
      go_end0
      exact ⟨rfl, by rw [← hfin.out]; exact hr.out, kr⟩

end Go.Proofs.Ythjbngnihcmedaa
