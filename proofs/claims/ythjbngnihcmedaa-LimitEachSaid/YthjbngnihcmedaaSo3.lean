/-
  The exchange of two neighbouring blocks in place (slices' rotate).
-/
import Derived.Test.YthjbngnihcmedaaSo2
namespace Go.Proofs.Ythjbngnihcmedaa
set_option linter.unusedVariables false
set_option linter.unusedSimpArgs false
open Go.RowKit

/-- What rotate still has to do: X and Y stand behind P, ahead of S, and T is the aim. -/
def RotSt (T P X Y S : List Int) (m i j : Nat) (L : List Int) : Prop := L = P ++ X ++ Y ++ S ∧ T = P ++ Y ++ X ++ S ∧ P.length + i = m ∧ X.length = i ∧ Y.length = j ∧ 0 < i ∧ 0 < j

theorem rot_gt {T P X Y S L : List Int} {m i j : Nat} (h : RotSt T P X Y S m i j L) (hij : j < i) :
    ∃ A C, L = P ++ A ++ C ++ Y ++ S ∧ A.length = j ∧ Y.length = j ∧ m - i = P.length ∧ m = P.length + A.length + C.length ∧ RotSt T (P ++ Y) C A S m (i - j) j (P ++ Y ++ C ++ A ++ S) := by
  obtain ⟨h1, h2, h3, h4, h5, h6, h7⟩ := h
  have e : X = X.take j ++ X.drop j := (List.take_append_drop j X).symm
  refine ⟨X.take j, X.drop j, ?_, ?_, h5, by omega, ?_, rfl, ?_, ?_, ?_, ?_, by omega, h7⟩
  · rw [h1]; simp
  · simp; omega
  · simp; omega
  · rw [h2]; simp
  · simp; omega
  · simp; omega
  · simp; omega
theorem rot_lt {T P X Y S L : List Int} {m i j : Nat} (h : RotSt T P X Y S m i j L) (hij : i < j) :
    ∃ C D, L = P ++ X ++ C ++ D ++ S ∧ X.length = i ∧ D.length = i ∧ m - i = P.length ∧ m + j - i = P.length + X.length + C.length ∧ RotSt T P D C (X ++ S) m i (j - i) (P ++ D ++ C ++ X ++ S) := by
  obtain ⟨h1, h2, h3, h4, h5, h6, h7⟩ := h
  have e : Y = Y.take (j - i) ++ Y.drop (j - i) := (List.take_append_drop (j - i) Y).symm
  refine ⟨Y.take (j - i), Y.drop (j - i), ?_, h4, ?_, by omega, ?_, ?_, ?_, ?_, ?_, ?_, h6, by omega⟩
  · rw [h1]; simp
  · simp; omega
  · simp; omega
  · simp
  · rw [h2]; simp
  · omega
  · simp; omega
  · simp; omega
theorem rot_eq {T P X Y S L : List Int} {m i j : Nat} (h : RotSt T P X Y S m i j L) (hij : i = j) :
    L = P ++ X ++ [] ++ Y ++ S ∧ X.length = i ∧ Y.length = i ∧ m - i = P.length ∧ m = P.length + X.length + ([] : List Int).length ∧ T = P ++ Y ++ [] ++ X ++ S := by
  obtain ⟨h1, h2, h3, h4, h5, h6, h7⟩ := h
  exact ⟨by rw [h1]; simp, h4, by omega, by omega, by simp; omega, by rw [h2]; simp⟩

set_option maxHeartbeats 2000000 in
theorem rotate_any (g n c a m b : Nat) (P X Y S : List Int) (cmp : Value) (w : World) (h : RowI w g n c (P ++ X ++ Y ++ S)) (hn : n ≤ 1000000) (ha : a = P.length) (hm : m = P.length + X.length) (hb : b = P.length + X.length + Y.length) (hX : 0 < X.length) (hY : 0 < Y.length) :
    Calls Try.prog 71 #[.slice (some ⟨g, 0, none⟩) n c, .int .i64 a, .int .i64 m, .int .i64 b, cmp] w fun e w' => e = .returned (.tuple #[]) ∧ RowI w' g n c (P ++ Y ++ X ++ S) ∧ Keeps w w' [g] := by
  have hmn : m ≤ n := by have := h.1; simp at this; omega
  have hbn : b ≤ n := by have := h.1; simp at this; omega
  have ham : a ≤ m := by omega
  have hmb : m ≤ b := by omega
  obtain ⟨T, hT⟩ : ∃ T, T = P ++ Y ++ X ++ S := ⟨_, rfl⟩
  have st : Hid (∃ P' X' Y' S' L, RotSt T P' X' Y' S' m (m - a) (b - m) L ∧ RowI w g n c L) := ⟨P, X, Y, S, _, ⟨rfl, hT, by omega, by omega, by omega, by omega, by omega⟩, h⟩
  have s1 : IntKind.i64.wrap ((m : Int) - (a : Int)) = ((m - a : Nat) : Int) := by rw [Int.ofNat_sub ham]; exact IntWalk.i64_in _ (by omega)
  have s2 : IntKind.i64.wrap ((b : Int) - (m : Int)) = ((b - m : Nat) : Int) := by rw [Int.ofNat_sub hmb]; exact IntWalk.i64_in _ (by omega)
  rw [← hT]
  have hs1 : ((m : Int) - (a : Int)) = ((m - a : Nat) : Int) := by omega
  have hs2 : ((b : Int) - (m : Int)) = ((b - m : Nat) : Int) := by omega
  have hi0 : m - a ≤ m := by omega
  have hj0 : m + (b - m) ≤ n := by omega
  generalize m - a = i0 at *
  generalize b - m = j0 at *
  clear h ha hm hb hX hY hT hmb ham
  go_enter Try.func71, Try.ntmps71
  go_wp2_with fail
  go_loopw [10, 11] (fun s10 s11 wr => ∃ i j : Nat, i ≤ m ∧ m + j ≤ n ∧ s10 = .int .i64 i ∧ s11 = .int .i64 j ∧ Hid (∃ P' X' Y' S' L, RotSt T P' X' Y' S' m i j L ∧ RowI wr g n c L) ∧ Keeps w wr [g]) (fun s10 s11 _ => (intOf s10).toNat + (intOf s11).toNat)
  case atStart => exact ⟨i0, j0, hi0, hj0, rfl, rfl, st, Keeps.refl _ _⟩
  case round =>
    obtain ⟨i, j, him, hjn, rfl, rfl, hr, kr⟩ := hrel
    clear st s1 s2 hs1 hs2 hi0 hj0
    obtain ⟨P', X', Y', S', L, hst, hrow⟩ := hr.out
    have hi1 := hst.2.2.2.2.2.1
    have hj1 := hst.2.2.2.2.2.2
    have s3 : IntKind.i64.wrap ((m : Int) - (i : Int)) = ((m - i : Nat) : Int) := by rw [Int.ofNat_sub him]; exact IntWalk.i64_in _ (by omega)
    have z3 : ((m : Int) - (i : Int)) = ((m - i : Nat) : Int) := by omega
    rcases Nat.lt_trichotomy i j with hij | rfl | hij
    · obtain ⟨C, D, rfl, e1, e2, e3, e4, e5⟩ := rot_lt hst hij
      have hne : ((i : Int) != (j : Int)) = true := by simp; omega
      have hgt : decide ((j : Int) < (i : Int)) = false := decide_eq_false (by omega)
      have G := Lib.hid (swapRange_any g n c (m - i) (m + j - i) i P' X' C D S' cmp wr hrow hn e3 e4 e1 e2)
      have E5 := Lib.hid e5
      have z4 : ((m : Int) + (j : Int)) - (i : Int) = ((m + j - i : Nat) : Int) := by omega
      have z5 : ((j : Int) - (i : Int)) = ((j - i : Nat) : Int) := by omega
      clear hst hrow e1 e2 e3 e4 e5 hr
      go_wp2_with fail
      refine G.out.mono ?_
      rintro e w5 ⟨rfl, r5, k5⟩
      have R5 := Lib.hid r5
      clear r5
      go_wp2_with fail
      go_roundw
      case rel => exact ⟨i, j - i, him, by omega, rfl, by first | rfl | go_num, ⟨P', D, C, X' ++ S', _, E5.out, R5.out⟩, kr.trans k5 (fun x hx _ => hx)⟩
      case measure => simp [intOf]; omega
    · obtain ⟨rfl, e1, e2, e3, e4, e5⟩ := rot_eq hst rfl
      have G := Lib.hid (swapRange_any g n c (m - i) m i P' X' [] Y' S' cmp wr hrow hn e3 e4 e1 e2)
      have E5 := Lib.hid e5
      clear hst hrow e1 e2 e3 e4 e5 hr
      have hne : ((i : Int) != (i : Int)) = false := by simp
      go_wp2_with fail
      refine G.out.mono ?_
      rintro e w5 ⟨rfl, r5, k5⟩
      have R5 := Lib.hid r5
      clear r5
      go_wp2_with fail
      go_end0
      exact ⟨rfl, by rw [E5.out]; exact R5.out, kr.trans k5 (fun x hx _ => hx)⟩
    · obtain ⟨A, C, rfl, e1, e2, e3, e4, e5⟩ := rot_gt hst hij
      have hne : ((i : Int) != (j : Int)) = true := by simp; omega
      have hgt : decide ((j : Int) < (i : Int)) = true := decide_eq_true (by omega)
      have G := Lib.hid (swapRange_any g n c (m - i) m j P' A C Y' S' cmp wr hrow hn e3 e4 e1 e2)
      have E5 := Lib.hid e5
      have z5 : ((i : Int) - (j : Int)) = ((i - j : Nat) : Int) := by omega
      clear hst hrow e1 e2 e3 e4 e5 hr
      go_wp2_with fail
      refine G.out.mono ?_
      rintro e w5 ⟨rfl, r5, k5⟩
      have R5 := Lib.hid r5
      clear r5
      go_wp2_with fail
      go_roundw
      case rel => exact ⟨i - j, j, by omega, hjn, by first | rfl | go_num, rfl, ⟨P' ++ Y', C, A, S', _, E5.out, R5.out⟩, kr.trans k5 (fun x hx _ => hx)⟩
      case measure => simp [intOf]; omega

end Go.Proofs.Ythjbngnihcmedaa
