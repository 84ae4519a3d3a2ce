/-
  The states and bits of a flow, taken from the last symbol to the first, in plain words. (No walk is done here.)
  Walks over the reference of tables: States, Size, May.
  The reference of spread tables: Step; what lies at the places, in plain words.
  Walks over the reference of spread tables: Of.
  Walks over the reference of cells: Of.
  Walks over the reference of flows: Decode. (Printed by mkWp.py.)
  Walks over the reference of descriptions: least, get.
  Walks over the reference of descriptions: norms.
  Walks over the reference of descriptions: Get.
  A description is read from 1024 bytes: further bytes change nothing. (No program in sight.)
-/
import Derived.Test.YtophgpnnjphnmaaGreatQ22
import Derived.Test.YtophgpnnjphnmaaGreatQ1
import Derived.Test.YtophgpnnjphnmaaGreatQ13
import Derived.Test.YtophgpnnjphnmaaGreatQ19
import Derived.BigQuiet
import Derived.Test.YtophgpnnjphnmaaGreatQ2
import Derived.Test.YtophgpnnjphnmaaGreatQ21
import Derived.Test.YtophgpnnjphnmaaGreatQ18
import Derived.Test.YtophgpnnjphnmaaGreatQ7
import Derived.Test.YtophgpnnjphnmaaGreatQ11
namespace Go.Proofs.YtophgpnnjphnmaaGreat
section
set_option linter.unusedVariables false
set_option linter.unusedSimpArgs false

/-- The two states ahead of symbol i: of the even symbols, and of the odd ones. -/
def twoE (g : Nat) (norm : List Int) (l : List Nat) (i : Nat) : Nat := if i % 2 = 0 then (encG g norm (l.drop i)).1 else (encG g norm (l.drop i)).2.1
def twoO (g : Nat) (norm : List Int) (l : List Nat) (i : Nat) : Nat := if i % 2 = 0 then (encG g norm (l.drop i)).2.1 else (encG g norm (l.drop i)).1
def bitE (g : Nat) (norm : List Int) (l : List Nat) (i : Nat) : List Bool := (encG g norm (l.drop i)).2.2
theorem enc_last {g i s : Nat} {norm : List Int} {l : List Nat} (hs : l[i]? = some s) (h2 : l.length ≤ i + 2) :
    encG g norm (l.drop i) = (lowN g norm s, (encG g norm (l.drop (i + 1))).1, (encG g norm (l.drop (i + 1))).2.2) := by
  obtain ⟨hi, he⟩ := List.getElem?_eq_some_iff.1 hs
  rw [List.drop_eq_getElem_cons hi, he, encG, if_pos (by rw [List.length_drop]; omega)]
theorem enc_more {g i s : Nat} {norm : List Int} {l : List Nat} (hs : l[i]? = some s) (h2 : i + 2 < l.length) :
    encG g norm (l.drop i) = (predS g norm (encG g norm (l.drop (i + 1))).2.1 s, (encG g norm (l.drop (i + 1))).1, (encG g norm (l.drop (i + 1))).2.2 ++ bitsN (predV g norm (encG g norm (l.drop (i + 1))).2.1 s) (predB g norm (encG g norm (l.drop (i + 1))).2.1 s)) := by
  obtain ⟨hi, he⟩ := List.getElem?_eq_some_iff.1 hs
  rw [List.drop_eq_getElem_cons hi, he, encG, if_neg (by rw [List.length_drop]; omega)]
theorem two_fin (g : Nat) (norm : List Int) (l : List Nat) : twoE g norm l l.length = 0 ∧ twoO g norm l l.length = 0 ∧ bitE g norm l l.length = [] := by
  simp [twoE, twoO, bitE, encG]
theorem two_zero (g : Nat) (norm : List Int) (l : List Nat) : twoE g norm l 0 = (encG g norm l).1 ∧ twoO g norm l 0 = (encG g norm l).2.1 ∧ bitE g norm l 0 = (encG g norm l).2.2 := by
  simp [twoE, twoO, bitE]
theorem two_last_even {g i s : Nat} {norm : List Int} {l : List Nat} (hs : l[i]? = some s) (h2 : l.length ≤ i + 2) (hp : i % 2 = 0) :
    twoE g norm l i = lowN g norm s ∧ twoO g norm l i = twoO g norm l (i + 1) ∧ bitE g norm l i = bitE g norm l (i + 1) := by
  have h := enc_last (g := g) (norm := norm) hs h2
  have hq : ¬ (i + 1) % 2 = 0 := by omega
  simp only [twoE, twoO, bitE, h, if_pos hp, if_neg hq]
  exact ⟨trivial, trivial, trivial⟩
theorem two_last_odd {g i s : Nat} {norm : List Int} {l : List Nat} (hs : l[i]? = some s) (h2 : l.length ≤ i + 2) (hp : i % 2 = 1) :
    twoO g norm l i = lowN g norm s ∧ twoE g norm l i = twoE g norm l (i + 1) ∧ bitE g norm l i = bitE g norm l (i + 1) := by
  have h := enc_last (g := g) (norm := norm) hs h2
  have hp' : ¬ i % 2 = 0 := by omega
  have hq : (i + 1) % 2 = 0 := by omega
  simp only [twoE, twoO, bitE, h, if_neg hp', if_pos hq]
  exact ⟨trivial, trivial, trivial⟩
theorem two_more_even {g i s : Nat} {norm : List Int} {l : List Nat} (hs : l[i]? = some s) (h2 : i + 2 < l.length) (hp : i % 2 = 0) :
    twoE g norm l i = predS g norm (twoE g norm l (i + 1)) s ∧ twoO g norm l i = twoO g norm l (i + 1) ∧
      bitE g norm l i = bitE g norm l (i + 1) ++ bitsN (predV g norm (twoE g norm l (i + 1)) s) (predB g norm (twoE g norm l (i + 1)) s) := by
  have h := enc_more (g := g) (norm := norm) hs h2
  have hq : ¬ (i + 1) % 2 = 0 := by omega
  simp only [twoE, twoO, bitE, h, if_pos hp, if_neg hq]
  exact ⟨trivial, trivial, trivial⟩
theorem two_more_odd {g i s : Nat} {norm : List Int} {l : List Nat} (hs : l[i]? = some s) (h2 : i + 2 < l.length) (hp : i % 2 = 1) :
    twoO g norm l i = predS g norm (twoO g norm l (i + 1)) s ∧ twoE g norm l i = twoE g norm l (i + 1) ∧
      bitE g norm l i = bitE g norm l (i + 1) ++ bitsN (predV g norm (twoO g norm l (i + 1)) s) (predB g norm (twoO g norm l (i + 1)) s) := by
  have h := enc_more (g := g) (norm := norm) hs h2
  have hp' : ¬ i % 2 = 0 := by omega
  have hq : (i + 1) % 2 = 0 := by omega
  simp only [twoE, twoO, bitE, h, if_neg hp', if_pos hq]
  exact ⟨trivial, trivial, trivial⟩
theorem symsOk_drop {norm : List Int} {l : List Nat} (h : symsOk norm l) (i : Nat) : symsOk norm (l.drop i) := fun s hs => h s (List.mem_of_mem_drop hs)
theorem two_lt {g : Nat} {norm : List Int} {l : List Nat} (h : TblOk g norm) (hl : symsOk norm l) (i : Nat) : twoE g norm l i < 2 ^ g ∧ twoO g norm l i < 2 ^ g := by
  obtain ⟨h1, h2⟩ := encG_lt h (symsOk_drop hl i)
  unfold twoE twoO
  split
  · exact ⟨h1, h2⟩
  · exact ⟨h2, h1⟩
theorem encG_bits {g : Nat} {norm : List Int} (h : TblOk g norm) : ∀ {l : List Nat}, symsOk norm l → (encG g norm l).2.2.length ≤ 9 * l.length
  | [], _ => by simp [encG]
  | s :: rest, hl => by
    have hr : symsOk norm rest := fun x hx => hl x (List.mem_cons_of_mem _ hx)
    have ih := encG_bits h hr
    obtain ⟨h1, h2⟩ := hl s (by simp)
    have h3 := (predB_ok h h1 h2 (encG_lt h hr).2).2.2.2
    have h4 := h.g9
    rw [encG]
    split
    · simp only [List.length_cons]; omega
    · simp only [List.length_append, bitsN_len, List.length_cons]; omega
end

section
set_option linter.unusedVariables false
set_option linter.unusedSimpArgs false
set_option linter.unusedSectionVars false
open Go.RowKit
end

section
set_option linter.unusedVariables false
set_option linter.unusedSimpArgs false
set_option linter.unusedSectionVars false
open Go.RowKit
end

section
set_option linter.unusedVariables false
set_option linter.unusedSimpArgs false
set_option linter.unusedSectionVars false
open Go.RowKit
end

section
set_option linter.unusedVariables false
set_option linter.unusedSimpArgs false
set_option linter.unusedSectionVars false
open Go.RowKit
end

section
set_option linter.unusedVariables false
set_option linter.unusedSimpArgs false
set_option linter.unusedSectionVars false
open Go.RowKit

section
variable {g : Int} {nv bv : Value} {norm B : List Int} {n : Nat} {w : World}
end
end

section
set_option linter.unusedVariables false
set_option linter.unusedSimpArgs false
set_option linter.unusedSectionVars false
open Go.RowKit
end

section
set_option linter.unusedVariables false
set_option linter.unusedSimpArgs false
set_option linter.unusedSectionVars false
open Go.RowKit
end

section
set_option linter.unusedVariables false
set_option linter.unusedSimpArgs false
set_option linter.unusedSectionVars false
open Go.RowKit
end

section
set_option linter.unusedVariables false
end

end Go.Proofs.YtophgpnnjphnmaaGreat
