/-
  Package limit in plain words: sorting by counts, packages, merging, pairing; what each exported function hands back. No program is in sight here.
-/
import Derived.Test.YthjbngnihcmedaaT1
import Derived.Test.YthjbngnihcmedaaSo1
import Derived.Test.YthjbngnihcmedaaSo4
namespace Go.Proofs.Ythjbngnihcmedaa
set_option linter.unusedVariables false
set_option linter.unusedSimpArgs false

/-- The count of a symbol. -/
def keyC (l : List Int) (s : Int) : Int := (l[s.toNat]?).getD 0
theorem keyC_at {l : List Int} {a : Nat} {x : Int} (h : l[a]? = some x) : keyC l (a : Int) = x := by simp [keyC, h]

/-- A number enters a sorted list behind its equals. -/
def insK (key : Int → Int) (x : Int) : List Int → List Int
  | [] => [x]
  | y :: t => if key x < key y then x :: y :: t else y :: insK key x t
def sortK (key : Int → Int) : List Int → List Int → List Int
  | acc, [] => acc
  | acc, x :: t => sortK key (insK key x acc) t

section
variable {key : Int → Int}
theorem insK_eq {x : Int} : ∀ {L : List Int}, Srt key L → EqF key (L ++ [x]) (insK key x L)
  | [], _ => EqF.refl _
  | y :: t, h => by
    unfold insK
    split
    · rename_i hlt
      have h2 := List.pairwise_cons.1 h
      have e := EqF.swap (key := key) (A := y :: t) (B := [x]) (fun u hu v hv => by
        have := List.mem_singleton.1 hv; subst this
        rcases List.mem_cons.1 hu with rfl | hu
        · omega
        · have := h2.1 u hu; omega)
      simpa using e
    · have ih := insK_eq (x := x) (List.pairwise_cons.1 h).2
      have := (EqF.refl (key := key) [y]).append ih
      simpa using this
theorem insK_srt {x : Int} : ∀ {L : List Int}, Srt key L → Srt key (insK key x L)
  | [], _ => Srt.one
  | y :: t, h => by
    have h2 := List.pairwise_cons.1 h
    unfold insK
    split
    · rename_i hlt
      exact List.pairwise_cons.2 ⟨fun z hz => by
        rcases List.mem_cons.1 hz with rfl | hz
        · omega
        · have := h2.1 z hz; omega, h⟩
    · rename_i hge
      refine List.pairwise_cons.2 ⟨fun z hz => ?_, insK_srt h2.2⟩
      have := (insK_eq (key := key) (x := x) h2.2).mem.2 hz
      rcases List.mem_append.1 this with hz | hz
      · exact h2.1 z hz
      · have := List.mem_singleton.1 hz; subst this; omega
theorem sortK_spec : ∀ {t acc : List Int}, Srt key acc → EqF key (acc ++ t) (sortK key acc t) ∧ Srt key (sortK key acc t)
  | [], acc, h => ⟨by simp [sortK]; exact EqF.refl _, h⟩
  | x :: t, acc, h => by
    obtain ⟨h1, h2⟩ := sortK_spec (t := t) (insK_srt (x := x) h)
    refine ⟨?_, h2⟩
    have e := (insK_eq (x := x) h).append (EqF.refl t)
    rw [List.append_assoc] at e
    exact EqF.trans (by simpa using e) h1
end

/-- The used symbols by rising counts. -/
def sortU (l : List Int) : List Int := sortK (keyC l) [] (usedL l)
theorem sortU_spec (l : List Int) : EqF (keyC l) (usedL l) (sortU l) ∧ Srt (keyC l) (sortU l) := by
  have := sortK_spec (key := keyC l) (t := usedL l) (acc := []) Srt.nil
  rw [List.nil_append] at this
  exact this
theorem sortU_uniq {l Z : List Int} (h1 : EqF (keyC l) (usedL l) Z) (h2 : Srt (keyC l) Z) : Z = sortU l := Srt.uniq h2 (sortU_spec l).2 (h1.symm.trans (sortU_spec l).1)
theorem sortU_len (l : List Int) : (sortU l).length = (usedL l).length := (sortU_spec l).1.length.symm
theorem sortU_mem {l : List Int} {s : Int} (h : s ∈ sortU l) : ∃ j : Nat, s = (j : Int) ∧ ∃ x, l[j]? = some x ∧ 0 < x := usedL_mem ((sortU_spec l).1.mem.2 h)

abbrev PackL := List (Int × List Int)
def firstP (l : List Int) : PackL := (sortU l).map fun s => (keyC l s, [s])
def pairedP : PackL → PackL
  | a :: b :: r => (a.1 + b.1, a.2 ++ b.2) :: pairedP r
  | _ => []
def mergeAux (a : Int × List Int) (rec : PackL → PackL) : PackL → PackL
  | [] => a :: rec []
  | b :: bs => if a.1 ≤ b.1 then a :: rec (b :: bs) else b :: mergeAux a rec bs
def mergedP : PackL → PackL → PackL
  | [], bs => bs
  | a :: r, bs => mergeAux a (mergedP r) bs
theorem mergedP_nil (a : PackL) : mergedP a [] = a := by
  induction a with
  | nil => rfl
  | cons x a ih => simp [mergedP, mergeAux, ih]
theorem mergedP_left {x y : Int × List Int} {a b : PackL} (h : x.1 ≤ y.1) : mergedP (x :: a) (y :: b) = x :: mergedP a (y :: b) := by simp [mergedP, mergeAux, h]
theorem mergedP_right {x y : Int × List Int} {a b : PackL} (h : ¬ x.1 ≤ y.1) : mergedP (x :: a) (y :: b) = y :: mergedP (x :: a) b := by simp [mergedP, mergeAux, h]
theorem mergedP_len : ∀ (a b : PackL), (mergedP a b).length = a.length + b.length
  | [], b => by simp [mergedP]
  | x :: a, [] => by rw [mergedP_nil]; simp
  | x :: a, y :: b => by
    by_cases h : x.1 ≤ y.1
    · rw [mergedP_left h, List.length_cons, mergedP_len a (y :: b)]; simp; omega
    · rw [mergedP_right h, List.length_cons, mergedP_len (x :: a) b]; simp; omega
theorem pairedP_len : ∀ (l : PackL), (pairedP l).length = l.length / 2
  | [] => rfl
  | [_] => by simp [pairedP]
  | a :: b :: r => by simp only [pairedP, List.length_cons, pairedP_len r]; omega
def rowP (single : PackL) : Nat → PackL
  | 0 => single
  | k + 1 => mergedP single (pairedP (rowP single k))

/-- One more at each symbol of a list. -/
def bump (out : List Int) (s : Int) : List Int := out.set s.toNat ((out[s.toNat]?).getD 0 + 1)
def bumps (out : List Int) (l : List Int) : List Int := l.foldl bump out
def bumpP (out : List Int) (l : PackL) : List Int := l.foldl (fun o p => bumps o p.2) out

def limErr (l : List Int) (most : Int) : Int :=
  if rightL l && (decide (1 ≤ most) && decide (most ≤ 11)) then (if 1 < (usedL l).length then (if (usedL l).length ≤ 2 ^ most.toNat then 0 else 18) else 22) else 2
def limOut (l : List Int) (most : Int) : List Int := bumpP (List.replicate l.length 0) ((rowP (firstP l) (most.toNat - 1)).take (2 * (usedL l).length - 2))

/-- Huffman's merging, with so many steps at most. -/
def hufP : Nat → PackL → List Int → List Int
  | k + 1, a :: b :: r, out => hufP k (mergedP r [(a.1 + b.1, a.2 ++ b.2)]) (bumps out (a.2 ++ b.2))
  | _, _, out => out
def freeErr (l : List Int) : Int := if rightL l then (if 1 < (usedL l).length then 0 else 22) else 2
def freeOut (l : List Int) : List Int := hufP (usedL l).length (firstP l) (List.replicate l.length 0)

end Go.Proofs.Ythjbngnihcmedaa
