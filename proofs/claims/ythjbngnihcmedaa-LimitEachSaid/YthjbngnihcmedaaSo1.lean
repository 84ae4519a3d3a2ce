/-
  Stable sorting of lists of numbers by a key: what is kept, what is sorted, that there is one answer alone; the steps of insertion, of the exchange of two blocks, of merging in place. No program is in sight here.
-/
namespace Go.Proofs.Ythjbngnihcmedaa
set_option linter.unusedVariables false
set_option linter.unusedSimpArgs false

/-- For each key the elements with that key stand in the same order. -/
def EqF (key : Int → Int) (L L' : List Int) : Prop := ∀ k, L.filter (fun x => key x == k) = L'.filter (fun x => key x == k)
/-- The keys do not fall. -/
def Srt (key : Int → Int) (L : List Int) : Prop := L.Pairwise (fun x y => key x ≤ key y)

section
variable {key : Int → Int} {L L' L'' A B P S : List Int} {x y : Int}

theorem EqF.refl (L : List Int) : EqF key L L := fun _ => rfl
theorem EqF.symm (h : EqF key L L') : EqF key L' L := fun k => (h k).symm
theorem EqF.trans (h : EqF key L L') (h' : EqF key L' L'') : EqF key L L'' := fun k => (h k).trans (h' k)
theorem EqF.mem (h : EqF key L L') : x ∈ L ↔ x ∈ L' := by
  have e : ∀ M : List Int, x ∈ M ↔ x ∈ M.filter (fun z => key z == key x) := fun M => by simp
  rw [e L, e L', h]
theorem EqF.append {C D : List Int} (h : EqF key A B) (h' : EqF key C D) : EqF key (A ++ C) (B ++ D) := fun k => by
  rw [List.filter_append, List.filter_append, h k, h' k]

/-- Two blocks whose keys differ throughout may change places. -/
theorem EqF.swap (h : ∀ x ∈ A, ∀ y ∈ B, key x ≠ key y) : EqF key (A ++ B) (B ++ A) := fun k => by
  rw [List.filter_append, List.filter_append]
  by_cases hA : ∃ x ∈ A, key x = k
  · obtain ⟨x, hx, hk⟩ := hA
    have : B.filter (fun z => key z == k) = [] := List.filter_eq_nil_iff.2 fun y hy => by
      have := h x hx y hy
      simp; omega
    rw [this]; simp
  · have : A.filter (fun z => key z == k) = [] := List.filter_eq_nil_iff.2 fun y hy => by
      simp; exact fun e => hA ⟨y, hy, e⟩
    rw [this]; simp

theorem EqF.mid {M M' : List Int} (h : EqF key M M') (P S : List Int) : EqF key (P ++ M ++ S) (P ++ M' ++ S) := ((EqF.refl P).append h).append (EqF.refl S)

theorem EqF.length : ∀ {L L' : List Int}, EqF key L L' → L.length = L'.length := by
  have perm : ∀ {L L' : List Int}, EqF key L L' → L.Perm L' := by
    intro L L' h
    rw [List.perm_iff_count]
    intro a
    have e : ∀ M : List Int, M.count a = (M.filter (fun z => key z == key a)).count a := fun M => by
      rw [List.count_filter (by simp)]
    rw [e L, e L', h]
  intro L L' h
  exact (perm h).length_eq

/-- What is sorted and keeps the order of equal keys is one list alone. -/
theorem Srt.uniq : ∀ {L L' : List Int}, Srt key L → Srt key L' → EqF key L L' → L = L'
  | [], [], _, _, _ => rfl
  | [], y :: t', _, _, h => by have := h.length; simp at this
  | x :: t, [], _, _, h => by have := h.length; simp at this
  | x :: t, y :: t', h1, h2, h => by
    have hx : x ∈ y :: t' := h.mem.1 (by simp)
    have hy : y ∈ x :: t := h.mem.2 (by simp)
    have k1 : key y ≤ key x := by
      rcases List.mem_cons.1 hx with rfl | hx
      · exact Int.le_refl _
      · exact (List.pairwise_cons.1 h2).1 x hx
    have k2 : key x ≤ key y := by
      rcases List.mem_cons.1 hy with rfl | hy
      · exact Int.le_refl _
      · exact (List.pairwise_cons.1 h1).1 y hy
    have e := h (key x)
    have exy : x = y := by
      rw [List.filter_cons_of_pos (by simp), List.filter_cons_of_pos (by simp; omega)] at e
      exact (List.cons.inj e).1
    subst exy
    have ht : EqF key t t' := fun k => by
      have e := h k
      by_cases hk : key x = k
      · rw [List.filter_cons_of_pos (by simp [hk]), List.filter_cons_of_pos (by simp [hk])] at e
        exact (List.cons.inj e).2
      · rw [List.filter_cons_of_neg (by simp [hk]), List.filter_cons_of_neg (by simp [hk])] at e
        exact e
    rw [Srt.uniq (List.pairwise_cons.1 h1).2 (List.pairwise_cons.1 h2).2 ht]

theorem Srt.append (h1 : Srt key A) (h2 : Srt key B) (h : ∀ x ∈ A, ∀ y ∈ B, key x ≤ key y) : Srt key (A ++ B) := List.pairwise_append.2 ⟨h1, h2, h⟩
theorem Srt.left (h : Srt key (A ++ B)) : Srt key A := (List.pairwise_append.1 h).1
theorem Srt.right (h : Srt key (A ++ B)) : Srt key B := (List.pairwise_append.1 h).2.1
theorem Srt.across (h : Srt key (A ++ B)) : ∀ x ∈ A, ∀ y ∈ B, key x ≤ key y := (List.pairwise_append.1 h).2.2
theorem Srt.nil : Srt key [] := List.Pairwise.nil
theorem Srt.one : Srt key [x] := List.pairwise_singleton _ _
theorem Srt.get (h : Srt key L) {i j : Nat} {u v : Int} (hij : i ≤ j) (hu : L[i]? = some u) (hv : L[j]? = some v) : key u ≤ key v := by
  rcases Nat.eq_or_lt_of_le hij with rfl | hlt
  · rw [hu] at hv; cases hv; exact Int.le_refl _
  · obtain ⟨h1, e1⟩ := List.getElem?_eq_some_iff.1 hu
    obtain ⟨h2, e2⟩ := List.getElem?_eq_some_iff.1 hv
    have := List.pairwise_iff_getElem.1 h i j h1 h2 hlt
    rwa [e1, e2] at this

/-- One step of insertion: x moves ahead of y. -/
theorem EqF.step (h : key x ≠ key y) (P S : List Int) : EqF key (P ++ y :: x :: S) (P ++ x :: y :: S) := by
  have := (EqF.refl P).append ((EqF.swap (key := key) (A := [y]) (B := [x]) (by simpa using fun e => h e.symm)).append (EqF.refl S))
  simpa using this

end

/-- Cells of a list that is put together of parts. -/
theorem get_mid {P S : List Int} {x : Int} : (P ++ x :: S)[P.length]? = some x := by simp
theorem get_mid1 {P S : List Int} {x y : Int} : (P ++ x :: y :: S)[P.length + 1]? = some y := by
  rw [List.getElem?_append_right (by omega)]; simp
theorem set_mid {P S : List Int} {x z : Int} : (P ++ x :: S).set P.length z = P ++ z :: S := by simp
theorem set_mid1 {P S : List Int} {x y z : Int} : (P ++ x :: y :: S).set (P.length + 1) z = P ++ x :: z :: S := by
  have e : P ++ x :: y :: S = (P ++ [x]) ++ y :: S := by simp
  have e2 : P.length + 1 = (P ++ [x]).length := by simp
  rw [e, e2, set_mid]; simp
/-- The exchange of two neighbours. -/
theorem swap_next {P S : List Int} {x y : Int} : ((P ++ x :: y :: S).set (P.length + 1) x).set P.length y = P ++ y :: x :: S := by rw [set_mid1, set_mid]
theorem swap_next' {P S : List Int} {x y : Int} : ((P ++ x :: y :: S).set P.length y).set (P.length + 1) x = P ++ y :: x :: S := by rw [set_mid, set_mid1]
/-- The exchange of two cells. -/
theorem swap_far {P M S : List Int} {x y : Int} : ((P ++ x :: M ++ y :: S).set P.length y).set (P.length + 1 + M.length) x = P ++ y :: M ++ x :: S := by
  have e1 : (P ++ x :: M ++ y :: S).set P.length y = P ++ y :: M ++ y :: S := by simp
  rw [e1]
  have e2 : P ++ y :: M ++ y :: S = (P ++ y :: M) ++ y :: S := rfl
  have e3 : P.length + 1 + M.length = (P ++ y :: M).length := by simp; omega
  rw [e3, set_mid]
theorem swap_far' {P M S : List Int} {x y : Int} : ((P ++ x :: M ++ y :: S).set (P.length + 1 + M.length) x).set P.length y = P ++ y :: M ++ x :: S := by
  have e3 : P.length + 1 + M.length = (P ++ x :: M).length := by simp; omega
  rw [e3, set_mid]
  simp
theorem get_far {P M S : List Int} {x y : Int} : (P ++ x :: M ++ y :: S)[P.length + 1 + M.length]? = some y := by
  have e3 : P.length + 1 + M.length = (P ++ x :: M).length := by simp; omega
  rw [e3]; exact get_mid

end Go.Proofs.Ythjbngnihcmedaa
