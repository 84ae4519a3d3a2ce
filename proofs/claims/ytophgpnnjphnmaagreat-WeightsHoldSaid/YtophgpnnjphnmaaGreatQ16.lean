/-
  A flow in plain words: bits from the back, cells, symbols. (No program in sight.)
  Lists whose elements take several cells each, in memory: what a slice of them reads as; append. No program is in sight here.
  The cells of a table in plain words. (No walk is done here.)
  Slices of booleans in memory: what a slice value reads as; what keeps it; append. No program is in sight here.
  Walks over the reference of bit streams: Bits, Value, Row.
-/
import Derived.Test.YtophgpnnjphnmaaGreatQ1
import Derived.Test.YtophgpnnjphnmaaGreatQ2
import Derived.Test.YtophgpnnjphnmaaGreatQ6
import Derived.Deep.RegionHeld3
import Derived.Deep.RegionLaw
import Derived.Test.YtophgpnnjphnmaaGreatQ13
import Derived.Test.YtophgpnnjphnmaaGreatQ11
import Derived.Test.YtophgpnnjphnmaaGreatRows
namespace Go.Proofs.YtophgpnnjphnmaaGreat
section
/-- n bits from the back. -/
def tb (R : List Bool) (n : Nat) : Except Int (Nat × List Bool) := if n ≤ R.length then .ok (valL (R.drop (R.length - n)), R.take (R.length - n)) else .error 14
theorem tb_ok {R : List Bool} {n : Nat} (h : n ≤ R.length) : tb R n = .ok (valL (R.drop (R.length - n)), R.take (R.length - n)) := if_pos h
theorem tb_no {R : List Bool} {n : Nat} (h : R.length < n) : tb R n = .error 14 := if_neg (by omega)
theorem tb_lt {R R1 : List Bool} {n t : Nat} (h : tb R n = .ok (t, R1)) : t < 2 ^ n ∧ R1.length + n = R.length := by
  unfold tb at h
  split at h
  · rename_i hn
    injection h with h
    injection h with h1 h2
    subst h1 h2
    refine ⟨?_, by simp; omega⟩
    have := valL_lt (R.drop (R.length - n))
    rwa [List.length_drop, show R.length - (R.length - n) = n by omega] at this
  · cases h

/-- A cell: its symbol, its bits, its base. -/
abbrev Cel := Nat × Nat × Nat
/-- k symbols are left; now is the state of the next one, other that of the one behind it. -/
def flowG (c : Nat → Cel) : Nat → List Bool → Nat → Nat → List Int → Except Int (List Int)
  | 0, R, _, _, out => if R.length = 0 then .ok out else .error 14
  | k + 1, R, now, other, out =>
    if 2 ≤ k then
      match tb R (c now).2.1 with
      | .error e => .error e
      | .ok (v, R1) => flowG c k R1 other ((c now).2.2 + v) (out ++ [((c now).1 : Int)])
    else flowG c k R other now (out ++ [((c now).1 : Int)])

/-- The symbols of a flow of n symbols at a table with that log and these cells. -/
def flowP (c : Nat → Cel) (log n : Nat) (R : List Bool) : Except Int (List Int) :=
  match (if 0 < n then tb R log else .ok (0, R)) with
  | .error e => .error e
  | .ok (a, R1) => match (if 1 < n then tb R1 log else .ok (0, R1)) with
    | .error e => .error e
    | .ok (b, R2) => flowG c n R2 a b []

/-- The number of bits that a state of a symbol's x-th cell reads, and its base. -/
theorem cell_in {log x : Nat} (h0 : 0 < x) (h : x < 2 * 2 ^ log) : x.log2 ≤ log ∧ 2 ^ log ≤ x * 2 ^ (log - x.log2) ∧ (x + 1) * 2 ^ (log - x.log2) ≤ 2 * 2 ^ log := by
  have h1 : 2 ^ x.log2 ≤ x := (Nat.le_log2 (by omega)).1 (Nat.le_refl _)
  have h2 : x < 2 ^ (x.log2 + 1) := (Nat.log2_lt (by omega)).1 (Nat.lt_succ_self _)
  have h3 : x.log2 ≤ log := by
    have h4 : x.log2 < log + 1 := (Nat.log2_lt (by omega)).2 (by rw [Nat.pow_succ]; omega)
    omega
  have h5 : 2 ^ log = 2 ^ x.log2 * 2 ^ (log - x.log2) := by rw [← Nat.pow_add, show x.log2 + (log - x.log2) = log by omega]
  refine ⟨h3, ?_, ?_⟩
  · rw [h5]; exact Nat.mul_le_mul_right _ h1
  · have h6 : x + 1 ≤ 2 * 2 ^ x.log2 := by rw [Nat.pow_succ] at h2; omega
    rw [h5, ← Nat.mul_assoc]
    exact Nat.mul_le_mul_right _ h6
end

section
set_option linter.unusedVariables false
set_option linter.unusedSimpArgs false
set_option linter.unusedSectionVars false
open Go.RowKit

section
variable {α : Type} (row : α → List Value) (W : Nat)
def cellsW : List α → List Value
  | [] => []
  | x :: l => row x ++ cellsW l
/-- A slice value reads as a list of elements, each as its row of W cells. -/
structure RdW (w : World) (v : Value) (l : List α) : Prop where
  form : ∃ a n cp, v = .slice a n cp ∧ n = l.length ∧ n ≤ cp ∧ (a = none → n = 0 ∧ cp = 0) ∧ (0 < n → ∃ b o, a = some ⟨b, o, none⟩ ∧ b < w.heap.size ∧ ∀ i x, l[i]? = some x → w.rangeAt b (o + i * W) (row x))
end

section
variable {α : Type} {row : α → List Value} {W : Nat} (hW : ∀ x, (row x).length = W) (h1W : ∀ x, ∀ u ∈ row x, u.oneCell' = true)
include hW
theorem cellsW_length (l : List α) : (cellsW row l).length = l.length * W := by
  induction l with
  | nil => simp [cellsW]
  | cons x l ih => simp only [cellsW, List.length_append, List.length_cons, ih, hW, Nat.succ_mul]; omega
theorem cellsW_append (l m : List α) : cellsW row (l ++ m) = cellsW row l ++ cellsW row m := by
  induction l with
  | nil => simp [cellsW]
  | cons x l ih => simp [cellsW, ih]
theorem cellsW_get {l : List α} {i j : Nat} {x : α} {u : Value} (h : l[i]? = some x) (hu : (row x)[j]? = some u) : (cellsW row l)[i * W + j]? = some u := by
  induction l generalizing i with
  | nil => simp at h
  | cons y l ih =>
    have hj : j < W := by have := (List.getElem?_eq_some_iff.1 hu).1; rw [hW] at this; exact this
    cases i with
    | zero =>
      simp at h; subst h
      simp only [cellsW, Nat.zero_mul, Nat.zero_add]
      rw [List.getElem?_append_left (by rw [hW]; exact hj)]
      exact hu
    | succ i =>
      simp at h
      have h2 := ih h
      simp only [cellsW]
      rw [List.getElem?_append_right (by rw [hW, Nat.succ_mul]; omega), hW, show (i + 1) * W + j - W = i * W + j by rw [Nat.succ_mul]; omega]
      exact h2
theorem cellsW_at (hP : 0 < W) {l : List α} {j : Nat} {u : Value} (h : (cellsW row l)[j]? = some u) : ∃ x, l[j / W]? = some x ∧ (row x)[j % W]? = some u := by
  have hl := (List.getElem?_eq_some_iff.1 h).1
  rw [cellsW_length hW] at hl
  have hd : j / W < l.length := Nat.div_lt_of_lt_mul (by rw [Nat.mul_comm]; exact hl)
  obtain ⟨x, hx⟩ : ∃ x, l[j / W]? = some x := ⟨_, List.getElem?_eq_getElem hd⟩
  have hm : j % W < (row x).length := by rw [hW]; exact Nat.mod_lt _ hP
  have h2 := cellsW_get hW (u := (row x)[j % W]) hx (List.getElem?_eq_getElem hm)
  rw [show j / W * W + j % W = j by rw [Nat.mul_comm]; exact Nat.div_add_mod j W, h] at h2
  exact ⟨x, hx, by rw [List.getElem?_eq_getElem hm]; exact h2.symm⟩
variable {w w' : World} {v : Value} {l : List α} {a : Option Addr} {n cp : Nat}
omit hW
theorem RdW.nil : RdW row W w (.slice none 0 0) [] := ⟨_, _, _, rfl, rfl, Nat.le_refl _, fun _ => ⟨rfl, rfl⟩, fun h => absurd h (by omega)⟩
theorem RdW.keeps {S : List Nat} (h : RdW row W w v l) (k : Keeps w w' S) (hn : ∀ ad n cp, v = .slice (some ad) n cp → 0 < n → ad.block ∉ S) : RdW row W w' v l := by
  obtain ⟨a, n, cp, rfl, h1, h2, h3, hc⟩ := h.form
  refine ⟨a, n, cp, rfl, h1, h2, h3, fun h0 => ?_⟩
  obtain ⟨b, o, rfl, hb, h4⟩ := hc h0
  have hnb := hn _ _ _ rfl h0
  exact ⟨b, o, rfl, Nat.lt_of_lt_of_le hb k.size, fun i x hx j u hu => (k.cell (p := ⟨b, o + i * W + j, none⟩) hb hnb).trans (h4 i x hx j u hu)⟩
theorem RdW.keep (h : RdW row W w v l) (k : Keeps w w' []) : RdW row W w' v l := h.keeps k (fun _ _ _ _ _ => by simp)
theorem RdW.len (h : RdW row W w (.slice a n cp) l) : n = l.length := by
  obtain ⟨a', n', cp', he, h1, -⟩ := h.form
  cases he; exact h1
theorem RdW.cap (h : RdW row W w (.slice a n cp) l) : n ≤ cp := by
  obtain ⟨a', n', cp', he, h1, h2, -⟩ := h.form
  cases he; exact h2
theorem RdW.at (h : RdW row W w (.slice a n cp) l) {i : Nat} {x : α} (hx : l[i]? = some x) : ∃ b o, a = some ⟨b, o, none⟩ ∧ b < w.heap.size ∧ w.rangeAt b (o + i * W) (row x) := by
  obtain ⟨a', n', cp', he, h1, h2, h3, hc⟩ := h.form
  cases he
  have hlt := (List.getElem?_eq_some_iff.1 hx).1
  obtain ⟨b, o, e, hb, h4⟩ := hc (by omega)
  exact ⟨b, o, e, hb, h4 i x hx⟩
include hW
/-- The cells, as append asks for them. -/
theorem RdW.news (hP : 0 < W) {ad : Addr} (h : RdW row W w (.slice (some ad) n cp) l) : ∀ j u, (cellsW row l)[j]? = some u → w.cell? (ad.add j) = some u := by
  intro j u hj
  obtain ⟨x, hx, hu⟩ := cellsW_at hW hP hj
  obtain ⟨b, o, e, hb, h1⟩ := h.at hx
  cases e
  have e : (⟨b, o, none⟩ : Addr).add j = ⟨b, o + j, none⟩ := by simp [Addr.add]
  rw [e, show o + j = o + j / W * W + j % W by have := Nat.div_add_mod j W; rw [Nat.mul_comm] at this; omega]
  exact h1 _ u hu
/-- An owned row reads as the list. -/
theorem ownW_reads {base : Nat} {e : TypeId} (h : w.ownsRow base e W v l.length (cellsW row l)) : RdW row W w v l := by
  rcases h.2 with ⟨rfl, h0⟩ | ⟨g, cp, cur, rfl, hb, hg, hn, hm, hs, ht⟩
  · exact ⟨_, _, _, rfl, h0.symm, Nat.le_refl _, fun _ => ⟨rfl, rfl⟩, fun h => by omega⟩
  · refine ⟨_, _, _, rfl, rfl, hn, (fun h => by cases h), fun h0 => ⟨g, 0, rfl, (Array.getElem?_eq_some_iff.1 hg).1, fun i x hx j u hu => ?_⟩⟩
    have h2 := cellsW_get hW hx hu
    have hlt := (List.getElem?_eq_some_iff.1 h2).1
    rw [cellsW_length hW] at hlt
    rw [show 0 + i * W + j = i * W + j by omega, cell_of_row w g (i * W + j) cur e (0, 0) hg, ← h2, ← ht, List.getElem?_take, if_pos hlt]
    simp
omit hW
/-- One element in a block of its own. -/
theorem RdW.one {b : Nat} {x : α} {cs : Array Value} {T : TypeId} (h : Blk w b cs T) (hr : ∀ (j : Nat) (u : Value), (row x)[j]? = some u → cs[j]? = some u) : RdW row W w (.slice (some ⟨b, 0, none⟩) 1 1) [x] :=
  ⟨_, _, _, rfl, rfl, Nat.le_refl _, (fun h => by cases h), fun _ => ⟨b, 0, rfl, h.lt, fun i z hz => by
    cases i with
    | zero =>
      simp at hz; subst hz
      intro j u hu
      rw [show 0 + 0 * W + j = j by omega]
      exact (h.cell j).trans (hr j u hu)
    | succ i => simp at hz⟩⟩
end
end

section
set_option linter.unusedVariables false
set_option linter.unusedSimpArgs false
set_option linter.unusedSectionVars false
open Go.RowKit

/-- The number that a place's cell is made of. -/
def cellX (g : Nat) (norm : List Int) (p : Nat) : Nat := (stN (norm.getD (placeN g norm p) 0)).toNat + ((placesL g norm).take p).count (placeN g norm p)
/-- The cell of a place: symbol, bits, base. -/
def celP (g : Nat) (norm : List Int) (p : Nat) : Cel := (placeN g norm p, g - (cellX g norm p).log2, cellX g norm p * 2 ^ (g - (cellX g norm p).log2) - 2 ^ g)
def cellsL (g : Nat) (norm : List Int) (k : Nat) : List Cel := (List.range k).map (celP g norm)
theorem cellsL_succ (g : Nat) (norm : List Int) (k : Nat) : cellsL g norm (k + 1) = cellsL g norm k ++ [celP g norm k] := by simp [cellsL, List.range_succ]
theorem cellsL_len (g : Nat) (norm : List Int) (k : Nat) : (cellsL g norm k).length = k := by simp [cellsL]
theorem cellsL_get {g k p : Nat} {norm : List Int} (h : p < k) : (cellsL g norm k)[p]? = some (celP g norm p) := by simp [cellsL, h]

theorem getD_mem {L : List Nat} {j : Nat} (h : j < L.length) : L.getD j 0 ∈ L := by
  rw [List.getD_eq_getElem?_getD, List.getElem?_eq_getElem h]
  exact List.getElem_mem _
/-- A place's symbol has states. -/
theorem placeN_pos {g p : Nat} {norm : List Int} (h : TblOk g norm) (hp : p < 2 ^ g) : 1 ≤ stN (norm.getD (placeN g norm p) 0) := by
  have hl := h.lens
  unfold placeN
  split
  · have hm := getD_mem (L := lowsL norm) (j := 2 ^ g - 1 - p) (by omega)
    generalize (lowsL norm).getD (2 ^ g - 1 - p) 0 = s at *
    have h1 := (List.mem_filter.1 hm).2
    have h2 : norm.getD s 0 = -1 := by simpa using h1
    rw [h2]
    decide
  · have hfl := free_len (g := g) (top := 2 ^ g - (lowsL norm).length) h.g9 (by omega)
    have hmem : p ∈ freeN (2 ^ g) (2 ^ g - (lowsL norm).length) (2 ^ g) := free_all h.g9 (by omega) (by omega)
    have hidx : (freeN (2 ^ g) (2 ^ g - (lowsL norm).length) (2 ^ g)).idxOf p < (othersL norm).length := by
      have := List.idxOf_lt_length_of_mem hmem
      omega
    have hm := getD_mem hidx
    generalize (othersL norm).getD ((freeN (2 ^ g) (2 ^ g - (lowsL norm).length) (2 ^ g)).idxOf p) 0 = s at *
    obtain ⟨i, hi, hs⟩ := List.mem_flatMap.1 hm
    obtain ⟨h1, rfl⟩ := List.mem_replicate.1 hs
    unfold stN
    split <;> omega
theorem placeN_norm {g p : Nat} {norm : List Int} (h : TblOk g norm) : ∃ x, norm[placeN g norm p]? = some x ∧ norm.getD (placeN g norm p) 0 = x := by
  have h1 := placeN_lt (p := p) h.g9 h.pos
  exact ⟨_, List.getElem?_eq_getElem h1, by rw [List.getD_eq_getElem?_getD, List.getElem?_eq_getElem h1]; rfl⟩
theorem stN_top {g s : Nat} {x : Int} {norm : List Int} (h : TblOk g norm) (hx : norm[s]? = some x) : stN x ≤ ((2 ^ g : Nat) : Int) := by
  have h1 := h.low
  have h2 := sumN_prefix (k := s + 1) h1
  rw [sumN_take hx, h.sum] at h2
  have h3 := sumN_nonneg (l := norm.take s) (fun n hn => h1 n (List.mem_of_mem_take hn))
  omega
theorem cellX_pos {g p : Nat} {norm : List Int} (h : TblOk g norm) (hp : p < 2 ^ g) : 1 ≤ cellX g norm p ∧ cellX g norm p < 2 * 2 ^ g := by
  obtain ⟨x, hx, hg⟩ := placeN_norm (p := p) h
  have h1 := placeN_pos h hp
  have h2 := stN_top h hx
  have h3 : ((placesL g norm).take p).count (placeN g norm p) ≤ p := Nat.le_trans List.count_le_length (List.length_take_le _ _)
  unfold cellX
  rw [hg] at h1 ⊢
  omega
/-- A state stays inside the table. -/
theorem celP_in {g p v : Nat} {norm : List Int} (h : TblOk g norm) (hp : p < 2 ^ g) (hv : v < 2 ^ (celP g norm p).2.1) : (celP g norm p).2.2 + v < 2 ^ g ∧ (celP g norm p).2.1 ≤ g := by
  obtain ⟨h1, h2⟩ := cellX_pos h hp
  obtain ⟨h3, h4, h5⟩ := cell_in h1 h2
  unfold celP at hv ⊢
  simp only at hv ⊢
  rw [Nat.add_mul, Nat.one_mul] at h5
  omega

/-- How often each number stands in a list. -/
def hadF (l : List Nat) : Int → Option Int := fun q => if 0 ≤ q ∧ q.toNat ∈ l then some ((l.count q.toNat : Nat) : Int) else none
theorem hadF_nil : hadF [] = fun _ => none := by
  funext q
  simp [hadF]
theorem hadF_get (l : List Nat) (s : Nat) : (hadF l (s : Int)).getD 0 = ((l.count s : Nat) : Int) := by
  unfold hadF
  by_cases h : s ∈ l
  · rw [if_pos ⟨by omega, by simpa using h⟩]; simp
  · rw [if_neg (by rintro ⟨-, h2⟩; exact h (by simpa using h2)), List.count_eq_zero.2 h]; rfl
theorem hadF_snoc (l : List Nat) (s : Nat) : updI (hadF l) (s : Int) (((l.count s : Nat) : Int) + 1) = hadF (l ++ [s]) := by
  funext q
  unfold updI hadF
  by_cases h : q = (s : Int)
  · subst h
    rw [if_pos rfl, if_pos ⟨by omega, by simp⟩]
    simp [List.count_append]
  · rw [if_neg h]
    by_cases h0 : 0 ≤ q
    · have hne : q.toNat ≠ s := by omega
      by_cases h1 : q.toNat ∈ l
      · rw [if_pos ⟨h0, h1⟩, if_pos ⟨h0, List.mem_append.2 (.inl h1)⟩, List.count_append, List.count_eq_zero.2 (show q.toNat ∉ [s] by simpa using hne)]
        simp
      · rw [if_neg (fun h2 => h1 h2.2), if_neg]
        rintro ⟨-, h2⟩
        rcases List.mem_append.1 h2 with h3 | h3
        · exact h1 h3
        · exact hne (List.mem_singleton.1 h3)
    · rw [if_neg (fun h2 => h0 h2.1), if_neg (fun h2 => h0 h2.1)]

/-- A cell in memory. -/
def rowC (c : Cel) : List Value := [.int .i64 (c.1 : Int), .int .i64 (c.2.1 : Int), .int .i64 (c.2.2 : Int)]
theorem rowC_len (c : Cel) : (rowC c).length = 3 := rfl
theorem rowC_one (c : Cel) : ∀ u ∈ rowC c, u.oneCell' = true := by
  intro u hu
  simp [rowC] at hu
  rcases hu with rfl | rfl | rfl <;> rfl
end

section
set_option linter.unusedVariables false
set_option linter.unusedSimpArgs false
set_option linter.unusedSectionVars false
open Go.ChangeShapes Go.WideShapes Go.ChangeAt Go.RowKit

/-- A slice value reads as a list of booleans. -/
structure RdO (w : World) (v : Value) (l : List Bool) : Prop where
  form : ∃ a n cp, v = .slice a n cp ∧ n = l.length ∧ (a = none → n = 0 ∧ cp = 0) ∧ (0 < n → n ≤ cp ∧ ∃ b o, a = some ⟨b, o, none⟩ ∧ b < w.heap.size ∧ ∀ i x, l[i]? = some x → w.cell? ⟨b, o + i, none⟩ = some (.bool x))

section
variable {w w' : World} {v : Value} {l : List Bool} {a : Option Addr} {n cp : Nat}

theorem RdO.nil : RdO w (.slice none 0 0) [] := ⟨_, _, _, rfl, rfl, fun _ => ⟨rfl, rfl⟩, fun h => absurd h (by omega)⟩
theorem RdO.zero (a : Addr) (c : Nat) : RdO w (.slice (some a) 0 c) [] := ⟨_, _, _, rfl, rfl, (fun h => by cases h), fun h => absurd h (by omega)⟩
theorem RdO.keeps (h : RdO w v l) (kk : Keeps w w' []) : RdO w' v l := by
  obtain ⟨a, n, cp, rfl, hn, h0, hc⟩ := h.form
  refine ⟨a, n, cp, rfl, hn, h0, fun hp => ?_⟩
  obtain ⟨h1, b, o, h2, h3, h4⟩ := hc hp
  exact ⟨h1, b, o, h2, Nat.lt_of_lt_of_le h3 kk.size, fun i x hx => (kk.cell h3 (by simp)).trans (h4 i x hx)⟩
theorem RdO.keepsS {S : List Nat} (h : RdO w v l) (kk : Keeps w w' S) (hn : ∀ ad n cp, v = .slice (some ad) n cp → 0 < n → ad.block ∉ S) : RdO w' v l := by
  obtain ⟨a, n, cp, rfl, hl, h0, hc⟩ := h.form
  refine ⟨a, n, cp, rfl, hl, h0, fun hp => ?_⟩
  obtain ⟨h1, b, o, rfl, h3, h4⟩ := hc hp
  exact ⟨h1, b, o, rfl, Nat.lt_of_lt_of_le h3 kk.size, fun i x hx => (kk.cell (p := ⟨b, o + i, none⟩) h3 (fun hm => hn _ _ _ rfl hp hm)).trans (h4 i x hx)⟩
theorem RdO.len (h : RdO w (.slice a n cp) l) : n = l.length := by
  obtain ⟨a', n', cp', he, hl, -⟩ := h.form
  obtain ⟨h1, h2, h3⟩ := Value.slice.inj he
  rw [h2, hl]
theorem RdO.cap (h : RdO w (.slice a n cp) l) : n ≤ cp := by
  obtain ⟨a', n', cp', he, hl, h0, hc⟩ := h.form
  obtain ⟨h1, h2, h3⟩ := Value.slice.inj he
  subst h1 h2 h3
  by_cases hp : 0 < n
  · exact (hc hp).1
  · omega
theorem RdO.nilcap (h : RdO w (.slice none n cp) l) : n = 0 ∧ cp = 0 ∧ l = [] := by
  obtain ⟨a', n', cp', he, hl, h0, hc⟩ := h.form
  obtain ⟨h1, h2, h3⟩ := Value.slice.inj he
  subst h1 h2 h3
  obtain ⟨e1, e2⟩ := h0 rfl
  exact ⟨e1, e2, List.eq_nil_of_length_eq_zero (by omega)⟩
/-- The cell of element i. -/
theorem RdO.at (h : RdO w (.slice a n cp) l) {i : Nat} {x : Bool} (hx : l[i]? = some x) : ∃ b o, a = some ⟨b, o, none⟩ ∧ b < w.heap.size ∧ w.cell? ⟨b, o + i, none⟩ = some (.bool x) := by
  obtain ⟨a', n', cp', he, hl, h0, hc⟩ := h.form
  obtain ⟨h1, h2, h3⟩ := Value.slice.inj he
  subst h1 h2 h3
  have hlt := (List.getElem?_eq_some_iff.1 hx).1
  obtain ⟨_, b, o, h2, h3, h4⟩ := hc (by omega)
  exact ⟨b, o, h2, h3, h4 i x hx⟩
theorem RdO.addr (h : RdO w (.slice a n cp) l) (hp : 0 < n) : ∃ b o, a = some ⟨b, o, none⟩ ∧ b < w.heap.size ∧ ∀ i x, l[i]? = some x → w.cell? ⟨b, o + i, none⟩ = some (.bool x) := by
  obtain ⟨a', n', cp', he, hl, h0, hc⟩ := h.form
  obtain ⟨h1, h2, h3⟩ := Value.slice.inj he
  subst h1 h2 h3
  exact (hc hp).2
theorem RdO.drewN (h : RdO w v l) (m : Nat) : RdO (w.drewN m) v l := h.keeps ((Keeps.refl w []).drewN m)

/-- The cells of a slice of booleans, as append asks for them. -/
theorem RdO.news {ad : Addr} (h : RdO w (.slice (some ad) n cp) l) : ∀ j u, (l.map (Value.bool))[j]? = some u → w.cell? (ad.add j) = some u := by
  intro j u hj
  rw [List.getElem?_map] at hj
  obtain ⟨x, hx, rfl⟩ := Option.map_eq_some_iff.1 hj
  obtain ⟨b, o, h2, h3, h4⟩ := h.at hx
  cases h2
  have : (⟨b, o, none⟩ : Addr).add j = ⟨b, o + j, none⟩ := by simp [Addr.add]
  rw [this]
  exact h4
end

/-- A row of booleans in a block of its own. -/
def RowO (w : World) (base g n c : Nat) (L : List Bool) : Prop := L.length = n ∧ w.ownsRow base 4 1 (.slice (some ⟨g, 0, none⟩) n c) n (L.map .bool)
section
variable {w w' : World} {base g n c : Nat} {L : List Bool}
theorem RowO.at (h : RowO w base g n c L) {i : Nat} {x : Bool} (hx : L[i]? = some x) : w.cell? ⟨g, i, none⟩ = some (.bool x) := by
  have hlt := (List.getElem?_eq_some_iff.1 hx).1
  rw [h.2.cellAt i (by have := h.1; omega), List.getElem?_map, hx]; rfl
theorem RowO.frozen (h : RowO w base g n c L) (i : Nat) : w.frozen? ⟨g, i, none⟩ = false := h.2.frozenAt i
theorem RowO.cap (h : RowO w base g n c L) : n ≤ c := by
  rcases h.2.2 with ⟨h1, h2⟩ | ⟨g', cp, cur, h1, -, -, h4, -⟩
  · cases h1
  · cases h1; exact h4
theorem RowO.lt (h : RowO w base g n c L) : base ≤ g ∧ g < w.heap.size := h.2.lt g rfl
theorem RowO.set (h : RowO w base g n c L) (i : Nat) (x : Bool) : RowO (w.setCell ⟨g, i, none⟩ (.bool x)) base g n c (L.set i x) :=
  ⟨by rw [List.length_set]; exact h.1, by rw [List.map_set]; exact (h.2.stored i _).1⟩
theorem RowO.keeps {S : List Nat} (h : RowO w base g n c L) (k : Keeps w w' S) (hn : g ∉ S) : RowO w' base g n c L := by
  refine ⟨h.1, ?_⟩
  obtain ⟨h1, h2⟩ := h.2
  refine ⟨h1, ?_⟩
  rcases h2 with h2 | ⟨g', cp, cur, e, hg, hb, r⟩
  · exact .inl h2
  · cases e
    exact .inr ⟨g, c, cur, rfl, hg, (k.block g (Array.getElem?_eq_some_iff.1 hb).1 hn).trans hb, r⟩
end
end

section
set_option linter.unusedVariables false
set_option linter.unusedSimpArgs false
set_option linter.unusedSectionVars false
open Go.RowKit
end

end Go.Proofs.YtophgpnnjphnmaaGreat
